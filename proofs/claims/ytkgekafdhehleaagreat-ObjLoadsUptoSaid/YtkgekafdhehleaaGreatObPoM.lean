/- The names of the program's class. -/
import Derived.Test.YtkgekafdhehleaaGreatObPlM
set_option linter.unusedVariables false
set_option linter.unusedSimpArgs false
section
set_option maxRecDepth 4000
namespace Go.Ac
open Go.Proofs
attribute [local simp] Hp.get_set cY cE cN bW aPF Ob.k109 aUs Ob.k70
theorem aKP {y:Y} (h:aU y=true):y.k=1∨y.k=2∨y.k=3∨y.k=4∨y.k=5:=by
 unfold aU at h
 by_cases k12:y.k=1∨y.k=2
 ·omega
 rw[if_neg k12] at h
 by_cases k3:y.k=3
 ·omega
 rw[if_neg k3] at h
 by_cases k4:y.k=4
 ·omega
 rw[if_neg k4] at h
 by_cases k5:y.k=5
 ·omega
 rw[if_neg k5] at h;cases h
section
variable {ic gc iv gv ip gp im gm ii gi:Nat} {o:Oc} {ea:List Cl} {c:Cl}
set_option maxHeartbeats 4000000 in
theorem aJZ {N:Nat} (ih:aAa ic gc iv gv ip gp im gm ii gi o ea c N) (hW:KW o c) (cx:List Pr) (bl:List (List Y)) (hl:bl.length≤cx.length+1) (hnb:nbB bl=true) (y:Y) (hN:y.sz<N+1) (oV:cx.length+iG bl.flatten+y.sz≤8388600) (cC:y.ok):
  QK ic gc iv gv ip gp im gm ii gi o ea c 109 [.ptr ic gc 0,aG y.cells,pP cx bl] (dI (wG o c cx bl.flatten y)):=by
 intro hp n cc hK
 obtain ⟨hy1,hy2,hy3,hy4⟩:=Y.ok_eq cC
 have nU:=Y.sz_eq y
 have hB:BOK cx bl:=⟨by unfold MX;omega,hnb,by omega⟩
 have eH:=hK.co
 have nc:=nf hK.lc
 have ni:=nf hK.li
 have vO:=fun (look:cA) (sz by_:Nat) (zr:Option (List V)) (y:Tx) (h:look ii=hp.get ii)=>hK.look_ins (look:=look) (sz:=sz) (by_:=by_) (zr:=zr) (x:=y) h
 have hfm:=aOF y
 simp only[aG,aC,List.map_cons,List.map_nil,dB] at hfm
 refine i9 Tryz.func109 rfl (by kernel_rfl) rfl (fun _=>rfl) ?_
 rw[aAJ]
 cases hfe:aU y with
 | false=>
  rw[hfe] at hfm
  rw[if_pos rfl]
  refine cT (j7 @aN @aO @aD @pP.eq_1 @aC @aA @hfm) ?_
  exact ⟨.inr rfl,rfl,_,rfl,rfl⟩
 | true=>
 rw[hfe] at hfm
 rw[if_neg (by decide)]
 have hst:=fun h=>(aNy (ic:=ic) (gc:=gc) (iv:=iv) (gv:=gv) (ip:=ip) (gp:=gp) (im:=im) (gm:=gm) (ii:=ii) (gi:=gi) (ea:=ea) hW cx bl hB y h (by unfold MX;omega) cC).fn hK
 rcases aKP hfe with q|q|q|q|q
 ·rw[if_pos q]
  obtain ⟨F,G,hr⟩:=hst (.inl q)
  rw[←show wW ⟨o,c,bl.flatten,cx⟩ y=(if (eF ⟨o,c,bl.flatten,cx⟩ y.r).2≠0 then (eF ⟨o,c,bl.flatten,cx⟩ y.r).2 else jJ ⟨o,c,bl.flatten,cx⟩ y.nm (eF ⟨o,c,bl.flatten,cx⟩ y.r).1) by unfold wW;rw[if_pos q]]
  generalize wW ⟨o,c,bl.flatten,cx⟩ y=v at hr ⊢
  simp only[aG,pP,aC,List.map_cons,List.map_nil,dI,q] at hr
  simp only[q] at hfm
  refine cT (j9 @aN @aO @aD @pP.eq_1 @aC @aA @hfm @q @hr) ?_
  exact ⟨.inr rfl,rfl,_,rfl,rfl⟩
 ·rw[if_neg (by omega),if_pos q]
  obtain ⟨F,G,hr⟩:=hst (.inr q)
  rw[←show wW ⟨o,c,bl.flatten,cx⟩ y=(if (eF ⟨o,c,bl.flatten,cx⟩ y.r).2≠0 then (eF ⟨o,c,bl.flatten,cx⟩ y.r).2 else if eO c.mems y.nm=0 then 6 else if eO c.mems y.nm≠(eF ⟨o,c,bl.flatten,cx⟩ y.r).1 then 10 else 0) by unfold wW;rw[if_neg (by omega:¬ y.k=1)]]
  generalize wW ⟨o,c,bl.flatten,cx⟩ y=v at hr ⊢
  simp only[aG,pP,aC,List.map_cons,List.map_nil,dI,q] at hr
  simp only[q] at hfm
  refine cT (j9 @aN @aO @aD @pP.eq_1 @aC @aA @hfm @q @hr) ?_
  exact ⟨.inr rfl,rfl,_,rfl,rfl⟩
 ·rw[if_neg (by omega),if_neg (by omega),if_pos q]
  obtain ⟨F,G,hr⟩:=(aNC ih hW cx bl hl hnb y hN oV cC).fn hK
  rw[show (if dF c y.nm=0 then (6:Int) else if mG ⟨o,c,bl.flatten,cx⟩ y.nm=false then 22 else if y.t≠dF c y.nm∨dF c y.nm=2 then 10 else if (y.brs.length:Int)≠fG o.en (dF c y.nm) then 9 else uY o c cx bl.flatten y.nm 0 y.brs)=zM ⟨o,c,bl.flatten,cx⟩ y from rfl]
  generalize zM ⟨o,c,bl.flatten,cx⟩ y=v at hr ⊢
  simp only[aG,pP,aC,List.map_cons,List.map_nil,dI,q] at hr
  simp only[q] at hfm
  refine cT (j9 @aN @aO @aD @pP.eq_1 @aC @aA @hfm @q @hr) ?_
  exact ⟨.inr rfl,rfl,_,rfl,rfl⟩
 ·rw[if_neg (by omega),if_neg (by omega),if_neg (by omega),if_pos q]
  obtain ⟨F,G,hr⟩:=(aOP (ic:=ic) (gc:=gc) (iv:=iv) (gv:=gv) (ip:=ip) (gp:=gp) (im:=im) (gm:=gm) (ii:=ii) (gi:=gi) (ea:=ea) hW cx bl hB y (by unfold MX;omega) hy3).fn hK
  simp only[aG,pP,aC,List.map_cons,List.map_nil,dI,q] at hr
  simp only[q] at hfm
  refine cT (j9 @aN @aO @aD @pP.eq_1 @aC @aA @hfm @q @hr) ?_
  exact ⟨.inr rfl,rfl,_,rfl,rfl⟩
 ·rw[if_neg (by omega),if_neg (by omega),if_neg (by omega),if_neg (by omega)]
  simp only[q] at hfm
  generalize hG:fD c.ins o.cl y.nm=G
  obtain ⟨g,ok⟩:=G
  cases ok with
  | false=>
   have mJ:aBD (g,false)= .agg [.d (.str []),.full [],.full [],.full [],.full [],.full [],.full []]:=rfl
   repeat (first
 | apply WP.seq
 | (apply WP.reg;(case hR=>dsimp only [eV,eA,List.map,gS,gZ];exact iZ);(case hr=>(repeat (first
 | (apply RT.op;simp[dG,aG,pP,aC,dL,hfm,q,eH,nc,ni,vO,kM,hG,mJ,bO];exact iZ;(try dsimp only [a7]) <;> exact rfl)
 | (apply RT.call;(iterate 2 simp;exact iZ);exact iZ;(iterate 4 simp[dG,aG,pP,aC,dL,hfm,q,eH,nc,ni,vO,kM,hG,mJ,bO];exact iZ);simp[Is];(try dsimp only [a7]) <;> exact rfl;simp;exact iZ;simp;exact iZ)
 | (apply RT.callV;(iterate 2 simp;exact iZ);exact iZ;(iterate 3 simp[dG,aG,pP,aC,dL,hfm,q,eH,nc,ni,vO,kM,hG,mJ,bO];exact iZ);(try dsimp only [a7]) <;> exact rfl)
 | (apply RT.wr;simp[dG,aG,pP,aC,dL,hfm,q,eH,nc,ni,vO,kM,hG,mJ,bO];exact iZ;(try dsimp only [a7]) <;> exact rfl;simp[dG,aG,pP,aC,dL,hfm,q,eH,nc,ni,vO,kM,hG,mJ,bO];exact iZ;(iterate 2 exact iZ);simp;exact iZ)));exact RT.nil);(case hc=>first|(refine cW [(0,4),(1,4),(2,4),(3,4),(0,5),(1,5),(2,5),(3,5),(8,9),(0,10),(1,10),(2,10),(3,10),(4,10),(5,10),(6,10),(7,10),(8,10),(9,10),(9,11)] (by kernel_rfl) (by kernel_rfl) rfl ?_;simp[lO,jW,dX,nc,ni];done)|(show _=_;kernel_rfl));(case ht=>simp[dG,aG,pP,aC,dL,hfm,q,eH,nc,ni,vO,kM,hG,mJ,bO];exact iZ))
 | apply WP.block|apply WP.skip|apply WP.exit|apply WP.ret|refine WP.condT rfl ?_|refine WP.condF rfl ?_)
   exact ⟨.inr rfl,rfl,_,rfl,rfl⟩
  | true=>
   have mJ:aBD (g,true)= .agg [V.d (.str g.nm),V.d (.slice (cM g.inn)),V.d (.slice (cM g.out)),V.d (.slice (cM g.loc)),V.d (.slice (lF g.mems)),V.d (.slice (lV g.ins)),V.d (.slice (dM g.step))]:=rfl
   repeat (first
 | apply WP.seq
 | (apply WP.reg;(case hR=>dsimp only [eV,eA,List.map,gS,gZ];exact iZ);(case hr=>(repeat (first
 | (apply RT.op;simp[dG,aG,pP,aC,dL,hfm,q,eH,nc,ni,vO,kM,hG,mJ,bO];exact iZ;(try dsimp only [a7]) <;> exact rfl)
 | (apply RT.call;(iterate 2 simp;exact iZ);exact iZ;(iterate 4 simp[dG,aG,pP,aC,dL,hfm,q,eH,nc,ni,vO,kM,hG,mJ,bO];exact iZ);simp[Is];(try dsimp only [a7]) <;> exact rfl;simp;exact iZ;simp;exact iZ)
 | (apply RT.callV;(iterate 2 simp;exact iZ);exact iZ;(iterate 3 simp[dG,aG,pP,aC,dL,hfm,q,eH,nc,ni,vO,kM,hG,mJ,bO];exact iZ);(try dsimp only [a7]) <;> exact rfl)
 | (apply RT.wr;simp[dG,aG,pP,aC,dL,hfm,q,eH,nc,ni,vO,kM,hG,mJ,bO];exact iZ;(try dsimp only [a7]) <;> exact rfl;simp[dG,aG,pP,aC,dL,hfm,q,eH,nc,ni,vO,kM,hG,mJ,bO];exact iZ;(iterate 2 exact iZ);simp;exact iZ)));exact RT.nil);(case hc=>first|(refine cW [(0,4),(1,4),(2,4),(3,4),(0,5),(1,5),(2,5),(3,5),(8,9),(0,10),(1,10),(2,10),(3,10),(4,10),(5,10),(6,10),(7,10),(8,10),(9,10),(9,11)] (by kernel_rfl) (by kernel_rfl) rfl ?_;simp[lO,jW,dX,nc,ni];done)|(show _=_;kernel_rfl));(case ht=>simp[dG,aG,pP,aC,dL,hfm,q,eH,nc,ni,vO,kM,hG,mJ,bO];exact iZ))
 | apply WP.block|apply WP.skip|apply WP.exit|apply WP.ret|refine WP.condT rfl ?_|refine WP.condF rfl ?_)
   exact ⟨.inr rfl,rfl,_,rfl,rfl⟩
theorem aOx (a b:List (List Y)):nbB (a++b)=(nbB a&&nbB b):=by simp[aAs]
set_option maxHeartbeats 4000000 in
theorem aKF {N:Nat} (ih:aAa ic gc iv gv ip gp im gm ii gi o ea c N) (hW:KW o c) (sI:∀ x,dF c x≠0→0<fG o.en (dF c x)) (l:List Y) (cx:List Pr) (bl:List (List Y)) (hN:iG l<N+1) (hl:bl.length≤cx.length) (hnb:nbB bl=true) (oV:cx.length+iG bl.flatten+iG l≤8388600) (cC:okY l):
  QK ic gc iv gv ip gp im gm ii gi o ea c 70 [.ptr ic gc 0,dL (dM l),pP cx bl] (dI (fU o c cx bl.flatten l)):=by
 intro hp n cc hK
 have k1:=l0 l
 refine i9 Tryz.func70 rfl (by kernel_rfl) rfl (fun _=>rfl) ?_
 refine cT (j5 @aN @aO @pP.eq_1 @aA @cV) ?_
 apply WP.loop' (I:=fun D s=>∃ (j c':Nat) (bB:Hp),j+D=l.length∧fU o c cx (bl.flatten++l.take j) (l.drop j)=fU o c cx bl.flatten l∧nbL (l.take j)=true∧Ag n hp bB∧bB.get n=some ⟨cc,false,[V.d (.slice (iJ cx)),V.d (.slice (iL bl))]⟩∧
  s=⟨[(0,.ptr ic gc 0),(1,dL (dM l)),(5,.ptr n cc 0),(10,dL (dM l)),(11,dI l.length),(12,dI j)],bB,n+1,c',n,[]⟩) (d:=l.length)
 ·exact ⟨0,_,_,by simp,by simp,by simp[nbL],by simp,by simp,bK (by simp[dI,dL]) rfl⟩
 rintro D _ ⟨j,c',bB,hj,hv,hnl,dW,lS,rfl⟩
 have dN:=eq_true dW
 refine pS (jn @aB @aA) ?_
 show WP _ _ _ _ _ _
 refine WP.cond _ rfl (fun hb=>?_) (fun hb=>?_)
 ·simp at hb
  have bP:j<l.length:=by omega
  obtain ⟨y,hy,vY,bV⟩:=bM bP
  have pW:=oT hy
  have c9:=bE bP (by omega)
  have hsy:=aDO hy
  have hfl:(bl++[l.take j]).flatten=bl.flatten++l.take j:=by simp
  obtain ⟨F,G,hr⟩:=(aJZ (ic:=ic) (gc:=gc) (iv:=iv) (gv:=gv) (ip:=ip) (gp:=gp) (im:=im) (gm:=gm) (ii:=ii) (gi:=gi) (ea:=ea) ih hW cx (bl++[l.take j]) (by simp;omega) (by rw[aOx,hnb];simp[nbB,hnl]) y (by have:=nS vY;omega) (by rw[hfl,zU];omega) ((uQ _).1 cC y vY)).fn hK
  rw[hfl] at hr
  have ha:=aPH cx bl l j (by omega) (by omega) (by omega)
  rw[iF hy,fU] at hv
  simp only[aG,pP,aC,List.map_cons,List.map_nil,dI,dL,tW] at hr ha
  by_cases hz:wG o c cx (bl.flatten++l.take j) y=0
  case neg=>
   have mK:=eq_false hz
   rw[if_pos hz] at hv
   rw[←hv]
   refine cT (o9 @aB @aA @lS @dN @bV @pW @aC @aH @aI @ha @hr @aV @mK) ?_
   exact ⟨.inr rfl,rfl,_,rfl,rfl⟩
  rw[if_neg (by simp[hz])] at hv
  rw[hz] at hr
  have hny:nbY y=true:=by
   have:=aNi sI (iG [y]+1) [y] cx (bl.flatten++l.take j) (by omega) (by rw[fU,hz,fU];rfl)
   rw[nbL,nbL] at this;simpa using this
  have vV:=bL hy
  refine cT (qJ @aB @aA @lS @dN @bV @pW @aC @aH @aI @ha @hr @aV) ?_
  refine aY (by simp[c9];exact Is.rfl) ?_
  exact ⟨D - 1,by omega,j+1,_,_,by omega,by rw[vV,←List.append_assoc];exact hv,by rw[vV,xN,List.all_append,←xN,hnl];simp[hny],by simp[dW],by simp[lS],bK (by simp[dI,dL,c9]) rfl⟩
 ·simp at hb
  have eE:j=l.length:=by omega
  rw[eE,List.drop_length,fU] at hv
  rw[←hv]
  refine cT (jn @aB @aA) ?_
  exact ⟨.inr rfl,rfl,_,rfl,rfl⟩
set_option maxHeartbeats 4000000 in
theorem aMO {N:Nat} (ih:aAa ic gc iv gv ip gp im gm ii gi o ea c N) (hW:KW o c) (sI:∀ x,dF c x≠0→0<fG o.en (dF c x)) (l:List Y)  (hN:iG l<N+1) (hu:True) (oV:iG l≤8388600) (cC:okY l):
  QK ic gc iv gv ip gp im gm ii gi o ea c 70 [.ptr ic gc 0,dL (dM l),.agg [.full [],.full []]] (dI (fU o c [] [] l)):=by
 intro hp n cc hK
 have k1:=l0 l
 refine i9 Tryz.func70 rfl (by kernel_rfl) rfl (fun _=>rfl) ?_
 refine cT (j5 @aN @aO @pP.eq_1 @aA @cV) ?_
 apply WP.loop' (I:=fun D s=>∃ (j c':Nat) (bB:Hp),j+D=l.length∧fU o c [] (l.take j) (l.drop j)=fU o c [] [] l∧nbL (l.take j)=true∧Ag n hp bB∧bB.get n=some ⟨cc,false,[.full [],.full []]⟩∧
  s=⟨[(0,.ptr ic gc 0),(1,dL (dM l)),(5,.ptr n cc 0),(10,dL (dM l)),(11,dI l.length),(12,dI j)],bB,n+1,c',n,[]⟩) (d:=l.length)
 ·exact ⟨0,_,_,by simp,by simp,by simp[nbL],by simp,by simp,bK (by simp[dI,dL]) rfl⟩
 rintro D _ ⟨j,c',bB,hj,hv,hnl,dW,lS,rfl⟩
 have dN:=eq_true dW
 refine pS (jn @aB @aA) ?_
 show WP _ _ _ _ _ _
 refine WP.cond _ rfl (fun hb=>?_) (fun hb=>?_)
 ·simp at hb
  have bP:j<l.length:=by omega
  obtain ⟨y,hy,vY,bV⟩:=bM bP
  have pW:=oT hy
  have c9:=bE bP (by omega)
  have hsy:=aDO hy
  have hfl:[l.take j].flatten=l.take j:=by simp
  obtain ⟨F,G,hr⟩:=(aJZ (ic:=ic) (gc:=gc) (iv:=iv) (gv:=gv) (ip:=ip) (gp:=gp) (im:=im) (gm:=gm) (ii:=ii) (gi:=gi) (ea:=ea) ih hW [] [l.take j] (by simp) (by simp[nbB,hnl]) y (by have:=nS vY;omega) (by rw[hfl];simp;omega) ((uQ _).1 cC y vY)).fn hK
  rw[hfl] at hr
  have ha:=aPH [] [] l j (by omega) (by simp) (by omega)
  rw[iF hy,fU] at hv
  simp only[aG,pP,aC,List.map_cons,List.map_nil,dI,dL,show iJ []=[] from rfl,show iL []=[] from by simp[iL]] at hr ha
  by_cases hz:wG o c [] (l.take j) y=0
  case neg=>
   have mK:=eq_false hz
   rw[if_pos hz] at hv
   rw[←hv]
   refine cT (o9 @aB @aA @lS @dN @bV @pW @aC @aH @aI @ha @hr @aV @mK) ?_
   exact ⟨.inr rfl,rfl,_,rfl,rfl⟩
  rw[if_neg (by simp[hz])] at hv
  rw[hz] at hr
  have hny:nbY y=true:=by
   have:=aNi sI (iG [y]+1) [y] [] (l.take j) (by omega) (by rw[fU,hz,fU];rfl)
   rw[nbL,nbL] at this;simpa using this
  have vV:=bL hy
  refine cT (qJ @aB @aA @lS @dN @bV @pW @aC @aH @aI @ha @hr @aV) ?_
  refine aY (by simp[c9];exact Is.rfl) ?_
  exact ⟨D - 1,by omega,j+1,_,_,by omega,by rw[vV];exact hv,by rw[vV,xN,List.all_append,←xN,hnl];simp[hny],by simp[dW],by simp[lS],bK (by simp[dI,dL,c9]) rfl⟩
 ·simp at hb
  have eE:j=l.length:=by omega
  rw[eE,List.drop_length,fU] at hv
  rw[←hv]
  refine cT (jn @aB @aA) ?_
  exact ⟨.inr rfl,rfl,_,rfl,rfl⟩
theorem aRh (hW:KW o c) (sI:∀ x,dF c x≠0→0<fG o.en (dF c x)):∀ N,aAa ic gc iv gv ip gp im gm ii gi o ea c N:=by
 intro N
 induction N with
 | zero=>intro l cx bl h;omega
 | succ N ih=>intro l cx bl hN hl hnb oV cC;exact aKF ih hW sI l cx bl hN hl hnb oV cC
end
end Go.Ac
end
section
set_option maxRecDepth 4000
namespace Go.Ac
open Go.Proofs
section
variable {α:Type}
def jY (l:List (Tx×α)) (x:Tx) (v:α):List (Tx×α):=match l.findIdx? (fun p=>decide (p.1=x)) with|some i=>l.set i (x,v)|none=>l++[(x,v)]
def mix (l:List (Tx×α)) (x:Tx):Nat:=match l.findIdx? (fun p=>decide (p.1=x)) with|some i=>i|none=>l.length
def aCW (l:List (Tx×α)) (x:Tx) (z:α):List (Tx×α):=match l.findIdx? (fun p=>decide (p.1=x)) with|some i=>l|none=>l++[(x,z)]
theorem rJ {l:List (Tx×α)} {x:Tx} {i:Nat} (h:l.findIdx? (fun p=>decide (p.1=x))=some i):∃ hi:i<l.length,(l[i]'hi).1=x:=by
 obtain ⟨h1,h2,_⟩:=List.findIdx?_eq_some_iff_getElem.1 h
 exact ⟨h1,by simpa using h2⟩
theorem aCa (l:List (Tx×α)) (x:Tx) (v:α) (i:Nat) (hi:i<l.length) (h:(l[i]'hi).1=x):(l.set i (x,v)).map (fun p=>D.str p.1)=l.map fun p=>D.str p.1:=by
 rw[List.map_set]
 apply List.ext_getElem
 ·simp
 ·intro j h1 h2
  simp only[List.getElem_set,List.getElem_map]
  split
  ·rename_i e;subst e;rw[h]
  ·rfl
theorem iM (e:α→V) (l:List (Tx×α)) (v:α) {id g:Nat} {sz by_:Nat} {zr:Option (List V)} {look:cA} {x:Tx} {w:V} (hw:w=e v) (h:look id=some ⟨g,false,[fW e l]⟩):
  sR look ⟨.str,sz,by_,zr⟩ (.mp id g) (.d (.str x)) w=some ⟨.undef,[(id,⟨g,false,[fW e (jY l x v)]⟩)],[id],0,0,false⟩:=by
 subst hw
 unfold sR
 have hl:live look id g=some ⟨g,false,[fW e l]⟩:=by unfold live;rw[h];simp
 simp only[nY,hl,fW,aAr]
 unfold jY
 cases hf:List.findIdx? (fun p=>decide (p.1=x)) l with
 | none=>simp[List.range_succ]
 | some i=>
  obtain ⟨hi,hx⟩:=rJ hf
  have:=aCa l x v i hi hx
  simp[List.map_set] at this ⊢
  exact this.symm
theorem aCf:∀ (n s j i:Nat),i<n→sZ ((s+i:Nat):Int) (List.range' s n) j=some (j+i)
 | 0,s,j,i,h=>by omega
 | n+1,s,j,i,h=>by
  rw[List.range'_succ,sZ]
  cases i with
  | zero=>simp
  | succ i=>
   have h1:decide ((s:Int)=((s+(i+1):Nat):Int))=false:=by simp;omega
   rw[h1]
   have:=aCf n (s+1) (j+1) i (by omega)
   rw[show s+(i+1)=s+1+i by omega,this,show j+1+i=j+(i+1) by omega]
theorem aEa (n i:Nat) (h:i<n):sZ (i:Int) (List.range n) 0=some i:=by
 have:=aCf n 0 0 i h
 rw[List.range_eq_range']
 simpa using this
theorem aRp (l:List (Tx×α)) (x:Tx) (z:α):mix l x<(aCW l x z).length:=by
 unfold mix aCW
 cases hf:List.findIdx? (fun p=>decide (p.1=x)) l with
 | none=>simp
 | some i=>exact (rJ hf).1
theorem aAH (e:α→V) (l:List (Tx×α)) (z:α) {id g:Nat} {sz by_:Nat} {zr:Option (List V)} {look:cA} {x:Tx} {w:V} (hw:w=e z) (h:look id=some ⟨g,false,[fW e l]⟩):
  wD look ⟨.str,sz,by_,zr⟩ (some w) (.mp id g) (.d (.str x))=some ⟨.tuple [e ((eS l x).getD z),.d (.int .i64 (mix l x))],[(id,⟨g,false,[fW e (aCW l x z)]⟩)],[id],0,0,false⟩:=by
 subst hw
 unfold wD
 have hl:live look id g=some ⟨g,false,[fW e l]⟩:=by unfold live;rw[h];simp
 simp only[nY,hl,fW,aAr]
 rw[←aAB]
 unfold aCW mix
 cases hf:List.findIdx? (fun p=>decide (p.1=x)) l with
 | none=>simp[List.range_succ]
 | some i=>
  obtain ⟨hi,hx⟩:=rJ hf
  simp[hi]
theorem aAw (e:α→V) (l:List (Tx×α)) (z v:α) {id g:Nat} {look:cA} {x:Tx} {w:V} (hw:w=e v) (h:look id=some ⟨g,false,[fW e (aCW l x z)]⟩):
  wY look (.mp id g) (.d (.int .i64 (mix l x))) w=some ⟨.undef,[(id,⟨g,false,[fW e (jY l x v)]⟩)],[id],0,0,false⟩:=by
 subst hw
 unfold wY
 have hl:live look id g=some ⟨g,false,[fW e (aCW l x z)]⟩:=by unfold live;rw[h];simp
 simp only[hl,fW,aEa _ _ (aRp l x z)]
 unfold aCW mix jY
 cases hf:List.findIdx? (fun p=>decide (p.1=x)) l with
 | none=>simp
 | some i=>
  obtain ⟨hi,hx⟩:=rJ hf
  have:=aCa l x v i hi hx
  simp[List.map_set] at this ⊢
  exact this.symm
theorem wF (l r:List (Tx×α)) (y:Tx):eS (l++r) y=(eS l y).or (eS r y):=by
 unfold eS;rw[List.find?_append];cases List.find? (fun p=>decide (p.1=y)) l <;> simp
theorem aHB:∀ (l:List (Tx×α)) (x y:Tx) (v:α) (i:Nat),l.findIdx? (fun p=>decide (p.1=x))=some i→eS (l.set i (x,v)) y=if y=x then some v else eS l y
 | [],x,y,v,i,h=>by simp at h
 | p::r,x,y,v,i,h=>by
  simp only[List.findIdx?_cons] at h
  by_cases hp:p.1=x
  ·simp[hp] at h;subst h
   unfold eS
   simp only[List.set_cons_zero,List.find?_cons,hp]
   by_cases hy:y=x
   ·subst hy;simp
   ·rw[if_neg hy]
    have:decide (x=y)=false:=by simp;exact fun e=>hy e.symm
    simp[this]
  ·simp[hp] at h
   obtain ⟨k,hk,rfl⟩:=h
   have ih:=aHB r x y v k hk
   unfold eS at ih ⊢
   simp only[List.set_cons_succ,List.find?_cons]
   by_cases hy:p.1=y
   ·have hne:y≠x:=fun e=>hp (hy.trans e)
    simp[hy,hne]
   ·simp[hy]
    exact ih
theorem aDd (l:List (Tx×α)) (x y:Tx) (v:α):eS (jY l x v) y=if y=x then some v else eS l y:=by
 unfold jY
 cases hf:List.findIdx? (fun p=>decide (p.1=x)) l with
 | some i=>exact aHB l x y v i hf
 | none=>
  rw[wF]
  have hn:eS l x=none:=by rw[←aAB,hf]
  by_cases hy:y=x
  ·subst hy;rw[hn,if_pos rfl];simp[eS]
  ·rw[if_neg hy]
   have hd:decide (x=y)=false:=by simp;exact fun e=>hy e.symm
   have:eS [(x,v)] y=none:=by unfold eS;simp[List.find?_cons,hd]
   rw[this];cases eS l y <;> rfl
def puts (l:List (Tx×α)):List (Tx×α)→List (Tx×α)
 | []=>l
 | p::r=>puts (jY l p.1 p.2) r
theorem fQ:∀ (ds l:List (Tx×α)) (p:Tx×α),puts l (ds++[p])=jY (puts l ds) p.1 p.2
 | [],l,p=>rfl
 | d::r,l,p=>fQ r (jY l d.1 d.2) p
theorem pJ:∀ (a l b:List (Tx×α)),puts l (a++b)=puts (puts l a) b
 | [],l,b=>rfl
 | d::r,l,b=>pJ r (jY l d.1 d.2) b
end
def dV (l:List Dc):List (Tx×Int):=l.map fun d=>(d.nm,d.t)
def dP (l:List Dc):List (Tx×Bool):=l.map fun d=>(d.nm,true)
def mV (l:List Mm):List (Tx×Int):=l.map fun d=>(d.nm,d.t)
def eI (t:Int):V:= .d (.int .i64 t)
def eBo (b:Bool):V:= .d (.bool b)
def eC (k:Cl):V:=aG k.cells
def xO (x:Cl):Ob:=⟨0,false,x.cells.map .d⟩
def kO (en:List En) (ea:List Cl) (x:Cl):Ob:=⟨5,false,[V.d (.slice (f9 en)),V.d (.slice (gJ ea)),V.d (.str x.nm),V.d (.slice (cM x.inn)),V.d (.slice (cM x.out)),V.d (.slice (cM x.loc)),V.d (.slice (lF x.mems)),V.d (.slice (lV x.ins)),V.d (.slice (dM x.step)),.mp 1 1,.mp 2 2,.mp 3 3,.mp 4 4]⟩
def nHp (en:List En) (ea:List Cl) (x:Cl) (lv:List (Tx×Int)) (lp:List (Tx×Bool)) (lm:List (Tx×Int)):Hp:=[(0,xO x),(1,⟨1,false,[fW eI lv]⟩),(2,⟨2,false,[fW eBo lp]⟩),(3,⟨3,false,[fW eI lm]⟩),(4,⟨4,false,[fW eC []]⟩),(5,kO en ea x)]
theorem aXn (r:Nat):Ob.keep 29 r=Ob.k29 r:=by kernel_rfl
attribute [local simp] aXn Ob.k29
set_option maxHeartbeats 4000000 in
theorem aSw (en:List En) (ea:List Cl) (x:Cl) (hl:x.inn.length+x.out.length+x.loc.length+x.mems.length≤8388608):
  ∃ q,nV Tryz.prog Ob.cfg 29 [dL (f9 en),dL (gJ ea),aG x.cells] [] 0 0=some q∧q.v= .ptr 5 5 0∧q.n=6∧q.hp=nHp en ea x (puts (puts (puts [] (dV x.inn)) (dV x.out)) (dV x.loc)) (puts (puts [] (dP x.out)) (dP x.loc)) (puts [] (mV x.mems)):=by
 have main:∃ (v:V) (t:St),nV Tryz.prog Ob.cfg 29 [dL (f9 en),dL (gJ ea),aG x.cells] [] 0 0=some ⟨v,t.hp,t.n,t.c,t.wl⟩∧v= .ptr 5 5 0∧t.n=6∧t.hp=nHp en ea x (puts (puts (puts [] (dV x.inn)) (dV x.out)) (dV x.loc)) (puts (puts [] (dP x.out)) (dP x.loc)) (puts [] (mV x.mems)):=by
  refine wV (Q:=fun v (t:St)=>v= .ptr 5 5 0∧t.n=6∧t.hp=nHp en ea x (puts (puts (puts [] (dV x.inn)) (dV x.out)) (dV x.loc)) (puts (puts [] (dP x.out)) (dP x.loc)) (puts [] (mV x.mems))) Tryz.func29 rfl (by kernel_rfl) ?_
  refine bA (j9 @aN @aO @aA @aD @aK @rH.eq_1 @aH @aI @Value.oneCell'.eq_def) ?_
  apply WP.loop' (I:=fun D s=>∃ i:Nat,i+D=x.inn.length∧SE [(5,.ptr 0 0 0),(7,.ptr 5 5 0),(26,dL (cM x.inn)),(27,dI x.inn.length),(28,dI i)] (nHp en ea x (puts [] (dV (x.inn.take i))) [] []) 6 s) (d:=x.inn.length)
  ·exact ⟨0,by simp,SE.mk (by simp[dI,dL]) (by simp[nHp,xO,kO,Cl.cells,dL,dI,dV,puts,fW])⟩
  rintro D _ ⟨i,hi,cc,rfl⟩
  refine wk (jn @aB @aA) ?_
  show WP _ _ _ _ _ _
  refine WP.cond _ rfl (fun hb=>?_) (fun hb=>?_)
  ·simp at hb
   have bP:i<x.inn.length:=by omega
   obtain ⟨d,hd,d8,bV⟩:=bM bP
   have cG:=eD hd
   have hw:=bE bP (by omega)
   have vV:=bL hd
   have e1:=fun look zr h=>iM eI (puts [] (dV (x.inn.take i))) d.t (id:=1) (g:=1) (sz:=1) (by_:=16) (zr:=zr) (look:=look) (x:=d.nm) (w:= .d (.int .i64 d.t)) rfl h
   refine bA (qJ @nHp.eq_1 @xO.eq_1 @kO.eq_1 @aK @aA @aB @bV @cG @aR @aH @aI @e1) ?_
   refine aY (by simp[hw];exact Is.rfl) ?_
   exact ⟨D - 1,by omega,i+1,by omega,SE.mk (by simp[dI,dL,hw]) (by rw[vV];simp only[dV,List.map_append,List.map_cons,List.map_nil,fQ];rfl)⟩
  simp at hb
  have kP:i=x.inn.length:=by omega
  subst kP
  rw[List.take_length]
  clear hb hi
  refine bA (j8 @nHp.eq_1 @xO.eq_1 @kO.eq_1 @aK @aA @aB @aH @aI) ?_
  apply WP.loop' (I:=fun D s=>∃ j:Nat,j+D=2∧SE [(5,.ptr 0 0 0),(7,.ptr 5 5 0),(45,.agg [dL (cM x.out),dL (cM x.loc)]),(46,dI j)] (nHp en ea x (puts (puts [] (dV x.inn)) (if j=0 then [] else if j=1 then dV x.out else dV x.out++dV x.loc)) (puts [] (if j=0 then [] else if j=1 then dP x.out else dP x.out++dP x.loc)) []) 6 s) (d:=2)
  ·exact ⟨0,by simp,SE.mk (by simp[dI,dL]) (by simp[nHp,xO,kO,Cl.cells,dL,dI,puts])⟩
  rintro D _ ⟨j,hj,cc,rfl⟩
  obtain rfl|rfl|rfl:j=0∨j=1∨j=2:=by omega
  ·refine bA (u7 @aB @aA @jR.eq_def @puts.eq_1 @puts.eq_2 @nHp.eq_1 @xO.eq_1 @kO.eq_1 @aK @aA @aB) ?_
   apply WP.loop' (I:=fun D s=>∃ i:Nat,i+D=x.out.length∧SE [(5,.ptr 0 0 0),(7,.ptr 5 5 0),(45,.agg [dL (cM x.out),dL (cM x.loc)]),(46,dI 0),(49,dL (cM x.out)),(50,dI x.out.length),(51,dI i)] (nHp en ea x (puts (puts [] (dV x.inn)) (dV (x.out.take i))) (puts [] (dP (x.out.take i))) []) 6 s) (d:=x.out.length)
   ·exact ⟨0,by simp,SE.mk (by simp[dI,dL]) (by simp[nHp,xO,kO,Cl.cells,dL,dI,dV,dP,puts])⟩
   rintro D2 _ ⟨i,hi,cc2,rfl⟩
   refine wk (jn @aB @aA) ?_
   show WP _ _ _ _ _ _
   refine WP.cond _ rfl (fun hb=>?_) (fun hb=>?_)
   ·simp at hb
    have bP:i<x.out.length:=by omega
    obtain ⟨d,hd,d8,bV⟩:=bM bP
    have cG:=eD hd
    have hw:=bE bP (by omega)
    have vV:=bL hd
    have e1:=fun look zr h=>aAH eI (puts (puts [] (dV x.inn)) (dV (x.out.take i))) 0 (id:=1) (g:=1) (sz:=1) (by_:=16) (zr:=zr) (look:=look) (x:=d.nm) (w:= .d (.int .i64 0)) rfl h
    have e2:=fun look h=>aAw eI (puts (puts [] (dV x.inn)) (dV (x.out.take i))) 0 d.t (id:=1) (g:=1) (look:=look) (x:=d.nm) (w:= .d (.int .i64 d.t)) rfl h
    have e3:=fun look zr h=>aAH eBo (puts [] (dP (x.out.take i))) false (id:=2) (g:=2) (sz:=1) (by_:=16) (zr:=zr) (look:=look) (x:=d.nm) (w:= .d (.bool false)) rfl h
    have e4:=fun look h=>aAw eBo (puts [] (dP (x.out.take i))) false true (id:=2) (g:=2) (look:=look) (x:=d.nm) (w:= .d (.bool true)) rfl h
    refine bA (sG @nHp.eq_1 @xO.eq_1 @kO.eq_1 @aK @aA @aB @bV @cG @aR @aH @aI @zt3 @zt4 @e1 @e2 @e3 @e4) ?_
    refine aY (by simp[hw];exact Is.rfl) ?_
    exact ⟨D2 - 1,by omega,i+1,by omega,SE.mk (by simp[dI,dL,hw]) (by rw[vV];simp only[dV,dP,List.map_append,List.map_cons,List.map_nil,fQ];rfl)⟩
   simp at hb
   have kP:i=x.out.length:=by omega
   subst kP
   rw[List.take_length]
   clear hb hi
   refine bA (jn @aB @aA) ?_
   refine aY (by simp;exact Is.rfl) ?_
   exact ⟨1,by omega,1,by omega,SE.mk (by simp[dI,dL];try decide) (by simp[pJ,puts];try rfl)⟩
  ·refine bA (u7 @aB @aA @jR.eq_def @puts.eq_1 @puts.eq_2 @nHp.eq_1 @xO.eq_1 @kO.eq_1 @aK @aA @aB) ?_
   apply WP.loop' (I:=fun D s=>∃ i:Nat,i+D=x.loc.length∧SE [(5,.ptr 0 0 0),(7,.ptr 5 5 0),(45,.agg [dL (cM x.out),dL (cM x.loc)]),(46,dI 1),(49,dL (cM x.loc)),(50,dI x.loc.length),(51,dI i)] (nHp en ea x (puts (puts (puts [] (dV x.inn)) (dV x.out)) (dV (x.loc.take i))) (puts (puts [] (dP x.out)) (dP (x.loc.take i))) []) 6 s) (d:=x.loc.length)
   ·exact ⟨0,by simp,SE.mk (by simp[dI,dL]) (by simp[nHp,xO,kO,Cl.cells,dL,dI,dV,dP,puts])⟩
   rintro D2 _ ⟨i,hi,cc2,rfl⟩
   refine wk (jn @aB @aA) ?_
   show WP _ _ _ _ _ _
   refine WP.cond _ rfl (fun hb=>?_) (fun hb=>?_)
   ·simp at hb
    have bP:i<x.loc.length:=by omega
    obtain ⟨d,hd,d8,bV⟩:=bM bP
    have cG:=eD hd
    have hw:=bE bP (by omega)
    have vV:=bL hd
    have e1:=fun look zr h=>aAH eI (puts (puts (puts [] (dV x.inn)) (dV x.out)) (dV (x.loc.take i))) 0 (id:=1) (g:=1) (sz:=1) (by_:=16) (zr:=zr) (look:=look) (x:=d.nm) (w:= .d (.int .i64 0)) rfl h
    have e2:=fun look h=>aAw eI (puts (puts (puts [] (dV x.inn)) (dV x.out)) (dV (x.loc.take i))) 0 d.t (id:=1) (g:=1) (look:=look) (x:=d.nm) (w:= .d (.int .i64 d.t)) rfl h
    have e3:=fun look zr h=>aAH eBo (puts (puts [] (dP x.out)) (dP (x.loc.take i))) false (id:=2) (g:=2) (sz:=1) (by_:=16) (zr:=zr) (look:=look) (x:=d.nm) (w:= .d (.bool false)) rfl h
    have e4:=fun look h=>aAw eBo (puts (puts [] (dP x.out)) (dP (x.loc.take i))) false true (id:=2) (g:=2) (look:=look) (x:=d.nm) (w:= .d (.bool true)) rfl h
    refine bA (sG @nHp.eq_1 @xO.eq_1 @kO.eq_1 @aK @aA @aB @bV @cG @aR @aH @aI @zt3 @zt4 @e1 @e2 @e3 @e4) ?_
    refine aY (by simp[hw];exact Is.rfl) ?_
    exact ⟨D2 - 1,by omega,i+1,by omega,SE.mk (by simp[dI,dL,hw]) (by rw[vV];simp only[dV,dP,List.map_append,List.map_cons,List.map_nil,fQ];rfl)⟩
   simp at hb
   have kP:i=x.loc.length:=by omega
   subst kP
   rw[List.take_length]
   clear hb hi
   refine bA (jn @aB @aA) ?_
   refine aY (by simp;exact Is.rfl) ?_
   exact ⟨0,by omega,2,by omega,SE.mk (by simp[dI,dL];try decide) (by simp[pJ,puts];try rfl)⟩
  ·refine bA (u7 @aB @aA @pJ @puts.eq_1 @puts.eq_2 @nHp.eq_1 @xO.eq_1 @kO.eq_1 @aK @aA @aB) ?_
   apply WP.loop' (I:=fun D s=>∃ i:Nat,i+D=x.mems.length∧SE [(7,.ptr 5 5 0),(76,dL (lF x.mems)),(77,dI x.mems.length),(78,dI i)] (nHp en ea x (puts (puts (puts [] (dV x.inn)) (dV x.out)) (dV x.loc)) (puts (puts [] (dP x.out)) (dP x.loc)) (puts [] (mV (x.mems.take i)))) 6 s) (d:=x.mems.length)
   ·exact ⟨0,by simp,SE.mk (by simp[dI,dL]) (by simp[nHp,xO,kO,Cl.cells,dL,dI,mV,pJ,puts])⟩
   rintro D2 _ ⟨i,hi,cc2,rfl⟩
   refine wk (jn @aB @aA) ?_
   show WP _ _ _ _ _ _
   refine WP.cond _ rfl (fun hb=>?_) (fun hb=>?_)
   ·simp at hb
    have bP:i<x.mems.length:=by omega
    obtain ⟨d,hd,d8,bV⟩:=bM bP
    have cG:=kI hd
    have hw:=bE bP (by omega)
    have vV:=bL hd
    have e1:=fun look zr h=>iM eI (puts [] (mV (x.mems.take i))) d.t (id:=3) (g:=3) (sz:=1) (by_:=16) (zr:=zr) (look:=look) (x:=d.nm) (w:= .d (.int .i64 d.t)) rfl h
    refine bA (qJ @nHp.eq_1 @xO.eq_1 @kO.eq_1 @aK @aA @aB @bV @cG @Mm.cells.eq_1 @aH @aI @e1) ?_
    refine aY (by simp[hw];exact Is.rfl) ?_
    exact ⟨D2 - 1,by omega,i+1,by omega,SE.mk (by simp[dI,dL,hw]) (by rw[vV];simp only[mV,List.map_append,List.map_cons,List.map_nil,fQ];rfl)⟩
   simp at hb
   have kP:i=x.mems.length:=by omega
   subst kP
   rw[List.take_length]
   refine bA (jn @aB @aA) ?_
   exact ⟨.inr rfl,_,rfl,.inr rfl,rfl,rfl,rfl⟩
 obtain ⟨v,t,h1,h2,h3,h4⟩:=main
 exact ⟨_,h1,h2,h3,h4⟩
end Go.Ac
end
section
set_option maxRecDepth 4000
namespace Go.Ac
open Go.Proofs
attribute [local simp] Hp.get_set cY cE cN bW
theorem aUQ (r:Nat):Ob.keep 107 r=Ob.k107 r:=by kernel_rfl
attribute [local simp] aUQ Ob.k107
theorem j1 {f:FuncId} {fn:Func} {body:Code} {vs:List V} {v:V} {hp:Hp} {n c:Nat} (hf:Tryz.prog.funcs[f]?=some fn) (hb:fn.body=some body) (cC:(Nat.ble vs.length fn.ntmps&&fL fn.ntmps body)=true)
  (vX:Ob.cfg.thr f=false) (h:WP Tryz.prog Ob.cfg f body ⟨dG 0 vs,hp,n,c,n,[]⟩ (fun e t=>(e= .normal∨e= .ret)∧t.wl=[]∧∃ rs ids,gG Tryz.prog t fn.results.toList=some rs∧d7 t.hp.get (tup rs)=some (v,ids)∧(v.flat||ids.all (fun i=>Nat.ble n i))=true)):jL Tryz.prog Ob.cfg f vs hp n c v:=by
 obtain ⟨w,t,h1,h2⟩:=aFq (Q:=fun w t=>w=v∧t.wl=[]) hf hb cC vX (h.mono fun e t ⟨he,iT,rs,ids,a1,a2,a3⟩=>⟨he,rs,v,ids,a1,a2,a3,rfl,iT⟩)
 obtain ⟨rfl,iT⟩:=h2
 rw[iT] at h1
 exact ⟨_,_,h1⟩
structure KG (ic gc iv gv ip gp im gm ii gi:Nat) (o:Oc) (ea:List Cl) (c:Cl) (lv:List (Tx×Int)) (lp:List (Tx×Bool)) (lm:List (Tx×Int)) (li:List (Tx×Cl)) (hp:Hp) (n:Nat):Prop where
 co:hp.get ic=some ⟨gc,false,[V.d (.slice (f9 o.en)),V.d (.slice (gJ ea)),V.d (.str c.nm),V.d (.slice (cM c.inn)),V.d (.slice (cM c.out)),V.d (.slice (cM c.loc)),V.d (.slice (lF c.mems)),V.d (.slice (lV c.ins)),V.d (.slice (dM c.step)),.mp iv gv,.mp ip gp,.mp im gm,.mp ii gi]⟩
 vars:hp.get iv=some ⟨gv,false,[fW eI lv]⟩
 ports:hp.get ip=some ⟨gp,false,[fW eBo lp]⟩
 mems:hp.get im=some ⟨gm,false,[fW eI lm]⟩
 ins:hp.get ii=some ⟨gi,false,[fW eC li]⟩
 lc:ic<n
 lv:iv<n
 lp:ip<n
 lm:im<n
 li:ii<n
theorem KG.ag {ic gc iv gv ip gp im gm ii gi:Nat} {o:Oc} {ea:List Cl} {c:Cl} {lv lm:List (Tx×Int)} {lp:List (Tx×Bool)} {li:List (Tx×Cl)} {hp bB:Hp} {n n':Nat} (h:KG ic gc iv gv ip gp im gm ii gi o ea c lv lp lm li hp n) (ha:Ag n hp bB) (hn:n≤n'):KG ic gc iv gv ip gp im gm ii gi o ea c lv lp lm li bB n':=by
 obtain ⟨h1,h2,h3,h4,h5,l1,l2,l3,l4,l5⟩:=h
 rw[←ha _ l1] at h1
 rw[←ha _ l2] at h2
 rw[←ha _ l3] at h3
 rw[←ha _ l4] at h4
 rw[←ha _ l5] at h5
 exact ⟨h1,h2,h3,h4,h5,by omega,by omega,by omega,by omega,by omega⟩
section
variable {ic gc iv gv ip gp im gm ii gi:Nat} {o:Oc} {ea:List Cl} {c:Cl} {lv lm:List (Tx×Int)} {lp:List (Tx×Bool)} {li:List (Tx×Cl)}
set_option maxHeartbeats 4000000 in
theorem aMF (hL:CLen c) (hp:Hp) (n cc:Nat) (hK:KG ic gc iv gv ip gp im gm ii gi o ea c lv lp lm li hp n):jL Tryz.prog Ob.cfg 107 [.ptr ic gc 0] hp n cc (dL (eX c.names)):=by
 have hL:=hL.sum
 have eH:=hK.co
 have nc:=nf hK.lc
 refine j1 Tryz.func107 rfl (by kernel_rfl) rfl ?_
 refine cT (j7 @aN @aO @aA @eH @nc @aH @aI) ?_
 apply WP.loop' (I:=fun D s=>∃ (j g m c':Nat) (bB:Hp) (B:List Tx),j+D=3∧B=(if j=0 then ([]:List Tx) else if j=1 then c.inn.map Dc.nm else if j=2 then (c.inn.map Dc.nm++c.out.map Dc.nm) else (c.inn.map Dc.nm++c.out.map Dc.nm++c.loc.map Dc.nm))∧m=B.length∧Ag n hp bB∧bB.get n=some ⟨g,false,fl (eX B)⟩∧s=⟨[(0,.ptr ic gc 0),(3,.osl n g 0 m 1 none),(27,.agg [dL (cM c.inn),dL (cM c.out),dL (cM c.loc)]),(28,dI j)],bB,n+1,c',n,[]⟩) (d:=3)
 ·exact ⟨0,cc,_,_,_,[],by simp,by simp,rfl,by simp,by simp[fl,eX],bK (by simp[dI,dL]) rfl⟩
 rintro D _ ⟨j,g,m,c',bB,B,hj,hB,hm,dW,hx,rfl⟩
 have dN:=eq_true dW
 have eH:=(hK.ag dW (Nat.le_refl n)).co
 obtain rfl|rfl|rfl|rfl:j=0∨j=1∨j=2∨j=3:=by omega
 ·replace hB:B=([]:List Tx):=by rw[hB];simp
  refine cT (j3 @aB @aA @jR.eq_def) ?_
  apply WP.loop' (I:=fun D s=>∃ (i g m c':Nat) (bB:Hp) (B:List Tx),i+D=c.inn.length∧B=([]:List Tx)++(c.inn.take i).map Dc.nm∧m=B.length∧Ag n hp bB∧bB.get n=some ⟨g,false,fl (eX B)⟩∧s=⟨[(0,.ptr ic gc 0),(3,.osl n g 0 m 1 none),(27,.agg [dL (cM c.inn),dL (cM c.out),dL (cM c.loc)]),(28,dI 0),(31,dL (cM c.inn)),(32,dI c.inn.length),(33,dI i)],bB,n+1,c',n,[]⟩) (d:=c.inn.length)
  ·exact ⟨0,g,m,_,_,B,by simp,by simp[hB],hm,by simp[dW],by simp[hx],bK (by simp[dI,dL]) rfl⟩
  clear hB hm hx dW dN eH
  rintro D2 _ ⟨i,g,m,c',bB,B,hi,hB,hm,dW,hx,rfl⟩
  have dN:=eq_true dW
  have eH:=(hK.ag dW (Nat.le_refl n)).co
  refine pS (jn @aB @aA) ?_
  show WP _ _ _ _ _ _
  refine WP.cond _ rfl (fun hb=>?_) (fun hb=>?_)
  ·simp at hb
   have bP:i<c.inn.length:=by omega
   obtain ⟨d,hd,d8,bV⟩:=bM bP
   have cG:=eD hd
   have c9:=bE bP (by omega)
   have hBl:m≤8388608:=by rw[hm,hB];simp;omega
   have r2:=cR (cU B)
   have r3:=cI (cU B)
   have r5:=jD B d.nm
   have r6:=dT (eX B) [.str d.nm]
   have f5:bU (m+1) 16=true:=by simp[bU];omega
   rw[aW,←hm,Nat.mul_one] at r2 r3
   rw[r5] at r6
   simp only[List.map_cons,List.map_nil] at r6
   refine cT (j21 @aB @aA @hx @eH @nc @dN @bV @cG @aR @aH @aI @aP @aQ @iE.eq_def @bG @b8 @r2 @r3 @r6 @f5 @bH) ?_
   refine aY (by simp[c9];exact Is.rfl) ?_
   exact ⟨D2 - 1,by omega,i+1,_,m+1,_,_,B++[d.nm],by omega,by rw[hB,bL hd];simp,by simp;omega,by simp[dW],by simp;rfl,bK (by simp[dI,dL,c9]) rfl⟩
  simp at hb
  have kP:i=c.inn.length:=by omega
  rw[kP,List.take_length] at hB
  refine cT (jn @aB @aA) ?_
  refine aY (by simp;exact Is.rfl) ?_
  exact ⟨2,by omega,1,g,m,_,_,B,by omega,by simp[hB],hm,by simp[dW],by simp[hx],bK (by simp[dI,dL];try decide) rfl⟩
 ·replace hB:B=c.inn.map Dc.nm:=by rw[hB];simp
  refine cT (j3 @aB @aA @jR.eq_def) ?_
  apply WP.loop' (I:=fun D s=>∃ (i g m c':Nat) (bB:Hp) (B:List Tx),i+D=c.out.length∧B=c.inn.map Dc.nm++(c.out.take i).map Dc.nm∧m=B.length∧Ag n hp bB∧bB.get n=some ⟨g,false,fl (eX B)⟩∧s=⟨[(0,.ptr ic gc 0),(3,.osl n g 0 m 1 none),(27,.agg [dL (cM c.inn),dL (cM c.out),dL (cM c.loc)]),(28,dI 1),(31,dL (cM c.out)),(32,dI c.out.length),(33,dI i)],bB,n+1,c',n,[]⟩) (d:=c.out.length)
  ·exact ⟨0,g,m,_,_,B,by simp,by simp[hB],hm,by simp[dW],by simp[hx],bK (by simp[dI,dL]) rfl⟩
  clear hB hm hx dW dN eH
  rintro D2 _ ⟨i,g,m,c',bB,B,hi,hB,hm,dW,hx,rfl⟩
  have dN:=eq_true dW
  have eH:=(hK.ag dW (Nat.le_refl n)).co
  refine pS (jn @aB @aA) ?_
  show WP _ _ _ _ _ _
  refine WP.cond _ rfl (fun hb=>?_) (fun hb=>?_)
  ·simp at hb
   have bP:i<c.out.length:=by omega
   obtain ⟨d,hd,d8,bV⟩:=bM bP
   have cG:=eD hd
   have c9:=bE bP (by omega)
   have hBl:m≤8388608:=by rw[hm,hB];simp;omega
   have r2:=cR (cU B)
   have r3:=cI (cU B)
   have r5:=jD B d.nm
   have r6:=dT (eX B) [.str d.nm]
   have f5:bU (m+1) 16=true:=by simp[bU];omega
   rw[aW,←hm,Nat.mul_one] at r2 r3
   rw[r5] at r6
   simp only[List.map_cons,List.map_nil] at r6
   refine cT (j21 @aB @aA @hx @eH @nc @dN @bV @cG @aR @aH @aI @aP @aQ @iE.eq_def @bG @b8 @r2 @r3 @r6 @f5 @bH) ?_
   refine aY (by simp[c9];exact Is.rfl) ?_
   exact ⟨D2 - 1,by omega,i+1,_,m+1,_,_,B++[d.nm],by omega,by rw[hB,bL hd];simp,by simp;omega,by simp[dW],by simp;rfl,bK (by simp[dI,dL,c9]) rfl⟩
  simp at hb
  have kP:i=c.out.length:=by omega
  rw[kP,List.take_length] at hB
  refine cT (jn @aB @aA) ?_
  refine aY (by simp;exact Is.rfl) ?_
  exact ⟨1,by omega,2,g,m,_,_,B,by omega,by simp[hB],hm,by simp[dW],by simp[hx],bK (by simp[dI,dL];try decide) rfl⟩
 ·replace hB:B=(c.inn.map Dc.nm++c.out.map Dc.nm):=by rw[hB];simp
  refine cT (j3 @aB @aA @jR.eq_def) ?_
  apply WP.loop' (I:=fun D s=>∃ (i g m c':Nat) (bB:Hp) (B:List Tx),i+D=c.loc.length∧B=(c.inn.map Dc.nm++c.out.map Dc.nm)++(c.loc.take i).map Dc.nm∧m=B.length∧Ag n hp bB∧bB.get n=some ⟨g,false,fl (eX B)⟩∧s=⟨[(0,.ptr ic gc 0),(3,.osl n g 0 m 1 none),(27,.agg [dL (cM c.inn),dL (cM c.out),dL (cM c.loc)]),(28,dI 2),(31,dL (cM c.loc)),(32,dI c.loc.length),(33,dI i)],bB,n+1,c',n,[]⟩) (d:=c.loc.length)
  ·exact ⟨0,g,m,_,_,B,by simp,by simp[hB],hm,by simp[dW],by simp[hx],bK (by simp[dI,dL]) rfl⟩
  clear hB hm hx dW dN eH
  rintro D2 _ ⟨i,g,m,c',bB,B,hi,hB,hm,dW,hx,rfl⟩
  have dN:=eq_true dW
  have eH:=(hK.ag dW (Nat.le_refl n)).co
  refine pS (jn @aB @aA) ?_
  show WP _ _ _ _ _ _
  refine WP.cond _ rfl (fun hb=>?_) (fun hb=>?_)
  ·simp at hb
   have bP:i<c.loc.length:=by omega
   obtain ⟨d,hd,d8,bV⟩:=bM bP
   have cG:=eD hd
   have c9:=bE bP (by omega)
   have hBl:m≤8388608:=by rw[hm,hB];simp;omega
   have r2:=cR (cU B)
   have r3:=cI (cU B)
   have r5:=jD B d.nm
   have r6:=dT (eX B) [.str d.nm]
   have f5:bU (m+1) 16=true:=by simp[bU];omega
   rw[aW,←hm,Nat.mul_one] at r2 r3
   rw[r5] at r6
   simp only[List.map_cons,List.map_nil] at r6
   refine cT (j21 @aB @aA @hx @eH @nc @dN @bV @cG @aR @aH @aI @aP @aQ @iE.eq_def @bG @b8 @r2 @r3 @r6 @f5 @bH) ?_
   refine aY (by simp[c9];exact Is.rfl) ?_
   exact ⟨D2 - 1,by omega,i+1,_,m+1,_,_,B++[d.nm],by omega,by rw[hB,bL hd];simp,by simp;omega,by simp[dW],by simp;rfl,bK (by simp[dI,dL,c9]) rfl⟩
  simp at hb
  have kP:i=c.loc.length:=by omega
  rw[kP,List.take_length] at hB
  refine cT (jn @aB @aA) ?_
  refine aY (by simp;exact Is.rfl) ?_
  exact ⟨0,by omega,3,g,m,_,_,B,by omega,by simp[hB],hm,by simp[dW],by simp[hx],bK (by simp[dI,dL];try decide) rfl⟩
 replace hB:B=(c.inn.map Dc.nm++c.out.map Dc.nm++c.loc.map Dc.nm):=by rw[hB];simp
 refine cT (j4 @aB @aA @eH @nc) ?_
 apply WP.loop' (I:=fun D s=>∃ (i g m c':Nat) (bB:Hp) (B:List Tx),i+D=c.mems.length∧B=(c.inn.map Dc.nm++c.out.map Dc.nm++c.loc.map Dc.nm)++(c.mems.take i).map Mm.nm∧m=B.length∧Ag n hp bB∧bB.get n=some ⟨g,false,fl (eX B)⟩∧s=⟨[(0,.ptr ic gc 0),(3,.osl n g 0 m 1 none),(48,dL (lF c.mems)),(49,dI c.mems.length),(50,dI i)],bB,n+1,c',n,[]⟩) (d:=c.mems.length)
 ·exact ⟨0,g,m,_,_,B,by simp,by simp[hB],hm,by simp[dW],by simp[hx],bK (by simp[dI,dL]) rfl⟩
 clear hB hm hx dW dN eH
 rintro D2 _ ⟨i,g,m,c',bB,B,hi,hB,hm,dW,hx,rfl⟩
 have dN:=eq_true dW
 have eH:=(hK.ag dW (Nat.le_refl n)).co
 refine pS (jn @aB @aA) ?_
 show WP _ _ _ _ _ _
 refine WP.cond _ rfl (fun hb=>?_) (fun hb=>?_)
 ·simp at hb
  have bP:i<c.mems.length:=by omega
  obtain ⟨d,hd,d8,bV⟩:=bM bP
  have cG:=kI hd
  have c9:=bE bP (by omega)
  have hBl:m≤8388608:=by rw[hm,hB];simp;omega
  have r2:=cR (cU B)
  have r3:=cI (cU B)
  have r5:=jD B d.nm
  have r6:=dT (eX B) [.str d.nm]
  have f5:bU (m+1) 16=true:=by simp[bU];omega
  rw[aW,←hm,Nat.mul_one] at r2 r3
  rw[r5] at r6
  simp only[List.map_cons,List.map_nil] at r6
  refine cT (j21 @aB @aA @hx @eH @nc @dN @bV @cG @Mm.cells.eq_1 @aH @aI @aP @aQ @iE.eq_def @bG @b8 @r2 @r3 @r6 @f5 @bH) ?_
  refine aY (by simp[c9];exact Is.rfl) ?_
  exact ⟨D2 - 1,by omega,i+1,_,m+1,_,_,B++[d.nm],by omega,by rw[hB,bL hd];simp,by simp;omega,by simp[dW],by simp;rfl,bK (by simp[dI,dL,c9]) rfl⟩
 simp at hb
 have kP:i=c.mems.length:=by omega
 rw[kP,List.take_length] at hB
 clear hb hi
 refine cT (j4 @aB @aA @eH @nc) ?_
 apply WP.loop' (I:=fun D s=>∃ (i g m c':Nat) (bB:Hp) (B:List Tx),i+D=c.ins.length∧B=(c.inn.map Dc.nm++c.out.map Dc.nm++c.loc.map Dc.nm++c.mems.map Mm.nm)++(c.ins.take i).map Ii.nm∧m=B.length∧Ag n hp bB∧bB.get n=some ⟨g,false,fl (eX B)⟩∧s=⟨[(3,.osl n g 0 m 1 none),(64,dL (lV c.ins)),(65,dI c.ins.length),(66,dI i)],bB,n+1,c',n,[]⟩) (d:=c.ins.length)
 ·exact ⟨0,g,m,_,_,B,by simp,by simp[hB],hm,by simp[dW],by simp[hx],bK (by simp[dI,dL]) rfl⟩
 clear hB hm hx dW dN eH
 rintro D2 _ ⟨i,g,m,c',bB,B,hi,hB,hm,dW,hx,rfl⟩
 have dN:=eq_true dW
 have eH:=(hK.ag dW (Nat.le_refl n)).co
 refine pS (jn @aB @aA) ?_
 show WP _ _ _ _ _ _
 refine WP.cond _ rfl (fun hb=>?_) (fun hb=>?_)
 ·simp at hb
  have bP:i<c.ins.length:=by omega
  obtain ⟨d,hd,d8,bV⟩:=bM bP
  have cG:=nP hd
  have c9:=bE bP (by omega)
  have hBl:m≤8388608:=by rw[hm,hB];simp;omega
  have r2:=cR (cU B)
  have r3:=cI (cU B)
  have r5:=jD B d.nm
  have r6:=dT (eX B) [.str d.nm]
  have f5:bU (m+1) 16=true:=by simp[bU];omega
  rw[aW,←hm,Nat.mul_one] at r2 r3
  rw[r5] at r6
  simp only[List.map_cons,List.map_nil] at r6
  refine cT (j21 @aB @aA @hx @eH @nc @dN @bV @cG @Ii.cells.eq_1 @aH @aI @aP @aQ @iE.eq_def @bG @b8 @r2 @r3 @r6 @f5 @bH) ?_
  refine aY (by simp[c9];exact Is.rfl) ?_
  exact ⟨D2 - 1,by omega,i+1,_,m+1,_,_,B++[d.nm],by omega,by rw[hB,bL hd];simp,by simp;omega,by simp[dW],by simp;rfl,bK (by simp[dI,dL,c9]) rfl⟩
 simp at hb
 have kP:i=c.ins.length:=by omega
 rw[kP,List.take_length] at hB
 refine cT (jn @aB @aA) ?_
 have gI:=jA (look:=bB.get) (id:=n) (g:=g) (ro:=false) (cap:=none) (cU B) hx
 rw[aW,←hm] at gI
 refine ⟨.inr rfl,rfl,_,[n],rfl,?_,by simp[Nat.ble_eq]⟩
 show d7 bB.get (.osl n g 0 m 1 none)=_
 rw[gI,hB];rfl
end
end Go.Ac
end
