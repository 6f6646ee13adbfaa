/- New (the program's). -/
import Derived.Test.YtkgekafdhehleaaGreatObZfM
set_option linter.unusedVariables false
set_option linter.unusedSimpArgs false
section
set_option maxRecDepth 4000
namespace Go.Ac
open Go.Proofs
attribute [local simp] Hp.get_set dA cK cR bW
structure REA (o:Oc) (c:Cl) (p:Pt) (b:Rb) (s:Es) (hp:Hp) (n:Nat):Prop where
 li:RLies o (.mk c s.ms s.sb) p hp n
 ru:RunA b s.vs hp n
 bx:b.x=p.a.x
 bg:b.gx=p.a.gx
 e1:b.r∉cW p
 e2:b.nn∉cW p
 e3:b.vv∉cW p
theorem REA.mono {o:Oc} {c:Cl} {p:Pt} {b:Rb} {s:Es} {hp bD:Hp} {n n':Nat} (h:REA o c p b s hp n) (ha:Ag n hp bD) (hn:n≤n'):REA o c p b s bD n':=
 ⟨h.li.mono ha hn,h.ru.mono ha hn,h.bx,h.bg,h.e1,h.e2,h.e3⟩
theorem aMH {ms:List (Tx×Int)} {l:List Mm} {nm:Tx} (hk:ms.map Prod.fst=l.map Mm.nm) (hf:eK l nm≠0):(ms.map Prod.snd)[aAS l nm]?=some (gz ms nm)∧aAS l nm<ms.length:=by
 have eY:ms.length=l.length:=by have:=congrArg List.length hk;simpa using this
 unfold aAS
 cases hx:l.findIdx? (fun d=>decide (d.nm=nm)) with
 | none=>
  exfalso
  obtain ⟨m,hm,he,_⟩:=zX hf
  rw[List.findIdx?_eq_none_iff] at hx
  have:=hx m hm
  simp[he] at this
 | some i=>
  obtain ⟨h1,h2,h3⟩:=List.findIdx?_eq_some_iff_getElem.1 hx
  simp only
  have hi:i<ms.length:=by omega
  have key:∀ (k:Nat) (hk1:k<ms.length) (xJ:k<l.length),ms[k].1=l[k].nm:=fun k hk1 xJ=>by
   have:=List.getElem_of_eq hk (i:=k) (by simpa using hk1)
   simpa using this
  have hgz:gz ms nm=ms[i].2:=by
   refine aHk (j:=i) ?_ (by rw[List.getElem?_eq_getElem hi];congr 1;exact Prod.ext ((key i hi h1).trans (by simpa using h2)) rfl)
   rw[List.all_eq_true]
   intro x hx
   obtain ⟨k,hk1,rfl⟩:=List.getElem_of_mem hx
   simp only[List.length_take] at hk1
   rw[List.getElem_take,key k (by omega) (by omega)]
   have:=h3 k (by omega)
   simpa using this
  rw[hgz,List.getElem?_map,List.getElem?_eq_getElem hi]
  exact ⟨rfl,hi⟩
attribute [local simp] aON Ob.k129
section
variable {o:Oc} {c:Cl} {p:Pt} {b:Rb} {s:Es}
set_option maxHeartbeats 8000000 in
theorem aEH (gM:CLen c) (hk:s.ms.map Prod.fst=c.mems.map Mm.nm) (hvl:s.vs.length≤4611686018427387904) (bf:List Y) (cx:List Pr):∀ (N:Nat),N≤8388609→∀ x:X,x.sz<N→bQ x=true→(eV ⟨o,c,bf,cx⟩ x).2=0→∀ hp n cc,REA o c p b s hp n→kV Tryz.prog Ob.cfg 129 [.ptr b.r b.gr 0,aG x.cells] hp n cc (dI (uK s.vs s.ms x)):=by
 have gM:=gM.sum
 intro N
 induction N with
 | zero=>intro _ x h;omega
 | succ N ih=>
 intro hNM x hN hf hw hp n cc hK
 obtain ⟨hf1,hf2,hf3⟩:=zH hf
 have hs0:=X.sz_eq x
 rw[tG] at hw
 split at hw
 ·rename_i hn;exact absurd hw hn
 rename_i hn
 have hks:fV ⟨o,c,bf,cx⟩ x.args=((fV ⟨o,c,bf,cx⟩ x.args).1,0):=by rw[←Decidable.not_not.1 hn]
 obtain ⟨hkl,iP⟩:=aCs _ hks
 have aEE:∀ y,y∈x.args→(eV ⟨o,c,bf,cx⟩ y).2=0:=fun y hy=>by
  obtain ⟨i,hi⟩:=List.mem_iff_getElem?.1 hy
  have fB:=(List.getElem?_eq_some_iff.1 hi).1
  have hti:(fV ⟨o,c,bf,cx⟩ x.args).1[i]?=some ((fV ⟨o,c,bf,cx⟩ x.args).1[i]'(by omega)):=List.getElem?_eq_getElem (by omega)
  rw[iP i y _ hi hti]
 have hb:=hK.ru.ob
 have nr:=nf hK.ru.lr
 have nn:=nf hK.ru.ln
 have nv:=nf hK.ru.lv
 refine lZ Tryz.func129 rfl (by kernel_rfl) rfl ?_
 refine cV (j8 @aN @aO @aD @aE @aB @aA @aH @aI) ?_
 apply WP.loop' (I:=fun D st=>∃ (j g c':Nat) (bD:Hp) (L:List Int),j+D=x.args.length∧L=(x.args.take j).map (uK s.vs s.ms)∧Ag n hp bD∧bD.get n=some ⟨cc,false,[V.d (.int .i64 x.k),V.d (.int .i64 x.o),V.d (.int .i64 x.t),V.d (.int .i64 x.v),V.d (.str x.nm),V.d (.slice (fY x.args))]⟩∧bD.get (n+1)=some ⟨g,false,fl (bX L)⟩∧
  st=⟨[(0,.ptr b.r b.gr 0),(3,.ptr n cc 0),(5,.osl (n+1) g 0 j 1 none),(6,dI j)],bD,n+2,c',n,[]⟩) (d:=x.args.length)
 ·exact ⟨0,cc+1,_,_,[],by simp,by simp,by simp,by simp,by simp[fl,bX],bK (by simp[dI,dL]) rfl⟩
 rintro D _ ⟨j,g,c',bD,L,hj,hL,d8,kY,jA,rfl⟩
 have dR:=eq_true d8
 refine qE (j4 @aB @aA @kY @aT) ?_
 show WP _ _ _ _ _ _
 refine WP.cond _ rfl (fun hb=>?_) (fun hb=>?_)
 ·simp at hb
  have bR:j<x.args.length:=by omega
  obtain ⟨d,hd,d9,bS⟩:=bL bR
  have cF:=iQ hd
  have dH:=bG bR (by omega)
  obtain ⟨F,G,hF⟩:=gU (C:=fun fP n2=>Ag n hp fP∧n≤n2) (P:=Tryz.prog) (cfg:=Ob.cfg) (f:=129) (vs:=[.ptr b.r b.gr 0,aG d.cells]) (v:=dI (uK s.vs s.ms d)) (fun fP n2 c2 hC=>ih (by omega) d (by have:=dX d9;omega) (List.all_eq_true.1 hf1 d d9) (aEE d d9) fP n2 c2 (hK.mono hC.1 hC.2))
  have hr:=fun fP n2 c2 a b=>hF fP n2 c2 ⟨a,b⟩
  simp only[aG,aE,List.map_cons,List.map_nil,dI] at hr
  have hsn:=bM hd
  have pL:L.length=j:=by rw[hL];simp;omega
  have hLs:(x.args.take (j+1)).map (uK s.vs s.ms)=L++[uK s.vs s.ms d]:=by rw[hsn,hL];simp
  have r2:=cT (cI L)
  have r3:=cL (cI L)
  have r4:=dW (bX L) [.int .i64 (uK s.vs s.ms d)]
  have r5:=iY L (uK s.vs s.ms d)
  have f5:bT (j+1) 8=true:=by simp[bT];omega
  rw[r5] at r4
  rw[aZ,pL,Nat.mul_one] at r2 r3
  simp only[List.map_cons,List.map_nil] at r4
  refine cV (j21 @aB @aA @aE @bS @cF @hr @aH @aI @aQ @aR @iE.eq_def @bI @b8 @bJ @f5 @r2 @r3 @r4 @kY @jA @dR) ?_
  refine aY (by simp[dH];exact Is.rfl) ?_
  exact ⟨D - 1,by omega,j+1,_,_,_,_,by omega,hLs.symm,by simp[d8],by simp[kY],by simp;rfl,bK (by simp[dI,dL,dH]) rfl⟩
 simp at hb
 have eM:j=x.args.length:=by omega
 rw[eM,List.take_length,←pR] at hL
 have pL:L.length=x.args.length:=by rw[hL,pR];simp
 have hK':=hK.mono d8 (Nat.le_refl n)
 have bR:=hK'.ru.ob
 rw[hK.bx,hK.bg] at bR
 have pB:=hK'.li.ob.2
 have hmo:=hK'.li.mo.2
 simp only[rO,Trn.c,Trn.ms] at pB hmo
 have np:=nf hK.li.ob.1
 have nm:=nf hK.li.mo.1
 rw[aIG,←hL]
 rcases zQ hf with q|q|q|q|q
 ·simp only[evK,q]
  refine cV (j4 @aB @kY @q @aS) ?_
  exact ⟨.inr rfl,rfl,_,[],rfl,rfl,rfl⟩
 ·simp only[evK,q]
  obtain ⟨F,G,hF⟩:=gU (C:=fun fP n2=>Ag n hp fP∧n≤n2) (P:=Tryz.prog) (cfg:=Ob.cfg) (f:=104) (vs:=[.ptr b.r b.gr 0,dS x.nm]) (v:=dI (gz s.vs x.nm)) (fun fP n2 c2 hC=>aFr (hK.ru.mono hC.1 hC.2) hvl x.nm c2)
  have hr:=fun fP n2 c2 a b=>hF fP n2 c2 ⟨a,b⟩
  simp only[dS,dI] at hr
  refine cV (j7 @aB @aM @kY @q @aS @hr @dR) ?_
  exact ⟨.inr rfl,rfl,_,[],rfl,rfl,rfl⟩
 ·simp only[evK,q]
  have hfm:eK c.mems x.nm≠0:=by
   intro e
   unfold gO at hw
   rw[q,if_neg (by omega),if_neg (by omega),if_pos rfl] at hw
   rw[if_pos e] at hw
   simp at hw
  obtain ⟨bS,xX⟩:=aMH hk hfm
  have hV:=aCb bS
  have sX:=m6 xX
  obtain ⟨F,G,hF⟩:=gU (C:=fun fP n2=>Ag n hp fP∧n≤n2) (P:=Tryz.prog) (cfg:=Ob.cfg) (f:=130) (vs:=[.ptr p.a.x p.a.gx 0,dS x.nm]) (v:=dI (aAS c.mems x.nm)) (fun fP n2 c2 hC=>aLo (hK.li.mono hC.1 hC.2) (by simp only[Trn.c];omega) x.nm c2)
  have hr:=fun fP n2 c2 a b=>hF fP n2 c2 ⟨a,b⟩
  simp only[dS,dI] at hr
  repeat (first
 | apply WP.seq
 | (apply WP.reg;(case hR=>dsimp only [e8,eA,List.map,gS,gZ];exact iZ);(case hr=>(repeat (first
 | (apply RT.op;simp[dI,dS,kY,q,aS,hr,dR,bR,pB,hmo,sX,hV];exact iZ;(try dsimp only [a8]) <;> exact rfl)
 | (apply RT.call;(iterate 2 simp;exact iZ);exact iZ;(iterate 4 simp[dI,dS,kY,q,aS,hr,dR,bR,pB,hmo,sX,hV];exact iZ);simp[Is];(try dsimp only [a8]) <;> exact rfl;simp;exact iZ;simp;exact iZ)
 | (apply RT.callV;(iterate 2 simp;exact iZ);exact iZ;(iterate 3 simp[dI,dS,kY,q,aS,hr,dR,bR,pB,hmo,sX,hV];exact iZ);(try dsimp only [a8]) <;> exact rfl)
 | (apply RT.wr;simp[dI,dS,kY,q,aS,hr,dR,bR,pB,hmo,sX,hV];exact iZ;(try dsimp only [a8]) <;> exact rfl;simp[dI,dS,kY,q,aS,hr,dR,bR,pB,hmo,sX,hV];exact iZ;(iterate 2 exact iZ);simp;exact iZ)));exact RT.nil);(case hc=>first|(refine c8 [(0,7),(1,7),(2,7),(3,7),(4,7),(5,7),(6,7),(0,8),(1,8),(2,8),(3,8),(4,8),(5,8),(6,8),(0,9),(1,9),(2,9),(3,9),(4,9),(5,9),(6,9),(0,10),(1,10),(2,10),(3,10),(4,10),(5,10),(6,10),(0,11),(1,11),(2,11),(3,11),(4,11),(5,11),(6,11),(7,11),(8,11),(9,11),(10,11),(0,12),(1,12),(2,12),(3,12),(4,12),(5,12),(6,12),(7,12),(8,12),(9,12),(10,12),(0,13),(1,13),(2,13),(3,13),(4,13),(5,13),(6,13)] (by kernel_rfl) (by kernel_rfl) rfl ?_;simp[lF,jX,dY,nr,nn,nv,np,nm];done)|(show _=_;kernel_rfl));(case ht=>simp[dI,dS,kY,q,aS,hr,dR,bR,pB,hmo,sX,hV];exact iZ))
 | apply WP.block|apply WP.skip|apply WP.exit|apply WP.ret|refine WP.condT rfl ?_|refine WP.condF rfl ?_)
  exact ⟨.inr rfl,rfl,_,[],rfl,rfl,rfl⟩
 ·have xP:=aKn x.o L (by have:=gK x.args;unfold MX;omega)
  have r2:=cT (cI L)
  have r3:=cL (cI L)
  have r4:=eJ (cI L)
  rw[aZ,Nat.mul_one,pL,←eM] at r2 r3
  rw[aZ,pL,←eM] at r4
  simp only[dI,dL] at xP
  simp only[evK,q]
  refine cV (uN @aB @aA @kY @jA @q @aS @xP @bI @b8 @bJ @r2 @r3 @r4 @cG) ?_
  exact ⟨.inr rfl,rfl,_,[],rfl,rfl,rfl⟩
 ·have h3:=hf2 q
  simp only[evK,q]
  rw[h3] at pL eM
  subst eM
  obtain ⟨v0,v1,v2,rfl⟩:∃ v0 v1 v2,L=[v0,v1,v2]:=by
   match L,pL with
   | [a,b,c],_=>exact ⟨a,b,c,rfl⟩
  simp only[List.getD_cons_zero,List.getD_cons_succ]
  have i0:jQ 0 3=some 0:=rfl
  have i1:jQ 1 3=some 1:=rfl
  have i2:jQ 2 3=some 2:=rfl
  rw[show fl (bX [v0,v1,v2])=[V.d (.int .i64 v0),V.d (.int .i64 v1),V.d (.int .i64 v2)] from rfl] at jA
  by_cases q0:v0=1
  ·have q0':=eq_true q0
   rw[if_pos q0]
   refine cV (j8 @aB @kY @jA @q @aS @i0 @i1 @q0') ?_
   exact ⟨.inr rfl,rfl,_,[],rfl,rfl,rfl⟩
  ·have q0':=eq_false q0
   rw[if_neg q0]
   refine cV (j8 @aB @kY @jA @q @aS @i0 @i2 @q0') ?_
   exact ⟨.inr rfl,rfl,_,[],rfl,rfl,rfl⟩
end
end Go.Ac
end
section
set_option maxRecDepth 4000
namespace Go.Ac
open Go.Proofs
attribute [local simp] Hp.get_set dA cK cR bW
theorem aDt {vs:List (Tx×Int)} {nm:Tx} {j:Nat} {d:Tx×Int} {v:Int} (h:(vs.take j).all (fun p=> !decide (p.1=nm))=true) (hj:vs[j]?=some d) (hd:d.1=nm):jG vs nm v=vs.set j (nm,v):=by
 unfold jG
 rw[aDi h hj (by simp[hd])]
theorem aOs {vs:List (Tx×Int)} {nm:Tx} {v:Int} (h:vs.all (fun p=> !decide (p.1=nm))=true):jG vs nm v=vs++[(nm,v)]:=by
 unfold jG
 rw[aLW h]
theorem aGm (l:List Int) (j:Nat) (v:Int) (h:j<l.length):(fl (bX l)).take j++V.d (.int .i64 v)::(fl (bX l)).drop (j+1)=fl (bX (l.set j v)):=by
 rw[tK,tK,List.map_set,List.set_eq_take_append_cons_drop,if_pos (by simpa using h)]
theorem aNs {vs:List (Tx×Int)} {nm:Tx} {j:Nat} {d:Tx×Int} {v:Int} (hj:vs[j]?=some d) (hd:d.1=nm):(vs.set j (nm,v)).map Prod.fst=vs.map Prod.fst:=by
 rw[List.map_set]
 apply List.ext_getElem
 ·simp
 ·intro i h1 h2
  rw[List.getElem_set]
  split
  ·rename_i e
   subst e
   obtain ⟨g1,g2⟩:=List.getElem?_eq_some_iff.1 hj
   rw[List.getElem_map,g2];exact hd.symm
  ·rfl
attribute [local simp] aOJ Ob.k102
set_option maxHeartbeats 4000000 in
theorem aEQ {b:Rb} {vs:List (Tx×Int)} {hp:Hp} {n:Nat} (h:RunA b vs hp n) (hl:vs.length≤1099511627776) (nm:Tx) (v:Int) (cc:Nat):aDG Tryz.prog Ob.cfg 102 [.ptr b.r b.gr 0,dS nm,dI v] hp n cc (.tuple []) [b.r,b.nn,b.vv] (fun bD=>∃ gn gv,RunA { b with gn:=gn,gv:=gv } (jG vs nm v) bD n):=by
 have hlr:=eq_true h.lr
 have hln:=eq_true h.ln
 have vB:=eq_true h.lv
 have nr:=nf h.lr
 have nn:=nf h.ln
 have nv:=nf h.lv
 have e1:=eq_false h.d1
 have e2:=eq_false h.d2
 have e3:=eq_false h.d3
 have e1':=eq_false h.d1.symm
 have e2':=eq_false h.d2.symm
 have e3':=eq_false h.d3.symm
 refine wW Tryz.func102 rfl (by kernel_rfl) rfl ?_
 refine fI (j4 @aN @aO @aB @aM) ?_
 apply WP.loop' (I:=fun D st=>∃ (j c':Nat) (bD:Hp) (wl:List Nat),j+D=vs.length∧(vs.take j).all (fun p=> !decide (p.1=nm))=true∧Ag n hp bD∧WI [b.r,b.nn,b.vv] n hp wl bD∧
  st=⟨[(0,.ptr b.r b.gr 0),(1,dS nm),(2,dI v),(6,dI j)],bD,n,c',n,wl⟩) (d:=vs.length)
 ·exact ⟨0,_,_,_,by simp,by simp,Ag.refl _ _,WI.refl,bK (by simp[dI,dS]) rfl⟩
 rintro D _ ⟨j,c',bD,wl,hj,cD,d8,eR,rfl⟩
 have h':=h.mono d8 (Nat.le_refl n)
 have mG:=h'.ob
 have aBn:=h'.nm
 have aHt:=h'.vl
 refine aCt (j5 @aB @aM @mG @aBn @aHt) ?_
 show WP _ _ _ _ _ _
 refine WP.cond _ rfl (fun hb=>?_) (fun hb=>?_)
 ·simp at hb
  have bR:j<vs.length:=by omega
  obtain ⟨p,rU,hpm,bS⟩:=bL bR
  have dH:=bG bR (by omega)
  have hS:=aJv (l:=vs.map Prod.fst) (j:=j) (x:=p.1) (by simp[rU])
  have hlV:(fl (bX (vs.map Prod.snd))).length=vs.length:=by rw[tK];simp
  have hs:=bZ (p:=fun p:Tx×Int=> !decide (p.1=nm)) rU
  by_cases q:p.1=nm
  ·have q':=eq_true q
   have hj1:=eq_true (show j+1≤vs.length by omega)
   have hj2:=eq_true bR
   refine fI (mX @aB @aM @mG @aBn @aHt @bS @hS @hlV @bE @q' @hlr @hln @vB @bJ @hj1 @hj2) ?_
   rw[aDt cD rU q]
   refine ⟨.inr rfl,[],[],rfl,rfl,rfl,WI.set eR (.inl (by simp)),b.gn,b.gv,?_⟩
   refine ⟨?_,?_,?_,h.lr,h.ln,h.lv,h.d1,h.d2,h.d3⟩
   ·rw[List.length_set];simp[h.lr,e2',mG]
   ·rw[aNs rU q];simp[h.ln,e3',aBn]
   ·rw[List.map_set,←aGm _ _ _ (by simpa using bR)];simp[h.lv]
  ·have q':=eq_false q
   refine fI (j9 @aB @aM @mG @aBn @aHt @bS @hS @bE @q') ?_
   refine aY (by simp[-bA,dH];exact Is.rfl) ?_
   exact ⟨D - 1,by omega,j+1,_,_,_,by omega,by rw[hs,cD];simp[q],by simp[d8],WI.trunc eR (Nat.le_refl _),bK (by simp[dI,dS,dH]) rfl⟩
 ·simp at hb
  have eM:j=vs.length:=by omega
  rw[eM,List.take_length] at cD
  rw[aOs cD]
  have r2:=cT (cI (vs.map Prod.snd))
  have r3:=cL (cI (vs.map Prod.snd))
  have r4:=dW (bX (vs.map Prod.snd)) [.int .i64 v]
  have r5:=iY (vs.map Prod.snd) v
  have s2:=cT (cP (vs.map Prod.fst))
  have s3:=cL (cP (vs.map Prod.fst))
  have s4:=dW (eT (vs.map Prod.fst)) [.str nm]
  have s5:=iT (vs.map Prod.fst) nm
  have f5:bT (vs.length+1) 8=true:=by simp[bT];omega
  have f6:bT (vs.length+1) 16=true:=by simp[bT];omega
  rw[r5] at r4
  rw[s5] at s4
  rw[aZ,List.length_map,Nat.mul_one] at r2 r3
  rw[aW,List.length_map,Nat.mul_one] at s2 s3
  simp only[List.map_cons,List.map_nil] at r4 s4
  have lr1:=eq_true (show b.r<n+1 by have:=h.lr;omega)
  have ln1:=eq_true (show b.nn<n+1 by have:=h.ln;omega)
  have lv1:=eq_true (show b.vv<n+1 by have:=h.lv;omega)
  have lr2:=eq_true (show b.r<n+2 by have:=h.lr;omega)
  have lv2:=eq_true (show b.vv<n+2 by have:=h.lv;omega)
  refine fI (j39 @aB @aM @mG @aBn @aHt @aH @aI @Value.oneCell'.eq_def @aQ @aR @iE.eq_def @bI @b8 @bJ @f5 @f6 @r2 @r3 @r4 @s2 @s3 @s4 @hlr @hln @vB @lr1 @ln1 @lv1 @lr2 @lv2 @nr @nn @nv @e1 @e2 @e3 @e1' @e2' @e3') ?_
  refine ⟨.inl rfl,[],[],rfl,rfl,rfl,(by repeat' (first|exact eR|(refine WI.set ?_ (.inr (by omega)))|(refine WI.set ?_ (.inl (by simp))))),c'+1,c'+3,?_⟩
  refine ⟨?_,?_,?_,h.lr,h.ln,h.lv,h.d1,h.d2,h.d3⟩
  ·simp[h.lr]
  ·simp[h.ln,e1,e3,e3',nn]
  ·simp[h.lv,e2,nv]
end Go.Ac
end
section
set_option maxRecDepth 4000
namespace Go.Ac
open Go.Proofs
attribute [local simp] Hp.get_set bW
theorem aBf (l:List X):∀ r∈fY l,r.length=6:=by rw[qP];intro r hr;obtain ⟨x,_,rfl⟩:=List.mem_map.1 hr;rw[aE];rfl
theorem aIK (l:List X) (x:X):fY l++[x.cells]=fY (l++[x]):=by simp[qP]
theorem aTQ (r:Nat):Ob.keep 122 r=Ob.k122 r:=by kernel_rfl
attribute [local simp] aTQ Ob.k122
set_option maxHeartbeats 4000000 in
theorem aJP:∀ (N:Nat) (l:List X),szX l<N→szX l≤8388608→d7 Tryz.prog Ob.cfg 122 [dL (fY l)]=some (dL (fY l)):=by
 intro N
 induction N with
 | zero=>intro l h;omega
 | succ N ih=>
 intro l hN hM
 have eY:=gK l
 refine bF Tryz.func122 rfl (by kernel_rfl) rfl rfl ?_
 refine a9 (j6 @aN @aO @aA @aH @aI @aT) ?_
 apply WP.loop' (I:=fun D s=>∃ (j g c':Nat) (bD:Hp),j+D=l.length∧bD.get 0=some ⟨g,false,fl (fY (l.take j))⟩∧
  s=⟨[(3,.osl 0 g 0 j 6 none),(6,dL (fY l)),(7,dI l.length),(8,dI j)],bD,1,c',0,[]⟩) (d:=l.length)
 ·exact ⟨0,0,_,_,by simp,by simp[fl,fY],bK (by simp[dI,dL]) rfl⟩
 rintro D _ ⟨j,g,c',bD,hj,hx,rfl⟩
 refine wk (jn @aB @aA) ?_
 show WP _ _ _ _ _ _
 refine WP.cond _ rfl (fun hb=>?_) (fun hb=>?_)
 ·simp at hb
  have bR:j<l.length:=by omega
  obtain ⟨d,hd,d9,bS⟩:=bL bR
  have cF:=iQ hd
  have dH:=bG bR (by omega)
  have hs0:=X.sz_eq d
  have hms:=dX d9
  have hc:=ih d.args (by omega) (by omega)
  simp only[dL] at hc
  have hsn:=bM hd
  have pL:(l.take j).length=j:=by simp;omega
  have r2:=cT (aBf (l.take j))
  have r3:=cL (aBf (l.take j))
  have r4:=dW (fY (l.take j)) d.cells
  have r5:=aIK (l.take j) d
  have f5:bT (j+1) 72=true:=by simp[bT];omega
  rw[r5,←hsn,aE] at r4
  rw[aT,pL] at r2 r3
  simp only[List.map_cons,List.map_nil] at r4
  refine a9 (j19 @aB @aA @aE @bS @cF @hc @aH @aI @aQ @aR @iE.eq_def @bI @b8 @bJ @f5 @r2 @r3 @r4 @hx) ?_
  refine aY (by simp[dH];exact Is.rfl) ?_
  exact ⟨D - 1,by omega,j+1,_,_,_,by omega,by simp;rfl,bK (by simp[dI,dL,dH]) rfl⟩
 ·simp at hb
  have eM:j=l.length:=by omega
  rw[eM,List.take_length] at hx
  refine a9 (jn @aB @aA) ?_
  have gM:=jH (look:=bD.get) (id:=0) (g:=g) (ro:=false) (cap:=none) (aBf l) hx
  rw[aT,←eM] at gM
  exact ⟨.inr rfl,_,[0],rfl,gM⟩
end Go.Ac
end
section
set_option maxRecDepth 4000
namespace Go.Ac
open Go.Proofs
attribute [local simp] Hp.get_set bW
theorem oS (look:cA) (l:List Tx):iM look 1 (.d (.slice (eT l)))=some (l.length,fl (eT l),[]):=by
 have h:(eT l).all (fun r=>Nat.beq r.length 1)=true:=by
  rw[List.all_eq_true];intro r hr;rw[cP l r hr];rfl
 unfold iM
 simp only[h,aW]
 rfl
theorem aWQ (r:Nat):Ob.keep 84 r=Ob.k84 r:=by kernel_rfl
attribute [local simp] aWQ Ob.k84
set_option maxHeartbeats 4000000 in
theorem aQN:∀ (N:Nat) (l:List Y),hH l<N→hH l≤8388608→d7 Tryz.prog Ob.cfg 84 [dL (dJ l)]=some (dL (dJ l)):=by
 intro N
 induction N with
 | zero=>intro l h;omega
 | succ N ih=>
 intro l hN hM
 have eY:=lJ l
 refine bF Tryz.func84 rfl (by kernel_rfl) rfl rfl ?_
 refine tF (j6 @aN @aO @aA @aH @aI @cQ) ?_
 apply WP.loop' (I:=fun D s=>∃ (j g c':Nat) (bD:Hp),j+D=l.length∧bD.get 0=some ⟨g,false,fl (dJ (l.take j))⟩∧
  s=⟨[(3,.osl 0 g 0 j 12 none),(9,dL (dJ l)),(10,dI l.length),(11,dI j)],bD,1,c',0,[]⟩) (d:=l.length)
 ·exact ⟨0,0,_,_,by simp,by simp[fl,dJ],bK (by simp[dI,dL]) rfl⟩
 rintro D _ ⟨j,g,c',bD,hj,hx,rfl⟩
 refine aLT (jn @aB @aA) ?_
 show WP _ _ _ _ _ _
 refine WP.cond _ rfl (fun hb=>?_) (fun hb=>?_)
 ·simp at hb
  have bR:j<l.length:=by omega
  obtain ⟨y,hy,vF,bS⟩:=bL bR
  have pD:=oA hy
  have dH:=bG bR (by omega)
  have hs0:=Y.sz_eq y
  have hms:=mM vF
  have hc1:=aJP _ [y.r] (Nat.lt_succ_self _) (by rw[szX,szX];omega)
  have hc2:=aJP _ y.args (Nat.lt_succ_self _) (by omega)
  rw[show fY [y.r]=[y.r.cells] by simp[qP]] at hc1
  simp only[dL,aE] at hc1 hc2
  have i0:jQ 0 1=some 0:=rfl
  have hos:=oB y.outs
  have fS:bT y.outs.length 16=true:=by simp[bT];omega
  have s2:=cT (cP y.outs)
  have s3:=cL (cP y.outs)
  have s4:=eJ (cP y.outs)
  rw[aW,Nat.mul_one] at s2 s3
  rw[aW] at s4
  repeat (first
 | apply WP.seq
 | (apply WP.reg;(case hR=>dsimp only [e8,eA,List.map,gS,gZ];exact iZ);(case hr=>(repeat (first
 | (apply RT.op;simp[dI,dL,aC,aE,bS,pD,hc1,hc2,i0,bN,bC,iE,bI,b8,g9,eE,bJ,mC,cQ,aX,aW,aT,hx,oS,fD,fS,s2,s3,s4,cG];exact iZ;(try dsimp only [a8]) <;> exact rfl)
 | (apply RT.call;(iterate 2 simp;exact iZ);exact iZ;(iterate 4 simp[dI,dL,aC,aE,bS,pD,hc1,hc2,i0,bN,bC,iE,bI,b8,g9,eE,bJ,mC,cQ,aX,aW,aT,hx,oS,fD,fS,s2,s3,s4,cG];exact iZ);simp[Is];(try dsimp only [a8]) <;> exact rfl;simp;exact iZ;simp;exact iZ)
 | (apply RT.clone;(iterate 2 simp;exact iZ);exact iZ;(iterate 2 simp[dI,dL,aC,aE,bS,pD,hc1,hc2,i0,bN,bC,iE,bI,b8,g9,eE,bJ,mC,cQ,aX,aW,aT,hx,oS,fD,fS,s2,s3,s4,cG];exact iZ);(first|assumption|(simp[bT];omega));(try dsimp only [a8]) <;> exact rfl;simp[dI,dL,aC,aE,bS,pD,hc1,hc2,i0,bN,bC,iE,bI,b8,g9,eE,bJ,mC,cQ,aX,aW,aT,hx,oS,fD,fS,s2,s3,s4,cG];exact iZ;simp;exact iZ)
 | (apply RT.callV;(iterate 2 simp;exact iZ);exact iZ;(iterate 3 simp[dI,dL,aC,aE,bS,pD,hc1,hc2,i0,bN,bC,iE,bI,b8,g9,eE,bJ,mC,cQ,aX,aW,aT,hx,oS,fD,fS,s2,s3,s4,cG];exact iZ);(try dsimp only [a8]) <;> exact rfl)
 | (apply RT.wr;simp[dI,dL,aC,aE,bS,pD,hc1,hc2,i0,bN,bC,iE,bI,b8,g9,eE,bJ,mC,cQ,aX,aW,aT,hx,oS,fD,fS,s2,s3,s4,cG];exact iZ;(try dsimp only [a8]) <;> exact rfl;simp[dI,dL,aC,aE,bS,pD,hc1,hc2,i0,bN,bC,iE,bI,b8,g9,eE,bJ,mC,cQ,aX,aW,aT,hx,oS,fD,fS,s2,s3,s4,cG];exact iZ;(iterate 2 exact iZ);simp;exact iZ)));exact RT.nil);(case hc=>first|(refine c8 [(0,2),(1,2),(0,3),(1,3),(0,4),(1,4),(2,4),(3,4),(0,5),(1,5),(2,5),(3,5),(0,6),(1,6),(2,6),(3,6),(4,6),(5,6),(0,7),(1,7),(2,7),(3,7),(4,7),(5,7),(0,8),(1,8),(2,8),(3,8),(4,8),(5,8),(0,9),(1,9),(2,9),(3,9),(4,9),(5,9),(0,10),(1,10),(2,10),(3,10),(4,10),(5,10),(0,11),(1,11),(2,11),(3,11),(4,11),(5,11),(0,12),(1,12),(2,12),(3,12),(4,12),(5,12),(6,12),(7,12),(8,12),(9,12),(10,12),(11,12),(0,13),(1,13),(2,13),(3,13),(4,13),(5,13),(6,13),(7,13),(8,13),(9,13),(10,13),(11,13),(0,14),(1,14),(2,14),(3,14),(4,14),(5,14),(10,14),(11,14),(0,15),(1,15),(2,15),(3,15),(4,15),(5,15),(6,15),(7,15),(8,15),(9,15),(10,15),(11,15),(12,15),(13,15),(14,15),(0,16),(1,16),(2,16),(3,16),(4,16),(5,16),(6,16),(7,16),(8,16),(9,16),(10,16),(11,16),(12,16),(13,16),(14,16),(0,17),(1,17),(2,17),(3,17),(4,17),(5,17),(10,17),(11,17),(0,19),(1,19),(2,19),(3,19),(4,19),(5,19),(6,19),(7,19),(8,19),(9,19),(10,19),(11,19),(12,19),(13,19),(14,19),(15,19),(16,19),(17,19),(18,19)] (by kernel_rfl) (by kernel_rfl) rfl ?_;simp[lF,jX,dY];done)|(show _=_;kernel_rfl));(case ht=>simp[dI,dL,aC,aE,bS,pD,hc1,hc2,i0,bN,bC,iE,bI,b8,g9,eE,bJ,mC,cQ,aX,aW,aT,hx,oS,fD,fS,s2,s3,s4,cG];exact iZ))
 | apply WP.block|apply WP.skip|apply WP.exit|apply WP.ret|refine WP.condT rfl ?_|refine WP.condF rfl ?_)
  apply WP.loop' (I:=fun D2 s=>∃ (k gb c5:Nat) (lG:Hp),k+D2=y.brs.length∧lG.get 0=some ⟨g,false,fl (dJ (l.take j))⟩∧lG.get 3=some ⟨c'+2,false,fl (eT y.outs)⟩∧
   lG.get 4=some ⟨c'+3,false,[.d (.int .i64 y.k),.d (.str y.nm),.d (.int .i64 y.t),.d (.int .i64 y.r.k),.d (.int .i64 y.r.o),.d (.int .i64 y.r.t),.d (.int .i64 y.r.v),.d (.str y.r.nm),.d (.slice (fY y.r.args)),.osl 3 (c'+2) 0 y.outs.length 1 none,.d (.slice (fY y.args)),.osl 5 gb 0 k 1 none]⟩∧
   lG.get 5=some ⟨gb,false,fl (iA (y.brs.take k))⟩∧
   s=⟨[(3,.osl 0 g 0 j 12 none),(6,.ptr 4 (c'+3) 0),(9,dL (dJ l)),(10,dI l.length),(11,dI j),(35,dL (iA y.brs)),(36,dI y.brs.length),(37,dI k)],lG,6,c5,0,[]⟩) (d:=y.brs.length)
  ·exact ⟨0,c'+4,_,_,by simp,by simp[hx],by simp,by simp,by simp[fl,iA],bK (by simp[dI,dL]) rfl⟩
  rintro D2 _ ⟨k,gb,c5,lG,hk,h0,h3,h4,h5,rfl⟩
  refine aLT (jn @aB @aA) ?_
  show WP _ _ _ _ _ _
  refine WP.cond _ rfl (fun hb=>?_) (fun hb=>?_)
  ·simp at hb
   have hb5:k<y.brs.length:=by omega
   obtain ⟨b,hbb,yU,aDN⟩:=bL hb5
   have bR:=lH hbb
   have tQ:=bG hb5 (by have:=rZ y.brs;omega)
   have aZq:=gJ yU
   have hcb:=ih b (by omega) (by omega)
   simp only[dL] at hcb
   have hsn:=bM hbb
   have pL:(y.brs.take k).length=k:=by simp;omega
   have r2:=cT (kJ (y.brs.take k))
   have r3:=cL (kJ (y.brs.take k))
   have r4:=dW (iA (y.brs.take k)) [.slice (dJ b)]
   have r5:=aEo (y.brs.take k) b
   have f5:bT (k+1) 24=true:=by have:=rZ y.brs;simp[bT];omega
   rw[r5,←hsn] at r4
   rw[aX,pL,Nat.mul_one] at r2 r3
   simp only[List.map_cons,List.map_nil] at r4
   repeat (first
 | apply WP.seq
 | (apply WP.reg;(case hR=>dsimp only [e8,eA,List.map,gS,gZ];exact iZ);(case hr=>(repeat (first
 | (apply RT.op;simp[dI,dL,aDN,bR,hcb,bN,bC,iE,bI,b8,bJ,f5,r2,r3,r4,h0,h3,h4,h5];exact iZ;(try dsimp only [a8]) <;> exact rfl)
 | (apply RT.call;(iterate 2 simp;exact iZ);exact iZ;(iterate 4 simp[dI,dL,aDN,bR,hcb,bN,bC,iE,bI,b8,bJ,f5,r2,r3,r4,h0,h3,h4,h5];exact iZ);simp[Is];(try dsimp only [a8]) <;> exact rfl;simp;exact iZ;simp;exact iZ)
 | (apply RT.clone;(iterate 2 simp;exact iZ);exact iZ;(iterate 2 simp[dI,dL,aDN,bR,hcb,bN,bC,iE,bI,b8,bJ,f5,r2,r3,r4,h0,h3,h4,h5];exact iZ);(first|assumption|(simp[bT];omega));(try dsimp only [a8]) <;> exact rfl;simp[dI,dL,aDN,bR,hcb,bN,bC,iE,bI,b8,bJ,f5,r2,r3,r4,h0,h3,h4,h5];exact iZ;simp;exact iZ)
 | (apply RT.callV;(iterate 2 simp;exact iZ);exact iZ;(iterate 3 simp[dI,dL,aDN,bR,hcb,bN,bC,iE,bI,b8,bJ,f5,r2,r3,r4,h0,h3,h4,h5];exact iZ);(try dsimp only [a8]) <;> exact rfl)
 | (apply RT.wr;simp[dI,dL,aDN,bR,hcb,bN,bC,iE,bI,b8,bJ,f5,r2,r3,r4,h0,h3,h4,h5];exact iZ;(try dsimp only [a8]) <;> exact rfl;simp[dI,dL,aDN,bR,hcb,bN,bC,iE,bI,b8,bJ,f5,r2,r3,r4,h0,h3,h4,h5];exact iZ;(iterate 2 exact iZ);simp;exact iZ)));exact RT.nil);(case hc=>first|(refine c8 [(0,2),(1,2),(0,3),(1,3),(0,4),(1,4)] (by kernel_rfl) (by kernel_rfl) rfl ?_;simp[lF,jX,dY];done)|(show _=_;kernel_rfl));(case ht=>simp[dI,dL,aDN,bR,hcb,bN,bC,iE,bI,b8,bJ,f5,r2,r3,r4,h0,h3,h4,h5];exact iZ))
 | apply WP.block|apply WP.skip|apply WP.exit|apply WP.ret|refine WP.condT rfl ?_|refine WP.condF rfl ?_)
   refine aY (by simp[tQ];exact Is.rfl) ?_
   exact ⟨D2 - 1,by omega,k+1,c5+1,_,_,by omega,by simp[h0],by simp[h3],by simp,by simp,bK (by simp[dI,dL,tQ]) rfl⟩
  simp at hb
  have tU:k=y.brs.length:=by omega
  rw[tU,List.take_length] at h5
  have hsn:=bM hy
  have pL:(l.take j).length=j:=by simp;omega
  have r2:=cT (oG (l.take j))
  have r3:=cL (oG (l.take j))
  have r4:=dW (dJ (l.take j)) y.cells
  have r5:=aDS (l.take j) y
  have f5:bT (j+1) 176=true:=by simp[bT];omega
  rw[r5,←hsn] at r4
  rw[cQ,pL] at r2 r3
  simp only[aC,aE,List.map_cons,List.map_nil,List.map_append,List.cons_append,List.nil_append] at r4
  have u2:=cT (kJ y.brs)
  have u3:=cL (kJ y.brs)
  have u4:=eJ (kJ y.brs)
  rw[aX,Nat.mul_one] at u2 u3
  rw[aX] at u4
  refine tF (j30 @aB @aA @aH @aI @aQ @aR @iE.eq_def @bI @b8 @g9.eq_1 @g9.eq_2 @eE.eq_1 @eE.eq_2 @bJ @f5 @r2 @r3 @r4 @s2 @s3 @s4 @u2 @u3 @u4 @cG @h0 @h3 @h4 @h5 @tU) ?_
  refine aY (by simp[dH];exact Is.rfl) ?_
  exact ⟨D - 1,by omega,j+1,c5+1,_,_,by omega,by simp,bK (by simp[dI,dL,dH]) rfl⟩
 ·simp at hb
  have eM:j=l.length:=by omega
  rw[eM,List.take_length] at hx
  refine tF (jn @aB @aA) ?_
  have gM:=jH (look:=bD.get) (id:=0) (g:=g) (ro:=false) (cap:=none) (oG l) hx
  rw[cQ,←eM] at gM
  exact ⟨.inr rfl,_,[0],rfl,gM⟩
end Go.Ac
end
section
set_option maxRecDepth 4000
namespace Go.Ac
open Go.Proofs
attribute [local simp] Hp.get_set bW
theorem tA (look:cA) {sz:Nat} {l:List (List D)} (hr:∀ r∈l,r.length=sz):iM look sz (.d (.slice l))=some (l.length,fl l,[]):=by
 have h:l.all (fun r=>Nat.beq r.length sz)=true:=by
  rw[List.all_eq_true];intro r h1;rw[hr r h1];simp
 unfold iM
 simp only[h]
 rfl
theorem aBj (l:List En):∀ r∈fW l,r.length=2:=by unfold fW;intro r hr;obtain ⟨x,_,rfl⟩:=List.mem_map.1 hr;rfl
theorem aHW (l:List En) (x:En):fW l++[x.cells]=fW (l++[x]):=by simp[fW]
theorem iC (l:List Dc):∀ r∈cM l,r.length=3:=by unfold cM;intro r hr;obtain ⟨x,_,rfl⟩:=List.mem_map.1 hr;rfl
theorem wS (l:List Mm):∀ r∈lA l,r.length=3:=by unfold lA;intro r hr;obtain ⟨x,_,rfl⟩:=List.mem_map.1 hr;rfl
theorem xD (l:List Ii):∀ r∈mD l,r.length=2:=by unfold mD;intro r hr;obtain ⟨x,_,rfl⟩:=List.mem_map.1 hr;rfl
theorem aHH (l:List Cl) (x:Cl):gA l++[x.cells]=gA (l++[x]):=by simp[gA]
theorem aWz (r:Nat):Ob.keep 36 r=Ob.k36 r:=by kernel_rfl
attribute [local simp] aWz Ob.k36
set_option maxHeartbeats 8000000 in
theorem aQD (o:Oc) (gB:o.sz≤2097152):d7 Tryz.prog Ob.cfg 36 [aG o.cells]=some (aG o.cells):=by
 unfold Oc.sz at gB
 have k1:=aCg o.en
 have k2:=lI o.cl
 refine bF Tryz.func36 rfl (by kernel_rfl) rfl rfl ?_
 refine tF (j9 @aN @aO @aD @aL @aB @aA @aH @aI @zK) ?_
 apply WP.loop' (I:=fun D s=>∃ (j g c':Nat) (bD:Hp),j+D=o.en.length∧bD.get 0=some ⟨0,false,[V.d (.slice (fW o.en)),V.d (.slice (gA o.cl))]⟩∧bD.get 1=some ⟨1,false,[.full [],.full []]⟩∧bD.get 2=some ⟨2,false,[.osl 3 g 0 j 2 none,.osl 4 4 0 0 7 none]⟩∧bD.get 3=some ⟨g,false,fl (fW (o.en.take j))⟩∧bD.get 4=some ⟨4,false,[]⟩∧
  s=⟨[(1,.ptr 0 0 0),(2,.ptr 1 1 0),(3,.ptr 2 2 0),(9,dL (fW o.en)),(10,dI o.en.length),(11,dI j)],bD,5,c',0,[]⟩) (d:=o.en.length)
 ·exact ⟨0,3,_,_,by simp,rfl,rfl,rfl,rfl,rfl,bK (by simp[dI,dL]) rfl⟩
 rintro D _ ⟨j,g,c',bD,hj,h0,h1,h2,h3,h4,rfl⟩
 refine aLT (jn @aB @aA) ?_
 show WP _ _ _ _ _ _
 refine WP.cond _ rfl (fun hb=>?_) (fun hb=>?_)
 ·simp at hb
  have bR:j<o.en.length:=by omega
  obtain ⟨d,hd,d9,bS⟩:=bL bR
  have cF:=xH hd
  have dH:=bG bR (by omega)
  have hms:=aNK d9
  unfold En.sz at hms
  have hos:=oB d.tags
  have hsn:=bM hd
  have pL:(o.en.take j).length=j:=by simp;omega
  have r2:=cT (aBj (o.en.take j))
  have r3:=cL (aBj (o.en.take j))
  have r4:=dW (fW (o.en.take j)) d.cells
  have r5:=aHW (o.en.take j) d
  have f5:bT (j+1) 40=true:=by simp[bT];omega
  rw[r5,←hsn] at r4
  rw[zK,pL] at r2 r3
  simp only[En.cells,List.map_cons,List.map_nil] at r4
  have fS:bT d.tags.length 16=true:=by simp[bT];omega
  have s0:=fun look=>tA look (cP d.tags)
  have s2:=cT (cP d.tags)
  have s3:=cL (cP d.tags)
  have s4:=eJ (cP d.tags)
  rw[aW,Nat.mul_one] at s2 s3
  rw[aW] at s0 s4
  repeat (first
 | apply WP.seq
 | (apply WP.reg;(case hR=>dsimp only [e8,eA,List.map,gS,gZ];exact iZ);(case hr=>(repeat (first
 | (apply RT.op;simp[dI,dL,bS,cF,En.cells,bN,bC,iE,bI,b8,g9,eE,bJ,f5,r2,r3,r4,s0,s2,s3,s4,fS,cG,fD,h0,h1,h2,h3,h4];exact iZ;(try dsimp only [a8]) <;> exact rfl)
 | (apply RT.call;(iterate 2 simp;exact iZ);exact iZ;(iterate 4 simp[dI,dL,bS,cF,En.cells,bN,bC,iE,bI,b8,g9,eE,bJ,f5,r2,r3,r4,s0,s2,s3,s4,fS,cG,fD,h0,h1,h2,h3,h4];exact iZ);simp[Is];(try dsimp only [a8]) <;> exact rfl;simp;exact iZ;simp;exact iZ)
 | (apply RT.clone;(iterate 2 simp;exact iZ);exact iZ;(iterate 2 simp[dI,dL,bS,cF,En.cells,bN,bC,iE,bI,b8,g9,eE,bJ,f5,r2,r3,r4,s0,s2,s3,s4,fS,cG,fD,h0,h1,h2,h3,h4];exact iZ);(first|assumption|(simp[bT];omega));(try dsimp only [a8]) <;> exact rfl;simp[dI,dL,bS,cF,En.cells,bN,bC,iE,bI,b8,g9,eE,bJ,f5,r2,r3,r4,s0,s2,s3,s4,fS,cG,fD,h0,h1,h2,h3,h4];exact iZ;simp;exact iZ)
 | (apply RT.callV;(iterate 2 simp;exact iZ);exact iZ;(iterate 3 simp[dI,dL,bS,cF,En.cells,bN,bC,iE,bI,b8,g9,eE,bJ,f5,r2,r3,r4,s0,s2,s3,s4,fS,cG,fD,h0,h1,h2,h3,h4];exact iZ);(try dsimp only [a8]) <;> exact rfl)
 | (apply RT.wr;simp[dI,dL,bS,cF,En.cells,bN,bC,iE,bI,b8,g9,eE,bJ,f5,r2,r3,r4,s0,s2,s3,s4,fS,cG,fD,h0,h1,h2,h3,h4];exact iZ;(try dsimp only [a8]) <;> exact rfl;simp[dI,dL,bS,cF,En.cells,bN,bC,iE,bI,b8,g9,eE,bJ,f5,r2,r3,r4,s0,s2,s3,s4,fS,cG,fD,h0,h1,h2,h3,h4];exact iZ;(iterate 2 exact iZ);simp;exact iZ)));exact RT.nil);(case hc=>first|(refine c8 [(0,2),(1,2),(0,3),(1,3),(0,4),(1,4),(2,4),(3,4),(0,5),(1,5),(2,5),(3,5),(0,6),(1,6),(2,6),(3,6),(0,7),(1,7),(0,8),(1,8)] (by kernel_rfl) (by kernel_rfl) rfl ?_;simp[lF,jX,dY];done)|(show _=_;kernel_rfl));(case ht=>simp[dI,dL,bS,cF,En.cells,bN,bC,iE,bI,b8,g9,eE,bJ,f5,r2,r3,r4,s0,s2,s3,s4,fS,cG,fD,h0,h1,h2,h3,h4];exact iZ))
 | apply WP.block|apply WP.skip|apply WP.exit|apply WP.ret|refine WP.condT rfl ?_|refine WP.condF rfl ?_)
  refine aY (by simp[dH];exact Is.rfl) ?_
  exact ⟨D - 1,by omega,j+1,c'+3,_,_,by omega,by simp[h0],by simp[h1],by simp,by simp,by simp[h4],bK (by simp[dI,dL,dH]) rfl⟩
 simp at hb
 have eM:j=o.en.length:=by omega
 rw[eM,List.take_length] at h3
 refine tF (j8 @aB @aA @h0 @h1 @h2 @h3 @h4 @mY) ?_
 apply WP.loop' (I:=fun D s=>∃ (k g2 c5:Nat) (lG:Hp),k+D=o.cl.length∧lG.get 1=some ⟨1,false,[.full [],.full []]⟩∧lG.get 2=some ⟨2,false,[.osl 3 g 0 j 2 none,.osl 4 g2 0 k 7 none]⟩∧lG.get 3=some ⟨g,false,fl (fW o.en)⟩∧lG.get 4=some ⟨g2,false,fl (gA (o.cl.take k))⟩∧
  s=⟨[(2,.ptr 1 1 0),(3,.ptr 2 2 0),(28,dL (gA o.cl)),(29,dI o.cl.length),(30,dI k)],lG,5,c5,0,[]⟩) (d:=o.cl.length)
 ·exact ⟨0,4,_,_,by simp,h1,h2,h3,by rw[h4];rfl,bK (by simp[dI,dL]) rfl⟩
 clear h0 h1 h2 h3 h4 hb hj
 rintro D2 _ ⟨k,g2,c5,lG,hk,h1,h2,h3,h4,rfl⟩
 refine aLT (jn @aB @aA) ?_
 show WP _ _ _ _ _ _
 refine WP.cond _ rfl (fun hb=>?_) (fun hb=>?_)
 ·simp at hb
  have bR:k<o.cl.length:=by omega
  obtain ⟨d,hd,d9,bS⟩:=bL bR
  have cF:=kU hd
  have tQ:=bG bR (by omega)
  have hms:=pS d9
  unfold Cl.sz at hms
  have yT:=kT d.inn
  have hl2:=kT d.out
  have hl3:=kT d.loc
  have hl4:=uE d.mems
  have hl5:=sG d.ins
  have hcy:=aQN _ d.step (Nat.lt_succ_self _) (by omega)
  simp only[dL] at hcy
  have hsn:=bM hd
  have pL:(o.cl.take k).length=k:=by simp;omega
  have r2:=cT (vS (o.cl.take k))
  have r3:=cL (vS (o.cl.take k))
  have r4:=dW (gA (o.cl.take k)) d.cells
  have r5:=aHH (o.cl.take k) d
  have f5:bT (k+1) 160=true:=by simp[bT];omega
  rw[r5,←hsn] at r4
  rw[mY,pL] at r2 r3
  simp only[Cl.cells,List.map_cons,List.map_nil] at r4
  have fta:bT d.inn.length 48=true:=by simp[bT];omega
  have ta0:=fun look=>tA look (iC d.inn)
  have ta2:=cT (iC d.inn)
  have ta3:=cL (iC d.inn)
  have ta4:=eJ (iC d.inn)
  rw[bP] at ta0 ta2 ta3 ta4
  have ftb:bT d.out.length 48=true:=by simp[bT];omega
  have tb0:=fun look=>tA look (iC d.out)
  have tb2:=cT (iC d.out)
  have tb3:=cL (iC d.out)
  have tb4:=eJ (iC d.out)
  rw[bP] at tb0 tb2 tb3 tb4
  have ftc:bT d.loc.length 48=true:=by simp[bT];omega
  have tc0:=fun look=>tA look (iC d.loc)
  have tc2:=cT (iC d.loc)
  have tc3:=cL (iC d.loc)
  have tc4:=eJ (iC d.loc)
  rw[bP] at tc0 tc2 tc3 tc4
  have ftd:bT d.mems.length 32=true:=by simp[bT];omega
  have td0:=fun look=>tA look (wS d.mems)
  have td2:=cT (wS d.mems)
  have td3:=cL (wS d.mems)
  have td4:=eJ (wS d.mems)
  rw[lC] at td0 td2 td3 td4
  have fte:bT d.ins.length 32=true:=by simp[bT];omega
  have te0:=fun look=>tA look (xD d.ins)
  have te2:=cT (xD d.ins)
  have te3:=cL (xD d.ins)
  have te4:=eJ (xD d.ins)
  rw[lD] at te0 te2 te3 te4
  repeat (first
 | apply WP.seq
 | (apply WP.reg;(case hR=>dsimp only [e8,eA,List.map,gS,gZ];exact iZ);(case hr=>(repeat (first
 | (apply RT.op;simp[dI,dL,bS,cF,Cl.cells,bN,bC,iE,bI,b8,g9,eE,bJ,f5,r2,r3,r4,ta0,ta2,ta3,ta4,fta,tb0,tb2,tb3,tb4,ftb,tc0,tc2,tc3,tc4,ftc,td0,td2,td3,td4,ftd,te0,te2,te3,te4,fte,hcy,cG,fD,h1,h2,h3,h4];exact iZ;(try dsimp only [a8]) <;> exact rfl)
 | (apply RT.call;(iterate 2 simp;exact iZ);exact iZ;(iterate 4 simp[dI,dL,bS,cF,Cl.cells,bN,bC,iE,bI,b8,g9,eE,bJ,f5,r2,r3,r4,ta0,ta2,ta3,ta4,fta,tb0,tb2,tb3,tb4,ftb,tc0,tc2,tc3,tc4,ftc,td0,td2,td3,td4,ftd,te0,te2,te3,te4,fte,hcy,cG,fD,h1,h2,h3,h4];exact iZ);simp[Is];(try dsimp only [a8]) <;> exact rfl;simp;exact iZ;simp;exact iZ)
 | (apply RT.clone;(iterate 2 simp;exact iZ);exact iZ;(iterate 2 simp[dI,dL,bS,cF,Cl.cells,bN,bC,iE,bI,b8,g9,eE,bJ,f5,r2,r3,r4,ta0,ta2,ta3,ta4,fta,tb0,tb2,tb3,tb4,ftb,tc0,tc2,tc3,tc4,ftc,td0,td2,td3,td4,ftd,te0,te2,te3,te4,fte,hcy,cG,fD,h1,h2,h3,h4];exact iZ);(first|assumption|(simp[bT];omega));(try dsimp only [a8]) <;> exact rfl;simp[dI,dL,bS,cF,Cl.cells,bN,bC,iE,bI,b8,g9,eE,bJ,f5,r2,r3,r4,ta0,ta2,ta3,ta4,fta,tb0,tb2,tb3,tb4,ftb,tc0,tc2,tc3,tc4,ftc,td0,td2,td3,td4,ftd,te0,te2,te3,te4,fte,hcy,cG,fD,h1,h2,h3,h4];exact iZ;simp;exact iZ)
 | (apply RT.callV;(iterate 2 simp;exact iZ);exact iZ;(iterate 3 simp[dI,dL,bS,cF,Cl.cells,bN,bC,iE,bI,b8,g9,eE,bJ,f5,r2,r3,r4,ta0,ta2,ta3,ta4,fta,tb0,tb2,tb3,tb4,ftb,tc0,tc2,tc3,tc4,ftc,td0,td2,td3,td4,ftd,te0,te2,te3,te4,fte,hcy,cG,fD,h1,h2,h3,h4];exact iZ);(try dsimp only [a8]) <;> exact rfl)
 | (apply RT.wr;simp[dI,dL,bS,cF,Cl.cells,bN,bC,iE,bI,b8,g9,eE,bJ,f5,r2,r3,r4,ta0,ta2,ta3,ta4,fta,tb0,tb2,tb3,tb4,ftb,tc0,tc2,tc3,tc4,ftc,td0,td2,td3,td4,ftd,te0,te2,te3,te4,fte,hcy,cG,fD,h1,h2,h3,h4];exact iZ;(try dsimp only [a8]) <;> exact rfl;simp[dI,dL,bS,cF,Cl.cells,bN,bC,iE,bI,b8,g9,eE,bJ,f5,r2,r3,r4,ta0,ta2,ta3,ta4,fta,tb0,tb2,tb3,tb4,ftb,tc0,tc2,tc3,tc4,ftc,td0,td2,td3,td4,ftd,te0,te2,te3,te4,fte,hcy,cG,fD,h1,h2,h3,h4];exact iZ;(iterate 2 exact iZ);simp;exact iZ)));exact RT.nil);(case hc=>first|(refine c8 [(0,2),(1,2),(0,3),(1,3),(0,4),(1,4),(2,4),(3,4),(0,5),(1,5),(2,5),(3,5),(0,6),(1,6),(2,6),(3,6),(0,7),(1,7),(2,7),(3,7),(4,7),(5,7),(6,7),(0,8),(1,8),(2,8),(3,8),(4,8),(5,8),(6,8),(0,9),(1,9),(2,9),(3,9),(0,10),(1,10),(2,10),(3,10),(4,10),(5,10),(6,10),(7,10),(8,10),(9,10),(0,11),(1,11),(2,11),(3,11),(4,11),(5,11),(6,11),(7,11),(8,11),(9,11),(0,12),(1,12),(2,12),(3,12),(0,13),(1,13),(2,13),(3,13),(4,13),(5,13),(6,13),(7,13),(8,13),(9,13),(10,13),(11,13),(12,13),(0,14),(1,14),(2,14),(3,14),(4,14),(5,14),(6,14),(7,14),(8,14),(9,14),(10,14),(11,14),(12,14),(0,15),(1,15),(2,15),(3,15),(0,16),(1,16),(2,16),(3,16),(4,16),(5,16),(6,16),(7,16),(8,16),(9,16),(10,16),(11,16),(12,16),(13,16),(14,16),(15,16),(0,17),(1,17),(2,17),(3,17),(4,17),(5,17),(6,17),(7,17),(8,17),(9,17),(10,17),(11,17),(12,17),(13,17),(14,17),(15,17),(0,18),(1,18),(2,18),(3,18),(0,19),(1,19),(2,19),(3,19),(4,19),(5,19),(6,19),(7,19),(8,19),(9,19),(10,19),(11,19),(12,19),(13,19),(14,19),(15,19),(16,19),(17,19),(18,19),(0,20),(1,20),(2,20),(3,20),(4,20),(5,20),(6,20),(7,20),(8,20),(9,20),(10,20),(11,20),(12,20),(13,20),(14,20),(15,20),(16,20),(17,20),(18,20),(0,21),(1,21),(2,21),(3,21),(0,22),(1,22),(0,23),(1,23)] (by kernel_rfl) (by kernel_rfl) rfl ?_;simp[lF,jX,dY];done)|(show _=_;kernel_rfl));(case ht=>simp[dI,dL,bS,cF,Cl.cells,bN,bC,iE,bI,b8,g9,eE,bJ,f5,r2,r3,r4,ta0,ta2,ta3,ta4,fta,tb0,tb2,tb3,tb4,ftb,tc0,tc2,tc3,tc4,ftc,td0,td2,td3,td4,ftd,te0,te2,te3,te4,fte,hcy,cG,fD,h1,h2,h3,h4];exact iZ))
 | apply WP.block|apply WP.skip|apply WP.exit|apply WP.ret|refine WP.condT rfl ?_|refine WP.condF rfl ?_)
  refine aY (by simp[tQ];exact Is.rfl) ?_
  refine ⟨D2 - 1,by omega,k+1,?_,_,_,by omega,by simp[h1],by simp;rfl,by simp[h3],by simp,bK (by simp[dI,dL,tQ]) rfl⟩
 simp at hb
 have tU:k=o.cl.length:=by omega
 rw[tU,List.take_length] at h4
 refine tF (j6 @aB @aA @h1 @h2 @h3 @h4) ?_
 have x3:(lG.set 1 ⟨1,false,[.osl 3 g 0 j 2 none,.osl 4 g2 0 k 7 none]⟩).get 3=some ⟨g,false,fl (fW o.en)⟩:=by simp[h3]
 have x4:(lG.set 1 ⟨1,false,[.osl 3 g 0 j 2 none,.osl 4 g2 0 k 7 none]⟩).get 4=some ⟨g2,false,fl (gA o.cl)⟩:=by simp[h4]
 have q3:=jH (cap:=none) (aBj o.en) x3
 have q4:=jH (cap:=none) (vS o.cl) x4
 rw[zK,←eM] at q3
 rw[mY,←tU] at q4
 refine ⟨.inr rfl,[.agg [.osl 3 g 0 j 2 none,.osl 4 g2 0 k 7 none]],[3,4],?_,?_⟩
 ·show f9 Tryz.prog _ [_]=_
  simp[f9,zM]
 have q3':gW (lG.set 1 ⟨1,false,[.osl 3 g 0 j 2 none,.osl 4 g2 0 k 7 none]⟩).get (.osl 3 g 0 j 2 none)=some (dL (fW o.en),[3]):=q3
 have q4':gW (lG.set 1 ⟨1,false,[.osl 3 g 0 j 2 none,.osl 4 g2 0 k 7 none]⟩).get (.osl 4 g2 0 k 7 none)=some (dL (gA o.cl),[4]):=q4
 show (match fA (gW (lG.set 1 ⟨1,false,[.osl 3 g 0 j 2 none,.osl 4 g2 0 k 7 none]⟩).get) [.osl 3 g 0 j 2 none,.osl 4 g2 0 k 7 none] with|some (xs,r)=>some (V.agg xs,r)|none=>none)=_
 simp only[fA,q3',q4']
 rfl
end Go.Ac
end
section
set_option maxRecDepth 4000
namespace Go.Ac
open Go.Proofs
attribute [local simp] Hp.get_set iF
theorem aIc {l:List Cl} {x:Tx} (h:(cX l x).2=false):ixP (fun d:Cl=>decide (d.nm=x)) l= -1:=by
 unfold cX at h
 unfold ixP
 cases hf:l.find? (fun d=>decide (d.nm=x)) with
 | some d=>rw[hf] at h;cases h
 | none=>
  rw[List.find?_eq_none] at hf
  have:List.findIdx? (fun d:Cl=>decide (d.nm=x)) l=none:=by
   rw[List.findIdx?_eq_none_iff]
   intro y hy
   have:=hf y hy
   simpa using this
  rw[this]
theorem aVX (r:Nat):Ob.keep 13 r=Ob.k13 r:=by kernel_rfl
attribute [local simp] aVX Ob.k13
section
variable (o:Oc) (nm:Tx) (gB:o.sz≤2097152) (cE:o.ok)
include gB cE
theorem aKh (h:dE o≠0):d7 Tryz.prog Ob.cfg 13 [aG o.cells,dS nm]=some (.tuple [.con (.pointer none),dI (dE o)]):=by
 have hc:=aAM o gB cE
 simp only[aG,Oc.cells,List.map_cons,List.map_nil,dI] at hc
 refine bF Tryz.func13 rfl (by kernel_rfl) rfl rfl ?_
 refine kZ (j7 @aB @aM @aD @aL @hc @h @aV) ?_
 show a7 _ _ _ _ _
 exact ⟨.inr rfl,_,_,rfl,rfl⟩
theorem aHU (h:dE o=0) (hf:(cX o.cl nm).2=false):d7 Tryz.prog Ob.cfg 13 [aG o.cells,dS nm]=some (.tuple [.con (.pointer none),dI 6]):=by
 have hc:=aAM o gB cE
 unfold Oc.sz at gB
 have k2:=lI o.cl
 have hx:=aIe o nm (by unfold MX;omega)
 rw[aIc hf] at hx
 rw[h] at hc
 simp only[aG,Oc.cells,List.map_cons,List.map_nil,dI,dS] at hc hx
 refine bF Tryz.func13 rfl (by kernel_rfl) rfl rfl ?_
 refine kZ (j7 @aB @aM @aD @aL @hc @hx @aV) ?_
 show a7 _ _ _ _ _
 exact ⟨.inr rfl,_,_,rfl,rfl⟩
theorem aLu (h:dE o=0) (hf:(cX o.cl nm).2=true):∃ (q:CR) (p:Pt),m9 Tryz.prog Ob.cfg 13 [aG o.cells,dS nm] [] 0 0=some q∧q.v= .tuple [.ptr p.a.x p.a.gx 0,dI 0]∧Lies o.en (iO o o.cl.length (cX o.cl nm).1) p q.hp q.n:=by
 have hc:=aAM o gB cE
 have hcp:=aQD o gB
 obtain ⟨i,hxi,hia,_⟩:=aAb hf
 have aDO:=(List.getElem?_eq_some_iff.1 hia).1
 obtain ⟨q,p,hI1,hqv,tR⟩:=aPS h gB (i+1) i _ (Nat.lt_succ_self i) hia
 rw[←nT h o.cl.length o.cl.length i _ (Nat.le_refl _) hia aDO] at tR
 unfold Oc.sz at gB
 have k2:=lI o.cl
 have hx:=aIe o nm (by unfold MX;omega)
 rw[hxi] at hx
 rw[h] at hc
 have hi0:=eq_false (show ¬ (i:Int)<0 by omega)
 simp only[aG,Oc.cells,List.map_cons,List.map_nil,dI,dS] at hc hx hcp hI1
 have hI2:dZ eW q.v=none:=by rw[hqv];rfl
 have main:∃ (v:V) (t:St),m9 Tryz.prog Ob.cfg 13 [aG o.cells,dS nm] [] 0 0=some ⟨v,t.hp,t.n,t.c,t.wl⟩∧∃ p:Pt,v= .tuple [.ptr p.a.x p.a.gx 0,dI 0]∧Lies o.en (iO o o.cl.length (cX o.cl nm).1) p t.hp t.n:=by
  refine wG (Q:=fun v (t:St)=>∃ p:Pt,v= .tuple [.ptr p.a.x p.a.gx 0,dI 0]∧Lies o.en (iO o o.cl.length (cX o.cl nm).1) p t.hp t.n) Tryz.func13 rfl (by kernel_rfl) ?_
  refine kZ (uQ @aN @aO @aB @aM @aD @aL @hc @hx @hcp @aV @hi0) ?_
  obtain ⟨p2,fP⟩:∃ p2,p2=p.sh 1 1:=⟨_,rfl⟩
  have hI3:cS 1 1 q.v= .ptr p2.a.x p2.a.gx 0:=by rw[hqv,fP,Pt.sh_a];simp[cS,Pb.sh]
  obtain ⟨W1,xK⟩:∃ W,hZ 1 1 (jZ q.hp.get (List.range q.n))=W:=⟨_,rfl⟩
  have hL2:Lies o.en (iO o o.cl.length (cX o.cl nm).1) p2 (Hp.sets [(0,⟨0,false,[V.d (.slice (fW o.en)),V.d (.slice (gA o.cl))]⟩)] W1) (q.n+1):=by rw[←xK,fP];exact tR.import
  refine kZ (j3 @aB @aA @hcp) ?_
  refine ⟨.inr rfl,_,rfl,.inr rfl,p2,rfl,hL2.same2 (fun _ _=>rfl) ?_⟩
  show q.n+1≤1+q.n
  omega
 obtain ⟨v,t,h1,p,h2,h3⟩:=main
 exact ⟨_,p,h1,h2,h3⟩
end
end Go.Ac
end
