/- New (the program's). -/
import Derived.Test.YtkgekafdhehleaaGreatObZfM
set_option linter.unusedVariables false
set_option linter.unusedSimpArgs false
section
set_option maxRecDepth 4000
namespace Go.Ac
open Go.Proofs
attribute [local simp] Hp.get_set cY cE cN bW
structure REA (o:Oc) (c:Cl) (p:Pt) (b:Rb) (s:Es) (hp:Hp) (n:Nat):Prop where
 li:RLies o (.mk c s.ms s.sb) p hp n
 ru:RunA b s.vs hp n
 bx:b.x=p.a.x
 bg:b.gx=p.a.gx
 e1:b.r∉cQ p
 e2:b.nn∉cQ p
 e3:b.vv∉cQ p
theorem REA.mono {o:Oc} {c:Cl} {p:Pt} {b:Rb} {s:Es} {hp bB:Hp} {n n':Nat} (h:REA o c p b s hp n) (ha:Ag n hp bB) (hn:n≤n'):REA o c p b s bB n':=
 ⟨h.li.mono ha hn,h.ru.mono ha hn,h.bx,h.bg,h.e1,h.e2,h.e3⟩
theorem aLQ {ms:List (Tx×Int)} {l:List Mm} {nm:Tx} (hk:ms.map Prod.fst=l.map Mm.nm) (hf:eO l nm≠0):(ms.map Prod.snd)[aBC l nm]?=some (gz ms nm)∧aBC l nm<ms.length:=by
 have e9:ms.length=l.length:=by have:=congrArg List.length hk;simpa using this
 unfold aBC
 cases hx:l.findIdx? (fun d=>decide (d.nm=nm)) with
 | none=>
  exfalso
  obtain ⟨m,hm,he,_⟩:=wU hf
  rw[List.findIdx?_eq_none_iff] at hx
  have:=hx m hm
  simp[he] at this
 | some i=>
  obtain ⟨h1,h2,h3⟩:=List.findIdx?_eq_some_iff_getElem.1 hx
  simp only
  have hi:i<ms.length:=by omega
  have key:∀ (k:Nat) (hk1:k<ms.length) (yE:k<l.length),ms[k].1=l[k].nm:=fun k hk1 yE=>by
   have:=List.getElem_of_eq hk (i:=k) (by simpa using hk1)
   simpa using this
  have hgz:gz ms nm=ms[i].2:=by
   refine aHN (j:=i) ?_ (by rw[List.getElem?_eq_getElem hi];congr 1;exact Prod.ext ((key i hi h1).trans (by simpa using h2)) rfl)
   rw[List.all_eq_true]
   intro x hx
   obtain ⟨k,hk1,rfl⟩:=List.getElem_of_mem hx
   simp only[List.length_take] at hk1
   rw[List.getElem_take,key k (by omega) (by omega)]
   have:=h3 k (by omega)
   simpa using this
  rw[hgz,List.getElem?_map,List.getElem?_eq_getElem hi]
  exact ⟨rfl,hi⟩
attribute [local simp] aPB Ob.k129
section
variable {o:Oc} {c:Cl} {p:Pt} {b:Rb} {s:Es}
set_option maxHeartbeats 8000000 in
theorem aGc (gI:CLen c) (hk:s.ms.map Prod.fst=c.mems.map Mm.nm) (hvl:s.vs.length≤4611686018427387904) (bf:List Y) (cx:List Pr):∀ (N:Nat),N≤8388609→∀ x:X,x.sz<N→bS x=true→(eZ ⟨o,c,bf,cx⟩ x).2=0→∀ hp n cc,REA o c p b s hp n→jL Tryz.prog Ob.cfg 129 [.ptr b.r b.gr 0,aG x.cells] hp n cc (dI (uO s.vs s.ms x)):=by
 have gI:=gI.sum
 intro N
 induction N with
 | zero=>intro _ x h;omega
 | succ N ih=>
 intro hNM x hN hf hw hp n cc hK
 obtain ⟨hf1,hf2,hf3⟩:=aAz hf
 have hs0:=X.sz_eq x
 rw[uA] at hw
 split at hw
 ·rename_i hn;exact absurd hw hn
 rename_i hn
 have hks:gA ⟨o,c,bf,cx⟩ x.args=((gA ⟨o,c,bf,cx⟩ x.args).1,0):=by rw[←Decidable.not_not.1 hn]
 obtain ⟨hkl,i6⟩:=aDx _ hks
 have aFo:∀ y,y∈x.args→(eZ ⟨o,c,bf,cx⟩ y).2=0:=fun y hy=>by
  obtain ⟨i,hi⟩:=List.mem_iff_getElem?.1 hy
  have eU:=(List.getElem?_eq_some_iff.1 hi).1
  have hti:(gA ⟨o,c,bf,cx⟩ x.args).1[i]?=some ((gA ⟨o,c,bf,cx⟩ x.args).1[i]'(by omega)):=List.getElem?_eq_getElem (by omega)
  rw[i6 i y _ hi hti]
 have hb:=hK.ru.ob
 have nr:=nf hK.ru.lr
 have nn:=nf hK.ru.ln
 have nv:=nf hK.ru.lv
 refine j1 Tryz.func129 rfl (by kernel_rfl) rfl ?_
 refine cT (j8 @aN @aO @aD @aE @aB @aA @aH @aI) ?_
 apply WP.loop' (I:=fun D st=>∃ (j g c':Nat) (bB:Hp) (L:List Int),j+D=x.args.length∧L=(x.args.take j).map (uO s.vs s.ms)∧Ag n hp bB∧bB.get n=some ⟨cc,false,[V.d (.int .i64 x.k),V.d (.int .i64 x.o),V.d (.int .i64 x.t),V.d (.int .i64 x.v),V.d (.str x.nm),V.d (.slice (gC x.args))]⟩∧bB.get (n+1)=some ⟨g,false,fl (bQ L)⟩∧
  st=⟨[(0,.ptr b.r b.gr 0),(3,.ptr n cc 0),(5,.osl (n+1) g 0 j 1 none),(6,dI j)],bB,n+2,c',n,[]⟩) (d:=x.args.length)
 ·exact ⟨0,cc+1,_,_,[],by simp,by simp,by simp,by simp,by simp[fl,bQ],bK (by simp[dI,dL]) rfl⟩
 rintro D _ ⟨j,g,c',bB,L,hj,hL,dW,lS,jI,rfl⟩
 have dN:=eq_true dW
 refine pS (j4 @aB @aA @lS @aT) ?_
 show WP _ _ _ _ _ _
 refine WP.cond _ rfl (fun hb=>?_) (fun hb=>?_)
 ·simp at hb
  have bP:j<x.args.length:=by omega
  obtain ⟨d,hd,d8,bV⟩:=bM bP
  have cG:=i8 hd
  have c9:=bE bP (by omega)
  obtain ⟨F,G,hF⟩:=fY (C:=fun eW n2=>Ag n hp eW∧n≤n2) (P:=Tryz.prog) (cfg:=Ob.cfg) (f:=129) (vs:=[.ptr b.r b.gr 0,aG d.cells]) (v:=dI (uO s.vs s.ms d)) (fun eW n2 c2 hC=>ih (by omega) d (by have:=dZ d8;omega) (List.all_eq_true.1 hf1 d d8) (aFo d d8) eW n2 c2 (hK.mono hC.1 hC.2))
  have hr:=fun eW n2 c2 a b=>hF eW n2 c2 ⟨a,b⟩
  simp only[aG,aE,List.map_cons,List.map_nil,dI] at hr
  have y6:=bL hd
  have nT:L.length=j:=by rw[hL];simp;omega
  have hLs:(x.args.take (j+1)).map (uO s.vs s.ms)=L++[uO s.vs s.ms d]:=by rw[y6,hL];simp
  have r2:=cR (b7 L)
  have r3:=cI (b7 L)
  have r4:=dT (bQ L) [.int .i64 (uO s.vs s.ms d)]
  have r5:=g7 L (uO s.vs s.ms d)
  have f5:bU (j+1) 8=true:=by simp[bU];omega
  rw[r5] at r4
  rw[aZ,nT,Nat.mul_one] at r2 r3
  simp only[List.map_cons,List.map_nil] at r4
  refine cT (j21 @aB @aA @aE @bV @cG @hr @aH @aI @aP @aQ @iE.eq_def @bG @b8 @bH @f5 @r2 @r3 @r4 @lS @jI @dN) ?_
  refine aY (by simp[c9];exact Is.rfl) ?_
  exact ⟨D - 1,by omega,j+1,_,_,_,_,by omega,hLs.symm,by simp[dW],by simp[lS],by simp;rfl,bK (by simp[dI,dL,c9]) rfl⟩
 simp at hb
 have eE:j=x.args.length:=by omega
 rw[eE,List.take_length,←qF] at hL
 have nT:L.length=x.args.length:=by rw[hL,qF];simp
 have hK':=hK.mono dW (Nat.le_refl n)
 have bP:=hK'.ru.ob
 rw[hK.bx,hK.bg] at bP
 have kD:=hK'.li.ob.2
 have hmo:=hK'.li.mo.2
 simp only[rO,Trn.c,Trn.ms] at kD hmo
 have np:=nf hK.li.ob.1
 have nm:=nf hK.li.mo.1
 rw[aJg,←hL]
 rcases aAC hf with q|q|q|q|q
 ·simp only[evK,q]
  refine cT (j4 @aB @lS @q @aS) ?_
  exact ⟨.inr rfl,rfl,_,[],rfl,rfl,rfl⟩
 ·simp only[evK,q]
  obtain ⟨F,G,hF⟩:=fY (C:=fun eW n2=>Ag n hp eW∧n≤n2) (P:=Tryz.prog) (cfg:=Ob.cfg) (f:=104) (vs:=[.ptr b.r b.gr 0,dS x.nm]) (v:=dI (gz s.vs x.nm)) (fun eW n2 c2 hC=>aFV (hK.ru.mono hC.1 hC.2) hvl x.nm c2)
  have hr:=fun eW n2 c2 a b=>hF eW n2 c2 ⟨a,b⟩
  simp only[dS,dI] at hr
  refine cT (j7 @aB @aM @lS @q @aS @hr @dN) ?_
  exact ⟨.inr rfl,rfl,_,[],rfl,rfl,rfl⟩
 ·simp only[evK,q]
  have hfm:eO c.mems x.nm≠0:=by
   intro e
   unfold gY at hw
   rw[q,if_neg (by omega),if_neg (by omega),if_pos rfl] at hw
   rw[if_pos e] at hw
   simp at hw
  obtain ⟨bV,wB⟩:=aLQ hk hfm
  have hV:=aCQ bV
  have rZ:=kX wB
  obtain ⟨F,G,hF⟩:=fY (C:=fun eW n2=>Ag n hp eW∧n≤n2) (P:=Tryz.prog) (cfg:=Ob.cfg) (f:=130) (vs:=[.ptr p.a.x p.a.gx 0,dS x.nm]) (v:=dI (aBC c.mems x.nm)) (fun eW n2 c2 hC=>aMc (hK.li.mono hC.1 hC.2) (by simp only[Trn.c];omega) x.nm c2)
  have hr:=fun eW n2 c2 a b=>hF eW n2 c2 ⟨a,b⟩
  simp only[dS,dI] at hr
  repeat (first
 | apply WP.seq
 | (apply WP.reg;(case hR=>dsimp only [eV,eA,List.map,gS,gZ];exact iZ);(case hr=>(repeat (first
 | (apply RT.op;simp[dI,dS,lS,q,aS,hr,dN,bP,kD,hmo,rZ,hV];exact iZ;(try dsimp only [a7]) <;> exact rfl)
 | (apply RT.call;(iterate 2 simp;exact iZ);exact iZ;(iterate 4 simp[dI,dS,lS,q,aS,hr,dN,bP,kD,hmo,rZ,hV];exact iZ);simp[Is];(try dsimp only [a7]) <;> exact rfl;simp;exact iZ;simp;exact iZ)
 | (apply RT.callV;(iterate 2 simp;exact iZ);exact iZ;(iterate 3 simp[dI,dS,lS,q,aS,hr,dN,bP,kD,hmo,rZ,hV];exact iZ);(try dsimp only [a7]) <;> exact rfl)
 | (apply RT.wr;simp[dI,dS,lS,q,aS,hr,dN,bP,kD,hmo,rZ,hV];exact iZ;(try dsimp only [a7]) <;> exact rfl;simp[dI,dS,lS,q,aS,hr,dN,bP,kD,hmo,rZ,hV];exact iZ;(iterate 2 exact iZ);simp;exact iZ)));exact RT.nil);(case hc=>first|(refine cW [(0,7),(1,7),(2,7),(3,7),(4,7),(5,7),(6,7),(0,8),(1,8),(2,8),(3,8),(4,8),(5,8),(6,8),(0,9),(1,9),(2,9),(3,9),(4,9),(5,9),(6,9),(0,10),(1,10),(2,10),(3,10),(4,10),(5,10),(6,10),(0,11),(1,11),(2,11),(3,11),(4,11),(5,11),(6,11),(7,11),(8,11),(9,11),(10,11),(0,12),(1,12),(2,12),(3,12),(4,12),(5,12),(6,12),(7,12),(8,12),(9,12),(10,12),(0,13),(1,13),(2,13),(3,13),(4,13),(5,13),(6,13)] (by kernel_rfl) (by kernel_rfl) rfl ?_;simp[lO,jW,dX,nr,nn,nv,np,nm];done)|(show _=_;kernel_rfl));(case ht=>simp[dI,dS,lS,q,aS,hr,dN,bP,kD,hmo,rZ,hV];exact iZ))
 | apply WP.block|apply WP.skip|apply WP.exit|apply WP.ret|refine WP.condT rfl ?_|refine WP.condF rfl ?_)
  exact ⟨.inr rfl,rfl,_,[],rfl,rfl,rfl⟩
 ·have yO:=aKV x.o L (by have:=gV x.args;unfold MX;omega)
  have r2:=cR (b7 L)
  have r3:=cI (b7 L)
  have r4:=eN (b7 L)
  rw[aZ,Nat.mul_one,nT,←eE] at r2 r3
  rw[aZ,nT,←eE] at r4
  simp only[dI,dL] at yO
  simp only[evK,q]
  refine cT (vM @aB @aA @lS @jI @q @aS @yO @bG @b8 @bH @r2 @r3 @r4 @cJ) ?_
  exact ⟨.inr rfl,rfl,_,[],rfl,rfl,rfl⟩
 ·have h3:=hf2 q
  simp only[evK,q]
  rw[h3] at nT eE
  subst eE
  obtain ⟨v0,v1,v2,rfl⟩:∃ v0 v1 v2,L=[v0,v1,v2]:=by
   match L,nT with
   | [a,b,c],_=>exact ⟨a,b,c,rfl⟩
  simp only[List.getD_cons_zero,List.getD_cons_succ]
  have i0:jR 0 3=some 0:=rfl
  have i1:jR 1 3=some 1:=rfl
  have i2:jR 2 3=some 2:=rfl
  rw[show fl (bQ [v0,v1,v2])=[V.d (.int .i64 v0),V.d (.int .i64 v1),V.d (.int .i64 v2)] from rfl] at jI
  by_cases q0:v0=1
  ·have q0':=eq_true q0
   rw[if_pos q0]
   refine cT (j8 @aB @lS @jI @q @aS @i0 @i1 @q0') ?_
   exact ⟨.inr rfl,rfl,_,[],rfl,rfl,rfl⟩
  ·have q0':=eq_false q0
   rw[if_neg q0]
   refine cT (j8 @aB @lS @jI @q @aS @i0 @i2 @q0') ?_
   exact ⟨.inr rfl,rfl,_,[],rfl,rfl,rfl⟩
end
end Go.Ac
end
section
set_option maxRecDepth 4000
namespace Go.Ac
open Go.Proofs
attribute [local simp] Hp.get_set cY cE cN bW
theorem aDy {vs:List (Tx×Int)} {nm:Tx} {j:Nat} {d:Tx×Int} {v:Int} (h:(vs.take j).all (fun p=> !decide (p.1=nm))=true) (hj:vs[j]?=some d) (hd:d.1=nm):jY vs nm v=vs.set j (nm,v):=by
 unfold jY
 rw[aDR h hj (by simp[hd])]
theorem aOb {vs:List (Tx×Int)} {nm:Tx} {v:Int} (h:vs.all (fun p=> !decide (p.1=nm))=true):jY vs nm v=vs++[(nm,v)]:=by
 unfold jY
 rw[aLW h]
theorem aDD (l:List Int) (j:Nat) (v:Int) (h:j<l.length):(fl (bQ l)).take j++V.d (.int .i64 v)::(fl (bQ l)).drop (j+1)=fl (bQ (l.set j v)):=by
 rw[qP,qP,List.map_set,List.set_eq_take_append_cons_drop,if_pos (by simpa using h)]
theorem aOL {vs:List (Tx×Int)} {nm:Tx} {j:Nat} {d:Tx×Int} {v:Int} (hj:vs[j]?=some d) (hd:d.1=nm):(vs.set j (nm,v)).map Prod.fst=vs.map Prod.fst:=by
 rw[List.map_set]
 apply List.ext_getElem
 ·simp
 ·intro i h1 h2
  rw[List.getElem_set]
  split
  ·rename_i e
   subst e
   obtain ⟨g1,g2⟩:=List.getElem?_eq_some_iff.1 hj
   rw[List.getElem_map,g2];exact hd.symm
  ·rfl
attribute [local simp] aPG Ob.k102
set_option maxHeartbeats 4000000 in
theorem aFE {b:Rb} {vs:List (Tx×Int)} {hp:Hp} {n:Nat} (h:RunA b vs hp n) (hl:vs.length≤1099511627776) (nm:Tx) (v:Int) (cc:Nat):yL Tryz.prog Ob.cfg 102 [.ptr b.r b.gr 0,dS nm,dI v] hp n cc (.tuple []) [b.r,b.nn,b.vv] (fun bB=>∃ gn gv,RunA { b with gn:=gn,gv:=gv } (jY vs nm v) bB n):=by
 have hlr:=eq_true h.lr
 have hln:=eq_true h.ln
 have vT:=eq_true h.lv
 have nr:=nf h.lr
 have nn:=nf h.ln
 have nv:=nf h.lv
 have e1:=eq_false h.d1
 have e2:=eq_false h.d2
 have e3:=eq_false h.d3
 have e1':=eq_false h.d1.symm
 have e2':=eq_false h.d2.symm
 have e3':=eq_false h.d3.symm
 refine oP Tryz.func102 rfl (by kernel_rfl) rfl ?_
 refine fK (j4 @aN @aO @aB @aM) ?_
 apply WP.loop' (I:=fun D st=>∃ (j c':Nat) (bB:Hp) (wl:List Nat),j+D=vs.length∧(vs.take j).all (fun p=> !decide (p.1=nm))=true∧Ag n hp bB∧WI [b.r,b.nn,b.vv] n hp wl bB∧
  st=⟨[(0,.ptr b.r b.gr 0),(1,dS nm),(2,dI v),(6,dI j)],bB,n,c',n,wl⟩) (d:=vs.length)
 ·exact ⟨0,_,_,_,by simp,by simp,Ag.refl _ _,WI.refl,bK (by simp[dI,dS]) rfl⟩
 rintro D _ ⟨j,c',bB,wl,hj,cF,dW,d6,rfl⟩
 have h':=h.mono dW (Nat.le_refl n)
 have fN:=h'.ob
 have aBN:=h'.nm
 have aIb:=h'.vl
 refine aDJ (j5 @aB @aM @fN @aBN @aIb) ?_
 show WP _ _ _ _ _ _
 refine WP.cond _ rfl (fun hb=>?_) (fun hb=>?_)
 ·simp at hb
  have bP:j<vs.length:=by omega
  obtain ⟨p,sJ,hpm,bV⟩:=bM bP
  have c9:=bE bP (by omega)
  have hS:=aKs (l:=vs.map Prod.fst) (j:=j) (x:=p.1) (by simp[sJ])
  have hlV:(fl (bQ (vs.map Prod.snd))).length=vs.length:=by rw[qP];simp
  have hs:=bZ (p:=fun p:Tx×Int=> !decide (p.1=nm)) sJ
  by_cases q:p.1=nm
  ·have q':=eq_true q
   have hj1:=eq_true (show j+1≤vs.length by omega)
   have hj2:=eq_true bP
   refine fK (nB @aB @aM @fN @aBN @aIb @bV @hS @hlV @bF @q' @hlr @hln @vT @bH @hj1 @hj2) ?_
   rw[aDy cF sJ q]
   refine ⟨.inr rfl,[],[],rfl,rfl,rfl,WI.set d6 (.inl (by simp)),b.gn,b.gv,?_⟩
   refine ⟨?_,?_,?_,h.lr,h.ln,h.lv,h.d1,h.d2,h.d3⟩
   ·rw[List.length_set];simp[h.lr,e2',fN]
   ·rw[aOL sJ q];simp[h.ln,e3',aBN]
   ·rw[List.map_set,←aDD _ _ _ (by simpa using bP)];simp[h.lv]
  ·have q':=eq_false q
   refine fK (j9 @aB @aM @fN @aBN @aIb @bV @hS @bF @q') ?_
   refine aY (by simp[-a9,c9];exact Is.rfl) ?_
   exact ⟨D - 1,by omega,j+1,_,_,_,by omega,by rw[hs,cF];simp[q],by simp[dW],WI.trunc d6 (Nat.le_refl _),bK (by simp[dI,dS,c9]) rfl⟩
 ·simp at hb
  have eE:j=vs.length:=by omega
  rw[eE,List.take_length] at cF
  rw[aOb cF]
  have r2:=cR (b7 (vs.map Prod.snd))
  have r3:=cI (b7 (vs.map Prod.snd))
  have r4:=dT (bQ (vs.map Prod.snd)) [.int .i64 v]
  have r5:=g7 (vs.map Prod.snd) v
  have s2:=cR (cU (vs.map Prod.fst))
  have s3:=cI (cU (vs.map Prod.fst))
  have s4:=dT (eX (vs.map Prod.fst)) [.str nm]
  have s5:=jD (vs.map Prod.fst) nm
  have f5:bU (vs.length+1) 8=true:=by simp[bU];omega
  have f6:bU (vs.length+1) 16=true:=by simp[bU];omega
  rw[r5] at r4
  rw[s5] at s4
  rw[aZ,List.length_map,Nat.mul_one] at r2 r3
  rw[aW,List.length_map,Nat.mul_one] at s2 s3
  simp only[List.map_cons,List.map_nil] at r4 s4
  have lr1:=eq_true (show b.r<n+1 by have:=h.lr;omega)
  have ln1:=eq_true (show b.nn<n+1 by have:=h.ln;omega)
  have lv1:=eq_true (show b.vv<n+1 by have:=h.lv;omega)
  have lr2:=eq_true (show b.r<n+2 by have:=h.lr;omega)
  have lv2:=eq_true (show b.vv<n+2 by have:=h.lv;omega)
  refine fK (j39 @aB @aM @fN @aBN @aIb @aH @aI @Value.oneCell'.eq_def @aP @aQ @iE.eq_def @bG @b8 @bH @f5 @f6 @r2 @r3 @r4 @s2 @s3 @s4 @hlr @hln @vT @lr1 @ln1 @lv1 @lr2 @lv2 @nr @nn @nv @e1 @e2 @e3 @e1' @e2' @e3') ?_
  refine ⟨.inl rfl,[],[],rfl,rfl,rfl,(by repeat' (first|exact d6|(refine WI.set ?_ (.inr (by omega)))|(refine WI.set ?_ (.inl (by simp))))),c'+1,c'+3,?_⟩
  refine ⟨?_,?_,?_,h.lr,h.ln,h.lv,h.d1,h.d2,h.d3⟩
  ·simp[h.lr]
  ·simp[h.ln,e1,e3,e3',nn]
  ·simp[h.lv,e2,nv]
end Go.Ac
end
section
set_option maxRecDepth 4000
namespace Go.Ac
open Go.Proofs
attribute [local simp] Hp.get_set bW
theorem aAV (l:List X):∀ r∈gC l,r.length=6:=by rw[rT];intro r hr;obtain ⟨x,_,rfl⟩:=List.mem_map.1 hr;rw[aE];rfl
theorem aJe (l:List X) (x:X):gC l++[x.cells]=gC (l++[x]):=by simp[rT]
theorem aVA (r:Nat):Ob.keep 122 r=Ob.k122 r:=by kernel_rfl
attribute [local simp] aVA Ob.k122
set_option maxHeartbeats 4000000 in
theorem aJR:∀ (N:Nat) (l:List X),szX l<N→szX l≤8388608→eJ Tryz.prog Ob.cfg 122 [dL (gC l)]=some (dL (gC l)):=by
 intro N
 induction N with
 | zero=>intro l h;omega
 | succ N ih=>
 intro l hN hM
 have e9:=gV l
 refine bI Tryz.func122 rfl (by kernel_rfl) rfl rfl ?_
 refine bA (j6 @aN @aO @aA @aH @aI @aT) ?_
 apply WP.loop' (I:=fun D s=>∃ (j g c':Nat) (bB:Hp),j+D=l.length∧bB.get 0=some ⟨g,false,fl (gC (l.take j))⟩∧
  s=⟨[(3,.osl 0 g 0 j 6 none),(6,dL (gC l)),(7,dI l.length),(8,dI j)],bB,1,c',0,[]⟩) (d:=l.length)
 ·exact ⟨0,0,_,_,by simp,by simp[fl,gC],bK (by simp[dI,dL]) rfl⟩
 rintro D _ ⟨j,g,c',bB,hj,hx,rfl⟩
 refine wk (jn @aB @aA) ?_
 show WP _ _ _ _ _ _
 refine WP.cond _ rfl (fun hb=>?_) (fun hb=>?_)
 ·simp at hb
  have bP:j<l.length:=by omega
  obtain ⟨d,hd,d8,bV⟩:=bM bP
  have cG:=i8 hd
  have c9:=bE bP (by omega)
  have hs0:=X.sz_eq d
  have hms:=dZ d8
  have hc:=ih d.args (by omega) (by omega)
  simp only[dL] at hc
  have y6:=bL hd
  have nT:(l.take j).length=j:=by simp;omega
  have r2:=cR (aAV (l.take j))
  have r3:=cI (aAV (l.take j))
  have r4:=dT (gC (l.take j)) d.cells
  have r5:=aJe (l.take j) d
  have f5:bU (j+1) 72=true:=by simp[bU];omega
  rw[r5,←y6,aE] at r4
  rw[aT,nT] at r2 r3
  simp only[List.map_cons,List.map_nil] at r4
  refine bA (j19 @aB @aA @aE @bV @cG @hc @aH @aI @aP @aQ @iE.eq_def @bG @b8 @bH @f5 @r2 @r3 @r4 @hx) ?_
  refine aY (by simp[c9];exact Is.rfl) ?_
  exact ⟨D - 1,by omega,j+1,_,_,_,by omega,by simp;rfl,bK (by simp[dI,dL,c9]) rfl⟩
 ·simp at hb
  have eE:j=l.length:=by omega
  rw[eE,List.take_length] at hx
  refine bA (jn @aB @aA) ?_
  have gI:=jA (look:=bB.get) (id:=0) (g:=g) (ro:=false) (cap:=none) (aAV l) hx
  rw[aT,←eE] at gI
  exact ⟨.inr rfl,_,[0],rfl,gI⟩
end Go.Ac
end
section
set_option maxRecDepth 4000
namespace Go.Ac
open Go.Proofs
attribute [local simp] Hp.get_set bW
theorem pL (look:cA) (l:List Tx):iU look 1 (.d (.slice (eX l)))=some (l.length,fl (eX l),[]):=by
 have h:(eX l).all (fun r=>Nat.beq r.length 1)=true:=by
  rw[List.all_eq_true];intro r hr;rw[cU l r hr];rfl
 unfold iU
 simp only[h,aW]
 rfl
theorem aYu (r:Nat):Ob.keep 84 r=Ob.k84 r:=by kernel_rfl
attribute [local simp] aYu Ob.k84
set_option maxHeartbeats 4000000 in
theorem aRm:∀ (N:Nat) (l:List Y),iG l<N→iG l≤8388608→eJ Tryz.prog Ob.cfg 84 [dL (dM l)]=some (dL (dM l)):=by
 intro N
 induction N with
 | zero=>intro l h;omega
 | succ N ih=>
 intro l hN hM
 have e9:=l0 l
 refine bI Tryz.func84 rfl (by kernel_rfl) rfl rfl ?_
 refine tX (j6 @aN @aO @aA @aH @aI @cV) ?_
 apply WP.loop' (I:=fun D s=>∃ (j g c':Nat) (bB:Hp),j+D=l.length∧bB.get 0=some ⟨g,false,fl (dM (l.take j))⟩∧
  s=⟨[(3,.osl 0 g 0 j 12 none),(9,dL (dM l)),(10,dI l.length),(11,dI j)],bB,1,c',0,[]⟩) (d:=l.length)
 ·exact ⟨0,0,_,_,by simp,by simp[fl,dM],bK (by simp[dI,dL]) rfl⟩
 rintro D _ ⟨j,g,c',bB,hj,hx,rfl⟩
 refine aMD (jn @aB @aA) ?_
 show WP _ _ _ _ _ _
 refine WP.cond _ rfl (fun hb=>?_) (fun hb=>?_)
 ·simp at hb
  have bP:j<l.length:=by omega
  obtain ⟨y,hy,vY,bV⟩:=bM bP
  have pW:=oT hy
  have c9:=bE bP (by omega)
  have hs0:=Y.sz_eq y
  have hms:=nS vY
  have hc1:=aJR _ [y.r] (Nat.lt_succ_self _) (by rw[szX,szX];omega)
  have hc2:=aJR _ y.args (Nat.lt_succ_self _) (by omega)
  rw[show gC [y.r]=[y.r.cells] by simp[rT]] at hc1
  simp only[dL,aE] at hc1 hc2
  have i0:jR 0 1=some 0:=rfl
  have hos:=oU y.outs
  have fS:bU y.outs.length 16=true:=by simp[bU];omega
  have s2:=cR (cU y.outs)
  have s3:=cI (cU y.outs)
  have s4:=eN (cU y.outs)
  rw[aW,Nat.mul_one] at s2 s3
  rw[aW] at s4
  repeat (first
 | apply WP.seq
 | (apply WP.reg;(case hR=>dsimp only [eV,eA,List.map,gS,gZ];exact iZ);(case hr=>(repeat (first
 | (apply RT.op;simp[dI,dL,aC,aE,bV,pW,hc1,hc2,i0,bO,bD,iE,bG,b8,iH,eL,bH,mT,cV,aX,aW,aT,hx,pL,fH,fS,s2,s3,s4,cJ];exact iZ;(try dsimp only [a7]) <;> exact rfl)
 | (apply RT.call;(iterate 2 simp;exact iZ);exact iZ;(iterate 4 simp[dI,dL,aC,aE,bV,pW,hc1,hc2,i0,bO,bD,iE,bG,b8,iH,eL,bH,mT,cV,aX,aW,aT,hx,pL,fH,fS,s2,s3,s4,cJ];exact iZ);simp[Is];(try dsimp only [a7]) <;> exact rfl;simp;exact iZ;simp;exact iZ)
 | (apply RT.clone;(iterate 2 simp;exact iZ);exact iZ;(iterate 2 simp[dI,dL,aC,aE,bV,pW,hc1,hc2,i0,bO,bD,iE,bG,b8,iH,eL,bH,mT,cV,aX,aW,aT,hx,pL,fH,fS,s2,s3,s4,cJ];exact iZ);(first|assumption|(simp[bU];omega));(try dsimp only [a7]) <;> exact rfl;simp[dI,dL,aC,aE,bV,pW,hc1,hc2,i0,bO,bD,iE,bG,b8,iH,eL,bH,mT,cV,aX,aW,aT,hx,pL,fH,fS,s2,s3,s4,cJ];exact iZ;simp;exact iZ)
 | (apply RT.callV;(iterate 2 simp;exact iZ);exact iZ;(iterate 3 simp[dI,dL,aC,aE,bV,pW,hc1,hc2,i0,bO,bD,iE,bG,b8,iH,eL,bH,mT,cV,aX,aW,aT,hx,pL,fH,fS,s2,s3,s4,cJ];exact iZ);(try dsimp only [a7]) <;> exact rfl)
 | (apply RT.wr;simp[dI,dL,aC,aE,bV,pW,hc1,hc2,i0,bO,bD,iE,bG,b8,iH,eL,bH,mT,cV,aX,aW,aT,hx,pL,fH,fS,s2,s3,s4,cJ];exact iZ;(try dsimp only [a7]) <;> exact rfl;simp[dI,dL,aC,aE,bV,pW,hc1,hc2,i0,bO,bD,iE,bG,b8,iH,eL,bH,mT,cV,aX,aW,aT,hx,pL,fH,fS,s2,s3,s4,cJ];exact iZ;(iterate 2 exact iZ);simp;exact iZ)));exact RT.nil);(case hc=>first|(refine cW [(0,2),(1,2),(0,3),(1,3),(0,4),(1,4),(2,4),(3,4),(0,5),(1,5),(2,5),(3,5),(0,6),(1,6),(2,6),(3,6),(4,6),(5,6),(0,7),(1,7),(2,7),(3,7),(4,7),(5,7),(0,8),(1,8),(2,8),(3,8),(4,8),(5,8),(0,9),(1,9),(2,9),(3,9),(4,9),(5,9),(0,10),(1,10),(2,10),(3,10),(4,10),(5,10),(0,11),(1,11),(2,11),(3,11),(4,11),(5,11),(0,12),(1,12),(2,12),(3,12),(4,12),(5,12),(6,12),(7,12),(8,12),(9,12),(10,12),(11,12),(0,13),(1,13),(2,13),(3,13),(4,13),(5,13),(6,13),(7,13),(8,13),(9,13),(10,13),(11,13),(0,14),(1,14),(2,14),(3,14),(4,14),(5,14),(10,14),(11,14),(0,15),(1,15),(2,15),(3,15),(4,15),(5,15),(6,15),(7,15),(8,15),(9,15),(10,15),(11,15),(12,15),(13,15),(14,15),(0,16),(1,16),(2,16),(3,16),(4,16),(5,16),(6,16),(7,16),(8,16),(9,16),(10,16),(11,16),(12,16),(13,16),(14,16),(0,17),(1,17),(2,17),(3,17),(4,17),(5,17),(10,17),(11,17),(0,19),(1,19),(2,19),(3,19),(4,19),(5,19),(6,19),(7,19),(8,19),(9,19),(10,19),(11,19),(12,19),(13,19),(14,19),(15,19),(16,19),(17,19),(18,19)] (by kernel_rfl) (by kernel_rfl) rfl ?_;simp[lO,jW,dX];done)|(show _=_;kernel_rfl));(case ht=>simp[dI,dL,aC,aE,bV,pW,hc1,hc2,i0,bO,bD,iE,bG,b8,iH,eL,bH,mT,cV,aX,aW,aT,hx,pL,fH,fS,s2,s3,s4,cJ];exact iZ))
 | apply WP.block|apply WP.skip|apply WP.exit|apply WP.ret|refine WP.condT rfl ?_|refine WP.condF rfl ?_)
  apply WP.loop' (I:=fun D2 s=>∃ (k gb c5:Nat) (jQ:Hp),k+D2=y.brs.length∧jQ.get 0=some ⟨g,false,fl (dM (l.take j))⟩∧jQ.get 3=some ⟨c'+2,false,fl (eX y.outs)⟩∧
   jQ.get 4=some ⟨c'+3,false,[.d (.int .i64 y.k),.d (.str y.nm),.d (.int .i64 y.t),.d (.int .i64 y.r.k),.d (.int .i64 y.r.o),.d (.int .i64 y.r.t),.d (.int .i64 y.r.v),.d (.str y.r.nm),.d (.slice (gC y.r.args)),.osl 3 (c'+2) 0 y.outs.length 1 none,.d (.slice (gC y.args)),.osl 5 gb 0 k 1 none]⟩∧
   jQ.get 5=some ⟨gb,false,fl (iL (y.brs.take k))⟩∧
   s=⟨[(3,.osl 0 g 0 j 12 none),(6,.ptr 4 (c'+3) 0),(9,dL (dM l)),(10,dI l.length),(11,dI j),(35,dL (iL y.brs)),(36,dI y.brs.length),(37,dI k)],jQ,6,c5,0,[]⟩) (d:=y.brs.length)
  ·exact ⟨0,c'+4,_,_,by simp,by simp[hx],by simp,by simp,by simp[fl,iL],bK (by simp[dI,dL]) rfl⟩
  rintro D2 _ ⟨k,gb,c5,jQ,hk,h0,h3,h4,h5,rfl⟩
  refine aMD (jn @aB @aA) ?_
  show WP _ _ _ _ _ _
  refine WP.cond _ rfl (fun hb=>?_) (fun hb=>?_)
  ·simp at hb
   have hb5:k<y.brs.length:=by omega
   obtain ⟨b,hbb,zR,aEu⟩:=bM hb5
   have bP:=l9 hbb
   have uD:=bE hb5 (by have:=s8 y.brs;omega)
   have bAk:=gR zR
   have hcb:=ih b (by omega) (by omega)
   simp only[dL] at hcb
   have y6:=bL hbb
   have nT:(y.brs.take k).length=k:=by simp;omega
   have r2:=cR (lB (y.brs.take k))
   have r3:=cI (lB (y.brs.take k))
   have r4:=dT (iL (y.brs.take k)) [.slice (dM b)]
   have r5:=aED (y.brs.take k) b
   have f5:bU (k+1) 24=true:=by have:=s8 y.brs;simp[bU];omega
   rw[r5,←y6] at r4
   rw[aX,nT,Nat.mul_one] at r2 r3
   simp only[List.map_cons,List.map_nil] at r4
   repeat (first
 | apply WP.seq
 | (apply WP.reg;(case hR=>dsimp only [eV,eA,List.map,gS,gZ];exact iZ);(case hr=>(repeat (first
 | (apply RT.op;simp[dI,dL,aEu,bP,hcb,bO,bD,iE,bG,b8,bH,f5,r2,r3,r4,h0,h3,h4,h5];exact iZ;(try dsimp only [a7]) <;> exact rfl)
 | (apply RT.call;(iterate 2 simp;exact iZ);exact iZ;(iterate 4 simp[dI,dL,aEu,bP,hcb,bO,bD,iE,bG,b8,bH,f5,r2,r3,r4,h0,h3,h4,h5];exact iZ);simp[Is];(try dsimp only [a7]) <;> exact rfl;simp;exact iZ;simp;exact iZ)
 | (apply RT.clone;(iterate 2 simp;exact iZ);exact iZ;(iterate 2 simp[dI,dL,aEu,bP,hcb,bO,bD,iE,bG,b8,bH,f5,r2,r3,r4,h0,h3,h4,h5];exact iZ);(first|assumption|(simp[bU];omega));(try dsimp only [a7]) <;> exact rfl;simp[dI,dL,aEu,bP,hcb,bO,bD,iE,bG,b8,bH,f5,r2,r3,r4,h0,h3,h4,h5];exact iZ;simp;exact iZ)
 | (apply RT.callV;(iterate 2 simp;exact iZ);exact iZ;(iterate 3 simp[dI,dL,aEu,bP,hcb,bO,bD,iE,bG,b8,bH,f5,r2,r3,r4,h0,h3,h4,h5];exact iZ);(try dsimp only [a7]) <;> exact rfl)
 | (apply RT.wr;simp[dI,dL,aEu,bP,hcb,bO,bD,iE,bG,b8,bH,f5,r2,r3,r4,h0,h3,h4,h5];exact iZ;(try dsimp only [a7]) <;> exact rfl;simp[dI,dL,aEu,bP,hcb,bO,bD,iE,bG,b8,bH,f5,r2,r3,r4,h0,h3,h4,h5];exact iZ;(iterate 2 exact iZ);simp;exact iZ)));exact RT.nil);(case hc=>first|(refine cW [(0,2),(1,2),(0,3),(1,3),(0,4),(1,4)] (by kernel_rfl) (by kernel_rfl) rfl ?_;simp[lO,jW,dX];done)|(show _=_;kernel_rfl));(case ht=>simp[dI,dL,aEu,bP,hcb,bO,bD,iE,bG,b8,bH,f5,r2,r3,r4,h0,h3,h4,h5];exact iZ))
 | apply WP.block|apply WP.skip|apply WP.exit|apply WP.ret|refine WP.condT rfl ?_|refine WP.condF rfl ?_)
   refine aY (by simp[uD];exact Is.rfl) ?_
   exact ⟨D2 - 1,by omega,k+1,c5+1,_,_,by omega,by simp[h0],by simp[h3],by simp,by simp,bK (by simp[dI,dL,uD]) rfl⟩
  simp at hb
  have uG:k=y.brs.length:=by omega
  rw[uG,List.take_length] at h5
  have y6:=bL hy
  have nT:(l.take j).length=j:=by simp;omega
  have r2:=cR (pD (l.take j))
  have r3:=cI (pD (l.take j))
  have r4:=dT (dM (l.take j)) y.cells
  have r5:=aEM (l.take j) y
  have f5:bU (j+1) 176=true:=by simp[bU];omega
  rw[r5,←y6] at r4
  rw[cV,nT] at r2 r3
  simp only[aC,aE,List.map_cons,List.map_nil,List.map_append,List.cons_append,List.nil_append] at r4
  have u2:=cR (lB y.brs)
  have u3:=cI (lB y.brs)
  have u4:=eN (lB y.brs)
  rw[aX,Nat.mul_one] at u2 u3
  rw[aX] at u4
  refine tX (j30 @aB @aA @aH @aI @aP @aQ @iE.eq_def @bG @b8 @iH.eq_1 @iH.eq_2 @eL.eq_1 @eL.eq_2 @bH @f5 @r2 @r3 @r4 @s2 @s3 @s4 @u2 @u3 @u4 @cJ @h0 @h3 @h4 @h5 @uG) ?_
  refine aY (by simp[c9];exact Is.rfl) ?_
  exact ⟨D - 1,by omega,j+1,c5+1,_,_,by omega,by simp,bK (by simp[dI,dL,c9]) rfl⟩
 ·simp at hb
  have eE:j=l.length:=by omega
  rw[eE,List.take_length] at hx
  refine tX (jn @aB @aA) ?_
  have gI:=jA (look:=bB.get) (id:=0) (g:=g) (ro:=false) (cap:=none) (pD l) hx
  rw[cV,←eE] at gI
  exact ⟨.inr rfl,_,[0],rfl,gI⟩
end Go.Ac
end
section
set_option maxRecDepth 4000
namespace Go.Ac
open Go.Proofs
attribute [local simp] Hp.get_set bW
theorem tK (look:cA) {sz:Nat} {l:List (List D)} (hr:∀ r∈l,r.length=sz):iU look sz (.d (.slice l))=some (l.length,fl l,[]):=by
 have h:l.all (fun r=>Nat.beq r.length sz)=true:=by
  rw[List.all_eq_true];intro r h1;rw[hr r h1];simp
 unfold iU
 simp only[h]
 rfl
theorem aAX (l:List En):∀ r∈f9 l,r.length=2:=by unfold f9;intro r hr;obtain ⟨x,_,rfl⟩:=List.mem_map.1 hr;rfl
theorem aIw (l:List En) (x:En):f9 l++[x.cells]=f9 (l++[x]):=by simp[f9]
theorem iP (l:List Dc):∀ r∈cM l,r.length=3:=by unfold cM;intro r hr;obtain ⟨x,_,rfl⟩:=List.mem_map.1 hr;rfl
theorem xY (l:List Mm):∀ r∈lF l,r.length=3:=by unfold lF;intro r hr;obtain ⟨x,_,rfl⟩:=List.mem_map.1 hr;rfl
theorem xX (l:List Ii):∀ r∈lV l,r.length=2:=by unfold lV;intro r hr;obtain ⟨x,_,rfl⟩:=List.mem_map.1 hr;rfl
theorem aIn (l:List Cl) (x:Cl):gJ l++[x.cells]=gJ (l++[x]):=by simp[gJ]
theorem aXA (r:Nat):Ob.keep 36 r=Ob.k36 r:=by kernel_rfl
attribute [local simp] aXA Ob.k36
set_option maxHeartbeats 8000000 in
theorem aPV (o:Oc) (gK:o.sz≤2097152):eJ Tryz.prog Ob.cfg 36 [aG o.cells]=some (aG o.cells):=by
 unfold Oc.sz at gK
 have k1:=aCO o.en
 have k2:=l7 o.cl
 refine bI Tryz.func36 rfl (by kernel_rfl) rfl rfl ?_
 refine tX (j9 @aN @aO @aD @aJ @aB @aA @aH @aI @zS) ?_
 apply WP.loop' (I:=fun D s=>∃ (j g c':Nat) (bB:Hp),j+D=o.en.length∧bB.get 0=some ⟨0,false,[V.d (.slice (f9 o.en)),V.d (.slice (gJ o.cl))]⟩∧bB.get 1=some ⟨1,false,[.full [],.full []]⟩∧bB.get 2=some ⟨2,false,[.osl 3 g 0 j 2 none,.osl 4 4 0 0 7 none]⟩∧bB.get 3=some ⟨g,false,fl (f9 (o.en.take j))⟩∧bB.get 4=some ⟨4,false,[]⟩∧
  s=⟨[(1,.ptr 0 0 0),(2,.ptr 1 1 0),(3,.ptr 2 2 0),(9,dL (f9 o.en)),(10,dI o.en.length),(11,dI j)],bB,5,c',0,[]⟩) (d:=o.en.length)
 ·exact ⟨0,3,_,_,by simp,rfl,rfl,rfl,rfl,rfl,bK (by simp[dI,dL]) rfl⟩
 rintro D _ ⟨j,g,c',bB,hj,h0,h1,h2,h3,h4,rfl⟩
 refine aMD (jn @aB @aA) ?_
 show WP _ _ _ _ _ _
 refine WP.cond _ rfl (fun hb=>?_) (fun hb=>?_)
 ·simp at hb
  have bP:j<o.en.length:=by omega
  obtain ⟨d,hd,d8,bV⟩:=bM bP
  have cG:=yB hd
  have c9:=bE bP (by omega)
  have hms:=aOq d8
  unfold En.sz at hms
  have hos:=oU d.tags
  have y6:=bL hd
  have nT:(o.en.take j).length=j:=by simp;omega
  have r2:=cR (aAX (o.en.take j))
  have r3:=cI (aAX (o.en.take j))
  have r4:=dT (f9 (o.en.take j)) d.cells
  have r5:=aIw (o.en.take j) d
  have f5:bU (j+1) 40=true:=by simp[bU];omega
  rw[r5,←y6] at r4
  rw[zS,nT] at r2 r3
  simp only[En.cells,List.map_cons,List.map_nil] at r4
  have fS:bU d.tags.length 16=true:=by simp[bU];omega
  have s0:=fun look=>tK look (cU d.tags)
  have s2:=cR (cU d.tags)
  have s3:=cI (cU d.tags)
  have s4:=eN (cU d.tags)
  rw[aW,Nat.mul_one] at s2 s3
  rw[aW] at s0 s4
  repeat (first
 | apply WP.seq
 | (apply WP.reg;(case hR=>dsimp only [eV,eA,List.map,gS,gZ];exact iZ);(case hr=>(repeat (first
 | (apply RT.op;simp[dI,dL,bV,cG,En.cells,bO,bD,iE,bG,b8,iH,eL,bH,f5,r2,r3,r4,s0,s2,s3,s4,fS,cJ,fH,h0,h1,h2,h3,h4];exact iZ;(try dsimp only [a7]) <;> exact rfl)
 | (apply RT.call;(iterate 2 simp;exact iZ);exact iZ;(iterate 4 simp[dI,dL,bV,cG,En.cells,bO,bD,iE,bG,b8,iH,eL,bH,f5,r2,r3,r4,s0,s2,s3,s4,fS,cJ,fH,h0,h1,h2,h3,h4];exact iZ);simp[Is];(try dsimp only [a7]) <;> exact rfl;simp;exact iZ;simp;exact iZ)
 | (apply RT.clone;(iterate 2 simp;exact iZ);exact iZ;(iterate 2 simp[dI,dL,bV,cG,En.cells,bO,bD,iE,bG,b8,iH,eL,bH,f5,r2,r3,r4,s0,s2,s3,s4,fS,cJ,fH,h0,h1,h2,h3,h4];exact iZ);(first|assumption|(simp[bU];omega));(try dsimp only [a7]) <;> exact rfl;simp[dI,dL,bV,cG,En.cells,bO,bD,iE,bG,b8,iH,eL,bH,f5,r2,r3,r4,s0,s2,s3,s4,fS,cJ,fH,h0,h1,h2,h3,h4];exact iZ;simp;exact iZ)
 | (apply RT.callV;(iterate 2 simp;exact iZ);exact iZ;(iterate 3 simp[dI,dL,bV,cG,En.cells,bO,bD,iE,bG,b8,iH,eL,bH,f5,r2,r3,r4,s0,s2,s3,s4,fS,cJ,fH,h0,h1,h2,h3,h4];exact iZ);(try dsimp only [a7]) <;> exact rfl)
 | (apply RT.wr;simp[dI,dL,bV,cG,En.cells,bO,bD,iE,bG,b8,iH,eL,bH,f5,r2,r3,r4,s0,s2,s3,s4,fS,cJ,fH,h0,h1,h2,h3,h4];exact iZ;(try dsimp only [a7]) <;> exact rfl;simp[dI,dL,bV,cG,En.cells,bO,bD,iE,bG,b8,iH,eL,bH,f5,r2,r3,r4,s0,s2,s3,s4,fS,cJ,fH,h0,h1,h2,h3,h4];exact iZ;(iterate 2 exact iZ);simp;exact iZ)));exact RT.nil);(case hc=>first|(refine cW [(0,2),(1,2),(0,3),(1,3),(0,4),(1,4),(2,4),(3,4),(0,5),(1,5),(2,5),(3,5),(0,6),(1,6),(2,6),(3,6),(0,7),(1,7),(0,8),(1,8)] (by kernel_rfl) (by kernel_rfl) rfl ?_;simp[lO,jW,dX];done)|(show _=_;kernel_rfl));(case ht=>simp[dI,dL,bV,cG,En.cells,bO,bD,iE,bG,b8,iH,eL,bH,f5,r2,r3,r4,s0,s2,s3,s4,fS,cJ,fH,h0,h1,h2,h3,h4];exact iZ))
 | apply WP.block|apply WP.skip|apply WP.exit|apply WP.ret|refine WP.condT rfl ?_|refine WP.condF rfl ?_)
  refine aY (by simp[c9];exact Is.rfl) ?_
  exact ⟨D - 1,by omega,j+1,c'+3,_,_,by omega,by simp[h0],by simp[h1],by simp,by simp,by simp[h4],bK (by simp[dI,dL,c9]) rfl⟩
 simp at hb
 have eE:j=o.en.length:=by omega
 rw[eE,List.take_length] at h3
 refine tX (j8 @aB @aA @h0 @h1 @h2 @h3 @h4 @nK) ?_
 apply WP.loop' (I:=fun D s=>∃ (k g2 c5:Nat) (jQ:Hp),k+D=o.cl.length∧jQ.get 1=some ⟨1,false,[.full [],.full []]⟩∧jQ.get 2=some ⟨2,false,[.osl 3 g 0 j 2 none,.osl 4 g2 0 k 7 none]⟩∧jQ.get 3=some ⟨g,false,fl (f9 o.en)⟩∧jQ.get 4=some ⟨g2,false,fl (gJ (o.cl.take k))⟩∧
  s=⟨[(2,.ptr 1 1 0),(3,.ptr 2 2 0),(28,dL (gJ o.cl)),(29,dI o.cl.length),(30,dI k)],jQ,5,c5,0,[]⟩) (d:=o.cl.length)
 ·exact ⟨0,4,_,_,by simp,h1,h2,h3,by rw[h4];rfl,bK (by simp[dI,dL]) rfl⟩
 clear h0 h1 h2 h3 h4 hb hj
 rintro D2 _ ⟨k,g2,c5,jQ,hk,h1,h2,h3,h4,rfl⟩
 refine aMD (jn @aB @aA) ?_
 show WP _ _ _ _ _ _
 refine WP.cond _ rfl (fun hb=>?_) (fun hb=>?_)
 ·simp at hb
  have bP:k<o.cl.length:=by omega
  obtain ⟨d,hd,d8,bV⟩:=bM bP
  have cG:=lH hd
  have uD:=bE bP (by omega)
  have hms:=qE d8
  unfold Cl.sz at hms
  have zQ:=lG d.inn
  have hl2:=lG d.out
  have hl3:=lG d.loc
  have hl4:=u6 d.mems
  have hl5:=sO d.ins
  have hcy:=aRm _ d.step (Nat.lt_succ_self _) (by omega)
  simp only[dL] at hcy
  have y6:=bL hd
  have nT:(o.cl.take k).length=k:=by simp;omega
  have r2:=cR (wZ (o.cl.take k))
  have r3:=cI (wZ (o.cl.take k))
  have r4:=dT (gJ (o.cl.take k)) d.cells
  have r5:=aIn (o.cl.take k) d
  have f5:bU (k+1) 160=true:=by simp[bU];omega
  rw[r5,←y6] at r4
  rw[nK,nT] at r2 r3
  simp only[Cl.cells,List.map_cons,List.map_nil] at r4
  have fta:bU d.inn.length 48=true:=by simp[bU];omega
  have ta0:=fun look=>tK look (iP d.inn)
  have ta2:=cR (iP d.inn)
  have ta3:=cI (iP d.inn)
  have ta4:=eN (iP d.inn)
  rw[bT] at ta0 ta2 ta3 ta4
  have ftb:bU d.out.length 48=true:=by simp[bU];omega
  have tb0:=fun look=>tK look (iP d.out)
  have tb2:=cR (iP d.out)
  have tb3:=cI (iP d.out)
  have tb4:=eN (iP d.out)
  rw[bT] at tb0 tb2 tb3 tb4
  have ftc:bU d.loc.length 48=true:=by simp[bU];omega
  have tc0:=fun look=>tK look (iP d.loc)
  have tc2:=cR (iP d.loc)
  have tc3:=cI (iP d.loc)
  have tc4:=eN (iP d.loc)
  rw[bT] at tc0 tc2 tc3 tc4
  have ftd:bU d.mems.length 32=true:=by simp[bU];omega
  have td0:=fun look=>tK look (xY d.mems)
  have td2:=cR (xY d.mems)
  have td3:=cI (xY d.mems)
  have td4:=eN (xY d.mems)
  rw[jC] at td0 td2 td3 td4
  have fte:bU d.ins.length 32=true:=by simp[bU];omega
  have te0:=fun look=>tK look (xX d.ins)
  have te2:=cR (xX d.ins)
  have te3:=cI (xX d.ins)
  have te4:=eN (xX d.ins)
  rw[lU] at te0 te2 te3 te4
  repeat (first
 | apply WP.seq
 | (apply WP.reg;(case hR=>dsimp only [eV,eA,List.map,gS,gZ];exact iZ);(case hr=>(repeat (first
 | (apply RT.op;simp[dI,dL,bV,cG,Cl.cells,bO,bD,iE,bG,b8,iH,eL,bH,f5,r2,r3,r4,ta0,ta2,ta3,ta4,fta,tb0,tb2,tb3,tb4,ftb,tc0,tc2,tc3,tc4,ftc,td0,td2,td3,td4,ftd,te0,te2,te3,te4,fte,hcy,cJ,fH,h1,h2,h3,h4];exact iZ;(try dsimp only [a7]) <;> exact rfl)
 | (apply RT.call;(iterate 2 simp;exact iZ);exact iZ;(iterate 4 simp[dI,dL,bV,cG,Cl.cells,bO,bD,iE,bG,b8,iH,eL,bH,f5,r2,r3,r4,ta0,ta2,ta3,ta4,fta,tb0,tb2,tb3,tb4,ftb,tc0,tc2,tc3,tc4,ftc,td0,td2,td3,td4,ftd,te0,te2,te3,te4,fte,hcy,cJ,fH,h1,h2,h3,h4];exact iZ);simp[Is];(try dsimp only [a7]) <;> exact rfl;simp;exact iZ;simp;exact iZ)
 | (apply RT.clone;(iterate 2 simp;exact iZ);exact iZ;(iterate 2 simp[dI,dL,bV,cG,Cl.cells,bO,bD,iE,bG,b8,iH,eL,bH,f5,r2,r3,r4,ta0,ta2,ta3,ta4,fta,tb0,tb2,tb3,tb4,ftb,tc0,tc2,tc3,tc4,ftc,td0,td2,td3,td4,ftd,te0,te2,te3,te4,fte,hcy,cJ,fH,h1,h2,h3,h4];exact iZ);(first|assumption|(simp[bU];omega));(try dsimp only [a7]) <;> exact rfl;simp[dI,dL,bV,cG,Cl.cells,bO,bD,iE,bG,b8,iH,eL,bH,f5,r2,r3,r4,ta0,ta2,ta3,ta4,fta,tb0,tb2,tb3,tb4,ftb,tc0,tc2,tc3,tc4,ftc,td0,td2,td3,td4,ftd,te0,te2,te3,te4,fte,hcy,cJ,fH,h1,h2,h3,h4];exact iZ;simp;exact iZ)
 | (apply RT.callV;(iterate 2 simp;exact iZ);exact iZ;(iterate 3 simp[dI,dL,bV,cG,Cl.cells,bO,bD,iE,bG,b8,iH,eL,bH,f5,r2,r3,r4,ta0,ta2,ta3,ta4,fta,tb0,tb2,tb3,tb4,ftb,tc0,tc2,tc3,tc4,ftc,td0,td2,td3,td4,ftd,te0,te2,te3,te4,fte,hcy,cJ,fH,h1,h2,h3,h4];exact iZ);(try dsimp only [a7]) <;> exact rfl)
 | (apply RT.wr;simp[dI,dL,bV,cG,Cl.cells,bO,bD,iE,bG,b8,iH,eL,bH,f5,r2,r3,r4,ta0,ta2,ta3,ta4,fta,tb0,tb2,tb3,tb4,ftb,tc0,tc2,tc3,tc4,ftc,td0,td2,td3,td4,ftd,te0,te2,te3,te4,fte,hcy,cJ,fH,h1,h2,h3,h4];exact iZ;(try dsimp only [a7]) <;> exact rfl;simp[dI,dL,bV,cG,Cl.cells,bO,bD,iE,bG,b8,iH,eL,bH,f5,r2,r3,r4,ta0,ta2,ta3,ta4,fta,tb0,tb2,tb3,tb4,ftb,tc0,tc2,tc3,tc4,ftc,td0,td2,td3,td4,ftd,te0,te2,te3,te4,fte,hcy,cJ,fH,h1,h2,h3,h4];exact iZ;(iterate 2 exact iZ);simp;exact iZ)));exact RT.nil);(case hc=>first|(refine cW [(0,2),(1,2),(0,3),(1,3),(0,4),(1,4),(2,4),(3,4),(0,5),(1,5),(2,5),(3,5),(0,6),(1,6),(2,6),(3,6),(0,7),(1,7),(2,7),(3,7),(4,7),(5,7),(6,7),(0,8),(1,8),(2,8),(3,8),(4,8),(5,8),(6,8),(0,9),(1,9),(2,9),(3,9),(0,10),(1,10),(2,10),(3,10),(4,10),(5,10),(6,10),(7,10),(8,10),(9,10),(0,11),(1,11),(2,11),(3,11),(4,11),(5,11),(6,11),(7,11),(8,11),(9,11),(0,12),(1,12),(2,12),(3,12),(0,13),(1,13),(2,13),(3,13),(4,13),(5,13),(6,13),(7,13),(8,13),(9,13),(10,13),(11,13),(12,13),(0,14),(1,14),(2,14),(3,14),(4,14),(5,14),(6,14),(7,14),(8,14),(9,14),(10,14),(11,14),(12,14),(0,15),(1,15),(2,15),(3,15),(0,16),(1,16),(2,16),(3,16),(4,16),(5,16),(6,16),(7,16),(8,16),(9,16),(10,16),(11,16),(12,16),(13,16),(14,16),(15,16),(0,17),(1,17),(2,17),(3,17),(4,17),(5,17),(6,17),(7,17),(8,17),(9,17),(10,17),(11,17),(12,17),(13,17),(14,17),(15,17),(0,18),(1,18),(2,18),(3,18),(0,19),(1,19),(2,19),(3,19),(4,19),(5,19),(6,19),(7,19),(8,19),(9,19),(10,19),(11,19),(12,19),(13,19),(14,19),(15,19),(16,19),(17,19),(18,19),(0,20),(1,20),(2,20),(3,20),(4,20),(5,20),(6,20),(7,20),(8,20),(9,20),(10,20),(11,20),(12,20),(13,20),(14,20),(15,20),(16,20),(17,20),(18,20),(0,21),(1,21),(2,21),(3,21),(0,22),(1,22),(0,23),(1,23)] (by kernel_rfl) (by kernel_rfl) rfl ?_;simp[lO,jW,dX];done)|(show _=_;kernel_rfl));(case ht=>simp[dI,dL,bV,cG,Cl.cells,bO,bD,iE,bG,b8,iH,eL,bH,f5,r2,r3,r4,ta0,ta2,ta3,ta4,fta,tb0,tb2,tb3,tb4,ftb,tc0,tc2,tc3,tc4,ftc,td0,td2,td3,td4,ftd,te0,te2,te3,te4,fte,hcy,cJ,fH,h1,h2,h3,h4];exact iZ))
 | apply WP.block|apply WP.skip|apply WP.exit|apply WP.ret|refine WP.condT rfl ?_|refine WP.condF rfl ?_)
  refine aY (by simp[uD];exact Is.rfl) ?_
  refine ⟨D2 - 1,by omega,k+1,?_,_,_,by omega,by simp[h1],by simp;rfl,by simp[h3],by simp,bK (by simp[dI,dL,uD]) rfl⟩
 simp at hb
 have uG:k=o.cl.length:=by omega
 rw[uG,List.take_length] at h4
 refine tX (j6 @aB @aA @h1 @h2 @h3 @h4) ?_
 have x3:(jQ.set 1 ⟨1,false,[.osl 3 g 0 j 2 none,.osl 4 g2 0 k 7 none]⟩).get 3=some ⟨g,false,fl (f9 o.en)⟩:=by simp[h3]
 have x4:(jQ.set 1 ⟨1,false,[.osl 3 g 0 j 2 none,.osl 4 g2 0 k 7 none]⟩).get 4=some ⟨g2,false,fl (gJ o.cl)⟩:=by simp[h4]
 have q3:=jA (cap:=none) (aAX o.en) x3
 have q4:=jA (cap:=none) (wZ o.cl) x4
 rw[zS,←eE] at q3
 rw[nK,←uG] at q4
 refine ⟨.inr rfl,[.agg [.osl 3 g 0 j 2 none,.osl 4 g2 0 k 7 none]],[3,4],?_,?_⟩
 ·show gG Tryz.prog _ [_]=_
  simp[gG,aAh]
 have q3':hZ (jQ.set 1 ⟨1,false,[.osl 3 g 0 j 2 none,.osl 4 g2 0 k 7 none]⟩).get (.osl 3 g 0 j 2 none)=some (dL (f9 o.en),[3]):=q3
 have q4':hZ (jQ.set 1 ⟨1,false,[.osl 3 g 0 j 2 none,.osl 4 g2 0 k 7 none]⟩).get (.osl 4 g2 0 k 7 none)=some (dL (gJ o.cl),[4]):=q4
 show (match fE (hZ (jQ.set 1 ⟨1,false,[.osl 3 g 0 j 2 none,.osl 4 g2 0 k 7 none]⟩).get) [.osl 3 g 0 j 2 none,.osl 4 g2 0 k 7 none] with|some (xs,r)=>some (V.agg xs,r)|none=>none)=_
 simp only[fE,q3',q4']
 rfl
end Go.Ac
end
section
set_option maxRecDepth 4000
namespace Go.Ac
open Go.Proofs
attribute [local simp] Hp.get_set gX
theorem aIk {l:List Cl} {x:Tx} (h:(dC l x).2=false):ixP (fun d:Cl=>decide (d.nm=x)) l= -1:=by
 unfold dC at h
 unfold ixP
 cases hf:l.find? (fun d=>decide (d.nm=x)) with
 | some d=>rw[hf] at h;cases h
 | none=>
  rw[List.find?_eq_none] at hf
  have:List.findIdx? (fun d:Cl=>decide (d.nm=x)) l=none:=by
   rw[List.findIdx?_eq_none_iff]
   intro y hy
   have:=hf y hy
   simpa using this
  rw[this]
theorem aYI (r:Nat):Ob.keep 13 r=Ob.k13 r:=by kernel_rfl
attribute [local simp] aYI Ob.k13
section
variable (o:Oc) (nm:Tx) (gK:o.sz≤2097152) (cC:o.ok)
include gK cC
theorem aLA (h:dH o≠0):eJ Tryz.prog Ob.cfg 13 [aG o.cells,dS nm]=some (.tuple [.con (.pointer none),dI (dH o)]):=by
 have hc:=aBL o gK cC
 simp only[aG,Oc.cells,List.map_cons,List.map_nil,dI] at hc
 refine bI Tryz.func13 rfl (by kernel_rfl) rfl rfl ?_
 refine pZ (j7 @aB @aM @aD @aJ @hc @h @aV) ?_
 show a8 _ _ _ _ _
 exact ⟨.inr rfl,_,_,rfl,rfl⟩
theorem aIW (h:dH o=0) (hf:(dC o.cl nm).2=false):eJ Tryz.prog Ob.cfg 13 [aG o.cells,dS nm]=some (.tuple [.con (.pointer none),dI 6]):=by
 have hc:=aBL o gK cC
 unfold Oc.sz at gK
 have k2:=l7 o.cl
 have hx:=aJs o nm (by unfold MX;omega)
 rw[aIk hf] at hx
 rw[h] at hc
 simp only[aG,Oc.cells,List.map_cons,List.map_nil,dI,dS] at hc hx
 refine bI Tryz.func13 rfl (by kernel_rfl) rfl rfl ?_
 refine pZ (j7 @aB @aM @aD @aJ @hc @hx @aV) ?_
 show a8 _ _ _ _ _
 exact ⟨.inr rfl,_,_,rfl,rfl⟩
theorem aMM (h:dH o=0) (hf:(dC o.cl nm).2=true):∃ (q:CR) (p:Pt),nV Tryz.prog Ob.cfg 13 [aG o.cells,dS nm] [] 0 0=some q∧q.v= .tuple [.ptr p.a.x p.a.gx 0,dI 0]∧Lies o.en (i5 o o.cl.length (dC o.cl nm).1) p q.hp q.n:=by
 have hc:=aBL o gK cC
 have hcp:=aPV o gK
 obtain ⟨i,hxi,hia,_⟩:=aAI hf
 have aEv:=(List.getElem?_eq_some_iff.1 hia).1
 obtain ⟨q,p,hI1,hqv,pR⟩:=aQx h gK (i+1) i _ (Nat.lt_succ_self i) hia
 rw[←oJ h o.cl.length o.cl.length i _ (Nat.le_refl _) hia aEv] at pR
 unfold Oc.sz at gK
 have k2:=l7 o.cl
 have hx:=aJs o nm (by unfold MX;omega)
 rw[hxi] at hx
 rw[h] at hc
 have hi0:=eq_false (show ¬ (i:Int)<0 by omega)
 simp only[aG,Oc.cells,List.map_cons,List.map_nil,dI,dS] at hc hx hcp hI1
 have hI2:d7 fF q.v=none:=by rw[hqv];rfl
 have main:∃ (v:V) (t:St),nV Tryz.prog Ob.cfg 13 [aG o.cells,dS nm] [] 0 0=some ⟨v,t.hp,t.n,t.c,t.wl⟩∧∃ p:Pt,v= .tuple [.ptr p.a.x p.a.gx 0,dI 0]∧Lies o.en (i5 o o.cl.length (dC o.cl nm).1) p t.hp t.n:=by
  refine wV (Q:=fun v (t:St)=>∃ p:Pt,v= .tuple [.ptr p.a.x p.a.gx 0,dI 0]∧Lies o.en (i5 o o.cl.length (dC o.cl nm).1) p t.hp t.n) Tryz.func13 rfl (by kernel_rfl) ?_
  refine pZ (u7 @aN @aO @aB @aM @aD @aJ @hc @hx @hcp @aV @hi0) ?_
  obtain ⟨p2,eW⟩:∃ p2,p2=p.sh 1 1:=⟨_,rfl⟩
  have hI3:cX 1 1 q.v= .ptr p2.a.x p2.a.gx 0:=by rw[hqv,eW,Pt.sh_a];simp[cX,Pb.sh]
  obtain ⟨W1,yG⟩:∃ W,iI 1 1 (kL q.hp.get (List.range q.n))=W:=⟨_,rfl⟩
  have hL2:Lies o.en (i5 o o.cl.length (dC o.cl nm).1) p2 (Hp.sets [(0,⟨0,false,[V.d (.slice (f9 o.en)),V.d (.slice (gJ o.cl))]⟩)] W1) (q.n+1):=by rw[←yG,eW];exact pR.import
  refine pZ (j3 @aB @aA @hcp) ?_
  refine ⟨.inr rfl,_,rfl,.inr rfl,p2,rfl,hL2.same2 (fun _ _=>rfl) ?_⟩
  show q.n+1≤1+q.n
  omega
 obtain ⟨v,t,h1,p,h2,h3⟩:=main
 exact ⟨_,p,h1,h2,h3⟩
end
end Go.Ac
end
