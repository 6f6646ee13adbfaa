/- Memories that are loaded (the reference's). -/
import Derived.Test.YtkgekafdhehleaaGreatObKaM
import Derived.Test.YtkgekafdhehleaaGreatObZj
set_option linter.unusedVariables false
set_option linter.unusedSimpArgs false
section
set_option maxRecDepth 4000
namespace Go.Ac
open Go.Proofs
attribute [local simp] Hp.get_set cY cE cN bW
theorem Moved.less {p p':Pt} {n n':Nat} (h:Moved p p' n') (hn:n≤n'):Moved p p' n:=⟨h.x,h.g,fun k hk=>by
 rcases h.sub k hk with h2|h2
 ·exact .inl h2
 ·exact .inr (by omega)⟩
theorem WI.set2 {ids0:List Nat} {n k:Nat} {sJ hp:Hp} {wl:List Nat} {x y:Ob} (h:WI ids0 n sJ wl hp) (hk:k∈ids0∨n≤k):WI ids0 n sJ (a9 n wl [(k,y)]) (hp.set k x):=by
 have e:a9 n wl [(k,y)]=a9 n wl [(k,x)]:=by simp only[a9]
 rw[e];exact WI.set h hk
theorem aWY (r:Nat):Ob.keep 54 r=Ob.k54 r:=by kernel_rfl
attribute [local simp] aWY Ob.k54
set_option maxHeartbeats 16000000 in
theorem aOu {o:Oc} (vD:dH o=0) (gK:o.sz≤2097152) (hO:OW o):∀ N,aKm o N:=by
 intro N
 induction N with
 | zero=>intro t p ins va h;cases t;rw[Trn.ht] at h;omega
 | succ N ih=>
 intro t p ins va hht cC hi hp n cc hK hA
 obtain ⟨c,ms,sb⟩:=t
 have aNU:=tO hO.wf (N+1) _ ins hht cC hi
 rw[fC] at aNU ⊢
 rw[Trn.ok] at cC
 rw[Trn.ht] at hht
 have hi1:ins.length=c.inn.length:=hi.1
 have hc:=cC.1
 have hcw:=hO.wf c hc
 have gI:=(hO.len c hc).sum
 have bAo:=hO.sz c hc
 obtain ⟨lx,kD⟩:=hK.ob
 simp only[rO,Trn.c,Trn.ms] at lx kD
 have nx:=nf lx
 have aId:=hK.lt
 generalize hs':vN c (fC N) c.step ⟨puts [] ((c.inn.map Dc.nm).zip ins),ms,sb⟩=s' at aNU ⊢
 have main:∃ (v:V) (u:St),nV Tryz.prog Ob.cfg 54 [.ptr p.a.x p.a.gx 0,va] hp n cc=some ⟨v,u.hp,u.n,u.c,u.wl⟩∧∃ id g,v= .osl id g 0 c.out.length 1 none∧n≤u.n∧WI (cQ p) n hp u.wl u.hp∧(∃ p',Moved p p' n∧RLies o (.mk c s'.ms s'.sb) p' u.hp u.n)∧u.hp.get id=some ⟨g,false,fl (bQ (c.out.map fun d=>gz s'.vs d.nm))⟩∧n≤id∧id<u.n:=by
  refine wV (Q:=fun v (u:St)=>∃ id g,v= .osl id g 0 c.out.length 1 none∧n≤u.n∧WI (cQ p) n hp u.wl u.hp∧(∃ p',Moved p p' n∧RLies o (.mk c s'.ms s'.sb) p' u.hp u.n)∧u.hp.get id=some ⟨g,false,fl (bQ (c.out.map fun d=>gz s'.vs d.nm))⟩∧n≤id∧id<u.n) Tryz.func54 rfl (by kernel_rfl) ?_
  rcases hA with rfl|⟨ida,ga,rfl,ha1,ha2,ha3⟩
  ·refine bN (j9 @aN @aO @aB @aA @aH @aI @Value.oneCell'.eq_def @kD @nx) ?_
   apply WP.gen3
   intro n9 c1 wl1 eG iT
   have hr0:n9.get n=some ⟨cc,false,[.ptr p.a.x p.a.gx 0,.osl (n+1) (cc+1) 0 0 1 none,.osl (n+2) (cc+2) 0 0 1 none]⟩:=by rw[eG];simp
   have tJ:n9.get (n+1)=some ⟨cc+1,false,[]⟩:=by rw[eG];simp
   have hr2:n9.get (n+2)=some ⟨cc+2,false,[]⟩:=by rw[eG];simp
   have aLI:Ag n hp n9:=by rw[eG];simp[cY,cE]
   have aCv:WI (cQ p) n hp wl1 n9:=by rw[eG,iT];exact WI.set2 (WI.more (WI.set2 (WI.more (WI.set2 WI.refl (.inr (Nat.le_refl n))) (by omega)) (.inr (Nat.le_refl n))) (by omega)) (.inr (Nat.le_refl n))
   clear eG iT
   have hE1:REA o c p ⟨n,cc,n+1,cc+1,n+2,cc+2,p.a.x,p.a.gx⟩ ⟨[],ms,sb⟩ n9 (n+3):=
    ⟨hK.mono aLI (by omega),⟨hr0,tJ,hr2,by simp only;omega,by simp only;omega,by simp only;omega,by simp only;omega,by simp only;omega,by simp only;omega⟩,rfl,rfl,fun h=>by have:=aId _ h;simp only at this;omega,fun h=>by have:=aId _ h;simp only at this;omega,fun h=>by have:=aId _ h;simp only at this;omega⟩
   clear hr0 tJ hr2
   apply WP.loop' (I:=fun D st=>∃ (i c':Nat) (wl:List Nat) (bB:Hp) (gn gv:Nat),i+D=ins.length∧REA o c p ⟨n,cc,n+1,gn,n+2,gv,p.a.x,p.a.gx⟩ ⟨puts [] (((c.inn.map Dc.nm).zip ins).take i),ms,sb⟩ bB (n+3)∧WI (cQ p) n hp wl bB∧ 
    st=⟨[(0,.ptr p.a.x p.a.gx 0),(1,dL (bQ ins)),(5,.ptr n cc 0),(6,dI i)],bB,n+3,c',n,wl⟩) (d:=ins.length)
   ·exact ⟨0,_,_,_,cc+1,cc+2,by simp,by simpa [puts] using hE1,aCv,bK (by simp[dI,dL]) rfl⟩
   clear hE1 aCv aLI
   clear n9 c1 wl1
   rintro D _ ⟨i,c',wl,bB,gn,gv,hii,hE,d6,rfl⟩
   obtain ⟨lx1,sB⟩:=hE.li.ob
   simp only[rO,Trn.c,Trn.ms] at sB
   refine iX (j3 @aB @aA @aZ) ?_
   show WP _ _ _ _ _ _
   refine WP.cond _ rfl (fun hb=>?_) (fun hb=>?_)
   ·simp at hb
    have bP:i<ins.length:=by omega
    obtain ⟨w,hw,hwm,vZ⟩:=bM bP
    have wA:=cP hw
    obtain ⟨d,hd,d8,bV⟩:=bM (show i<c.inn.length by omega)
    have cG:=eD hd
    have c9:=bE bP (by omega)
    have hzs:((c.inn.map Dc.nm).zip ins).take (i+1)=((c.inn.map Dc.nm).zip ins).take i++[(d.nm,w)]:=bL (by rw[List.getElem?_zip_eq_some];exact ⟨by simp[hd],hw⟩)
    have aPt:=rF (((c.inn.map Dc.nm).zip ins).take i) []
    have hzl:(((c.inn.map Dc.nm).zip ins).take i).length≤ins.length:=by simp;omega
    simp only[List.length_nil] at aPt
    have aNY:(puts [] (((c.inn.map Dc.nm).zip ins).take i)).length≤1099511627776:=by omega
    obtain ⟨q9,lZ,hv,hn,rX,lY,lD,yH,⟨gn9,gv9,mY⟩,dD⟩:=(aFE hE.ru aNY d.nm w c').caller (by
     intro z hz
     simp at hz;omega)
    have hE9:=hE.setV (fun k h1 h2=>lD k h1 h2) mY dD
    simp only[dI,dS] at lZ
    repeat (first
 | apply WP.seq
 | (apply WP.reg;(case hR=>dsimp only [eV,eA,List.map,gS,gZ];exact iZ);(case hr=>(repeat (first
 | (apply RT.op;simp[-a9,dI,dL,aZ,bT,sB,bV,cG,Dc.cells,bO,vZ,wA,hv,hn];exact iZ;(try dsimp only [a7]) <;> exact rfl)
 | (apply RT.call;(iterate 2 simp;exact iZ);exact iZ;(iterate 4 simp[-a9,dI,dL,aZ,bT,sB,bV,cG,Dc.cells,bO,vZ,wA,hv,hn];exact iZ);simp[Is];(try dsimp only [a7]) <;> exact rfl;simp;exact iZ;exact iZ)
 | (apply RT.callV;(iterate 2 simp;exact iZ);exact iZ;(iterate 3 simp[-a9,dI,dL,aZ,bT,sB,bV,cG,Dc.cells,bO,vZ,wA,hv,hn];exact iZ);(try dsimp only [a7]) <;> exact rfl)
 | (apply RT.callT (hd:=lZ) (hk:=rX);(iterate 2 simp;exact iZ);exact iZ;(iterate 2 simp[-a9,dI,dL,aZ,bT,sB,bV,cG,Dc.cells,bO,vZ,wA,hv,hn];exact iZ);(try dsimp only [a7]) <;> exact rfl)
 | (apply RT.wr;simp[-a9,dI,dL,aZ,bT,sB,bV,cG,Dc.cells,bO,vZ,wA,hv,hn];exact iZ;(try dsimp only [a7]) <;> exact rfl;simp[-a9,dI,dL,aZ,bT,sB,bV,cG,Dc.cells,bO,vZ,wA,hv,hn];exact iZ;(iterate 2 exact iZ);exact iZ)));exact RT.nil);(case hc=>first|(refine cW [(0,1),(0,2),(0,3),(0,4),(0,5),(0,6),(1,6),(2,6),(3,6),(4,6),(5,6),(0,7),(0,8),(0,9),(0,10),(1,10),(2,10),(3,10),(4,10),(5,10),(6,10),(7,10),(8,10),(9,10),(0,11),(1,11),(2,11),(3,11),(4,11),(5,11),(6,11),(7,11),(8,11),(9,11),(10,11),(0,12),(1,12),(2,12),(3,12),(4,12),(5,12),(6,12),(7,12),(8,12),(9,12),(0,13),(1,13),(2,13),(3,13),(4,13),(5,13),(6,13),(7,13),(8,13),(9,13)] (by kernel_rfl) (by kernel_rfl) rfl ?_;simp[lO,jW,dX];done)|(show _=_;kernel_rfl));(case ht=>simp[-a9,dI,dL,aZ,bT,sB,bV,cG,Dc.cells,bO,vZ,wA,hv,hn];exact iZ))
 | apply WP.block|apply WP.skip|apply WP.exit|apply WP.ret|refine WP.condT rfl ?_|refine WP.condF rfl ?_)
    refine aY (by simp[-a9,c9];exact Is.rfl) ?_
    refine ⟨D - 1,by omega,i+1,_,_,_,gn9,gv9,by omega,?_,WI.trunc (d6.sets fun z hz=>?_) (by omega),bK (by simp[dI,dL,c9]) rfl⟩
    ·rw[hzs,fQ];exact hE9.mono (by simp[cN,cE]) (Nat.le_refl _)
    ·have h:=lY z.1 (List.mem_map.2 ⟨z,hz,rfl⟩)
     simp only[List.mem_cons,List.not_mem_nil,or_false] at h
     exact .inr (by omega)
   simp at hb
   have kP:i=ins.length:=by omega
   have hzt:((c.inn.map Dc.nm).zip ins).take i=(c.inn.map Dc.nm).zip ins:=List.take_of_length_le (by simp;omega)
   rw[hzt] at hE
   refine bN (jn @aB @aA) ?_
   apply WP.gen3
   intro fX c3 wl3 eG iT
   rw[←eG] at hE sB
   rw[←eG,←iT] at d6
   clear eG iT
   have aSe:=rF ((c.inn.map Dc.nm).zip ins) []
   have aZT:((c.inn.map Dc.nm).zip ins).length≤ins.length:=by simp;omega
   simp only[List.length_nil] at aSe
   have aSf:(puts [] ((c.inn.map Dc.nm).zip ins)).length+iG c.step≤1099511627776:=by omega
   obtain ⟨q,lZ,hv,hn,rX,lY,lD,yH,⟨p2,gn2,gv2,aBP,mY⟩,dD⟩:=(aKb (h0:=htL sb) vD gK hO hc ih (by omega) 8388609 (Nat.le_refl _) c.step (by omega) hcw.step (hO.ok c hc).step _ p ⟨n,cc,n+1,gn,n+2,gv,p.a.x,p.a.gx⟩ ⟨zW hO.wf hcw hi,cC.2.1,cC.2.2,rfl⟩ aSf fX (n+3) c3 hE).caller (by
    intro x hx
    simp only[List.mem_cons] at hx
    rcases hx with hx|hx|hx|hx
    ·omega
    ·omega
    ·omega
    ·have:=aId x hx;omega)
   rw[hs'] at mY
   have hE4:=mY.after dD
   have hN:n+3+(q.n - (n+3))=q.n:=by omega
   rw[←hN] at hE4
   have aCx:WI (cQ p) n hp (a9 n wl3 (sK q (n+3))) (fX.sets (sK q (n+3))):=d6.sets fun x hx=>by
    rcases lY x.1 (List.mem_map.2 ⟨x,hx,rfl⟩) with h|h
    ·simp only[List.mem_cons] at h
     rcases h with h|h|h|h
     ·exact .inr (by omega)
     ·exact .inr (by omega)
     ·exact .inr (by omega)
     ·exact .inl h
    ·exact .inr (by omega)
   simp only[dL] at lZ
   refine bN (j6 @aB @aA @sB @hv @aH @aI) ?_
   apply WP.gen3
   intro hp6 c6 wl6 eG iT
   have hn6:n+3≤n+3+(q.n - (n+3)):=by omega
   have hvb:s'.vs.length≤1099511627776:=by
    have:=aCD c (fC N) _ c.step (Nat.lt_succ_self _) ⟨puts [] ((c.inn.map Dc.nm).zip ins),ms,sb⟩
    rw[hs'] at this
    simp only at this
    omega
   have hE6:REA o c p2 ⟨n,cc,n+1,gn2,n+2,gv2,p.a.x,p.a.gx⟩ s' hp6 (n+3+(q.n - (n+3))):=by rw[eG];exact hE4.mono (by simp[cY,cE]) (Nat.le_refl _)
   have hx6:hp6.get (n+3+(q.n - (n+3)))=some ⟨c3+(q.c - c3),false,[]⟩:=by rw[eG];simp
   have aNZ:WI (cQ p) n hp wl6 hp6:=by rw[eG,iT];exact WI.more aCx (by omega)
   generalize n+3+(q.n - (n+3))=n6 at hE6 hx6 hn6 ⊢
   clear eG iT hE4 aCx lZ hv hn rX lY lD mY dD yH hN hE d6 sB
   apply WP.loop' (I:=fun D2 st=>∃ (j g c5:Nat) (wl5:List Nat) (jQ:Hp) (L:List Int),j+D2=c.out.length∧L=(c.out.take j).map (fun d=>gz s'.vs d.nm)∧REA o c p2 ⟨n,cc,n+1,gn2,n+2,gv2,p.a.x,p.a.gx⟩ s' jQ n6∧WI (cQ p) n hp wl5 jQ∧jQ.get n6=some ⟨g,false,fl (bQ L)⟩∧
    st=⟨[(0,.ptr p.a.x p.a.gx 0),(5,.ptr n cc 0),(7,.osl n6 g 0 j 1 none),(8,dI j)],jQ,n6+1,c5,n,wl5⟩) (d:=c.out.length)
   ·exact ⟨0,_,_,_,_,[],by simp,by simp,hE6,aNZ,by rw[hx6];rfl,bK (by simp[dI,dL]) rfl⟩
   clear hE6 hx6 aNZ
   clear hp6 c6 wl6
   rintro D2 _ ⟨j,g,c5,wl5,jQ,L,hj,hL,hE5,aCw,lP,rfl⟩
   have hmx:p2.a.x=p.a.x:=aBP.x
   have hmg:p2.a.gx=p.a.gx:=aBP.g
   obtain ⟨lx5,vF⟩:=hE5.li.ob
   simp only[rO,Trn.c,Trn.ms] at lx5 vF
   rw[hmx] at lx5
   rw[hmx,hmg] at vF
   refine iX (j4 @aB @aA @vF @bT) ?_
   show WP _ _ _ _ _ _
   refine WP.cond _ rfl (fun hb=>?_) (fun hb=>?_)
   ·simp at hb
    have bP:j<c.out.length:=by omega
    obtain ⟨d,hd,d8,bV⟩:=bM bP
    have cG:=eD hd
    have c9:=bE bP (by omega)
    obtain ⟨F,G,hF⟩:=fY (C:=fun eW n2=>Ag n6 jQ eW∧n6≤n2) (P:=Tryz.prog) (cfg:=Ob.cfg) (f:=104) (vs:=[.ptr n cc 0,dS d.nm]) (v:=dI (gz s'.vs d.nm)) (fun eW n2 c2 hC=>aFV (b:=⟨n,cc,n+1,gn2,n+2,gv2,p.a.x,p.a.gx⟩) (hE5.ru.mono hC.1 hC.2) (by omega) d.nm c2)
    have hr:=hF jQ (n6+1) c5 ⟨Ag.refl _ _,by omega⟩
    simp only[dI,dS] at hr
    have nT:L.length=j:=by rw[hL];simp;omega
    have hLs:(c.out.take (j+1)).map (fun d=>gz s'.vs d.nm)=L++[gz s'.vs d.nm]:=by rw[bL hd,hL];simp
    have r2:=cR (b7 L)
    have r3:=cI (b7 L)
    have r4:=dT (bQ L) [.int .i64 (gz s'.vs d.nm)]
    have r5:=g7 L (gz s'.vs d.nm)
    have f5:bU (j+1) 8=true:=by simp[bU];omega
    rw[r5] at r4
    rw[aZ,nT,Nat.mul_one] at r2 r3
    simp only[List.map_cons,List.map_nil] at r4
    refine bN (j20 @aB @aA @vF @bV @cG @aR @aH @aI @hr @aP @aQ @iE.eq_def @bG @b8 @bH @f5 @r2 @r3 @r4 @lP) ?_
    refine aY (by simp[-a9,c9];exact Is.rfl) ?_
    refine ⟨D2 - 1,by omega,j+1,_,_,_,_,_,by omega,hLs.symm,hE5.mono (by simp[cY,cE,cN]) (Nat.le_refl _),(by repeat' (first|exact aCw|(refine WI.trunc ?_ (by omega))|(refine WI.set ?_ (.inr (by omega))))),by simp;rfl,bK (by simp[dI,dL,c9]) rfl⟩
   simp at hb
   have eE:j=c.out.length:=by omega
   rw[eE,List.take_length] at hL
   refine bN (jn @aB @aA) ?_
   refine ⟨.inr rfl,_,rfl,.inl rfl,n6,g,by rw[eE];rfl,by show n≤n6+1;omega,aCw,⟨p2,aBP.less (by omega),hE5.li.same (fun _ _=>rfl) (by show n6≤n6+1;omega)⟩,by rw[←hL];exact lP,by omega,by show n6<n6+1;omega⟩
  ·refine bN (j9 @aN @aO @aB @aA @aH @aI @Value.oneCell'.eq_def @kD @nx) ?_
   apply WP.gen3
   intro n9 c1 wl1 eG iT
   have hr0:n9.get n=some ⟨cc,false,[.ptr p.a.x p.a.gx 0,.osl (n+1) (cc+1) 0 0 1 none,.osl (n+2) (cc+2) 0 0 1 none]⟩:=by rw[eG];simp
   have tJ:n9.get (n+1)=some ⟨cc+1,false,[]⟩:=by rw[eG];simp
   have hr2:n9.get (n+2)=some ⟨cc+2,false,[]⟩:=by rw[eG];simp
   have aLI:Ag n hp n9:=by rw[eG];simp[cY,cE]
   have aCv:WI (cQ p) n hp wl1 n9:=by rw[eG,iT];exact WI.set2 (WI.more (WI.set2 (WI.more (WI.set2 WI.refl (.inr (Nat.le_refl n))) (by omega)) (.inr (Nat.le_refl n))) (by omega)) (.inr (Nat.le_refl n))
   clear eG iT
   have hE1:REA o c p ⟨n,cc,n+1,cc+1,n+2,cc+2,p.a.x,p.a.gx⟩ ⟨[],ms,sb⟩ n9 (n+3):=
    ⟨hK.mono aLI (by omega),⟨hr0,tJ,hr2,by simp only;omega,by simp only;omega,by simp only;omega,by simp only;omega,by simp only;omega,by simp only;omega⟩,rfl,rfl,fun h=>by have:=aId _ h;simp only at this;omega,fun h=>by have:=aId _ h;simp only at this;omega,fun h=>by have:=aId _ h;simp only at this;omega⟩
   clear hr0 tJ hr2
   have ha4:=(aLI ida ha2).trans ha1
   apply WP.loop' (I:=fun D st=>∃ (i c':Nat) (wl:List Nat) (bB:Hp) (gn gv:Nat),i+D=ins.length∧REA o c p ⟨n,cc,n+1,gn,n+2,gv,p.a.x,p.a.gx⟩ ⟨puts [] (((c.inn.map Dc.nm).zip ins).take i),ms,sb⟩ bB (n+3)∧WI (cQ p) n hp wl bB∧bB.get ida=some ⟨ga,false,fl (bQ ins)⟩∧ 
    st=⟨[(0,.ptr p.a.x p.a.gx 0),(1,.osl ida ga 0 ins.length 1 none),(5,.ptr n cc 0),(6,dI i)],bB,n+3,c',n,wl⟩) (d:=ins.length)
   ·exact ⟨0,_,_,_,cc+1,cc+2,by simp,by simpa [puts] using hE1,aCv,ha4,bK (by simp[dI,dL]) rfl⟩
   clear hE1 aCv aLI ha4
   clear n9 c1 wl1
   rintro D _ ⟨i,c',wl,bB,gn,gv,hii,hE,d6,ha5,rfl⟩
   obtain ⟨lx1,sB⟩:=hE.li.ob
   simp only[rO,Trn.c,Trn.ms] at sB
   refine iX (j3 @aB @aA @ha5) ?_
   show WP _ _ _ _ _ _
   refine WP.cond _ rfl (fun hb=>?_) (fun hb=>?_)
   ·simp at hb
    have bP:i<ins.length:=by omega
    obtain ⟨w,hw,hwm,vZ⟩:=bM bP
    have wA:=aCQ hw
    obtain ⟨d,hd,d8,bV⟩:=bM (show i<c.inn.length by omega)
    have cG:=eD hd
    have c9:=bE bP (by omega)
    have hzs:((c.inn.map Dc.nm).zip ins).take (i+1)=((c.inn.map Dc.nm).zip ins).take i++[(d.nm,w)]:=bL (by rw[List.getElem?_zip_eq_some];exact ⟨by simp[hd],hw⟩)
    have aPt:=rF (((c.inn.map Dc.nm).zip ins).take i) []
    have hzl:(((c.inn.map Dc.nm).zip ins).take i).length≤ins.length:=by simp;omega
    simp only[List.length_nil] at aPt
    have aNY:(puts [] (((c.inn.map Dc.nm).zip ins).take i)).length≤1099511627776:=by omega
    obtain ⟨q9,lZ,hv,hn,rX,lY,lD,yH,⟨gn9,gv9,mY⟩,dD⟩:=(aFE hE.ru aNY d.nm w c').caller (by
     intro z hz
     simp at hz;omega)
    have hE9:=hE.setV (fun k h1 h2=>lD k h1 h2) mY dD
    simp only[dI,dS] at lZ
    repeat (first
 | apply WP.seq
 | (apply WP.reg;(case hR=>dsimp only [eV,eA,List.map,gS,gZ];exact iZ);(case hr=>(repeat (first
 | (apply RT.op;simp[-a9,dI,dL,aZ,bT,sB,bV,cG,Dc.cells,bO,vZ,wA,ha5,hv,hn];exact iZ;(try dsimp only [a7]) <;> exact rfl)
 | (apply RT.call;(iterate 2 simp;exact iZ);exact iZ;(iterate 4 simp[-a9,dI,dL,aZ,bT,sB,bV,cG,Dc.cells,bO,vZ,wA,ha5,hv,hn];exact iZ);simp[Is];(try dsimp only [a7]) <;> exact rfl;simp;exact iZ;exact iZ)
 | (apply RT.callV;(iterate 2 simp;exact iZ);exact iZ;(iterate 3 simp[-a9,dI,dL,aZ,bT,sB,bV,cG,Dc.cells,bO,vZ,wA,ha5,hv,hn];exact iZ);(try dsimp only [a7]) <;> exact rfl)
 | (apply RT.callT (hd:=lZ) (hk:=rX);(iterate 2 simp;exact iZ);exact iZ;(iterate 2 simp[-a9,dI,dL,aZ,bT,sB,bV,cG,Dc.cells,bO,vZ,wA,ha5,hv,hn];exact iZ);(try dsimp only [a7]) <;> exact rfl)
 | (apply RT.wr;simp[-a9,dI,dL,aZ,bT,sB,bV,cG,Dc.cells,bO,vZ,wA,ha5,hv,hn];exact iZ;(try dsimp only [a7]) <;> exact rfl;simp[-a9,dI,dL,aZ,bT,sB,bV,cG,Dc.cells,bO,vZ,wA,ha5,hv,hn];exact iZ;(iterate 2 exact iZ);exact iZ)));exact RT.nil);(case hc=>first|(refine cW [(0,1),(0,2),(0,3),(0,4),(0,5),(0,6),(1,6),(2,6),(3,6),(4,6),(5,6),(0,7),(0,8),(0,9),(0,10),(1,10),(2,10),(3,10),(4,10),(5,10),(6,10),(7,10),(8,10),(9,10),(0,11),(1,11),(2,11),(3,11),(4,11),(5,11),(6,11),(7,11),(8,11),(9,11),(10,11),(0,12),(1,12),(2,12),(3,12),(4,12),(5,12),(6,12),(7,12),(8,12),(9,12),(0,13),(1,13),(2,13),(3,13),(4,13),(5,13),(6,13),(7,13),(8,13),(9,13)] (by kernel_rfl) (by kernel_rfl) rfl ?_;simp[lO,jW,dX];done)|(show _=_;kernel_rfl));(case ht=>simp[-a9,dI,dL,aZ,bT,sB,bV,cG,Dc.cells,bO,vZ,wA,ha5,hv,hn];exact iZ))
 | apply WP.block|apply WP.skip|apply WP.exit|apply WP.ret|refine WP.condT rfl ?_|refine WP.condF rfl ?_)
    refine aY (by simp[-a9,c9];exact Is.rfl) ?_
    refine ⟨D - 1,by omega,i+1,_,_,_,gn9,gv9,by omega,?_,WI.trunc (d6.sets fun z hz=>?_) (by omega),by rw[Hp.get_trunc _ _ _ (by omega)];exact (lD ida (by omega) (by simp;omega)).trans ha5,bK (by simp[dI,dL,c9]) rfl⟩
    ·rw[hzs,fQ];exact hE9.mono (by simp[cN,cE]) (Nat.le_refl _)
    ·have h:=lY z.1 (List.mem_map.2 ⟨z,hz,rfl⟩)
     simp only[List.mem_cons,List.not_mem_nil,or_false] at h
     exact .inr (by omega)
   simp at hb
   have kP:i=ins.length:=by omega
   have hzt:((c.inn.map Dc.nm).zip ins).take i=(c.inn.map Dc.nm).zip ins:=List.take_of_length_le (by simp;omega)
   rw[hzt] at hE
   refine bN (jn @aB @aA) ?_
   apply WP.gen3
   intro fX c3 wl3 eG iT
   rw[←eG] at hE sB
   rw[←eG,←iT] at d6
   clear eG iT
   have aSe:=rF ((c.inn.map Dc.nm).zip ins) []
   have aZT:((c.inn.map Dc.nm).zip ins).length≤ins.length:=by simp;omega
   simp only[List.length_nil] at aSe
   have aSf:(puts [] ((c.inn.map Dc.nm).zip ins)).length+iG c.step≤1099511627776:=by omega
   obtain ⟨q,lZ,hv,hn,rX,lY,lD,yH,⟨p2,gn2,gv2,aBP,mY⟩,dD⟩:=(aKb (h0:=htL sb) vD gK hO hc ih (by omega) 8388609 (Nat.le_refl _) c.step (by omega) hcw.step (hO.ok c hc).step _ p ⟨n,cc,n+1,gn,n+2,gv,p.a.x,p.a.gx⟩ ⟨zW hO.wf hcw hi,cC.2.1,cC.2.2,rfl⟩ aSf fX (n+3) c3 hE).caller (by
    intro x hx
    simp only[List.mem_cons] at hx
    rcases hx with hx|hx|hx|hx
    ·omega
    ·omega
    ·omega
    ·have:=aId x hx;omega)
   rw[hs'] at mY
   have hE4:=mY.after dD
   have hN:n+3+(q.n - (n+3))=q.n:=by omega
   rw[←hN] at hE4
   have aCx:WI (cQ p) n hp (a9 n wl3 (sK q (n+3))) (fX.sets (sK q (n+3))):=d6.sets fun x hx=>by
    rcases lY x.1 (List.mem_map.2 ⟨x,hx,rfl⟩) with h|h
    ·simp only[List.mem_cons] at h
     rcases h with h|h|h|h
     ·exact .inr (by omega)
     ·exact .inr (by omega)
     ·exact .inr (by omega)
     ·exact .inl h
    ·exact .inr (by omega)
   simp only[dL] at lZ
   refine bN (j6 @aB @aA @sB @hv @aH @aI) ?_
   apply WP.gen3
   intro hp6 c6 wl6 eG iT
   have hn6:n+3≤n+3+(q.n - (n+3)):=by omega
   have hvb:s'.vs.length≤1099511627776:=by
    have:=aCD c (fC N) _ c.step (Nat.lt_succ_self _) ⟨puts [] ((c.inn.map Dc.nm).zip ins),ms,sb⟩
    rw[hs'] at this
    simp only at this
    omega
   have hE6:REA o c p2 ⟨n,cc,n+1,gn2,n+2,gv2,p.a.x,p.a.gx⟩ s' hp6 (n+3+(q.n - (n+3))):=by rw[eG];exact hE4.mono (by simp[cY,cE]) (Nat.le_refl _)
   have hx6:hp6.get (n+3+(q.n - (n+3)))=some ⟨c3+(q.c - c3),false,[]⟩:=by rw[eG];simp
   have aNZ:WI (cQ p) n hp wl6 hp6:=by rw[eG,iT];exact WI.more aCx (by omega)
   generalize n+3+(q.n - (n+3))=n6 at hE6 hx6 hn6 ⊢
   clear eG iT hE4 aCx lZ hv hn rX lY lD mY dD yH hN hE d6 sB
   apply WP.loop' (I:=fun D2 st=>∃ (j g c5:Nat) (wl5:List Nat) (jQ:Hp) (L:List Int),j+D2=c.out.length∧L=(c.out.take j).map (fun d=>gz s'.vs d.nm)∧REA o c p2 ⟨n,cc,n+1,gn2,n+2,gv2,p.a.x,p.a.gx⟩ s' jQ n6∧WI (cQ p) n hp wl5 jQ∧jQ.get n6=some ⟨g,false,fl (bQ L)⟩∧
    st=⟨[(0,.ptr p.a.x p.a.gx 0),(5,.ptr n cc 0),(7,.osl n6 g 0 j 1 none),(8,dI j)],jQ,n6+1,c5,n,wl5⟩) (d:=c.out.length)
   ·exact ⟨0,_,_,_,_,[],by simp,by simp,hE6,aNZ,by rw[hx6];rfl,bK (by simp[dI,dL]) rfl⟩
   clear hE6 hx6 aNZ
   clear hp6 c6 wl6
   rintro D2 _ ⟨j,g,c5,wl5,jQ,L,hj,hL,hE5,aCw,lP,rfl⟩
   have hmx:p2.a.x=p.a.x:=aBP.x
   have hmg:p2.a.gx=p.a.gx:=aBP.g
   obtain ⟨lx5,vF⟩:=hE5.li.ob
   simp only[rO,Trn.c,Trn.ms] at lx5 vF
   rw[hmx] at lx5
   rw[hmx,hmg] at vF
   refine iX (j4 @aB @aA @vF @bT) ?_
   show WP _ _ _ _ _ _
   refine WP.cond _ rfl (fun hb=>?_) (fun hb=>?_)
   ·simp at hb
    have bP:j<c.out.length:=by omega
    obtain ⟨d,hd,d8,bV⟩:=bM bP
    have cG:=eD hd
    have c9:=bE bP (by omega)
    obtain ⟨F,G,hF⟩:=fY (C:=fun eW n2=>Ag n6 jQ eW∧n6≤n2) (P:=Tryz.prog) (cfg:=Ob.cfg) (f:=104) (vs:=[.ptr n cc 0,dS d.nm]) (v:=dI (gz s'.vs d.nm)) (fun eW n2 c2 hC=>aFV (b:=⟨n,cc,n+1,gn2,n+2,gv2,p.a.x,p.a.gx⟩) (hE5.ru.mono hC.1 hC.2) (by omega) d.nm c2)
    have hr:=hF jQ (n6+1) c5 ⟨Ag.refl _ _,by omega⟩
    simp only[dI,dS] at hr
    have nT:L.length=j:=by rw[hL];simp;omega
    have hLs:(c.out.take (j+1)).map (fun d=>gz s'.vs d.nm)=L++[gz s'.vs d.nm]:=by rw[bL hd,hL];simp
    have r2:=cR (b7 L)
    have r3:=cI (b7 L)
    have r4:=dT (bQ L) [.int .i64 (gz s'.vs d.nm)]
    have r5:=g7 L (gz s'.vs d.nm)
    have f5:bU (j+1) 8=true:=by simp[bU];omega
    rw[r5] at r4
    rw[aZ,nT,Nat.mul_one] at r2 r3
    simp only[List.map_cons,List.map_nil] at r4
    refine bN (j20 @aB @aA @vF @bV @cG @aR @aH @aI @hr @aP @aQ @iE.eq_def @bG @b8 @bH @f5 @r2 @r3 @r4 @lP) ?_
    refine aY (by simp[-a9,c9];exact Is.rfl) ?_
    refine ⟨D2 - 1,by omega,j+1,_,_,_,_,_,by omega,hLs.symm,hE5.mono (by simp[cY,cE,cN]) (Nat.le_refl _),(by repeat' (first|exact aCw|(refine WI.trunc ?_ (by omega))|(refine WI.set ?_ (.inr (by omega))))),by simp;rfl,bK (by simp[dI,dL,c9]) rfl⟩
   simp at hb
   have eE:j=c.out.length:=by omega
   rw[eE,List.take_length] at hL
   refine bN (jn @aB @aA) ?_
   refine ⟨.inr rfl,_,rfl,.inl rfl,n6,g,by rw[eE];rfl,by show n≤n6+1;omega,aCw,⟨p2,aBP.less (by omega),hE5.li.same (fun _ _=>rfl) (by show n6≤n6+1;omega)⟩,by rw[←hL];exact lP,by omega,by show n6<n6+1;omega⟩
 obtain ⟨v,u,h1,id,g,h2,h3,h4,h5⟩:=main
 refine ⟨id,g,_,h1,?_,h3,h4,h5⟩
 rw[h2,List.length_map]
end Go.Ac
end
section
set_option maxRecDepth 4000
namespace Go.Ac
open Go.Proofs
attribute [local simp] Hp.get_set cY cE cN bW
def aOd (hp:Hp) (n n':Nat) (vb:V) (outs:List Int):Prop:=(vb= .full []∧outs=[])∨∃ id g,vb= .osl id g 0 outs.length 1 none∧hp.get id=some ⟨g,false,fl (bQ outs)⟩∧n≤id∧id<n'
theorem aYk (r:Nat):Ob.keep 19 r=Ob.k19 r:=by kernel_rfl
attribute [local simp] aYk Ob.k19
set_option maxHeartbeats 8000000 in
theorem aOU {o:Oc} (vD:dH o=0) (gK:o.sz≤2097152) (hO:OW o) (t:Trn) (p:Pt) (ins:List Int) (cC:t.ok o) (wB:ins.length≤4611686018427387904) (hp:Hp) (n cc:Nat) (hK:RLies o t p hp n):
  ∃ vb,aJv 19 [.ptr p.a.x p.a.gx 0,dL (bQ ins)] hp n cc (.tuple [vb,dI (kK o.en t ins).2.2]) (cQ p) (fun bB n'=>(∃ p',Moved p p' n∧RLies o (kK o.en t ins).1 p' bB n')∧aOd bB n n' vb (kK o.en t ins).2.1):=by
 have hc:t.c∈o.cl:=((Trn.ok_eq o t).1 cC).1
 have gI:=(hO.len _ hc).sum
 have aEt:=hO.ok _ hc
 obtain ⟨lx,kD⟩:=hK.ob
 simp only[rO] at lx kD
 have nx:=nf lx
 have main:∃ (v:V) (u:St),nV Tryz.prog Ob.cfg 19 [.ptr p.a.x p.a.gx 0,dL (bQ ins)] hp n cc=some ⟨v,u.hp,u.n,u.c,u.wl⟩∧∃ vb,v= .tuple [vb,dI (kK o.en t ins).2.2]∧n≤u.n∧WI (cQ p) n hp u.wl u.hp∧(∃ p',Moved p p' n∧RLies o (kK o.en t ins).1 p' u.hp u.n)∧aOd u.hp n u.n vb (kK o.en t ins).2.1:=by
  refine wV (Q:=fun v (u:St)=>∃ vb,v= .tuple [vb,dI (kK o.en t ins).2.2]∧n≤u.n∧WI (cQ p) n hp u.wl u.hp∧(∃ p',Moved p p' n∧RLies o (kK o.en t ins).1 p' u.hp u.n)∧aOd u.hp n u.n vb (kK o.en t ins).2.1) Tryz.func19 rfl (by kernel_rfl) ?_
  unfold kK
  by_cases q1:ins.length=t.c.inn.length
  case neg=>
   rw[if_pos q1]
   have q1':=eq_false (show ¬ (ins.length:Int)=t.c.inn.length by omega)
   refine bN (qJ @aN @aO @aB @aA @aH @aI @kD @nx @aZ @bT @aV @q1') ?_
   exact ⟨.inr rfl,_,rfl,.inl rfl,.full [],rfl,Nat.le_refl n,WI.refl,⟨p,Moved.refl,hK⟩,.inl ⟨rfl,rfl⟩⟩
  rw[if_neg (fun h=>h q1)]
  have q1':=eq_true (show (ins.length:Int)=t.c.inn.length by omega)
  refine bN (qJ @aN @aO @aB @aA @aH @aI @kD @nx @aZ @bT @aV @q1') ?_
  apply WP.loop' (I:=fun D st=>∃ (i c':Nat) (wl:List Nat) (bB:Hp),i+D=ins.length∧((t.c.inn.zip ins).take i).all (fun e=>gB o.en e.1.t e.2)=true∧WI (cQ p) n hp wl bB∧Ag n hp bB∧
   st=⟨[(0,.ptr p.a.x p.a.gx 0),(1,dL (bQ ins)),(6,dI i)],bB,n,c',n,wl⟩) (d:=ins.length)
  ·exact ⟨0,_,_,_,by simp,by simp,WI.refl,Ag.refl n hp,bK (by simp[dI,dL]) rfl⟩
  rintro D _ ⟨i,c',wl,bB,hi,cF,d6,dW,rfl⟩
  have fN:=(dW _ lx).trans kD
  refine iX (j3 @aB @aA @aZ) ?_
  show WP _ _ _ _ _ _
  refine WP.cond _ rfl (fun hb=>?_) (fun hb=>?_)
  ·simp at hb
   have bP:i<t.c.inn.length:=by omega
   obtain ⟨d,hd,d8,bV⟩:=bM bP
   have cG:=eD hd
   obtain ⟨w,hw,hwm,vZ⟩:=bM (show i<ins.length by omega)
   have wA:=cP hw
   have c9:=bE bP (by omega)
   have hzd:(t.c.inn.zip ins)[i]?=some (d,w):=by rw[List.getElem?_zip_eq_some];exact ⟨hd,hw⟩
   have hh:=aKi o.en d.t w ((aEt.inn d d8).1)
   simp only[dL,dI,dB] at hh
   have hs:=bZ (p:=fun e:Dc×Int=>gB o.en e.1.t e.2) hzd
   cases hz:gB o.en d.t w with
   | true=>
    rw[hz] at hh
    refine bN (vM @aB @aA @bV @cG @aR @aH @aI @vZ @wA @aZ @bT @fN @nx @hh) ?_
    refine aY (by simp[-a9,c9];exact Is.rfl) ?_
    exact ⟨D - 1,by omega,i+1,_,_,_,by omega,by rw[hs,cF,hz];rfl,WI.trunc d6 (Nat.le_refl _),by simp[dW],bK (by simp[dI,dL,c9]) rfl⟩
   | false=>
    rw[hz] at hh
    have hk:okI o.en t.c.inn ins=false:=by
     unfold okI
     cases ha:(t.c.inn.zip ins).all (fun p=>gB o.en p.1.t p.2) with
     | false=>rfl
     | true=>
      have:=List.all_eq_true.1 ha _ (List.mem_of_getElem? hzd)
      simp only at this
      rw[hz] at this;cases this
    rw[if_pos hk]
    refine bN (vM @aB @aA @bV @cG @aR @aH @aI @vZ @wA @aZ @bT @fN @nx @hh) ?_
    exact ⟨.inr rfl,_,rfl,.inl rfl,.full [],rfl,Nat.le_refl n,d6,⟨p,Moved.refl,hK.mono dW (Nat.le_refl _)⟩,.inl ⟨rfl,rfl⟩⟩
  simp at hb
  have kP:i=ins.length:=by omega
  have hk:okI o.en t.c.inn ins=true:=by
   have hzt:(t.c.inn.zip ins).take i=t.c.inn.zip ins:=List.take_of_length_le (by simp;omega)
   rw[hzt] at cF;exact cF
  rw[if_neg (by simp[hk])]
  refine bN (jn @aB @aA) ?_
  apply WP.gen3
  intro fX c3 wl3 eG iT
  have tI:Ag n hp fX:=by rw[eG];exact dW
  have mX:WI (cQ p) n hp wl3 fX:=by rw[eG,iT];exact d6
  clear eG iT
  obtain ⟨id,g,aAP⟩:=aOu vD gK hO t.ht t p ins (dL (bQ ins)) (Nat.le_refl _) cC (aIv q1 hk) fX n c3 (hK.mono tI (Nat.le_refl n)) (.inl rfl)
  obtain ⟨q,lZ,hv,hn,rX,lY,lD,yH,⟨⟨p2,hmv,mY⟩,ho1,uC,ho3⟩,dD⟩:=aAP.caller (fun k h=>hK.lt k h)
  have hL4:=mY.after dD
  have ho4:=(dD id ho3 (by rw[ho1];rfl)).trans ho1
  have hN:n+(q.n - n)=q.n:=by omega
  simp only[dL] at lZ
  refine bN (j3 @aB @aA @hv) ?_
  refine ⟨.inr rfl,_,rfl,.inl rfl,_,rfl,Nat.le_add_right _ _,mX.sets fun x hx=>lY x.1 (List.mem_map.2 ⟨x,hx,rfl⟩),⟨p2,hmv,?_⟩,.inr ⟨id,g,rfl,ho4,uC,?_⟩⟩
  ·show RLies _ _ _ _ (n+(q.n - n))
   rw[hN];exact hL4
  ·show id<n+(q.n - n)
   omega
 obtain ⟨v,u,h1,vb,h2,h3,h4,h5⟩:=main
 exact ⟨vb,_,h1,h2,h3,h4,h5⟩
end Go.Ac
end
section
set_option maxRecDepth 4000
namespace Go.Ac
open Go.Proofs
attribute [local simp] Hp.get_set cY cE cN bW
theorem aRc {o:Oc} (hw:∀ c,c∈o.cl→CWf o c) {t:Trn} (h:t.ok o):t.ms.map Prod.snd=t.c.mems.map (fun d=>gz t.ms d.nm):=by
 obtain ⟨c,ms,sb⟩:=t
 rw[Trn.ok] at h
 have hn:=(hw c h.1).mn
 have k:=h.2.1.1
 show ms.map Prod.snd=c.mems.map fun d=>gz ms d.nm
 rw[←aMs (by rw[k];exact hn),k,List.map_map];rfl
theorem aUq (r:Nat):Ob.keep 22 r=Ob.k22 r:=by kernel_rfl
attribute [local simp] aUq Ob.k22
set_option maxHeartbeats 8000000 in
theorem aLe {o:Oc} (hO:OW o):∀ (N:Nat) (t:Trn) (p:Pt),t.ht<N→t.ok o→(mS t).length≤17592186044416→∀ hp n cc,RLies o t p hp n→jL Tryz.prog Ob.cfg 22 [.ptr p.a.x p.a.gx 0] hp n cc (dL (bQ (mS t))):=by
 intro N
 induction N with
 | zero=>intro t p h;omega
 | succ N ih=>
 intro t p hht cC hml hp n cc hK
 have aWu:=aRc hO.wf cC
 obtain ⟨c,ms,sb⟩:=t
 rw[Trn.ok] at cC
 rw[Trn.ht] at hht
 rw[mS] at hml ⊢
 simp only[Trn.ms,Trn.c] at aWu
 rw[←aWu] at hml ⊢
 rw[List.length_append,List.length_map] at hml
 have hc:=cC.1
 have gI:=(hO.len c hc).sum
 obtain ⟨lx,kD⟩:=hK.ob
 obtain ⟨lm,hmo⟩:=hK.mo
 obtain ⟨li,hio⟩:=hK.io
 obtain ⟨yY,hpl⟩:=hK.len
 simp only[rO,Trn.c,Trn.ms,Trn.sb] at kD hmo yY hpl
 have nx:=nf lx
 have ni:=nf li
 have nm:=nf lm
 have v2:=cR (b7 (ms.map Prod.snd))
 have v3:=cI (b7 (ms.map Prod.snd))
 rw[aZ,List.length_map,Nat.mul_one] at v2 v3
 have f0:bU ms.length 8=true:=by simp[bU];omega
 refine j1 Tryz.func22 rfl (by kernel_rfl) rfl ?_
 refine cT (j19 @aN @aO @aB @aA @aH @aI @kD @hmo @nx @nm @v2 @v3 @f0 @aP @aQ @iE.eq_def @bG @b8 @bH) ?_
 apply WP.loop' (I:=fun D2 st=>∃ (i g2 m c5:Nat) (jQ:Hp) (L5:List Int),i+D2=c.ins.length∧L5=ms.map Prod.snd++oY (sb.take i)∧m=L5.length∧Ag n hp jQ∧jQ.get n=some ⟨g2,false,fl (bQ L5)⟩∧
  st=⟨[(0,.ptr p.a.x p.a.gx 0),(3,.osl n g2 0 m 1 none),(4,dI i)],jQ,n+1,c5,n,[]⟩) (d:=c.ins.length)
 ·exact ⟨0,cc+1,ms.length,_,_,ms.map Prod.snd,by simp,by simp[oY],by simp,by simp[cY,cE],by simp,bK (by simp[dI,dL]) rfl⟩
 rintro D2 _ ⟨i,g2,m,c5,jQ,L5,hi5,hL5,hm5,vE,lP,rfl⟩
 have aEi:=eq_true vE
 have vF:=(vE _ lx).trans kD
 have aGD:=(vE _ li).trans hio
 refine pS (j4 @aB @aA @vF @aGD) ?_
 show WP _ _ _ _ _ _
 refine WP.cond _ rfl (fun hb=>?_) (fun hb=>?_)
 ·simp at hb
  have hb5:i<c.ins.length:=by omega
  have c9:=bE hb5 (by omega)
  have jP:sb[i]?=some (sb[i]'(by omega)):=List.getElem?_eq_getElem (by omega)
  generalize (sb[i]'(by omega))=t at jP
  obtain ⟨q,hq,pR⟩:=hK.sub (i:=i) (u:=t) jP
  obtain ⟨_,_,_,hto⟩:=uZ o sb c.ins i t cC.2.2 jP
  have aEj:t.ht<N:=by have:=lM (List.mem_of_getElem? jP);omega
  have hmt:=aBK sb i t jP
  have yM:=aFY sb (i+1)
  rw[hmt,List.length_append] at yM
  have rZ:jR (i:Int) p.ps.length=some i:=kX (by omega)
  have hE0:(p.ps.map eQ)[i]?=some (.ptr q.a.x q.a.gx 0):=by rw[List.getElem?_map,hq];rfl
  obtain ⟨F,G,hF⟩:=fY (C:=fun eW n2=>Ag n hp eW∧n≤n2) (P:=Tryz.prog) (cfg:=Ob.cfg) (f:=22) (vs:=[.ptr q.a.x q.a.gx 0]) (v:=dL (bQ (mS t))) (fun eW n2 c2 hC=>ih t q aEj hto (by omega) eW n2 c2 (pR.mono hC.1 hC.2))
  have hr:=fun eW n2 c2 a b=>hF eW n2 c2 ⟨a,b⟩
  simp only[dL] at hr
  have r2:=cR (b7 L5)
  have r3:=cI (b7 L5)
  rw[aZ,←hm5,Nat.mul_one] at r2 r3
  have f5:bU (m+(mS t).length) 8=true:=by simp[bU];rw[hm5,hL5,List.length_append,List.length_map];omega
  refine cT (j23 @aB @aA @rZ @hE0 @vF @aGD @nx @ni @hr @lP @aEi @aP @aQ @iE.eq_def @bG @b8 @bH @f5 @r2 @r3 @aZ @aAb @sM) ?_
  refine aY (by simp[c9];exact Is.rfl) ?_
  refine ⟨D2 - 1,by omega,i+1,_,m+(mS t).length,_,_,L5++mS t,by omega,by rw[hL5,hmt,List.append_assoc],by rw[List.length_append,←hm5],by simp[vE],by simp;rfl,bK (by simp[dI,dL,c9]) rfl⟩
 simp at hb
 have kP:i=c.ins.length:=by omega
 have hst:sb.take i=sb:=List.take_of_length_le (by omega)
 rw[hst] at hL5
 refine cT (jn @aB @aA) ?_
 have gI:=jA (look:=jQ.get) (id:=n) (g:=g2) (ro:=false) (cap:=none) (b7 L5) lP
 rw[aZ,←hm5] at gI
 refine ⟨.inr rfl,rfl,_,[n],rfl,?_,by simp[Nat.ble_eq]⟩
 show d7 jQ.get (.osl n g2 0 m 1 none)=_
 rw[gI,hL5]
end Go.Ac
end
section
set_option maxRecDepth 4000
namespace Go.Ac
open Go.Proofs
attribute [local simp] Hp.get_set cY cE cN bW
theorem aXv (r:Nat):Ob.keep 57 r=Ob.k57 r:=by kernel_rfl
attribute [local simp] aXv Ob.k57
set_option maxHeartbeats 8000000 in
theorem aNk {o:Oc} (hO:OW o):∀ (N:Nat) (t:Trn) (p:Pt),t.ht<N→t.ok o→(d9 t).length≤17592186044416→∀ hp n cc,RLies o t p hp n→jL Tryz.prog Ob.cfg 57 [.ptr p.a.x p.a.gx 0] hp n cc (dL (bQ (d9 t))):=by
 intro N
 induction N with
 | zero=>intro t p h;omega
 | succ N ih=>
 intro t p hht cC hml hp n cc hK
 obtain ⟨c,ms,sb⟩:=t
 rw[Trn.ok] at cC
 rw[Trn.ht] at hht
 rw[d9] at hml ⊢
 rw[List.length_append,List.length_map] at hml
 have hc:=cC.1
 have gI:=(hO.len c hc).sum
 obtain ⟨lx,kD⟩:=hK.ob
 obtain ⟨li,hio⟩:=hK.io
 obtain ⟨yY,hpl⟩:=hK.len
 simp only[rO,Trn.c,Trn.ms,Trn.sb] at kD yY hpl
 have nx:=nf lx
 have ni:=nf li
 refine j1 Tryz.func57 rfl (by kernel_rfl) rfl ?_
 refine cT (j8 @aN @aO @aB @aA @aH @aI @kD @nx) ?_
 apply WP.loop' (I:=fun D st=>∃ (j g c':Nat) (bB:Hp) (L:List Int),j+D=c.mems.length∧L=(c.mems.take j).map (fun d=>d.t)∧Ag n hp bB∧bB.get n=some ⟨g,false,fl (bQ L)⟩∧
  st=⟨[(0,.ptr p.a.x p.a.gx 0),(3,.osl n g 0 j 1 none),(4,dI j)],bB,n+1,c',n,[]⟩) (d:=c.mems.length)
 ·exact ⟨0,_,_,_,[],by simp,by simp,by simp,by simp[fl,bQ];rfl,bK (by simp[dI,dL]) rfl⟩
 rintro D _ ⟨j,g,c',bB,L,hj,hL,dW,hx,rfl⟩
 have dN:=eq_true dW
 have fN:=(dW _ lx).trans kD
 refine pS (j4 @aB @aA @fN @jC) ?_
 show WP _ _ _ _ _ _
 refine WP.cond _ rfl (fun hb=>?_) (fun hb=>?_)
 ·simp at hb
  have bP:j<c.mems.length:=by omega
  obtain ⟨d,hd,d8,bV⟩:=bM bP
  have cG:=kI hd
  have c9:=bE bP (by omega)
  have y6:=bL hd
  have nT:L.length=j:=by rw[hL];simp;omega
  have hLs:(c.mems.take (j+1)).map (fun d=>d.t)=L++[d.t]:=by rw[y6,hL];simp
  have r2:=cR (b7 L)
  have r3:=cI (b7 L)
  have r4:=dT (bQ L) [.int .i64 (d.t)]
  have r5:=g7 L (d.t)
  have f5:bU (j+1) 8=true:=by simp[bU];omega
  rw[r5] at r4
  rw[aZ,nT,Nat.mul_one] at r2 r3
  simp only[List.map_cons,List.map_nil] at r4
  refine cT (j21 @aB @aA @bV @cG @Mm.cells.eq_1 @aH @aI @fN @nx @hx @aP @aQ @iE.eq_def @bG @b8 @bH @f5 @r2 @r3 @r4 @jC) ?_
  refine aY (by simp[c9];exact Is.rfl) ?_
  exact ⟨D - 1,by omega,j+1,_,_,_,_,by omega,hLs.symm,by simp[dW],by simp;rfl,bK (by simp[dI,dL,c9]) rfl⟩
 simp at hb
 have eE:j=c.mems.length:=by omega
 rw[eE,List.take_length] at hL
 refine cT (j4 @aB @aA @fN @nx) ?_
 have nT:L.length=j:=by rw[hL,eE];simp
 apply WP.loop' (I:=fun D2 st=>∃ (i g2 m c5:Nat) (jQ:Hp) (L5:List Int),i+D2=c.ins.length∧L5=L++iW (sb.take i)∧m=L5.length∧Ag n hp jQ∧jQ.get n=some ⟨g2,false,fl (bQ L5)⟩∧
  st=⟨[(0,.ptr p.a.x p.a.gx 0),(3,.osl n g2 0 m 1 none),(5,dI i)],jQ,n+1,c5,n,[]⟩) (d:=c.ins.length)
 ·exact ⟨0,g,j,_,_,L,by simp,by simp[iW],nT.symm,dW,hx,bK (by simp[dI,dL]) rfl⟩
 rintro D2 _ ⟨i,g2,m,c5,jQ,L5,hi5,hL5,hm5,vE,lP,rfl⟩
 have aEi:=eq_true vE
 have vF:=(vE _ lx).trans kD
 have aGD:=(vE _ li).trans hio
 refine pS (j4 @aB @aA @vF @aGD) ?_
 show WP _ _ _ _ _ _
 refine WP.cond _ rfl (fun hb=>?_) (fun hb=>?_)
 ·simp at hb
  have hb5:i<c.ins.length:=by omega
  have c9:=bE hb5 (by omega)
  have jP:sb[i]?=some (sb[i]'(by omega)):=List.getElem?_eq_getElem (by omega)
  generalize (sb[i]'(by omega))=t at jP
  obtain ⟨q,hq,pR⟩:=hK.sub (i:=i) (u:=t) jP
  obtain ⟨_,_,_,hto⟩:=uZ o sb c.ins i t cC.2.2 jP
  have aEj:t.ht<N:=by have:=lM (List.mem_of_getElem? jP);omega
  have hmt:=tT sb i t jP
  have yM:=aAx sb (i+1)
  rw[hmt,List.length_append] at yM
  have rZ:jR (i:Int) p.ps.length=some i:=kX (by omega)
  have hE0:(p.ps.map eQ)[i]?=some (.ptr q.a.x q.a.gx 0):=by rw[List.getElem?_map,hq];rfl
  obtain ⟨F,G,hF⟩:=fY (C:=fun eW n2=>Ag n hp eW∧n≤n2) (P:=Tryz.prog) (cfg:=Ob.cfg) (f:=57) (vs:=[.ptr q.a.x q.a.gx 0]) (v:=dL (bQ (d9 t))) (fun eW n2 c2 hC=>ih t q aEj hto (by omega) eW n2 c2 (pR.mono hC.1 hC.2))
  have hr:=fun eW n2 c2 a b=>hF eW n2 c2 ⟨a,b⟩
  simp only[dL] at hr
  have r2:=cR (b7 L5)
  have r3:=cI (b7 L5)
  rw[aZ,←hm5,Nat.mul_one] at r2 r3
  have f5:bU (m+(d9 t).length) 8=true:=by simp[bU];rw[hm5,hL5,List.length_append,nT,eE];omega
  refine cT (j23 @aB @aA @rZ @hE0 @vF @aGD @nx @ni @hr @lP @aEi @aP @aQ @iE.eq_def @bG @b8 @bH @f5 @r2 @r3 @aZ @aAb @sM) ?_
  refine aY (by simp[c9];exact Is.rfl) ?_
  refine ⟨D2 - 1,by omega,i+1,_,m+(d9 t).length,_,_,L5++d9 t,by omega,by rw[hL5,hmt,List.append_assoc],by rw[List.length_append,←hm5],by simp[vE],by simp;rfl,bK (by simp[dI,dL,c9]) rfl⟩
 simp at hb
 have kP:i=c.ins.length:=by omega
 have hst:sb.take i=sb:=List.take_of_length_le (by omega)
 rw[hst,hL] at hL5
 refine cT (jn @aB @aA) ?_
 have gI:=jA (look:=jQ.get) (id:=n) (g:=g2) (ro:=false) (cap:=none) (b7 L5) lP
 rw[aZ,←hm5] at gI
 refine ⟨.inr rfl,rfl,_,[n],rfl,?_,by simp[Nat.ble_eq]⟩
 show d7 jQ.get (.osl n g2 0 m 1 none)=_
 rw[gI,hL5]
end Go.Ac
end
section
set_option maxRecDepth 4000
namespace Go.Ac
open Go.Proofs
attribute [local simp] Hp.get_set cY cE cN bW
theorem w9 {ms:List (Tx×Int)} {ks:List Tx} {m:List Int} (hk:ms.map Prod.fst=ks) (hn:ks.Nodup) (hm:ks.length≤m.length):∀ i,i≤ks.length→puts ms ((ks.zip m).take i)=(ks.zip m).take i++ms.drop i
 | 0,_=>by simp[puts]
 | i+1,hi=>by
  have hlm:ms.length=ks.length:=by rw[←hk];simp
  have h1:(ks.zip m)[i]?=some (ks[i]'(by omega),m[i]'(by omega)):=by rw[List.getElem?_zip_eq_some];exact ⟨List.getElem?_eq_getElem (by omega),List.getElem?_eq_getElem (by omega)⟩
  have h2:ms.drop i=(ks[i]'(by omega),(ms[i]'(by omega)).2)::ms.drop (i+1):=by
   rw[List.drop_eq_getElem_cons (by omega)]
   congr 1
   have:(ms.map Prod.fst)[i]'(by simp;omega)=ks[i]'(by omega):=by simp only[hk]
   rw[←this,List.getElem_map]
  rw[bL h1,fQ,w9 hk hn hm i (by omega),h2,aHH,List.append_assoc]
  ·rfl
  ·intro hx
   rw[List.map_take,List.map_fst_zip (by omega)] at hx
   obtain ⟨j,hj⟩:=List.mem_iff_getElem?.1 hx
   rw[List.getElem?_take] at hj
   split at hj
   ·rename_i hji
    have h3:=List.getElem?_eq_some_iff.1 hj
    obtain ⟨h4,h5⟩:=h3
    exact (List.pairwise_iff_getElem.1 hn j i h4 (by omega) hji) h5
   ·cases hj
theorem aGt {ms:List (Tx×Int)} {ks:List Tx} {m:List Int} (hk:ms.map Prod.fst=ks) (hn:ks.Nodup) (hm:ks.length≤m.length) {i:Nat} {w:Int} (hi:i<ks.length) (hw:m[i]?=some w):(puts ms ((ks.zip m).take (i+1))).map Prod.snd=((puts ms ((ks.zip m).take i)).map Prod.snd).set i w∧(puts ms ((ks.zip m).take i)).length=ms.length:=by
 have hlm:ms.length=ks.length:=by rw[←hk];simp
 rw[w9 hk hn hm i (by omega),w9 hk hn hm (i+1) (by omega)]
 have h1:(ks.zip m)[i]?=some (ks[i]'(by omega),w):=by rw[List.getElem?_zip_eq_some];exact ⟨List.getElem?_eq_getElem (by omega),hw⟩
 have hl:((ks.zip m).take i).length=i:=by simp;omega
 refine ⟨?_,by simp;omega⟩
 rw[bL h1,List.drop_eq_getElem_cons (show i<ms.length by omega)]
 simp only[List.map_append,List.map_cons,List.map_nil,List.append_assoc]
 rw[List.set_append_right _ _ (by simp;omega)]
 have e:i - (List.map Prod.snd ((ks.zip m).take i)).length=0:=by rw[List.length_map,hl];omega
 rw[e,List.set_cons_zero]
 rfl
theorem aNn {α:Type} {l:List α} {i:Nat} {x:α} (h:l[i]?=some x):l.set i x=l:=by
 apply List.ext_getElem?
 intro j
 rw[List.getElem?_set]
 split
 ·rename_i e;subst e;rw[h,if_pos (List.getElem?_eq_some_iff.1 h).1]
 ·rfl
theorem aWM (r:Nat):Ob.keep 58 r=Ob.k58 r:=by kernel_rfl
attribute [local simp] aWM Ob.k58
set_option maxHeartbeats 8000000 in
theorem aOK {o:Oc} (hO:OW o):∀ (N:Nat) (t:Trn) (p:Pt) (m:List Int),t.ht<N→t.ok o→(d9 t).length≤m.length→m.length≤4611686018427387904→∀ hp n cc,RLies o t p hp n→
  yL Tryz.prog Ob.cfg 58 [.ptr p.a.x p.a.gx 0,dL (bQ m)] hp n cc (dL (bQ (m.drop (d9 t).length))) (cQ p) (fun bB=>RLies o (qA t m) p bB n):=by
 intro N
 induction N with
 | zero=>intro t p m h;omega
 | succ N ih=>
 intro t p m hht cC hml hmm hp n cc hK
 obtain ⟨c,ms,sb⟩:=t
 obtain ⟨pb,ps⟩:=p
 rw[Trn.ok] at cC
 rw[Trn.ht] at hht
 rw[d9] at hml ⊢
 rw[qA]
 rw[List.length_append,List.length_map] at hml
 have hc:=cC.1
 have gI:=(hO.len c hc).sum
 have hmn:=(hO.wf c hc).mn
 have hmk:=cC.2.1.1
 obtain ⟨lx,kD⟩:=hK.ob
 obtain ⟨lm,hmo⟩:=hK.mo
 obtain ⟨li,hio⟩:=hK.io
 obtain ⟨yY,hpl⟩:=hK.len
 simp only[rO,Trn.c,Trn.ms,Trn.sb,Pt.a,Pt.ps] at lx lm li kD hmo hio yY hpl
 have aZU:ms.length=c.mems.length:=by have:=congrArg List.length hmk;simpa using this
 show yL Tryz.prog Ob.cfg 58 [.ptr pb.x pb.gx 0,dL (bQ m)] hp n cc _ _ _
 refine oP Tryz.func58 rfl (by kernel_rfl) rfl ?_
 refine bN (j4 @aN @aO @aB @aA) ?_
 apply WP.loop' (I:=fun D st=>∃ (i c':Nat) (wl:List Nat) (bB:Hp),i+D=c.mems.length∧RLies o (.mk c (puts ms (((c.mems.map Mm.nm).zip m).take i)) sb) (.mk pb ps) bB n∧WI (cQ (.mk pb ps)) n hp wl bB∧
  st=⟨[(0,.ptr pb.x pb.gx 0),(1,dL (bQ m)),(5,dI i)],bB,n,c',n,wl⟩) (d:=c.mems.length)
 ·exact ⟨0,_,_,_,by simp,by simpa [puts] using hK,WI.refl,bK (by simp[dI,dL]) rfl⟩
 rintro D _ ⟨i,c',wl,bB,hi,hE,d6,rfl⟩
 have fN:=hE.ob.2
 have uE:=hE.mo.2
 simp only[rO,Trn.c,Trn.ms,Trn.sb,Pt.a,Pt.ps] at fN uE
 have hlm:(puts ms (((c.mems.map Mm.nm).zip m).take i)).length=ms.length:=by rw[w9 hmk hmn (by simp;omega) i (by simp;omega)];simp;omega
 rw[hlm,aZU] at fN
 refine iX (j4 @aB @aA @fN @uE) ?_
 show WP _ _ _ _ _ _
 refine WP.cond _ rfl (fun hb=>?_) (fun hb=>?_)
 ·simp at hb
  have bP:i<c.mems.length:=by omega
  have c9:=bE bP (by omega)
  have hi1:=kX bP
  obtain ⟨w,hw,hwm,vZ⟩:=bM (show i<m.length by omega)
  have wA:=cP hw
  have hps:=aGt hmk hmn (by simp;omega) (by simp;omega) hw
  generalize hme:puts ms (((c.mems.map Mm.nm).zip m).take i)=msi at hE uE hlm hps
  have hlV:(fl (bQ (msi.map Prod.snd))).length=c.mems.length:=by rw[qP];simp;omega
  have hj1:=eq_true (show i+1≤c.mems.length by omega)
  have hj2:=eq_true bP
  have lm4:=eq_true lm
  repeat (first
 | apply WP.seq
 | (apply WP.reg;(case hR=>dsimp only [eV,eA,List.map,gS,gZ];exact iZ);(case hr=>(repeat (first
 | (apply RT.op;simp[-a9,dI,dL,fN,uE,hi1,vZ,wA,aZ,hlV,hj1,hj2,lm4,bH];exact iZ;(try dsimp only [a7]) <;> exact rfl)
 | (apply RT.call;(iterate 2 simp;exact iZ);exact iZ;(iterate 4 simp[-a9,dI,dL,fN,uE,hi1,vZ,wA,aZ,hlV,hj1,hj2,lm4,bH];exact iZ);simp[Is];(try dsimp only [a7]) <;> exact rfl;simp;exact iZ;exact iZ)
 | (apply RT.callV;(iterate 2 simp;exact iZ);exact iZ;(iterate 3 simp[-a9,dI,dL,fN,uE,hi1,vZ,wA,aZ,hlV,hj1,hj2,lm4,bH];exact iZ);(try dsimp only [a7]) <;> exact rfl)
 | (apply RT.callT (hd:=lZ) (hk:=rX);(iterate 2 simp;exact iZ);exact iZ;(iterate 2 simp[-a9,dI,dL,fN,uE,hi1,vZ,wA,aZ,hlV,hj1,hj2,lm4,bH];exact iZ);(try dsimp only [a7]) <;> exact rfl)
 | (apply RT.wr;simp[-a9,dI,dL,fN,uE,hi1,vZ,wA,aZ,hlV,hj1,hj2,lm4,bH];exact iZ;(try dsimp only [a7]) <;> exact rfl;simp[-a9,dI,dL,fN,uE,hi1,vZ,wA,aZ,hlV,hj1,hj2,lm4,bH];exact iZ;(iterate 2 exact iZ);exact iZ)));exact RT.nil);(case hc=>first|(refine cW [(0,4),(1,4),(2,4),(3,4),(0,5),(1,5),(2,5),(3,5),(4,5),(0,6),(1,6),(2,6),(3,6),(4,6),(5,6),(0,7),(1,7),(2,7),(3,7),(4,7),(0,8),(1,8),(2,8),(3,8),(4,8)] (by kernel_rfl) (by kernel_rfl) rfl ?_;simp[lO,jW,dX];done)|(show _=_;kernel_rfl));(case ht=>simp[-a9,dI,dL,fN,uE,hi1,vZ,wA,aZ,hlV,hj1,hj2,lm4,bH];exact iZ))
 | apply WP.block|apply WP.skip|apply WP.exit|apply WP.ret|refine WP.condT rfl ?_|refine WP.condF rfl ?_)
  refine aY (by simp[-a9,c9];exact Is.rfl) ?_
  refine ⟨D - 1,by omega,i+1,_,_,_,by omega,?_,(WI.set d6 (.inl (by rw[cQ];simp))).trunc (Nat.le_refl _),bK (by simp[dI,dL,c9]) rfl⟩
  have aZV:(puts ms (((c.mems.map Mm.nm).zip m).take (i+1))).length=ms.length:=by rw[w9 hmk hmn (by simp;omega) (i+1) (by simp;omega)];simp;omega
  refine hE.setM (by rw[aZV,hlm]) fun id c8=>?_
  rw[hps.1,←aDD _ _ _ (by simp;omega),Hp.get_trunc _ _ _ c8]
  by_cases hq:id=pb.im
  ·subst hq;simp
  ·simp[hq,Ne.symm hq]
 simp at hb
 have kP:i=c.mems.length:=by omega
 have hzt:((c.mems.map Mm.nm).zip m).take i=(c.mems.map Mm.nm).zip m:=List.take_of_length_le (by simp;omega)
 rw[hzt] at hE hlm uE
 have aSg:=fun look e b z=>aDC look e b z (b7 m) (j:=c.mems.length) (by rw[aZ];omega)
 rw[aEE] at aSg
 refine bN (j6 @aB @aA @fN @uE @aZ @aSg) ?_
 obtain ⟨m1,hm1⟩:∃ m1,m1=m.drop c.mems.length:=⟨_,rfl⟩
 have aZM:m1.length=m.length - c.mems.length:=by rw[hm1];simp
 rw[←hm1]
 generalize aZN:puts ms ((c.mems.map Mm.nm).zip m)=ms1 at hE hlm uE ⊢
 clear fN uE hzt hb aSg
 apply WP.loop' (I:=fun D2 st=>∃ (i c':Nat) (wl:List Nat) (bB:Hp),i+D2=c.ins.length∧RLies o (.mk c ms1 (vK sb m1 i)) (.mk pb ps) bB n∧WI (cQ (.mk pb ps)) n hp wl bB∧
  st=⟨[(0,.ptr pb.x pb.gx 0),(1,dL (bQ (m1.drop (iW (sb.take i)).length))),(6,dI i)],bB,n,c',n,wl⟩) (d:=c.ins.length)
 ·exact ⟨0,_,_,_,by simp,by rw[aDg];exact hE,d6,bK (by simp[dI,dL,iW]) rfl⟩
 clear hE d6 kP hi
 clear i c' wl bB D
 rintro D _ ⟨i,c',wl,bB,hi,hE,d6,rfl⟩
 have gH:=hE.ob.2
 have jZ:=hE.io.2
 simp only[rO,Trn.c,Trn.ms,Trn.sb,Pt.a,Pt.ps] at gH jZ
 refine iX (j4 @aB @aA @gH @jZ) ?_
 show WP _ _ _ _ _ _
 refine WP.cond _ rfl (fun hb=>?_) (fun hb=>?_)
 ·simp at hb
  have bP:i<c.ins.length:=by omega
  have c9:=bE bP (by omega)
  have jP:sb[i]?=some (sb[i]'(by omega)):=List.getElem?_eq_getElem (by omega)
  generalize (sb[i]'(by omega))=t at jP
  obtain ⟨_,_,_,hto⟩:=uZ o sb c.ins i t cC.2.2 jP
  obtain ⟨q,hq,pR⟩:=hE.sub (i:=i) (u:=t) (z7 sb m1 jP)
  have hq:ps[i]?=some q:=hq
  have rZ:jR (i:Int) ps.length=some i:=kX (by omega)
  have hE0:(ps.map eQ)[i]?=some (.ptr q.a.x q.a.gx 0):=by rw[List.getElem?_map,hq];rfl
  have aEj:t.ht<N:=by have:=lM (List.mem_of_getElem? jP);omega
  have hmt:=tT sb i t jP
  have yM:=aAx sb (i+1)
  rw[hmt,List.length_append] at yM
  have hmq:∀ k,k∈cQ q→k∈cQ (.mk pb ps):=fun k hk=>by rw[cQ];exact List.mem_cons_of_mem _ (List.mem_cons_of_mem _ (List.mem_cons_of_mem _ (oQ ps i q hq k hk)))
  obtain ⟨r0,lZ,hv,hn,rX,lY,lD,yH,mY,dD⟩:=(ih t q (m1.drop (iW (sb.take i)).length) aEj hto (by rw[List.length_drop];omega) (by rw[List.length_drop];omega) bB n c' pR).caller (fun k hk=>pR.lt k hk)
  rw[List.drop_drop] at hv
  simp only[dL] at lZ hv
  refine bN (j8 @aB @aA @gH @jZ @rZ @hE0 @hv @hn) ?_
  refine aY (by simp[-a9,c9];exact Is.rfl) ?_
  have hL4:=(hE.setS (z7 sb m1 jP) hq Moved.refl (mY.after dD) (Nat.le_refl _) (fun k hk h=>lD k hk h)).1
  rw[aNn hq,←aDe sb m1 jP] at hL4
  exact ⟨D - 1,by omega,i+1,_,_,_,by omega,hL4.mono (by simp[cN,cE]) (Nat.le_refl _),WI.trunc (d6.sets fun x hx=> .inl (hmq _ (lY x.1 (List.mem_map.2 ⟨x,hx,rfl⟩)))) (Nat.le_refl _),bK (by simp[dI,dL,c9,hmt]) rfl⟩
 simp at hb
 have kP:i=sb.length:=by omega
 rw[kP,aEN] at hE
 rw[kP,List.take_length]
 refine bN (jn @aB @aA) ?_
 refine ⟨.inr rfl,_,[],rfl,?_,rfl,d6,?_⟩
 ·show some _=some _
  rw[List.length_append,List.length_map,←List.drop_drop,hm1]
  rfl
 ·show RLies _ _ _ (Hp.trunc n bB) n
  exact hE.mono (by simp[cN,cE]) (Nat.le_refl _)
end Go.Ac
end
