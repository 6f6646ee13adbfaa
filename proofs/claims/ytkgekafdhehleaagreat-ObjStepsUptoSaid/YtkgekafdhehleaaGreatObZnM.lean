/- New (the reference's); what stands on no instance. -/
import Derived.Test.YtkgekafdhehleaaGreatObKaM
import Derived.Test.YtkgekafdhehleaaGreatObZj
set_option linter.unusedVariables false
set_option linter.unusedSimpArgs false
section
set_option maxRecDepth 4000
namespace Go.Ac
open Go.Proofs
attribute [local simp] Hp.get_set dA cK cR bW
theorem Moved.less {p p':Pt} {n n':Nat} (h:Moved p p' n') (hn:n≤n'):Moved p p' n:=⟨h.x,h.g,fun k hk=>by
 rcases h.sub k hk with h2|h2
 ·exact .inl h2
 ·exact .inr (by omega)⟩
theorem WI.set2 {ids0:List Nat} {n k:Nat} {rU hp:Hp} {wl:List Nat} {x y:Ob} (h:WI ids0 n rU wl hp) (hk:k∈ids0∨n≤k):WI ids0 n rU (bA n wl [(k,y)]) (hp.set k x):=by
 have e:bA n wl [(k,y)]=bA n wl [(k,x)]:=by simp only[bA]
 rw[e];exact WI.set h hk
theorem aWf (r:Nat):Ob.keep 54 r=Ob.k54 r:=by kernel_rfl
attribute [local simp] aWf Ob.k54
set_option maxHeartbeats 16000000 in
theorem aNM {o:Oc} (uS:dE o=0) (gB:o.sz≤2097152) (hO:OW o):∀ N,aJN o N:=by
 intro N
 induction N with
 | zero=>intro t p ins va h;cases t;rw[Trn.ht] at h;omega
 | succ N ih=>
 intro t p ins va hht cE hi hp n cc hK hA
 obtain ⟨c,ms,sb⟩:=t
 have aNh:=s7 hO.wf (N+1) _ ins hht cE hi
 rw[eZ] at aNh ⊢
 rw[Trn.ok] at cE
 rw[Trn.ht] at hht
 have hi1:ins.length=c.inn.length:=hi.1
 have hc:=cE.1
 have hcw:=hO.wf c hc
 have gM:=(hO.len c hc).sum
 have aZu:=hO.sz c hc
 obtain ⟨lx,pB⟩:=hK.ob
 simp only[rO,Trn.c,Trn.ms] at lx pB
 have nx:=nf lx
 have aHv:=hK.lt
 generalize hs':uW c (eZ N) c.step ⟨puts [] ((c.inn.map Dc.nm).zip ins),ms,sb⟩=s' at aNh ⊢
 have main:∃ (v:V) (u:St),m9 Tryz.prog Ob.cfg 54 [.ptr p.a.x p.a.gx 0,va] hp n cc=some ⟨v,u.hp,u.n,u.c,u.wl⟩∧∃ id g,v= .osl id g 0 c.out.length 1 none∧n≤u.n∧WI (cW p) n hp u.wl u.hp∧(∃ p',Moved p p' n∧RLies o (.mk c s'.ms s'.sb) p' u.hp u.n)∧u.hp.get id=some ⟨g,false,fl (bX (c.out.map fun d=>gz s'.vs d.nm))⟩∧n≤id∧id<u.n:=by
  refine wG (Q:=fun v (u:St)=>∃ id g,v= .osl id g 0 c.out.length 1 none∧n≤u.n∧WI (cW p) n hp u.wl u.hp∧(∃ p',Moved p p' n∧RLies o (.mk c s'.ms s'.sb) p' u.hp u.n)∧u.hp.get id=some ⟨g,false,fl (bX (c.out.map fun d=>gz s'.vs d.nm))⟩∧n≤id∧id<u.n) Tryz.func54 rfl (by kernel_rfl) ?_
  rcases hA with rfl|⟨ida,ga,rfl,ha1,ha2,ha3⟩
  ·refine bY (j9 @aN @aO @aB @aA @aH @aI @Value.oneCell'.eq_def @pB @nx) ?_
   apply WP.gen3
   intro nC c1 wl1 eS jF
   have hr0:nC.get n=some ⟨cc,false,[.ptr p.a.x p.a.gx 0,.osl (n+1) (cc+1) 0 0 1 none,.osl (n+2) (cc+2) 0 0 1 none]⟩:=by rw[eS];simp
   have sW:nC.get (n+1)=some ⟨cc+1,false,[]⟩:=by rw[eS];simp
   have hr2:nC.get (n+2)=some ⟨cc+2,false,[]⟩:=by rw[eS];simp
   have aKX:Ag n hp nC:=by rw[eS];simp[dA,cK]
   have aBV:WI (cW p) n hp wl1 nC:=by rw[eS,jF];exact WI.set2 (WI.more (WI.set2 (WI.more (WI.set2 WI.refl (.inr (Nat.le_refl n))) (by omega)) (.inr (Nat.le_refl n))) (by omega)) (.inr (Nat.le_refl n))
   clear eS jF
   have hE1:REA o c p ⟨n,cc,n+1,cc+1,n+2,cc+2,p.a.x,p.a.gx⟩ ⟨[],ms,sb⟩ nC (n+3):=
    ⟨hK.mono aKX (by omega),⟨hr0,sW,hr2,by simp only;omega,by simp only;omega,by simp only;omega,by simp only;omega,by simp only;omega,by simp only;omega⟩,rfl,rfl,fun h=>by have:=aHv _ h;simp only at this;omega,fun h=>by have:=aHv _ h;simp only at this;omega,fun h=>by have:=aHv _ h;simp only at this;omega⟩
   clear hr0 sW hr2
   apply WP.loop' (I:=fun D st=>∃ (i c':Nat) (wl:List Nat) (bD:Hp) (gn gv:Nat),i+D=ins.length∧REA o c p ⟨n,cc,n+1,gn,n+2,gv,p.a.x,p.a.gx⟩ ⟨puts [] (((c.inn.map Dc.nm).zip ins).take i),ms,sb⟩ bD (n+3)∧WI (cW p) n hp wl bD∧ 
    st=⟨[(0,.ptr p.a.x p.a.gx 0),(1,dL (bX ins)),(5,.ptr n cc 0),(6,dI i)],bD,n+3,c',n,wl⟩) (d:=ins.length)
   ·exact ⟨0,_,_,_,cc+1,cc+2,by simp,by simpa [puts] using hE1,aBV,bK (by simp[dI,dL]) rfl⟩
   clear hE1 aBV aKX
   clear nC c1 wl1
   rintro D _ ⟨i,c',wl,bD,gn,gv,hii,hE,eR,rfl⟩
   obtain ⟨lx1,rM⟩:=hE.li.ob
   simp only[rO,Trn.c,Trn.ms] at rM
   refine lM (j3 @aB @aA @aZ) ?_
   show WP _ _ _ _ _ _
   refine WP.cond _ rfl (fun hb=>?_) (fun hb=>?_)
   ·simp at hb
    have bR:i<ins.length:=by omega
    obtain ⟨w,hw,hwm,hiy⟩:=bL bR
    have hw':=c9 hw
    obtain ⟨d,hd,d9,bS⟩:=bL (show i<c.inn.length by omega)
    have cF:=d6 hd
    have dH:=bG bR (by omega)
    have hzs:((c.inn.map Dc.nm).zip ins).take (i+1)=((c.inn.map Dc.nm).zip ins).take i++[(d.nm,w)]:=bM (by rw[List.getElem?_zip_eq_some];exact ⟨by simp[hd],hw⟩)
    have aOF:=rE (((c.inn.map Dc.nm).zip ins).take i) []
    have hzl:(((c.inn.map Dc.nm).zip ins).take i).length≤ins.length:=by simp;omega
    simp only[List.length_nil] at aOF
    have aNm:(puts [] (((c.inn.map Dc.nm).zip ins).take i)).length≤1099511627776:=by omega
    obtain ⟨q9,oZ,hv,hn,tW,nJ,mH,hpz,⟨gn9,gv9,pW⟩,dU⟩:=(aEQ hE.ru aNm d.nm w c').caller (by
     intro z hz
     simp at hz;omega)
    have hE9:=hE.setV (fun k h1 h2=>mH k h1 h2) pW dU
    simp only[dI,dS] at oZ
    repeat (first
 | apply WP.seq
 | (apply WP.reg;(case hR=>dsimp only [e8,eA,List.map,gS,gZ];exact iZ);(case hr=>(repeat (first
 | (apply RT.op;simp[-bA,dI,dL,aZ,bP,rM,bS,cF,Dc.cells,bN,hiy,hw',hv,hn];exact iZ;(try dsimp only [a8]) <;> exact rfl)
 | (apply RT.call;(iterate 2 simp;exact iZ);exact iZ;(iterate 4 simp[-bA,dI,dL,aZ,bP,rM,bS,cF,Dc.cells,bN,hiy,hw',hv,hn];exact iZ);simp[Is];(try dsimp only [a8]) <;> exact rfl;simp;exact iZ;exact iZ)
 | (apply RT.callV;(iterate 2 simp;exact iZ);exact iZ;(iterate 3 simp[-bA,dI,dL,aZ,bP,rM,bS,cF,Dc.cells,bN,hiy,hw',hv,hn];exact iZ);(try dsimp only [a8]) <;> exact rfl)
 | (apply RT.callT (hd:=oZ) (hk:=tW);(iterate 2 simp;exact iZ);exact iZ;(iterate 2 simp[-bA,dI,dL,aZ,bP,rM,bS,cF,Dc.cells,bN,hiy,hw',hv,hn];exact iZ);(try dsimp only [a8]) <;> exact rfl)
 | (apply RT.wr;simp[-bA,dI,dL,aZ,bP,rM,bS,cF,Dc.cells,bN,hiy,hw',hv,hn];exact iZ;(try dsimp only [a8]) <;> exact rfl;simp[-bA,dI,dL,aZ,bP,rM,bS,cF,Dc.cells,bN,hiy,hw',hv,hn];exact iZ;(iterate 2 exact iZ);exact iZ)));exact RT.nil);(case hc=>first|(refine c8 [(0,1),(0,2),(0,3),(0,4),(0,5),(0,6),(1,6),(2,6),(3,6),(4,6),(5,6),(0,7),(0,8),(0,9),(0,10),(1,10),(2,10),(3,10),(4,10),(5,10),(6,10),(7,10),(8,10),(9,10),(0,11),(1,11),(2,11),(3,11),(4,11),(5,11),(6,11),(7,11),(8,11),(9,11),(10,11),(0,12),(1,12),(2,12),(3,12),(4,12),(5,12),(6,12),(7,12),(8,12),(9,12),(0,13),(1,13),(2,13),(3,13),(4,13),(5,13),(6,13),(7,13),(8,13),(9,13)] (by kernel_rfl) (by kernel_rfl) rfl ?_;simp[lF,jX,dY];done)|(show _=_;kernel_rfl));(case ht=>simp[-bA,dI,dL,aZ,bP,rM,bS,cF,Dc.cells,bN,hiy,hw',hv,hn];exact iZ))
 | apply WP.block|apply WP.skip|apply WP.exit|apply WP.ret|refine WP.condT rfl ?_|refine WP.condF rfl ?_)
    refine aY (by simp[-bA,dH];exact Is.rfl) ?_
    refine ⟨D - 1,by omega,i+1,_,_,_,gn9,gv9,by omega,?_,WI.trunc (eR.sets fun z hz=>?_) (by omega),bK (by simp[dI,dL,dH]) rfl⟩
    ·rw[hzs,gE];exact hE9.mono (by simp[cR,cK]) (Nat.le_refl _)
    ·have h:=nJ z.1 (List.mem_map.2 ⟨z,hz,rfl⟩)
     simp only[List.mem_cons,List.not_mem_nil,or_false] at h
     exact .inr (by omega)
   simp at hb
   have nE:i=ins.length:=by omega
   have hzt:((c.inn.map Dc.nm).zip ins).take i=(c.inn.map Dc.nm).zip ins:=List.take_of_length_le (by simp;omega)
   rw[hzt] at hE
   refine bY (jn @aB @aA) ?_
   apply WP.gen3
   intro gN c3 wl3 eS jF
   rw[←eS] at hE rM
   rw[←eS,←jF] at eR
   clear eS jF
   have aRr:=rE ((c.inn.map Dc.nm).zip ins) []
   have aZc:((c.inn.map Dc.nm).zip ins).length≤ins.length:=by simp;omega
   simp only[List.length_nil] at aRr
   have aRs:(puts [] ((c.inn.map Dc.nm).zip ins)).length+hH c.step≤1099511627776:=by omega
   obtain ⟨q,oZ,hv,hn,tW,nJ,mH,hpz,⟨p2,gn2,gv2,aBo,pW⟩,dU⟩:=(aJO (h0:=htL sb) uS gB hO hc ih (by omega) 8388609 (Nat.le_refl _) c.step (by omega) hcw.step (hO.ok c hc).step _ p ⟨n,cc,n+1,gn,n+2,gv,p.a.x,p.a.gx⟩ ⟨zW hO.wf hcw hi,cE.2.1,cE.2.2,rfl⟩ aRs gN (n+3) c3 hE).caller (by
    intro x hx
    simp only[List.mem_cons] at hx
    rcases hx with hx|hx|hx|hx
    ·omega
    ·omega
    ·omega
    ·have:=aHv x hx;omega)
   rw[hs'] at pW
   have hE4:=pW.after dU
   have hN:n+3+(q.n - (n+3))=q.n:=by omega
   rw[←hN] at hE4
   have aBX:WI (cW p) n hp (bA n wl3 (sL q (n+3))) (gN.sets (sL q (n+3))):=eR.sets fun x hx=>by
    rcases nJ x.1 (List.mem_map.2 ⟨x,hx,rfl⟩) with h|h
    ·simp only[List.mem_cons] at h
     rcases h with h|h|h|h
     ·exact .inr (by omega)
     ·exact .inr (by omega)
     ·exact .inr (by omega)
     ·exact .inl h
    ·exact .inr (by omega)
   simp only[dL] at oZ
   refine bY (j6 @aB @aA @rM @hv @aH @aI) ?_
   apply WP.gen3
   intro hp6 c6 wl6 eS jF
   have hn6:n+3≤n+3+(q.n - (n+3)):=by omega
   have hvb:s'.vs.length≤1099511627776:=by
    have:=aCm c (eZ N) _ c.step (Nat.lt_succ_self _) ⟨puts [] ((c.inn.map Dc.nm).zip ins),ms,sb⟩
    rw[hs'] at this
    simp only at this
    omega
   have hE6:REA o c p2 ⟨n,cc,n+1,gn2,n+2,gv2,p.a.x,p.a.gx⟩ s' hp6 (n+3+(q.n - (n+3))):=by rw[eS];exact hE4.mono (by simp[dA,cK]) (Nat.le_refl _)
   have hx6:hp6.get (n+3+(q.n - (n+3)))=some ⟨c3+(q.c - c3),false,[]⟩:=by rw[eS];simp
   have aNn:WI (cW p) n hp wl6 hp6:=by rw[eS,jF];exact WI.more aBX (by omega)
   generalize n+3+(q.n - (n+3))=n6 at hE6 hx6 hn6 ⊢
   clear eS jF hE4 aBX oZ hv hn tW nJ mH pW dU hpz hN hE eR rM
   apply WP.loop' (I:=fun D2 st=>∃ (j g c5:Nat) (wl5:List Nat) (lG:Hp) (L:List Int),j+D2=c.out.length∧L=(c.out.take j).map (fun d=>gz s'.vs d.nm)∧REA o c p2 ⟨n,cc,n+1,gn2,n+2,gv2,p.a.x,p.a.gx⟩ s' lG n6∧WI (cW p) n hp wl5 lG∧lG.get n6=some ⟨g,false,fl (bX L)⟩∧
    st=⟨[(0,.ptr p.a.x p.a.gx 0),(5,.ptr n cc 0),(7,.osl n6 g 0 j 1 none),(8,dI j)],lG,n6+1,c5,n,wl5⟩) (d:=c.out.length)
   ·exact ⟨0,_,_,_,_,[],by simp,by simp,hE6,aNn,by rw[hx6];rfl,bK (by simp[dI,dL]) rfl⟩
   clear hE6 hx6 aNn
   clear hp6 c6 wl6
   rintro D2 _ ⟨j,g,c5,wl5,lG,L,hj,hL,hE5,aBW,mB,rfl⟩
   have hmx:p2.a.x=p.a.x:=aBo.x
   have hmg:p2.a.gx=p.a.gx:=aBo.g
   obtain ⟨lx5,aAr⟩:=hE5.li.ob
   simp only[rO,Trn.c,Trn.ms] at lx5 aAr
   rw[hmx] at lx5
   rw[hmx,hmg] at aAr
   refine lM (j4 @aB @aA @aAr @bP) ?_
   show WP _ _ _ _ _ _
   refine WP.cond _ rfl (fun hb=>?_) (fun hb=>?_)
   ·simp at hb
    have bR:j<c.out.length:=by omega
    obtain ⟨d,hd,d9,bS⟩:=bL bR
    have cF:=d6 hd
    have dH:=bG bR (by omega)
    obtain ⟨F,G,hF⟩:=gU (C:=fun fP n2=>Ag n6 lG fP∧n6≤n2) (P:=Tryz.prog) (cfg:=Ob.cfg) (f:=104) (vs:=[.ptr n cc 0,dS d.nm]) (v:=dI (gz s'.vs d.nm)) (fun fP n2 c2 hC=>aFr (b:=⟨n,cc,n+1,gn2,n+2,gv2,p.a.x,p.a.gx⟩) (hE5.ru.mono hC.1 hC.2) (by omega) d.nm c2)
    have hr:=hF lG (n6+1) c5 ⟨Ag.refl _ _,by omega⟩
    simp only[dI,dS] at hr
    have pL:L.length=j:=by rw[hL];simp;omega
    have hLs:(c.out.take (j+1)).map (fun d=>gz s'.vs d.nm)=L++[gz s'.vs d.nm]:=by rw[bM hd,hL];simp
    have r2:=cT (cI L)
    have r3:=cL (cI L)
    have r4:=dW (bX L) [.int .i64 (gz s'.vs d.nm)]
    have r5:=iY L (gz s'.vs d.nm)
    have f5:bT (j+1) 8=true:=by simp[bT];omega
    rw[r5] at r4
    rw[aZ,pL,Nat.mul_one] at r2 r3
    simp only[List.map_cons,List.map_nil] at r4
    refine bY (j20 @aB @aA @aAr @bS @cF @aP @aH @aI @hr @aQ @aR @iE.eq_def @bI @b8 @bJ @f5 @r2 @r3 @r4 @mB) ?_
    refine aY (by simp[-bA,dH];exact Is.rfl) ?_
    refine ⟨D2 - 1,by omega,j+1,_,_,_,_,_,by omega,hLs.symm,hE5.mono (by simp[dA,cK,cR]) (Nat.le_refl _),(by repeat' (first|exact aBW|(refine WI.trunc ?_ (by omega))|(refine WI.set ?_ (.inr (by omega))))),by simp;rfl,bK (by simp[dI,dL,dH]) rfl⟩
   simp at hb
   have eM:j=c.out.length:=by omega
   rw[eM,List.take_length] at hL
   refine bY (jn @aB @aA) ?_
   refine ⟨.inr rfl,_,rfl,.inl rfl,n6,g,by rw[eM];rfl,by show n≤n6+1;omega,aBW,⟨p2,aBo.less (by omega),hE5.li.same (fun _ _=>rfl) (by show n6≤n6+1;omega)⟩,by rw[←hL];exact mB,by omega,by show n6<n6+1;omega⟩
  ·refine bY (j9 @aN @aO @aB @aA @aH @aI @Value.oneCell'.eq_def @pB @nx) ?_
   apply WP.gen3
   intro nC c1 wl1 eS jF
   have hr0:nC.get n=some ⟨cc,false,[.ptr p.a.x p.a.gx 0,.osl (n+1) (cc+1) 0 0 1 none,.osl (n+2) (cc+2) 0 0 1 none]⟩:=by rw[eS];simp
   have sW:nC.get (n+1)=some ⟨cc+1,false,[]⟩:=by rw[eS];simp
   have hr2:nC.get (n+2)=some ⟨cc+2,false,[]⟩:=by rw[eS];simp
   have aKX:Ag n hp nC:=by rw[eS];simp[dA,cK]
   have aBV:WI (cW p) n hp wl1 nC:=by rw[eS,jF];exact WI.set2 (WI.more (WI.set2 (WI.more (WI.set2 WI.refl (.inr (Nat.le_refl n))) (by omega)) (.inr (Nat.le_refl n))) (by omega)) (.inr (Nat.le_refl n))
   clear eS jF
   have hE1:REA o c p ⟨n,cc,n+1,cc+1,n+2,cc+2,p.a.x,p.a.gx⟩ ⟨[],ms,sb⟩ nC (n+3):=
    ⟨hK.mono aKX (by omega),⟨hr0,sW,hr2,by simp only;omega,by simp only;omega,by simp only;omega,by simp only;omega,by simp only;omega,by simp only;omega⟩,rfl,rfl,fun h=>by have:=aHv _ h;simp only at this;omega,fun h=>by have:=aHv _ h;simp only at this;omega,fun h=>by have:=aHv _ h;simp only at this;omega⟩
   clear hr0 sW hr2
   have ha4:=(aKX ida ha2).trans ha1
   apply WP.loop' (I:=fun D st=>∃ (i c':Nat) (wl:List Nat) (bD:Hp) (gn gv:Nat),i+D=ins.length∧REA o c p ⟨n,cc,n+1,gn,n+2,gv,p.a.x,p.a.gx⟩ ⟨puts [] (((c.inn.map Dc.nm).zip ins).take i),ms,sb⟩ bD (n+3)∧WI (cW p) n hp wl bD∧bD.get ida=some ⟨ga,false,fl (bX ins)⟩∧ 
    st=⟨[(0,.ptr p.a.x p.a.gx 0),(1,.osl ida ga 0 ins.length 1 none),(5,.ptr n cc 0),(6,dI i)],bD,n+3,c',n,wl⟩) (d:=ins.length)
   ·exact ⟨0,_,_,_,cc+1,cc+2,by simp,by simpa [puts] using hE1,aBV,ha4,bK (by simp[dI,dL]) rfl⟩
   clear hE1 aBV aKX ha4
   clear nC c1 wl1
   rintro D _ ⟨i,c',wl,bD,gn,gv,hii,hE,eR,ha5,rfl⟩
   obtain ⟨lx1,rM⟩:=hE.li.ob
   simp only[rO,Trn.c,Trn.ms] at rM
   refine lM (j3 @aB @aA @ha5) ?_
   show WP _ _ _ _ _ _
   refine WP.cond _ rfl (fun hb=>?_) (fun hb=>?_)
   ·simp at hb
    have bR:i<ins.length:=by omega
    obtain ⟨w,hw,hwm,hiy⟩:=bL bR
    have hw':=aCb hw
    obtain ⟨d,hd,d9,bS⟩:=bL (show i<c.inn.length by omega)
    have cF:=d6 hd
    have dH:=bG bR (by omega)
    have hzs:((c.inn.map Dc.nm).zip ins).take (i+1)=((c.inn.map Dc.nm).zip ins).take i++[(d.nm,w)]:=bM (by rw[List.getElem?_zip_eq_some];exact ⟨by simp[hd],hw⟩)
    have aOF:=rE (((c.inn.map Dc.nm).zip ins).take i) []
    have hzl:(((c.inn.map Dc.nm).zip ins).take i).length≤ins.length:=by simp;omega
    simp only[List.length_nil] at aOF
    have aNm:(puts [] (((c.inn.map Dc.nm).zip ins).take i)).length≤1099511627776:=by omega
    obtain ⟨q9,oZ,hv,hn,tW,nJ,mH,hpz,⟨gn9,gv9,pW⟩,dU⟩:=(aEQ hE.ru aNm d.nm w c').caller (by
     intro z hz
     simp at hz;omega)
    have hE9:=hE.setV (fun k h1 h2=>mH k h1 h2) pW dU
    simp only[dI,dS] at oZ
    repeat (first
 | apply WP.seq
 | (apply WP.reg;(case hR=>dsimp only [e8,eA,List.map,gS,gZ];exact iZ);(case hr=>(repeat (first
 | (apply RT.op;simp[-bA,dI,dL,aZ,bP,rM,bS,cF,Dc.cells,bN,hiy,hw',ha5,hv,hn];exact iZ;(try dsimp only [a8]) <;> exact rfl)
 | (apply RT.call;(iterate 2 simp;exact iZ);exact iZ;(iterate 4 simp[-bA,dI,dL,aZ,bP,rM,bS,cF,Dc.cells,bN,hiy,hw',ha5,hv,hn];exact iZ);simp[Is];(try dsimp only [a8]) <;> exact rfl;simp;exact iZ;exact iZ)
 | (apply RT.callV;(iterate 2 simp;exact iZ);exact iZ;(iterate 3 simp[-bA,dI,dL,aZ,bP,rM,bS,cF,Dc.cells,bN,hiy,hw',ha5,hv,hn];exact iZ);(try dsimp only [a8]) <;> exact rfl)
 | (apply RT.callT (hd:=oZ) (hk:=tW);(iterate 2 simp;exact iZ);exact iZ;(iterate 2 simp[-bA,dI,dL,aZ,bP,rM,bS,cF,Dc.cells,bN,hiy,hw',ha5,hv,hn];exact iZ);(try dsimp only [a8]) <;> exact rfl)
 | (apply RT.wr;simp[-bA,dI,dL,aZ,bP,rM,bS,cF,Dc.cells,bN,hiy,hw',ha5,hv,hn];exact iZ;(try dsimp only [a8]) <;> exact rfl;simp[-bA,dI,dL,aZ,bP,rM,bS,cF,Dc.cells,bN,hiy,hw',ha5,hv,hn];exact iZ;(iterate 2 exact iZ);exact iZ)));exact RT.nil);(case hc=>first|(refine c8 [(0,1),(0,2),(0,3),(0,4),(0,5),(0,6),(1,6),(2,6),(3,6),(4,6),(5,6),(0,7),(0,8),(0,9),(0,10),(1,10),(2,10),(3,10),(4,10),(5,10),(6,10),(7,10),(8,10),(9,10),(0,11),(1,11),(2,11),(3,11),(4,11),(5,11),(6,11),(7,11),(8,11),(9,11),(10,11),(0,12),(1,12),(2,12),(3,12),(4,12),(5,12),(6,12),(7,12),(8,12),(9,12),(0,13),(1,13),(2,13),(3,13),(4,13),(5,13),(6,13),(7,13),(8,13),(9,13)] (by kernel_rfl) (by kernel_rfl) rfl ?_;simp[lF,jX,dY];done)|(show _=_;kernel_rfl));(case ht=>simp[-bA,dI,dL,aZ,bP,rM,bS,cF,Dc.cells,bN,hiy,hw',ha5,hv,hn];exact iZ))
 | apply WP.block|apply WP.skip|apply WP.exit|apply WP.ret|refine WP.condT rfl ?_|refine WP.condF rfl ?_)
    refine aY (by simp[-bA,dH];exact Is.rfl) ?_
    refine ⟨D - 1,by omega,i+1,_,_,_,gn9,gv9,by omega,?_,WI.trunc (eR.sets fun z hz=>?_) (by omega),by rw[Hp.get_trunc _ _ _ (by omega)];exact (mH ida (by omega) (by simp;omega)).trans ha5,bK (by simp[dI,dL,dH]) rfl⟩
    ·rw[hzs,gE];exact hE9.mono (by simp[cR,cK]) (Nat.le_refl _)
    ·have h:=nJ z.1 (List.mem_map.2 ⟨z,hz,rfl⟩)
     simp only[List.mem_cons,List.not_mem_nil,or_false] at h
     exact .inr (by omega)
   simp at hb
   have nE:i=ins.length:=by omega
   have hzt:((c.inn.map Dc.nm).zip ins).take i=(c.inn.map Dc.nm).zip ins:=List.take_of_length_le (by simp;omega)
   rw[hzt] at hE
   refine bY (jn @aB @aA) ?_
   apply WP.gen3
   intro gN c3 wl3 eS jF
   rw[←eS] at hE rM
   rw[←eS,←jF] at eR
   clear eS jF
   have aRr:=rE ((c.inn.map Dc.nm).zip ins) []
   have aZc:((c.inn.map Dc.nm).zip ins).length≤ins.length:=by simp;omega
   simp only[List.length_nil] at aRr
   have aRs:(puts [] ((c.inn.map Dc.nm).zip ins)).length+hH c.step≤1099511627776:=by omega
   obtain ⟨q,oZ,hv,hn,tW,nJ,mH,hpz,⟨p2,gn2,gv2,aBo,pW⟩,dU⟩:=(aJO (h0:=htL sb) uS gB hO hc ih (by omega) 8388609 (Nat.le_refl _) c.step (by omega) hcw.step (hO.ok c hc).step _ p ⟨n,cc,n+1,gn,n+2,gv,p.a.x,p.a.gx⟩ ⟨zW hO.wf hcw hi,cE.2.1,cE.2.2,rfl⟩ aRs gN (n+3) c3 hE).caller (by
    intro x hx
    simp only[List.mem_cons] at hx
    rcases hx with hx|hx|hx|hx
    ·omega
    ·omega
    ·omega
    ·have:=aHv x hx;omega)
   rw[hs'] at pW
   have hE4:=pW.after dU
   have hN:n+3+(q.n - (n+3))=q.n:=by omega
   rw[←hN] at hE4
   have aBX:WI (cW p) n hp (bA n wl3 (sL q (n+3))) (gN.sets (sL q (n+3))):=eR.sets fun x hx=>by
    rcases nJ x.1 (List.mem_map.2 ⟨x,hx,rfl⟩) with h|h
    ·simp only[List.mem_cons] at h
     rcases h with h|h|h|h
     ·exact .inr (by omega)
     ·exact .inr (by omega)
     ·exact .inr (by omega)
     ·exact .inl h
    ·exact .inr (by omega)
   simp only[dL] at oZ
   refine bY (j6 @aB @aA @rM @hv @aH @aI) ?_
   apply WP.gen3
   intro hp6 c6 wl6 eS jF
   have hn6:n+3≤n+3+(q.n - (n+3)):=by omega
   have hvb:s'.vs.length≤1099511627776:=by
    have:=aCm c (eZ N) _ c.step (Nat.lt_succ_self _) ⟨puts [] ((c.inn.map Dc.nm).zip ins),ms,sb⟩
    rw[hs'] at this
    simp only at this
    omega
   have hE6:REA o c p2 ⟨n,cc,n+1,gn2,n+2,gv2,p.a.x,p.a.gx⟩ s' hp6 (n+3+(q.n - (n+3))):=by rw[eS];exact hE4.mono (by simp[dA,cK]) (Nat.le_refl _)
   have hx6:hp6.get (n+3+(q.n - (n+3)))=some ⟨c3+(q.c - c3),false,[]⟩:=by rw[eS];simp
   have aNn:WI (cW p) n hp wl6 hp6:=by rw[eS,jF];exact WI.more aBX (by omega)
   generalize n+3+(q.n - (n+3))=n6 at hE6 hx6 hn6 ⊢
   clear eS jF hE4 aBX oZ hv hn tW nJ mH pW dU hpz hN hE eR rM
   apply WP.loop' (I:=fun D2 st=>∃ (j g c5:Nat) (wl5:List Nat) (lG:Hp) (L:List Int),j+D2=c.out.length∧L=(c.out.take j).map (fun d=>gz s'.vs d.nm)∧REA o c p2 ⟨n,cc,n+1,gn2,n+2,gv2,p.a.x,p.a.gx⟩ s' lG n6∧WI (cW p) n hp wl5 lG∧lG.get n6=some ⟨g,false,fl (bX L)⟩∧
    st=⟨[(0,.ptr p.a.x p.a.gx 0),(5,.ptr n cc 0),(7,.osl n6 g 0 j 1 none),(8,dI j)],lG,n6+1,c5,n,wl5⟩) (d:=c.out.length)
   ·exact ⟨0,_,_,_,_,[],by simp,by simp,hE6,aNn,by rw[hx6];rfl,bK (by simp[dI,dL]) rfl⟩
   clear hE6 hx6 aNn
   clear hp6 c6 wl6
   rintro D2 _ ⟨j,g,c5,wl5,lG,L,hj,hL,hE5,aBW,mB,rfl⟩
   have hmx:p2.a.x=p.a.x:=aBo.x
   have hmg:p2.a.gx=p.a.gx:=aBo.g
   obtain ⟨lx5,aAr⟩:=hE5.li.ob
   simp only[rO,Trn.c,Trn.ms] at lx5 aAr
   rw[hmx] at lx5
   rw[hmx,hmg] at aAr
   refine lM (j4 @aB @aA @aAr @bP) ?_
   show WP _ _ _ _ _ _
   refine WP.cond _ rfl (fun hb=>?_) (fun hb=>?_)
   ·simp at hb
    have bR:j<c.out.length:=by omega
    obtain ⟨d,hd,d9,bS⟩:=bL bR
    have cF:=d6 hd
    have dH:=bG bR (by omega)
    obtain ⟨F,G,hF⟩:=gU (C:=fun fP n2=>Ag n6 lG fP∧n6≤n2) (P:=Tryz.prog) (cfg:=Ob.cfg) (f:=104) (vs:=[.ptr n cc 0,dS d.nm]) (v:=dI (gz s'.vs d.nm)) (fun fP n2 c2 hC=>aFr (b:=⟨n,cc,n+1,gn2,n+2,gv2,p.a.x,p.a.gx⟩) (hE5.ru.mono hC.1 hC.2) (by omega) d.nm c2)
    have hr:=hF lG (n6+1) c5 ⟨Ag.refl _ _,by omega⟩
    simp only[dI,dS] at hr
    have pL:L.length=j:=by rw[hL];simp;omega
    have hLs:(c.out.take (j+1)).map (fun d=>gz s'.vs d.nm)=L++[gz s'.vs d.nm]:=by rw[bM hd,hL];simp
    have r2:=cT (cI L)
    have r3:=cL (cI L)
    have r4:=dW (bX L) [.int .i64 (gz s'.vs d.nm)]
    have r5:=iY L (gz s'.vs d.nm)
    have f5:bT (j+1) 8=true:=by simp[bT];omega
    rw[r5] at r4
    rw[aZ,pL,Nat.mul_one] at r2 r3
    simp only[List.map_cons,List.map_nil] at r4
    refine bY (j20 @aB @aA @aAr @bS @cF @aP @aH @aI @hr @aQ @aR @iE.eq_def @bI @b8 @bJ @f5 @r2 @r3 @r4 @mB) ?_
    refine aY (by simp[-bA,dH];exact Is.rfl) ?_
    refine ⟨D2 - 1,by omega,j+1,_,_,_,_,_,by omega,hLs.symm,hE5.mono (by simp[dA,cK,cR]) (Nat.le_refl _),(by repeat' (first|exact aBW|(refine WI.trunc ?_ (by omega))|(refine WI.set ?_ (.inr (by omega))))),by simp;rfl,bK (by simp[dI,dL,dH]) rfl⟩
   simp at hb
   have eM:j=c.out.length:=by omega
   rw[eM,List.take_length] at hL
   refine bY (jn @aB @aA) ?_
   refine ⟨.inr rfl,_,rfl,.inl rfl,n6,g,by rw[eM];rfl,by show n≤n6+1;omega,aBW,⟨p2,aBo.less (by omega),hE5.li.same (fun _ _=>rfl) (by show n6≤n6+1;omega)⟩,by rw[←hL];exact mB,by omega,by show n6<n6+1;omega⟩
 obtain ⟨v,u,h1,id,g,h2,h3,h4,h5⟩:=main
 refine ⟨id,g,_,h1,?_,h3,h4,h5⟩
 rw[h2,List.length_map]
end Go.Ac
end
section
set_option maxRecDepth 4000
namespace Go.Ac
open Go.Proofs
attribute [local simp] Hp.get_set dA cK cR bW
def aOj (hp:Hp) (n n':Nat) (vb:V) (outs:List Int):Prop:=(vb= .full []∧outs=[])∨∃ id g,vb= .osl id g 0 outs.length 1 none∧hp.get id=some ⟨g,false,fl (bX outs)⟩∧n≤id∧id<n'
theorem aWS (r:Nat):Ob.keep 19 r=Ob.k19 r:=by kernel_rfl
attribute [local simp] aWS Ob.k19
set_option maxHeartbeats 8000000 in
theorem aNH {o:Oc} (uS:dE o=0) (gB:o.sz≤2097152) (hO:OW o) (t:Trn) (p:Pt) (ins:List Int) (cE:t.ok o) (xX:ins.length≤4611686018427387904) (hp:Hp) (n cc:Nat) (hK:RLies o t p hp n):
  ∃ vb,aGU 19 [.ptr p.a.x p.a.gx 0,dL (bX ins)] hp n cc (.tuple [vb,dI (jU o.en t ins).2.2]) (cW p) (fun bD n'=>(∃ p',Moved p p' n∧RLies o (jU o.en t ins).1 p' bD n')∧aOj bD n n' vb (jU o.en t ins).2.1):=by
 have hc:t.c∈o.cl:=((Trn.ok_eq o t).1 cE).1
 have gM:=(hO.len _ hc).sum
 have aDM:=hO.ok _ hc
 obtain ⟨lx,pB⟩:=hK.ob
 simp only[rO] at lx pB
 have nx:=nf lx
 have main:∃ (v:V) (u:St),m9 Tryz.prog Ob.cfg 19 [.ptr p.a.x p.a.gx 0,dL (bX ins)] hp n cc=some ⟨v,u.hp,u.n,u.c,u.wl⟩∧∃ vb,v= .tuple [vb,dI (jU o.en t ins).2.2]∧n≤u.n∧WI (cW p) n hp u.wl u.hp∧(∃ p',Moved p p' n∧RLies o (jU o.en t ins).1 p' u.hp u.n)∧aOj u.hp n u.n vb (jU o.en t ins).2.1:=by
  refine wG (Q:=fun v (u:St)=>∃ vb,v= .tuple [vb,dI (jU o.en t ins).2.2]∧n≤u.n∧WI (cW p) n hp u.wl u.hp∧(∃ p',Moved p p' n∧RLies o (jU o.en t ins).1 p' u.hp u.n)∧aOj u.hp n u.n vb (jU o.en t ins).2.1) Tryz.func19 rfl (by kernel_rfl) ?_
  unfold jU
  by_cases q1:ins.length=t.c.inn.length
  case neg=>
   rw[if_pos q1]
   have q1':=eq_false (show ¬ (ins.length:Int)=t.c.inn.length by omega)
   refine bY (tS @aN @aO @aB @aA @aH @aI @pB @nx @aZ @bP @aV @q1') ?_
   exact ⟨.inr rfl,_,rfl,.inl rfl,.full [],rfl,Nat.le_refl n,WI.refl,⟨p,Moved.refl,hK⟩,.inl ⟨rfl,rfl⟩⟩
  rw[if_neg (fun h=>h q1)]
  have q1':=eq_true (show (ins.length:Int)=t.c.inn.length by omega)
  refine bY (tS @aN @aO @aB @aA @aH @aI @pB @nx @aZ @bP @aV @q1') ?_
  apply WP.loop' (I:=fun D st=>∃ (i c':Nat) (wl:List Nat) (bD:Hp),i+D=ins.length∧((t.c.inn.zip ins).take i).all (fun e=>iG o.en e.1.t e.2)=true∧WI (cW p) n hp wl bD∧Ag n hp bD∧
   st=⟨[(0,.ptr p.a.x p.a.gx 0),(1,dL (bX ins)),(6,dI i)],bD,n,c',n,wl⟩) (d:=ins.length)
  ·exact ⟨0,_,_,_,by simp,by simp,WI.refl,Ag.refl n hp,bK (by simp[dI,dL]) rfl⟩
  rintro D _ ⟨i,c',wl,bD,hi,cD,eR,d8,rfl⟩
  have mG:=(d8 _ lx).trans pB
  refine lM (j3 @aB @aA @aZ) ?_
  show WP _ _ _ _ _ _
  refine WP.cond _ rfl (fun hb=>?_) (fun hb=>?_)
  ·simp at hb
   have bR:i<t.c.inn.length:=by omega
   obtain ⟨d,hd,d9,bS⟩:=bL bR
   have cF:=d6 hd
   obtain ⟨w,hw,hwm,hiy⟩:=bL (show i<ins.length by omega)
   have hw':=c9 hw
   have dH:=bG bR (by omega)
   have hzd:(t.c.inn.zip ins)[i]?=some (d,w):=by rw[List.getElem?_zip_eq_some];exact ⟨hd,hw⟩
   have hh:=aMn o.en d.t w ((aDM.inn d d9).1)
   simp only[dL,dI,dB] at hh
   have hs:=bZ (p:=fun e:Dc×Int=>iG o.en e.1.t e.2) hzd
   cases hz:iG o.en d.t w with
   | true=>
    rw[hz] at hh
    refine bY (uN @aB @aA @bS @cF @aP @aH @aI @hiy @hw' @aZ @bP @mG @nx @hh) ?_
    refine aY (by simp[-bA,dH];exact Is.rfl) ?_
    exact ⟨D - 1,by omega,i+1,_,_,_,by omega,by rw[hs,cD,hz];rfl,WI.trunc eR (Nat.le_refl _),by simp[d8],bK (by simp[dI,dL,dH]) rfl⟩
   | false=>
    rw[hz] at hh
    have hk:okI o.en t.c.inn ins=false:=by
     unfold okI
     cases ha:(t.c.inn.zip ins).all (fun p=>iG o.en p.1.t p.2) with
     | false=>rfl
     | true=>
      have:=List.all_eq_true.1 ha _ (List.mem_of_getElem? hzd)
      simp only at this
      rw[hz] at this;cases this
    rw[if_pos hk]
    refine bY (uN @aB @aA @bS @cF @aP @aH @aI @hiy @hw' @aZ @bP @mG @nx @hh) ?_
    exact ⟨.inr rfl,_,rfl,.inl rfl,.full [],rfl,Nat.le_refl n,eR,⟨p,Moved.refl,hK.mono d8 (Nat.le_refl _)⟩,.inl ⟨rfl,rfl⟩⟩
  simp at hb
  have nE:i=ins.length:=by omega
  have hk:okI o.en t.c.inn ins=true:=by
   have hzt:(t.c.inn.zip ins).take i=t.c.inn.zip ins:=List.take_of_length_le (by simp;omega)
   rw[hzt] at cD;exact cD
  rw[if_neg (by simp[hk])]
  refine bY (jn @aB @aA) ?_
  apply WP.gen3
  intro gN c3 wl3 eS jF
  have wO:Ag n hp gN:=by rw[eS];exact d8
  have pX:WI (cW p) n hp wl3 gN:=by rw[eS,jF];exact eR
  clear eS jF
  obtain ⟨id,g,aAn⟩:=aNM uS gB hO t.ht t p ins (dL (bX ins)) (Nat.le_refl _) cE (aHy q1 hk) gN n c3 (hK.mono wO (Nat.le_refl n)) (.inl rfl)
  obtain ⟨q,oZ,hv,hn,tW,nJ,mH,hpz,⟨⟨p2,hmv,pW⟩,ho1,tP,ho3⟩,dU⟩:=aAn.caller (fun k h=>hK.lt k h)
  have hL4:=pW.after dU
  have ho4:=(dU id ho3 (by rw[ho1];rfl)).trans ho1
  have hN:n+(q.n - n)=q.n:=by omega
  simp only[dL] at oZ
  refine bY (j3 @aB @aA @hv) ?_
  refine ⟨.inr rfl,_,rfl,.inl rfl,_,rfl,Nat.le_add_right _ _,pX.sets fun x hx=>nJ x.1 (List.mem_map.2 ⟨x,hx,rfl⟩),⟨p2,hmv,?_⟩,.inr ⟨id,g,rfl,ho4,tP,?_⟩⟩
  ·show RLies _ _ _ _ (n+(q.n - n))
   rw[hN];exact hL4
  ·show id<n+(q.n - n)
   omega
 obtain ⟨v,u,h1,vb,h2,h3,h4,h5⟩:=main
 exact ⟨vb,_,h1,h2,h3,h4,h5⟩
end Go.Ac
end
section
set_option maxRecDepth 4000
namespace Go.Ac
open Go.Proofs
attribute [local simp] Hp.get_set dA cK cR bW
theorem aQs {o:Oc} (hw:∀ c,c∈o.cl→CWf o c) {t:Trn} (h:t.ok o):t.ms.map Prod.snd=t.c.mems.map (fun d=>gz t.ms d.nm):=by
 obtain ⟨c,ms,sb⟩:=t
 rw[Trn.ok] at h
 have hn:=(hw c h.1).mn
 have k:=h.2.1.1
 show ms.map Prod.snd=c.mems.map fun d=>gz ms d.nm
 rw[←aQg (by rw[k];exact hn),k,List.map_map];rfl
theorem aUG (r:Nat):Ob.keep 22 r=Ob.k22 r:=by kernel_rfl
attribute [local simp] aUG Ob.k22
set_option maxHeartbeats 8000000 in
theorem aKp {o:Oc} (hO:OW o):∀ (N:Nat) (t:Trn) (p:Pt),t.ht<N→t.ok o→(n9 t).length≤17592186044416→∀ hp n cc,RLies o t p hp n→kV Tryz.prog Ob.cfg 22 [.ptr p.a.x p.a.gx 0] hp n cc (dL (bX (n9 t))):=by
 intro N
 induction N with
 | zero=>intro t p h;omega
 | succ N ih=>
 intro t p hht cE hml hp n cc hK
 have aVL:=aQs hO.wf cE
 obtain ⟨c,ms,sb⟩:=t
 rw[Trn.ok] at cE
 rw[Trn.ht] at hht
 rw[n9] at hml ⊢
 simp only[Trn.ms,Trn.c] at aVL
 rw[←aVL] at hml ⊢
 rw[List.length_append,List.length_map] at hml
 have hc:=cE.1
 have gM:=(hO.len c hc).sum
 obtain ⟨lx,pB⟩:=hK.ob
 obtain ⟨lm,hmo⟩:=hK.mo
 obtain ⟨li,hio⟩:=hK.io
 obtain ⟨hsl,hpl⟩:=hK.len
 simp only[rO,Trn.c,Trn.ms,Trn.sb] at pB hmo hsl hpl
 have nx:=nf lx
 have ni:=nf li
 have nm:=nf lm
 have v2:=cT (cI (ms.map Prod.snd))
 have v3:=cL (cI (ms.map Prod.snd))
 rw[aZ,List.length_map,Nat.mul_one] at v2 v3
 have f0:bT ms.length 8=true:=by simp[bT];omega
 refine lZ Tryz.func22 rfl (by kernel_rfl) rfl ?_
 refine cV (j19 @aN @aO @aB @aA @aH @aI @pB @hmo @nx @nm @v2 @v3 @f0 @aQ @aR @iE.eq_def @bI @b8 @bJ) ?_
 apply WP.loop' (I:=fun D2 st=>∃ (i g2 m c5:Nat) (lG:Hp) (L5:List Int),i+D2=c.ins.length∧L5=ms.map Prod.snd++qZ (sb.take i)∧m=L5.length∧Ag n hp lG∧lG.get n=some ⟨g2,false,fl (bX L5)⟩∧
  st=⟨[(0,.ptr p.a.x p.a.gx 0),(3,.osl n g2 0 m 1 none),(4,dI i)],lG,n+1,c5,n,[]⟩) (d:=c.ins.length)
 ·exact ⟨0,cc+1,ms.length,_,_,ms.map Prod.snd,by simp,by simp[qZ],by simp,by simp[dA,cK],by simp,bK (by simp[dI,dL]) rfl⟩
 rintro D2 _ ⟨i,g2,m,c5,lG,L5,hi5,hL5,hm5,aFU,mB,rfl⟩
 have aNi:=eq_true aFU
 have aAr:=(aFU _ lx).trans pB
 have aOD:=(aFU _ li).trans hio
 refine qE (j4 @aB @aA @aAr @aOD) ?_
 show WP _ _ _ _ _ _
 refine WP.cond _ rfl (fun hb=>?_) (fun hb=>?_)
 ·simp at hb
  have hb5:i<c.ins.length:=by omega
  have dH:=bG hb5 (by omega)
  have pC:sb[i]?=some (sb[i]'(by omega)):=List.getElem?_eq_getElem (by omega)
  generalize (sb[i]'(by omega))=t at pC
  obtain ⟨q,hq,tR⟩:=hK.sub (i:=i) (u:=t) pC
  obtain ⟨_,_,_,hto⟩:=aDv o sb c.ins i t cE.2.2 pC
  have aRl:t.ht<N:=by have:=pT (List.mem_of_getElem? pC);omega
  have hmt:=aAB sb i t pC
  have hle:=aFl sb (i+1)
  rw[hmt,List.length_append] at hle
  have sX:jQ (i:Int) p.ps.length=some i:=m6 (by omega)
  have hE0:(p.ps.map eQ)[i]?=some (.ptr q.a.x q.a.gx 0):=by rw[List.getElem?_map,hq];rfl
  obtain ⟨F,G,hF⟩:=gU (C:=fun fP n2=>Ag n hp fP∧n≤n2) (P:=Tryz.prog) (cfg:=Ob.cfg) (f:=22) (vs:=[.ptr q.a.x q.a.gx 0]) (v:=dL (bX (n9 t))) (fun fP n2 c2 hC=>ih t q aRl hto (by omega) fP n2 c2 (tR.mono hC.1 hC.2))
  have hr:=fun fP n2 c2 a b=>hF fP n2 c2 ⟨a,b⟩
  simp only[dL] at hr
  have r2:=cT (cI L5)
  have r3:=cL (cI L5)
  rw[aZ,←hm5,Nat.mul_one] at r2 r3
  have f5:bT (m+(n9 t).length) 8=true:=by simp[bT];rw[hm5,hL5,List.length_append,List.length_map];omega
  refine cV (j23 @aB @aA @sX @hE0 @aAr @aOD @nx @ni @hr @mB @aNi @aQ @aR @iE.eq_def @bI @b8 @bJ @f5 @r2 @r3 @aZ @aGY @aBt) ?_
  refine aY (by simp[dH];exact Is.rfl) ?_
  refine ⟨D2 - 1,by omega,i+1,_,m+(n9 t).length,_,_,L5++n9 t,by omega,by rw[hL5,hmt,List.append_assoc],by rw[List.length_append,←hm5],by simp[aFU],by simp;rfl,bK (by simp[dI,dL,dH]) rfl⟩
 simp at hb
 have nE:i=c.ins.length:=by omega
 have hst:sb.take i=sb:=List.take_of_length_le (by omega)
 rw[hst] at hL5
 refine cV (jn @aB @aA) ?_
 have gM:=jH (look:=lG.get) (id:=n) (g:=g2) (ro:=false) (cap:=none) (cI L5) mB
 rw[aZ,←hm5] at gM
 refine ⟨.inr rfl,rfl,_,[n],rfl,?_,by simp[Nat.ble_eq]⟩
 show dZ lG.get (.osl n g2 0 m 1 none)=_
 rw[gM,hL5]
end Go.Ac
end
section
set_option maxRecDepth 4000
namespace Go.Ac
open Go.Proofs
attribute [local simp] Hp.get_set iF
theorem aXA (r:Nat):Ob.keep 18 r=Ob.k18 r:=by kernel_rfl
attribute [local simp] aXA Ob.k18
section
variable (o:Oc) (nm:Tx) (gB:o.sz≤2097152) (cE:o.ok)
include gB cE
theorem aHJ (h:dE o≠0):d7 Tryz.prog Ob.cfg 18 [aG o.cells,dS nm]=some (.tuple [.con (.pointer none),dI (dE o)]):=by
 have hc:=yL o gB cE
 simp only[aG,Oc.cells,List.map_cons,List.map_nil,dI] at hc
 refine bF Tryz.func18 rfl (by kernel_rfl) rfl rfl ?_
 refine kZ (j7 @aB @aM @aD @aL @hc @h @aV) ?_
 show a7 _ _ _ _ _
 exact ⟨.inr rfl,_,_,rfl,rfl⟩
theorem aGB (h:dE o=0) (hf:(cX o.cl nm).2=false):d7 Tryz.prog Ob.cfg 18 [aG o.cells,dS nm]=some (.tuple [.con (.pointer none),dI 6]):=by
 have hc:=yL o gB cE
 unfold Oc.sz at gB
 have k2:=lI o.cl
 have hx:=zF o nm (by unfold MX;omega)
 rw[hf] at hx
 rw[h] at hc
 simp only[aG,Oc.cells,Cl.cells,List.map_cons,List.map_nil,dI,dS,dB] at hc hx
 refine bF Tryz.func18 rfl (by kernel_rfl) rfl rfl ?_
 refine kZ (j9 @aB @aM @aD @aL @hc @hx @aV @aH @aI) ?_
 show a7 _ _ _ _ _
 exact ⟨.inr rfl,_,_,rfl,rfl⟩
theorem aKw (h:dE o=0) (hf:(cX o.cl nm).2=true):∃ (q:CR) (p:Pt),m9 Tryz.prog Ob.cfg 18 [aG o.cells,dS nm] [] 0 0=some q∧q.v= .tuple [.ptr p.a.x p.a.gx 0,dI 0]∧RLies o (iO o o.cl.length (cX o.cl nm).1) p q.hp q.n:=by
 have hc:=yL o gB cE
 obtain ⟨i,hxi,hia,_⟩:=aAb hf
 have aDO:=(List.getElem?_eq_some_iff.1 hia).1
 obtain ⟨q,p,hI1,hqv,tR⟩:=aLO h gB (i+1) i _ (Nat.lt_succ_self i) hia
 rw[←nT h o.cl.length o.cl.length i _ (Nat.le_refl _) hia aDO] at tR
 unfold Oc.sz at gB
 have k2:=lI o.cl
 have hx:=zF o nm (by unfold MX;omega)
 rw[hf] at hx
 rw[h] at hc
 generalize (cX o.cl nm).1=c at hI1 tR hx
 simp only[aG,Oc.cells,Cl.cells,List.map_cons,List.map_nil,dI,dS,dB] at hc hx hI1
 have hI2:dZ eW q.v=none:=by rw[hqv];rfl
 have main:∃ (v:V) (t:St),m9 Tryz.prog Ob.cfg 18 [aG o.cells,dS nm] [] 0 0=some ⟨v,t.hp,t.n,t.c,t.wl⟩∧∃ p:Pt,v= .tuple [.ptr p.a.x p.a.gx 0,dI 0]∧RLies o (iO o o.cl.length c) p t.hp t.n:=by
  refine wG (Q:=fun v (t:St)=>∃ p:Pt,v= .tuple [.ptr p.a.x p.a.gx 0,dI 0]∧RLies o (iO o o.cl.length c) p t.hp t.n) Tryz.func18 rfl (by kernel_rfl) ?_
  refine kZ (uQ @aN @aO @aB @aM @aD @aL @hc @hx @aV @aH @aI) ?_
  obtain ⟨p2,fP⟩:∃ p2,p2=p.sh 2 2:=⟨_,rfl⟩
  have hI3:cS 2 2 q.v= .ptr p2.a.x p2.a.gx 0:=by rw[hqv,fP,Pt.sh_a];simp[cS,Pb.sh]
  obtain ⟨W1,xK⟩:∃ W,hZ 2 2 (jZ q.hp.get (List.range q.n))=W:=⟨_,rfl⟩
  have hL2:∀ H:Hp,RLies o (iO o o.cl.length c) p2 (H.sets W1) (q.n+2):=fun H=>by rw[←xK,fP];exact tR.import
  refine kZ (jn @aB @aA) ?_
  refine ⟨.inr rfl,_,rfl,.inr rfl,p2,rfl,(hL2 _).same (fun _ _=>rfl) ?_⟩
  show q.n+2≤2+q.n
  omega
 obtain ⟨v,t,h1,p,h2,h3⟩:=main
 exact ⟨_,p,h1,h2,h3⟩
end
attribute [local simp] aUW Ob.k14 aVb Ob.k21 aTN Ob.k23 aTc Ob.k24 aUG Ob.k22
def nP:V:= .con (.pointer none)
theorem aOM (va:V):d7 Tryz.prog Ob.cfg 14 [nP,va]=some (.tuple [dL [],dI 1]):=by
 refine bF Tryz.func14 rfl (by kernel_rfl) rfl rfl ?_
 refine kZ (j3 @aB @aA @nP.eq_1) ?_
 show a7 _ _ _ _ _
 exact ⟨.inr rfl,_,_,rfl,rfl⟩
theorem aOP:d7 Tryz.prog Ob.cfg 21 [nP]=some (dL []):=by
 refine bF Tryz.func21 rfl (by kernel_rfl) rfl rfl ?_
 refine kZ (j3 @aB @aA @nP.eq_1) ?_
 show a7 _ _ _ _ _
 exact ⟨.inr rfl,_,_,rfl,rfl⟩
theorem aUh:d7 Tryz.prog Ob.cfg 22 [nP]=some (dL []):=by
 refine bF Tryz.func22 rfl (by kernel_rfl) rfl rfl ?_
 refine kZ (j3 @aB @aA @nP.eq_1) ?_
 show a7 _ _ _ _ _
 exact ⟨.inr rfl,_,_,rfl,rfl⟩
theorem aSB:d7 Tryz.prog Ob.cfg 23 [nP]=some (.tuple []):=by
 refine bF Tryz.func23 rfl (by kernel_rfl) rfl rfl ?_
 refine kZ (j3 @aB @aA @nP.eq_1) ?_
 show a7 _ _ _ _ _
 exact ⟨.inr rfl,_,_,rfl,rfl⟩
theorem aSh (va:V):d7 Tryz.prog Ob.cfg 24 [nP,va]=some (dI 1):=by
 refine bF Tryz.func24 rfl (by kernel_rfl) rfl rfl ?_
 refine kZ (j3 @aB @aA @nP.eq_1) ?_
 show a7 _ _ _ _ _
 exact ⟨.inr rfl,_,_,rfl,rfl⟩
end Go.Ac
end
