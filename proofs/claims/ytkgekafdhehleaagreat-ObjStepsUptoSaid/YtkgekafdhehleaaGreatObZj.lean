/- Statements executed (the reference's). -/
import Derived.Test.YtkgekafdhehleaaGreatObZiM
set_option linter.unusedVariables false
set_option linter.unusedSimpArgs false
set_option maxRecDepth 4000
namespace Go.Ac
open Go.Proofs
attribute [local simp] Hp.get_set dA cK cR bW
theorem aGC (vs:List (Tx×Int)) (x:Tx) (v:Int):(jG vs x v).length≤vs.length+1:=by
 unfold jG;split <;> simp
theorem rE:∀ (ds vs:List (Tx×Int)),(puts vs ds).length≤vs.length+ds.length
 | [],vs=>by rw[puts];simp
 | p::r,vs=>by
  rw[puts]
  have h1:=rE r (jG vs p.1 p.2)
  have h2:=aGC vs p.1 p.2
  simp only[List.length_cons];omega
theorem aLs:∀ (l:List Y) (j:Nat),hH (l.take j)≤hH l
 | [],j=>by simp
 | y::r,0=>by rw[List.take_zero,hH];exact Nat.zero_le _
 | y::r,j+1=>by rw[List.take_succ_cons,hH,hH];have:=aLs r j;omega
theorem aLv:∀ (l:List Y) (j:Nat) (y:Y),l[j]?=some y→hH (l.take j)+y.sz≤hH l
 | [],j,y,h=>by simp at h
 | x::r,0,y,h=>by simp at h;subst h;rw[List.take_zero,hH,hH];omega
 | x::r,j+1,y,h=>by rw[List.take_succ_cons,hH,hH];have:=aLv r j y (by simpa using h);omega
theorem aCm (c:Cl) (F:Trn→List Int→Trn×List Int):∀ (N:Nat) (l:List Y),hH l<N→∀ s:Es,(uW c F l s).vs.length≤s.vs.length+hH l:=by
 intro N
 induction N with
 | zero=>intro l h;omega
 | succ N ih=>
 intro l
 cases l with
 | nil=>intro _ s;rw[uW];omega
 | cons y r=>
 intro hN s
 rw[hH] at hN ⊢
 have hs0:=Y.sz_eq y
 rw[uW]
 have h1:=ih r (by omega) (exY c F y s)
 have h2:(exY c F y s).vs.length≤s.vs.length+y.sz:=by
  rw[aDo]
  split
  ·have:=aGC s.vs y.nm (uK s.vs s.ms y.r);simp only;omega
  split
  ·simp only;omega
  split
  ·cases hb:y.brs[(gz s.vs y.nm).toNat]? with
   | none=>rw[aER _ _ _ _ _ (by simpa using hb)];omega
   | some b=>
    rw[aAK c F s y.brs _ b hb]
    have hm:=List.mem_of_getElem? hb
    have:=gJ hm
    have:=ih b (by omega) s
    omega
  split
  ·split
   ·rename_i t _
    have h3:=rE (y.outs.zip (F t (evL s.vs s.ms y.args)).2) s.vs
    have h4:(y.outs.zip (F t (evL s.vs s.ms y.args)).2).length≤y.outs.length:=by simp;omega
    have h5:=oB y.outs
    simp only;omega
   ·omega
  ·split
   ·exact Nat.le_add_right _ _
   ·exact Nat.le_add_right _ _
 omega
def aOO (hp:Hp) (n:Nat) (ids:List Nat) (va:V) (ins:List Int):Prop:=va=dL (bX ins)∨∃ id g,va= .osl id g 0 ins.length 1 none∧hp.get id=some ⟨g,false,fl (bX ins)⟩∧id<n∧id∉ids
def aJN (o:Oc) (N:Nat):Prop:=∀ (t:Trn) (p:Pt) (ins:List Int) (va:V),t.ht≤N→t.ok o→y9 o.en t.c.inn ins→∀ hp n cc,RLies o t p hp n→aOO hp n (cW p) va ins→
 ∃ id g,aGU 54 [.ptr p.a.x p.a.gx 0,va] hp n cc (.osl id g 0 (eZ N t ins).2.length 1 none) (cW p) (fun bD n'=>(∃ p',Moved p p' n∧RLies o (eZ N t ins).1 p' bD n')∧bD.get id=some ⟨g,false,fl (bX (eZ N t ins).2)⟩∧n≤id∧id<n')
theorem REA.setV {o:Oc} {c:Cl} {p:Pt} {b:Rb} {s:Es} {hp bD hpz:Hp} {n gn gv:Nat} {vs':List (Tx×Int)} (h:REA o c p b s hp n) (hf:∀ k,k<n→k∉[b.r,b.nn,b.vv]→bD.get k=hp.get k) (hR:RunA { b with gn:=gn,gv:=gv } vs' hpz n) (hs:∀ k,k<n→(hpz.get k).isSome=true→bD.get k=hpz.get k):REA o c p { b with gn:=gn,gv:=gv } { s with vs:=vs' } bD n:=by
 refine ⟨h.li.same (fun k hk=>hf k (h.li.lt k hk) ?_) (Nat.le_refl _),⟨?_,?_,?_,hR.lr,hR.ln,hR.lv,hR.d1,hR.d2,hR.d3⟩,h.bx,h.bg,h.e1,h.e2,h.e3⟩
 ·simp only[List.mem_cons,List.not_mem_nil,or_false,not_or]
  exact ⟨fun e=>h.e1 (e▸hk),fun e=>h.e2 (e▸hk),fun e=>h.e3 (e▸hk)⟩
 ·rw[hs _ hR.lr (by rw[hR.ob];rfl)];exact hR.ob
 ·rw[hs _ hR.ln (by rw[hR.nm];rfl)];exact hR.nm
 ·rw[hs _ hR.lv (by rw[hR.vl];rfl)];exact hR.vl
theorem aDP {o:Oc} {c:Cl} {cx:List Pr} {bf:List Y}:∀ {l:List X} {ds:List Dc},lW ⟨o,c,bf,cx⟩ l ds=0→l.length=ds.length→∀ x,x∈l→bQ x=true∧(eV ⟨o,c,bf,cx⟩ x).2=0
 | [],ds,_,_,x,hx=>by cases hx
 | y::r,[],_,hl,x,hx=>by simp at hl
 | y::r,d::ds,h,hl,x,hx=>by
  rw[lW] at h
  split at h
  ·rename_i hn;exact absurd h hn
  rename_i hn
  have ha:sZ ⟨o,c,bf,cx⟩ y d=0:=Decidable.not_not.1 hn
  unfold sZ at ha
  split at ha
  ·rename_i h1;exact absurd ha h1
  rename_i h1
  rcases List.mem_cons.1 hx with rfl|hx
  ·have h2:=Decidable.not_not.1 h1
   unfold eB at h2
   split at h2
   ·rename_i hf;exact ⟨hf,h2⟩
   ·simp at h2
  ·exact aDP h (by simpa using hl) x hx
theorem wtX.kind {o:Oc} {c:Cl} {x:X} {t:Int} (h:wtX o c x t):bQ x=true∧∃ bf cx,(eV ⟨o,c,bf,cx⟩ x).2=0:=by
 obtain ⟨h1,bf,cx,h2⟩:=h
 exact ⟨h1,bf,cx,by rw[h2]⟩
theorem aMa {ms:List (Tx×Int)} {l:List Mm} {nm:Tx} (v:Int) (hk:ms.map Prod.fst=l.map Mm.nm) (hf:eK l nm≠0):(jG ms nm v).map Prod.snd=(ms.map Prod.snd).set (aAS l nm) v∧(jG ms nm v).length=ms.length:=by
 have eY:ms.length=l.length:=by have:=congrArg List.length hk;simpa using this
 unfold aAS
 cases hx:l.findIdx? (fun d=>decide (d.nm=nm)) with
 | none=>
  exfalso
  obtain ⟨m,hm,he,_⟩:=zX hf
  rw[List.findIdx?_eq_none_iff] at hx
  have:=hx m hm
  simp[he] at this
 | some i=>
  obtain ⟨h1,h2,h3⟩:=List.findIdx?_eq_some_iff_getElem.1 hx
  simp only
  have hi:i<ms.length:=by omega
  have key:∀ (k:Nat) (hk1:k<ms.length) (xJ:k<l.length),ms[k].1=l[k].nm:=fun k hk1 xJ=>by
   have:=List.getElem_of_eq hk (i:=k) (by simpa using hk1)
   simpa using this
  have hm:jG ms nm v=ms.set i (nm,v):=by
   refine aDt (j:=i) (d:=ms[i]) ?_ (List.getElem?_eq_getElem hi) ((key i hi h1).trans (by simpa using h2))
   rw[List.all_eq_true]
   intro x hx
   obtain ⟨k,hk1,rfl⟩:=List.getElem_of_mem hx
   simp only[List.length_take] at hk1
   rw[List.getElem_take,key k (by omega) (by omega)]
   have:=h3 k (by omega)
   simpa using this
  rw[hm,List.map_set,List.length_set]
  exact ⟨rfl,rfl⟩
theorem REA.setM {o:Oc} {c:Cl} {p:Pt} {b:Rb} {s:Es} {hp bD:Hp} {n:Nat} {ms':List (Tx×Int)} (h:REA o c p b s hp n) (hl:ms'.length=s.ms.length) (hg:∀ id,id<n→bD.get id=if id=p.a.im then some ⟨p.a.gm,false,fl (bX (ms'.map Prod.snd))⟩ else hp.get id):REA o c p b { s with ms:=ms' } bD n:=by
 obtain ⟨a,ps⟩:=p
 have him:a.im∈cW (.mk a ps):=by rw[cW];simp
 have hne:∀ k,k<n→k∉cW (.mk a ps)→bD.get k=hp.get k:=fun k hk h2=>by
  rw[hg k hk,if_neg (fun e=>h2 (by rw[e];exact him))]
 exact ⟨h.li.setM hl hg,⟨(hne _ h.ru.lr h.e1).trans h.ru.ob,(hne _ h.ru.ln h.e2).trans h.ru.nm,(hne _ h.ru.lv h.e3).trans h.ru.vl,h.ru.lr,h.ru.ln,h.ru.lv,h.ru.d1,h.ru.d2,h.ru.d3⟩,h.bx,h.bg,h.e1,h.e2,h.e3⟩
theorem REA.after {o:Oc} {c:Cl} {p:Pt} {b:Rb} {s:Es} {hp bD:Hp} {n:Nat} (h:REA o c p b s hp n) (hs:∀ k,k<n→(hp.get k).isSome=true→bD.get k=hp.get k):REA o c p b s bD n:=
 ⟨h.li.after hs,⟨(hs _ h.ru.lr (by rw[h.ru.ob];rfl)).trans h.ru.ob,(hs _ h.ru.ln (by rw[h.ru.nm];rfl)).trans h.ru.nm,(hs _ h.ru.lv (by rw[h.ru.vl];rfl)).trans h.ru.vl,h.ru.lr,h.ru.ln,h.ru.lv,h.ru.d1,h.ru.d2,h.ru.d3⟩,h.bx,h.bg,h.e1,h.e2,h.e3⟩
theorem REA.setS {o:Oc} {c:Cl} {p:Pt} {b:Rb} {s:Es} {hp bD:Hp} {n n':Nat} {i:Nat} {t u:Trn} {q q':Pt} (h:REA o c p b s hp n) (ht:s.sb[i]?=some t) (hq:p.ps[i]?=some q) (hm:Moved q q' n) (hL:RLies o u q' bD n') (hn:n≤n') (hf:∀ k,k<n→k∉cW q→bD.get k=hp.get k):∃ p',Moved p p' n∧REA o c p' b { s with sb:=s.sb.set i u } bD n':=by
 obtain ⟨a,ps⟩:=p
 have gQ:ps[i]?=some q:=hq
 obtain ⟨g1,g2⟩:=h.li.setS ht gQ hm hL hn hf
 have hin:∀ k,k∈cW q→k∈cW (.mk a ps):=fun k hk=>by rw[cW];simp[pU ps i q gQ k hk]
 have hne:∀ k,k<n→k∉cW (.mk a ps)→bD.get k=hp.get k:=fun k hk h2=>hf k hk fun h3=>h2 (hin k h3)
 have rQ:∀ k,k<n→k∉cW (.mk a ps)→k∉cW (.mk a (ps.set i q')):=fun k hk h2 h3=>by
  rcases g2.sub k h3 with h4|h4
  ·exact h2 h4
  ·omega
 have l1:=h.ru.lr
 have l2:=h.ru.ln
 have l3:=h.ru.lv
 exact ⟨_,g2,g1,⟨(hne _ l1 h.e1).trans h.ru.ob,(hne _ l2 h.e2).trans h.ru.nm,(hne _ l3 h.e3).trans h.ru.vl,by omega,by omega,by omega,h.ru.d1,h.ru.d2,h.ru.d3⟩,h.bx,h.bg,rQ _ l1 h.e1,rQ _ l2 h.e2,rQ _ l3 h.e3⟩
theorem WI.more {ids0:List Nat} {n k:Nat} {rU hp:Hp} {wl:List Nat} {x:Ob} (h:WI ids0 n rU wl hp) (hk:n≤k):WI ids0 n rU wl (hp.set k x):=
 ⟨h.1,fun j h1 h2=>by rw[Hp.get_set_ne _ _ _ _ (by omega)];exact h.2 j h1 h2⟩
theorem REA.out {o:Oc} {c:Cl} {p:Pt} {b:Rb} {s:Es} {hp bD:Hp} {n n':Nat} (h:REA o c p b s hp n) (hg:∀ x,(x=b.r∨x=b.nn∨x=b.vv∨x∈cW p)→bD.get x=hp.get x) (hn:n≤n'):REA o c p b s bD n':=
 ⟨h.li.same (fun k hk=>hg k (.inr (.inr (.inr hk)))) hn,⟨(hg _ (.inl rfl)).trans h.ru.ob,(hg _ (.inr (.inl rfl))).trans h.ru.nm,(hg _ (.inr (.inr (.inl rfl)))).trans h.ru.vl,by have:=h.ru.lr;omega,by have:=h.ru.ln;omega,by have:=h.ru.lv;omega,h.ru.d1,h.ru.d2,h.ru.d3⟩,h.bx,h.bg,h.e1,h.e2,h.e3⟩
theorem aLS {l:List Ii} {cs:List Cl} {c:Cl} {nm:Tx} (hl:l=c.ins) (h:(e9 l cs nm).2=true):aBR l nm=mE c nm∧aBR l nm<l.length:=by
 subst hl
 unfold aBR mE
 cases hx:c.ins.findIdx? (fun d=>decide (d.nm=nm)) with
 | none=>
  exfalso
  unfold e9 at h
  rw[List.findIdx?_eq_none_iff] at hx
  have:c.ins.find? (fun d=>decide (d.nm=nm))=none:=by
   rw[List.find?_eq_none];intro x nH;have:=hx x nH;simpa using this
  rw[this] at h;cases h
 | some i=>
  obtain ⟨h1,h2⟩:=List.findIdx?_eq_some_iff_findIdx_eq.1 hx
  exact ⟨h2.symm,h1⟩
theorem aTJ (r:Nat):Ob.keep 103 r=Ob.k103 r:=by kernel_rfl
attribute [local simp] aTJ Ob.k103
section
variable {o:Oc} {c:Cl} {N h0:Nat}
set_option maxHeartbeats 16000000 in
theorem aJO (uS:dE o=0) (gB:o.sz≤2097152) (hO:OW o) (hc:c∈o.cl) (hS:aJN o N) (hh:h0≤N):∀ M,M≤8388609→∀ l:List Y,hH l<M→wtL o c l→okY l→∀ (s:Es) (p:Pt) (b:Rb),s.ok o c h0→s.vs.length+hH l≤1099511627776→∀ hp n cc,REA o c p b s hp n→
  aGU 103 [.ptr b.r b.gr 0,dL (dJ l)] hp n cc (.tuple []) (b.r::b.nn::b.vv::cW p) (fun bD n'=>∃ p' gn gv,Moved p p' n∧REA o c p' { b with gn:=gn,gv:=gv } (uW c (eZ N) l s) bD n'):=by
 intro M
 induction M with
 | zero=>intro _ l h;omega
 | succ M ih=>
 intro hM l hl hwt cE s p b hs hvl hp n cc hE
 have hw:=hO.wf
 have gM:=hO.len c hc
 have eY:=lJ l
 have hcw:=hw c hc
 have aOC:Fok o N (eZ N):=s7 hw N
 have hF0:Fok o h0 (eZ N):=fun t ins h1=>aOC t ins (by omega)
 refine aEP Tryz.func103 rfl (by kernel_rfl) rfl ?_
 refine bY (j7 @aN @aO @aB @aA @aH @aI @cQ) ?_
 apply WP.loop' (I:=fun D st=>∃ (j c' n':Nat) (wl:List Nat) (bD:Hp) (sj:Es) (p':Pt) (gn gv:Nat),j+D=l.length∧sj=uW c (eZ N) (l.take j) s∧sj.ok o c h0∧n≤n'∧Moved p p' n∧REA o c p' { b with gn:=gn,gv:=gv } sj bD n'∧WI (b.r::b.nn::b.vv::cW p) n hp wl bD∧
  st=⟨[(0,.ptr b.r b.gr 0),(1,dL (dJ l)),(4,dI j)],bD,n',c',n,wl⟩) (d:=l.length)
 ·exact ⟨0,_,_,_,_,s,p,b.gn,b.gv,by simp,by simp[uW],hs,Nat.le_refl n,Moved.refl,hE,WI.refl,bK (by simp[dI,dL]) rfl⟩
 rintro D _ ⟨j,c',n',wl,bD,sj,p',gn,gv,hj,hsj,rK,hnn,hmv,pF,eR,rfl⟩
 refine lM (j3 @aB @aA @cQ) ?_
 show WP _ _ _ _ _ _
 refine WP.cond _ rfl (fun hb=>?_) (fun hb=>?_)
 ·simp at hb
  have bR:j<l.length:=by omega
  obtain ⟨y,hy,vF,bS⟩:=bL bR
  have pD:=oA hy
  have dH:=bG bR (by omega)
  have rQ:=aGq (c:=c) (eZ N) hy s
  rw[←hsj,aDo] at rQ
  have hyt:=hwt y vF
  have aYG:=mM vF
  have m8:=Y.sz_eq y
  obtain ⟨ok1,ok2,ok3,ok4⟩:=Y.ok_eq ((uP _).1 cE y vF)
  have hs2:=aMf hw hcw hF0 _ (l.take (j+1)) (Nat.lt_succ_self _) (fun z hz=>hwt z (List.mem_of_mem_take hz)) s hs
  have htl:=aLs l j
  have hta:=aLv l j y hy
  have hvk:sj.vs.length≤s.vs.length+hH (l.take j):=by
   have:=aCm c (eZ N) _ (l.take j) (Nat.lt_succ_self _) s
   rwa [←hsj] at this
  have hvj:sj.vs.length≤1099511627776:=by
   have:=aCm c (eZ N) _ (l.take j) (Nat.lt_succ_self _) s
   rw[←hsj] at this;omega
  have hkk:∀ k,(k∈b.r::b.nn::b.vv::cW p'∨n'≤k)→k∈b.r::b.nn::b.vv::cW p∨n≤k:=fun k hk=>by
   rcases hk with hk|hk
   ·simp only[List.mem_cons] at hk ⊢
    rcases hk with hk|hk|hk|hk
    ·exact .inl (.inl hk)
    ·exact .inl (.inr (.inl hk))
    ·exact .inl (.inr (.inr (.inl hk)))
    ·rcases hmv.sub k hk with h|h
     ·exact .inl (.inr (.inr (.inr h)))
     ·exact .inr h
   ·exact .inr (by omega)
  rcases hyt.cases hw hcw with ⟨k,t,h1,h2,h3⟩|⟨k,h1,h2⟩|⟨k,h1,h2,h3,h4⟩|⟨k,h1,h2,h3,cx,bf,h4,h5⟩|⟨k,h1⟩
  ·rw[if_pos k] at rQ
   refine bY (uQ @aB @aA @cQ @bS @pD @aC @aE @aH @aI @k @aS) ?_
   apply WP.gen3
   intro gN c3 wl3 eS jF
   have mB:gN.get n'=some ⟨c',false,[V.d (.int .i64 y.k),V.d (.str y.nm),V.d (.int .i64 y.t),V.d (.int .i64 y.r.k),V.d (.int .i64 y.r.o),V.d (.int .i64 y.r.t),V.d (.int .i64 y.r.v),V.d (.str y.r.nm),V.d (.slice (fY y.r.args)),V.d (.slice (eT y.outs)),V.d (.slice (fY y.args)),V.d (.slice (iA y.brs))]⟩:=by rw[eS];simp[k]
   have pM:REA o c p' { b with gn:=gn,gv:=gv } sj gN (n'+1):=by rw[eS];exact pF.mono (by simp[dA,cK]) (by omega)
   have pX:WI (b.r::b.nn::b.vv::cW p) n hp wl3 gN:=by rw[eS,jF];exact (eR.set (.inr (by omega))).set (.inr (by omega))
   clear eS jF
   have lr3:b.r<n'+1:=pM.ru.lr
   have ln3:b.nn<n'+1:=pM.ru.ln
   have lv3:b.vv<n'+1:=pM.ru.lv
   obtain ⟨lU,bf,cx,aNl⟩:=h1.kind
   obtain ⟨F,G,hF⟩:=gU (C:=fun fP n2=>Ag (n'+1) gN fP∧n'+1≤n2) (P:=Tryz.prog) (cfg:=Ob.cfg) (f:=129) (vs:=[.ptr b.r b.gr 0,aG y.r.cells]) (v:=dI (uK sj.vs sj.ms y.r)) (fun fP n2 c2 hC=>aEH (b:={ b with gn:=gn,gv:=gv }) gM rK.m.1 (by omega) bf cx M (by omega) y.r (by omega) lU aNl fP n2 c2 (pM.mono hC.1 hC.2))
   have hr:=hF gN (n'+1) c3 ⟨Ag.refl _ _,Nat.le_refl _⟩
   obtain ⟨q,oZ,hv,hn,tW,nJ,mH,hpz,⟨gn2,gv2,pW⟩,dU⟩:=(aEQ pM.ru hvj y.nm (uK sj.vs sj.ms y.r) (c3+(G gN (n'+1) c3 - c3))).caller (by
    intro x hx
    simp at hx;omega)
   have hE4:=pM.setV (fun k h1 h2=>mH k h1 h2) pW dU
   simp only[aG,aE,List.map_cons,List.map_nil,dI,dS] at hr oZ
   repeat (first
 | apply WP.seq
 | (apply WP.reg;(case hR=>dsimp only [e8,eA,List.map,gS,gZ];exact iZ);(case hr=>(repeat (first
 | (apply RT.op;simp[-bA,dI,dL,mB,aE,hr,hv,hn];exact iZ;(try dsimp only [a8]) <;> exact rfl)
 | (apply RT.call;(iterate 2 simp;exact iZ);exact iZ;(iterate 4 simp[-bA,dI,dL,mB,aE,hr,hv,hn];exact iZ);simp[Is];(try dsimp only [a8]) <;> exact rfl;simp;exact iZ;exact iZ)
 | (apply RT.callV;(iterate 2 simp;exact iZ);exact iZ;(iterate 3 simp[-bA,dI,dL,mB,aE,hr,hv,hn];exact iZ);(try dsimp only [a8]) <;> exact rfl)
 | (apply RT.callT (hd:=oZ) (hk:=tW);(iterate 2 simp;exact iZ);exact iZ;(iterate 2 simp[-bA,dI,dL,mB,aE,hr,hv,hn];exact iZ);(try dsimp only [a8]) <;> exact rfl)
 | (apply RT.wr;simp[-bA,dI,dL,mB,aE,hr,hv,hn];exact iZ;(try dsimp only [a8]) <;> exact rfl;simp[-bA,dI,dL,mB,aE,hr,hv,hn];exact iZ;(iterate 2 exact iZ);exact iZ)));exact RT.nil);(case hc=>first|(refine c8 [(0,1),(0,2),(0,3),(1,3),(2,3),(0,4),(1,4),(2,4),(3,4),(0,5),(1,5),(2,5),(3,5),(0,6),(1,6),(2,6)] (by kernel_rfl) (by kernel_rfl) rfl ?_;simp[lF,jX,dY];done)|(show _=_;kernel_rfl));(case ht=>simp[-bA,dI,dL,mB,aE,hr,hv,hn];exact iZ))
 | apply WP.block|apply WP.skip|apply WP.exit|apply WP.ret|refine WP.condT rfl ?_|refine WP.condF rfl ?_)
   refine aY (by simp[-bA,dH];exact Is.rfl) ?_
   refine ⟨D - 1,by omega,j+1,_,n'+1,_,_,_,p',gn2,gv2,by omega,rfl,hs2,by omega,hmv,?_,pX.sets fun x hx=>?_,bK (by simp[dI,dL,dH]) rfl⟩
   ·rw[rQ];exact hE4
   ·have h:=nJ x.1 (List.mem_map.2 ⟨x,hx,rfl⟩)
    simp only[List.mem_cons,List.not_mem_nil,or_false] at h ⊢
    rcases h with h|h|h <;> simp[h]
  ·rw[if_neg (by omega),if_pos k] at rQ
   refine bY (uQ @aB @aA @cQ @bS @pD @aC @aE @aH @aI @k @aS) ?_
   apply WP.gen3
   intro gN c3 wl3 eS jF
   have mB:gN.get n'=some ⟨c',false,[V.d (.int .i64 y.k),V.d (.str y.nm),V.d (.int .i64 y.t),V.d (.int .i64 y.r.k),V.d (.int .i64 y.r.o),V.d (.int .i64 y.r.t),V.d (.int .i64 y.r.v),V.d (.str y.r.nm),V.d (.slice (fY y.r.args)),V.d (.slice (eT y.outs)),V.d (.slice (fY y.args)),V.d (.slice (iA y.brs))]⟩:=by rw[eS];simp[k]
   have pM:REA o c p' { b with gn:=gn,gv:=gv } sj gN (n'+1):=by rw[eS];exact pF.mono (by simp[dA,cK]) (by omega)
   have pX:WI (b.r::b.nn::b.vv::cW p) n hp wl3 gN:=by rw[eS,jF];exact (eR.set (.inr (by omega))).set (.inr (by omega))
   clear eS jF
   have lr3:b.r<n'+1:=pM.ru.lr
   have ln3:b.nn<n'+1:=pM.ru.ln
   have lv3:b.vv<n'+1:=pM.ru.lv
   obtain ⟨lU,bf,cx,aNl⟩:=h1.kind
   have vA:=pM.ru.ob
   have hbx:b.x=p'.a.x:=pM.bx
   have hbg:b.gx=p'.a.gx:=pM.bg
   simp only[hbx,hbg] at vA
   obtain ⟨lx3,i5⟩:=pM.li.ob
   obtain ⟨lm3,aHu⟩:=pM.li.mo
   simp only[rO,Trn.c,Trn.ms] at i5 aHu
   obtain ⟨F,G,hF⟩:=gU (C:=fun fP n2=>Ag (n'+1) gN fP∧n'+1≤n2) (P:=Tryz.prog) (cfg:=Ob.cfg) (f:=130) (vs:=[.ptr p'.a.x p'.a.gx 0,dS y.nm]) (v:=dI (aAS c.mems y.nm)) (fun fP n2 c2 hC=>aLo (pM.li.mono hC.1 hC.2) (by have:=gM.sum;simp only[Trn.c];omega) y.nm c2)
   have sW:=hF gN (n'+1) c3 ⟨Ag.refl _ _,Nat.le_refl _⟩
   obtain ⟨F2,G2,hF2⟩:=gU (C:=fun fP n2=>Ag (n'+1) gN fP∧n'+1≤n2) (P:=Tryz.prog) (cfg:=Ob.cfg) (f:=129) (vs:=[.ptr b.r b.gr 0,aG y.r.cells]) (v:=dI (uK sj.vs sj.ms y.r)) (fun fP n2 c2 hC=>aEH (b:={ b with gn:=gn,gv:=gv }) gM rK.m.1 (by omega) bf cx M (by omega) y.r (by omega) lU aNl fP n2 c2 (pM.mono hC.1 hC.2))
   have hr2:=hF2 gN (n'+1) (c3+(G gN (n'+1) c3 - c3)) ⟨Ag.refl _ _,Nat.le_refl _⟩
   obtain ⟨aOE,aRo⟩:=aMH rK.m.1 h2
   obtain ⟨aYY,aYZ⟩:=aMa (uK sj.vs sj.ms y.r) rK.m.1 h2
   have sX:=m6 aRo
   have hlV:(fl (bX (sj.ms.map Prod.snd))).length=sj.ms.length:=by rw[tK];simp
   have hj1:=eq_true (show aAS c.mems y.nm+1≤sj.ms.length by omega)
   have hj2:=eq_true aRo
   have lm4:=eq_true lm3
   simp only[aG,aE,List.map_cons,List.map_nil,dI,dS] at sW hr2
   repeat (first
 | apply WP.seq
 | (apply WP.reg;(case hR=>dsimp only [e8,eA,List.map,gS,gZ];exact iZ);(case hr=>(repeat (first
 | (apply RT.op;simp[-bA,dI,dL,mB,aE,sW,hr2,vA,i5,aHu,sX,hlV,hj1,hj2,lm4,bJ];exact iZ;(try dsimp only [a8]) <;> exact rfl)
 | (apply RT.call;(iterate 2 simp;exact iZ);exact iZ;(iterate 4 simp[-bA,dI,dL,mB,aE,sW,hr2,vA,i5,aHu,sX,hlV,hj1,hj2,lm4,bJ];exact iZ);simp[Is];(try dsimp only [a8]) <;> exact rfl;simp;exact iZ;exact iZ)
 | (apply RT.callV;(iterate 2 simp;exact iZ);exact iZ;(iterate 3 simp[-bA,dI,dL,mB,aE,sW,hr2,vA,i5,aHu,sX,hlV,hj1,hj2,lm4,bJ];exact iZ);(try dsimp only [a8]) <;> exact rfl)
 | (apply RT.callT (hd:=oZ) (hk:=tW);(iterate 2 simp;exact iZ);exact iZ;(iterate 2 simp[-bA,dI,dL,mB,aE,sW,hr2,vA,i5,aHu,sX,hlV,hj1,hj2,lm4,bJ];exact iZ);(try dsimp only [a8]) <;> exact rfl)
 | (apply RT.wr;simp[-bA,dI,dL,mB,aE,sW,hr2,vA,i5,aHu,sX,hlV,hj1,hj2,lm4,bJ];exact iZ;(try dsimp only [a8]) <;> exact rfl;simp[-bA,dI,dL,mB,aE,sW,hr2,vA,i5,aHu,sX,hlV,hj1,hj2,lm4,bJ];exact iZ;(iterate 2 exact iZ);exact iZ)));exact RT.nil);(case hc=>first|(refine c8 [(0,7),(1,7),(2,7),(3,7),(4,7),(5,7),(6,7),(0,8),(1,8),(2,8),(3,8),(4,8),(5,8),(6,8),(0,9),(1,9),(2,9),(3,9),(4,9),(5,9),(6,9),(0,10),(1,10),(2,10),(3,10),(4,10),(5,10),(6,10),(0,11),(1,11),(2,11),(3,11),(4,11),(5,11),(6,11),(7,11),(8,11),(9,11),(10,11),(0,12),(1,12),(2,12),(3,12),(4,12),(5,12),(6,12),(7,12),(8,12),(9,12),(10,12),(0,13),(1,13),(2,13),(3,13),(4,13),(5,13),(6,13),(0,14),(1,14),(2,14),(3,14),(4,14),(5,14),(6,14),(7,14),(8,14),(9,14),(10,14),(11,14),(12,14),(13,14),(0,15),(1,15),(2,15),(3,15),(4,15),(5,15),(6,15),(7,15),(8,15),(9,15),(10,15),(11,15),(12,15),(13,15),(14,15),(0,16),(1,16),(2,16),(3,16),(4,16),(5,16),(6,16),(7,16),(8,16),(9,16),(10,16),(11,16),(12,16),(13,16),(14,16),(0,17),(1,17),(2,17),(3,17),(4,17),(5,17),(6,17)] (by kernel_rfl) (by kernel_rfl) rfl ?_;simp[lF,jX,dY];done)|(show _=_;kernel_rfl));(case ht=>simp[-bA,dI,dL,mB,aE,sW,hr2,vA,i5,aHu,sX,hlV,hj1,hj2,lm4,bJ];exact iZ))
 | apply WP.block|apply WP.skip|apply WP.exit|apply WP.ret|refine WP.condT rfl ?_|refine WP.condF rfl ?_)
   refine aY (by simp[-bA,dH];exact Is.rfl) ?_
   refine ⟨D - 1,by omega,j+1,_,n'+1,_,_,_,p',gn,gv,by omega,rfl,hs2,by omega,hmv,?_,?_,bK (by simp[dI,dL,dH]) rfl⟩
   ·rw[rQ]
    refine pM.setM aYZ fun id cY=>?_
    rw[aYY,←aGm _ _ _ (by simpa using aRo)]
    by_cases hq:id=p'.a.im
    ·subst hq;simp
    ·simp[hq,Ne.symm hq]
   ·have aZa:p'.a.im∈cW p':=by cases p';rw[cW];simp[Pt.a]
    rcases hmv.sub _ aZa with h|h
    ·exact WI.set pX (.inl (by simp[h]))
    ·exact WI.set pX (.inr h)
  ·rw[if_neg (by omega),if_neg (by omega),if_pos k] at rQ
   have hvt:=rK.v y.nm h1
   unfold iG at hvt
   rw[if_neg h2] at hvt
   simp at hvt
   have fB:(gz sj.vs y.nm).toNat<y.brs.length:=by omega
   have hzn:gz sj.vs y.nm=(((gz sj.vs y.nm).toNat:Nat):Int):=by omega
   obtain ⟨b0,hb0,yU,tV⟩:=bL fB
   rw[←hzn] at tV
   have aIV:=lH hb0
   rw[aAK c _ sj y.brs _ b0 hb0] at rQ
   have hbz:=gJ yU
   refine bY (uQ @aB @aA @cQ @bS @pD @aC @aE @aH @aI @k @aS) ?_
   apply WP.gen3
   intro gN c3 wl3 eS jF
   have mB:gN.get n'=some ⟨c',false,[V.d (.int .i64 y.k),V.d (.str y.nm),V.d (.int .i64 y.t),V.d (.int .i64 y.r.k),V.d (.int .i64 y.r.o),V.d (.int .i64 y.r.t),V.d (.int .i64 y.r.v),V.d (.str y.r.nm),V.d (.slice (fY y.r.args)),V.d (.slice (eT y.outs)),V.d (.slice (fY y.args)),V.d (.slice (iA y.brs))]⟩:=by rw[eS];simp[k]
   have pM:REA o c p' { b with gn:=gn,gv:=gv } sj gN (n'+1):=by rw[eS];exact pF.mono (by simp[dA,cK]) (by omega)
   have pX:WI (b.r::b.nn::b.vv::cW p) n hp wl3 gN:=by rw[eS,jF];exact (eR.set (.inr (by omega))).set (.inr (by omega))
   clear eS jF
   have lr3:b.r<n'+1:=pM.ru.lr
   have ln3:b.nn<n'+1:=pM.ru.ln
   have lv3:b.vv<n'+1:=pM.ru.lv
   obtain ⟨F,G,hF⟩:=gU (C:=fun fP n2=>Ag (n'+1) gN fP∧n'+1≤n2) (P:=Tryz.prog) (cfg:=Ob.cfg) (f:=104) (vs:=[.ptr b.r b.gr 0,dS y.nm]) (v:=dI (gz sj.vs y.nm)) (fun fP n2 c2 hC=>aFr (pM.ru.mono hC.1 hC.2) (by omega) y.nm c2)
   have sW:=hF gN (n'+1) c3 ⟨Ag.refl _ _,Nat.le_refl _⟩
   obtain ⟨q,oZ,hv,hn,tW,nJ,mH,hpz,⟨p2,gn2,gv2,aBo,pW⟩,dU⟩:=(ih (by omega) b0 (by omega) (h4 b0 yU) (wQ _ |>.1 ok4 b0 yU) sj p' { b with gn:=gn,gv:=gv } rK (by omega) gN (n'+1) (c3+(G gN (n'+1) c3 - c3)) pM).caller (by
    intro x hx
    simp only[List.mem_cons] at hx
    rcases hx with hx|hx|hx|hx
    ·omega
    ·omega
    ·omega
    ·exact pM.li.lt x hx)
   have hE4:=pW.after dU
   have hN:n'+1+(q.n - (n'+1))=q.n:=by omega
   simp only[dI,dL,dS] at sW oZ
   repeat (first
 | apply WP.seq
 | (apply WP.reg;(case hR=>dsimp only [e8,eA,List.map,gS,gZ];exact iZ);(case hr=>(repeat (first
 | (apply RT.op;simp[-bA,dI,dL,mB,sW,tV,aIV,aX,hv];exact iZ;(try dsimp only [a8]) <;> exact rfl)
 | (apply RT.call;(iterate 2 simp;exact iZ);exact iZ;(iterate 4 simp[-bA,dI,dL,mB,sW,tV,aIV,aX,hv];exact iZ);simp[Is];(try dsimp only [a8]) <;> exact rfl;simp;exact iZ;exact iZ)
 | (apply RT.callV;(iterate 2 simp;exact iZ);exact iZ;(iterate 3 simp[-bA,dI,dL,mB,sW,tV,aIV,aX,hv];exact iZ);(try dsimp only [a8]) <;> exact rfl)
 | (apply RT.callT (hd:=oZ) (hk:=tW);(iterate 2 simp;exact iZ);exact iZ;(iterate 2 simp[-bA,dI,dL,mB,sW,tV,aIV,aX,hv];exact iZ);(try dsimp only [a8]) <;> exact rfl)
 | (apply RT.wr;simp[-bA,dI,dL,mB,sW,tV,aIV,aX,hv];exact iZ;(try dsimp only [a8]) <;> exact rfl;simp[-bA,dI,dL,mB,sW,tV,aIV,aX,hv];exact iZ;(iterate 2 exact iZ);exact iZ)));exact RT.nil);(case hc=>first|(refine c8 [(0,1),(0,2),(0,3),(1,3),(2,3),(0,4),(1,4),(2,4),(3,4),(0,5),(1,5),(2,5),(3,5),(0,6),(1,6),(2,6),(0,7),(0,8)] (by kernel_rfl) (by kernel_rfl) rfl ?_;simp[lF,jX,dY];done)|(show _=_;kernel_rfl));(case ht=>simp[-bA,dI,dL,mB,sW,tV,aIV,aX,hv];exact iZ))
 | apply WP.block|apply WP.skip|apply WP.exit|apply WP.ret|refine WP.condT rfl ?_|refine WP.condF rfl ?_)
   refine aY (by simp[-bA,dH];exact Is.rfl) ?_
   refine ⟨D - 1,by omega,j+1,_,n'+1+(q.n - (n'+1)),_,_,_,p2,gn2,gv2,by omega,rfl,hs2,by omega,hmv.trans aBo (by omega),?_,pX.sets fun x hx=>?_,bK (by simp[dI,dL,dH]) rfl⟩
   ·rw[rQ,hN];exact hE4
   ·rcases nJ x.1 (List.mem_map.2 ⟨x,hx,rfl⟩) with h|h
    ·exact hkk _ (.inl h)
    ·exact .inr (by omega)
  ·rw[if_neg (by omega),if_neg (by omega),if_neg (by omega),if_pos k] at rQ
   obtain ⟨t,ht,hto,htc⟩:=w9 rK.b h1
   rw[ht] at rQ
   simp only at rQ
   rw[←htc] at h2 h3 h4 h5
   have hia:=aCo hw rK.v rK.m cx bf y.args t.c.inn h4 h2
   obtain ⟨hxi,vG⟩:=aLS rfl h1
   have aDO:=(List.getElem?_eq_some_iff.1 ht).1
   have hax:=aDP h4 h2
   have haz:=gK y.args
   have hoz:=oB y.outs
   have lr0:b.r<n':=pF.ru.lr
   have ln0:b.nn<n':=pF.ru.ln
   have lv0:b.vv<n':=pF.ru.lv
   have aRp:∀ x,(x=b.r∨x=b.nn∨x=b.vv∨x∈cW p')→x<n':=fun x hx=>by
    rcases hx with hx|hx|hx|hx
    ·omega
    ·omega
    ·omega
    ·exact pF.li.lt x hx
   refine bY (uQ @aB @aA @cQ @bS @pD @aC @aE @aH @aI @k @aS) ?_
   apply WP.gen3
   intro gN c3 wl3 eS jF
   have mB:gN.get n'=some ⟨c',false,[V.d (.int .i64 y.k),V.d (.str y.nm),V.d (.int .i64 y.t),V.d (.int .i64 y.r.k),V.d (.int .i64 y.r.o),V.d (.int .i64 y.r.t),V.d (.int .i64 y.r.v),V.d (.str y.r.nm),V.d (.slice (fY y.r.args)),V.d (.slice (eT y.outs)),V.d (.slice (fY y.args)),V.d (.slice (iA y.brs))]⟩:=by rw[eS];simp[k]
   have hx6:gN.get (n'+1)=some ⟨c'+1,false,[]⟩:=by rw[eS];simp
   have pM:REA o c p' { b with gn:=gn,gv:=gv } sj gN (n'+2):=by rw[eS];exact pF.mono (by simp[dA,cK]) (by omega)
   have pX:WI (b.r::b.nn::b.vv::cW p) n hp wl3 gN:=by rw[eS,jF];exact WI.more ((eR.set (.inr (by omega))).set (.inr (by omega))) (by omega)
   clear eS jF
   apply WP.loop' (I:=fun D2 st=>∃ (i g c4 n4:Nat) (wl4:List Nat) (hp4:Hp) (L:List Int),i+D2=y.args.length∧n'+2≤n4∧L=(y.args.take i).map (uK sj.vs sj.ms)∧REA o c p' { b with gn:=gn,gv:=gv } sj hp4 n4∧hp4.get n'=some ⟨c',false,[V.d (.int .i64 y.k),V.d (.str y.nm),V.d (.int .i64 y.t),V.d (.int .i64 y.r.k),V.d (.int .i64 y.r.o),V.d (.int .i64 y.r.t),V.d (.int .i64 y.r.v),V.d (.str y.r.nm),V.d (.slice (fY y.r.args)),V.d (.slice (eT y.outs)),V.d (.slice (fY y.args)),V.d (.slice (iA y.brs))]⟩∧hp4.get (n'+1)=some ⟨g,false,fl (bX L)⟩∧WI (b.r::b.nn::b.vv::cW p) n hp wl4 hp4∧
    st=⟨[(0,.ptr b.r b.gr 0),(1,dL (dJ l)),(4,dI j),(5,.ptr n' c' 0),(6,.osl (n'+1) g 0 i 1 none),(7,dI i)],hp4,n4,c4,n,wl4⟩) (d:=y.args.length)
   ·exact ⟨0,c'+1,_,n'+2,_,_,[],by simp,Nat.le_refl _,by simp,pM,mB,by rw[hx6];rfl,pX,bK (by simp[dI,dL]) rfl⟩
   clear mB hx6 pM pX
   clear gN c3 wl3
   rintro D2 _ ⟨i,g,c4,n4,wl4,hp4,L,hi4,hn4,hL,hE4,mB,hx6,aBX,rfl⟩
   refine lM (j4 @aB @aA @mB @aT) ?_
   show WP _ _ _ _ _ _
   refine WP.cond _ rfl (fun hb=>?_) (fun hb=>?_)
   ·simp at hb
    have hb4:i<y.args.length:=by omega
    obtain ⟨d,hd,d9,aZb⟩:=bL hb4
    have cF:=iQ hd
    have aBV:=bG hb4 (by omega)
    have hdz:=dX d9
    obtain ⟨lU,aNl⟩:=hax d d9
    obtain ⟨F,G,hF⟩:=gU (C:=fun fP n2=>Ag n4 hp4 fP∧n4≤n2) (P:=Tryz.prog) (cfg:=Ob.cfg) (f:=129) (vs:=[.ptr b.r b.gr 0,aG d.cells]) (v:=dI (uK sj.vs sj.ms d)) (fun fP n2 c2 hC=>aEH (b:={ b with gn:=gn,gv:=gv }) gM rK.m.1 (by omega) bf cx M (by omega) d (by omega) lU aNl fP n2 c2 (hE4.mono hC.1 hC.2))
    have hr:=hF hp4 n4 c4 ⟨Ag.refl _ _,Nat.le_refl _⟩
    simp only[aG,aE,List.map_cons,List.map_nil,dI] at hr
    have hsn:=bM hd
    have pL:L.length=i:=by rw[hL];simp;omega
    have hLs:(y.args.take (i+1)).map (uK sj.vs sj.ms)=L++[uK sj.vs sj.ms d]:=by rw[hsn,hL];simp
    have r2:=cT (cI L)
    have r3:=cL (cI L)
    have r4:=dW (bX L) [.int .i64 (uK sj.vs sj.ms d)]
    have r5:=iY L (uK sj.vs sj.ms d)
    have f5:bT (i+1) 8=true:=by simp[bT];omega
    rw[r5] at r4
    rw[aZ,pL,Nat.mul_one] at r2 r3
    simp only[List.map_cons,List.map_nil] at r4
    have m1:=nf (show n' < n4 by omega)
    have m2:=nf (show n'+1<n4 by omega)
    have lt6:=eq_true (show n'+1<n4+1 by omega)
    refine bY (j23 @aB @aA @aE @aZb @cF @hr @aH @aI @aQ @aR @iE.eq_def @bI @b8 @bJ @f5 @r2 @r3 @r4 @mB @hx6 @m1 @m2 @lt6) ?_
    refine aY (by simp[-bA,aBV];exact Is.rfl) ?_
    refine ⟨D2 - 1,by omega,i+1,c4+(G hp4 n4 c4 - c4)+1,_,n4+1,_,_,_,by omega,by omega,hLs.symm,?_,by simp[m1,mB],by simp,(aBX.set (.inr (by omega))).set (.inr (by omega)),bK (by simp[dI,dL,aBV]) rfl⟩
    refine hE4.out (fun x hx=>?_) (by omega)
    have nH:x<n':=aRp x hx
    have e1:(n4=x)=False:=eq_false (by omega)
    have e2:(n'+1=x)=False:=eq_false (by omega)
    simp[e1,e2]
   simp at hb
   have nE:i=y.args.length:=by omega
   rw[nE,List.take_length,←pR] at hL
   have pL:L.length=y.args.length:=by rw[hL,pR];simp
   refine bY (jn @aB @aA) ?_
   have vA:=hE4.ru.ob
   have hbx:b.x=p'.a.x:=hE4.bx
   have hbg:b.gx=p'.a.gx:=hE4.bg
   simp only[hbx,hbg] at vA
   obtain ⟨lx3,i5⟩:=hE4.li.ob
   obtain ⟨li3,pG⟩:=hE4.li.io
   simp only[rO,Trn.c,Trn.ms] at i5
   obtain ⟨q0,hq0,tR⟩:=hE4.li.sub (i:=mE c y.nm) (u:=t) ht
   have hqp:∀ x,x∈cW q0→x∈cW p':=fun x h=>by cases p';rw[cW];simp only[List.mem_cons];exact .inr (.inr (.inr (pU _ _ _ hq0 _ h)))
   obtain ⟨F,G,hF⟩:=gU (C:=fun fP n2=>Ag n4 hp4 fP∧n4≤n2) (P:=Tryz.prog) (cfg:=Ob.cfg) (f:=131) (vs:=[.ptr p'.a.x p'.a.gx 0,dS y.nm]) (v:=dI (aBR c.ins y.nm)) (fun fP n2 c2 hC=>aJg (hE4.li.mono hC.1 hC.2) (by have:=gM.sum;simp only[Trn.c];omega) y.nm c2)
   have sW:=hF hp4 n4 c4 ⟨Ag.refl _ _,Nat.le_refl _⟩
   have hth:t.ht≤N:=by have:=pT (List.mem_of_getElem? ht);have:=rK.h;omega
   rw[←hL] at hia rQ
   have hIn:aOO hp4 n4 (cW q0) (.osl (n'+1) g 0 i 1 none) L:= .inr ⟨n'+1,g,by rw[pL,nE],hx6,by omega,fun h=>by have:=aRp _ (.inr (.inr (.inr (hqp _ h))));omega⟩
   obtain ⟨id,go,aAn⟩:=hS t q0 L (.osl (n'+1) g 0 i 1 none) hth hto hia hp4 n4 (c4+(G hp4 n4 c4 - c4)) tR hIn
   obtain ⟨q,oZ,hv,hn,tW,nJ,mH,hpz,⟨⟨q2,aBo,pW⟩,ho1,tP,ho3⟩,dU⟩:=aAn.caller (fun k hk=>tR.lt k hk)
   have ho4:=(dU id ho3 (by rw[ho1];rfl)).trans ho1
   have hL4:=pW.after dU
   have hN:n4+(q.n - n4)=q.n:=by omega
   obtain ⟨p2,aRq,hE5⟩:=hE4.setS ht hq0 aBo hL4 (by omega) (fun k h1 h2=>mH k h1 h2)
   have hpl:p'.ps.length=c.ins.length:=(hE4.li.len).2
   have sX:jQ ((aBR c.ins y.nm:Nat):Int) p'.ps.length=some (mE c y.nm):=by rw[hxi];exact m6 (by omega)
   have hE0:(p'.ps.map eQ)[mE c y.nm]?=some (.ptr q0.a.x q0.a.gx 0):=by rw[List.getElem?_map,hq0];rfl
   have hx7:=(mH n' (by omega) (fun h=>by have:=aRp _ (.inr (.inr (.inr (hqp _ h))));omega)).trans mB
   have aBW:WI (b.r::b.nn::b.vv::cW p) n hp (bA n wl4 (sL q n4)) (hp4.sets (sL q n4)):=aBX.sets fun x hx=>by
    rcases nJ x.1 (List.mem_map.2 ⟨x,hx,rfl⟩) with h|h
    ·exact hkk _ (.inl (by simp[hqp _ h]))
    ·exact .inr (by omega)
   have hso:=(hF0 t L (by have:=pT (List.mem_of_getElem? ht);have:=rK.h;omega) hto hia).2.2.2.1
   rw[←h3] at hso
   simp only[dI,dS] at sW
   repeat (first
 | apply WP.seq
 | (apply WP.reg;(case hR=>dsimp only [e8,eA,List.map,gS,gZ];exact iZ);(case hr=>(repeat (first
 | (apply RT.op;simp[-bA,dI,dL,mB,hx6,sW,vA,i5,pG,sX,hE0,hv];exact iZ;(try dsimp only [a8]) <;> exact rfl)
 | (apply RT.call;(iterate 2 simp;exact iZ);exact iZ;(iterate 4 simp[-bA,dI,dL,mB,hx6,sW,vA,i5,pG,sX,hE0,hv];exact iZ);simp[Is];(try dsimp only [a8]) <;> exact rfl;simp;exact iZ;exact iZ)
 | (apply RT.callV;(iterate 2 simp;exact iZ);exact iZ;(iterate 3 simp[-bA,dI,dL,mB,hx6,sW,vA,i5,pG,sX,hE0,hv];exact iZ);(try dsimp only [a8]) <;> exact rfl)
 | (apply RT.callT (hd:=oZ) (hk:=tW);(iterate 2 simp;exact iZ);exact iZ;(iterate 2 simp[-bA,dI,dL,mB,hx6,sW,vA,i5,pG,sX,hE0,hv];exact iZ);(try dsimp only [a8]) <;> exact rfl)
 | (apply RT.wr;simp[-bA,dI,dL,mB,hx6,sW,vA,i5,pG,sX,hE0,hv];exact iZ;(try dsimp only [a8]) <;> exact rfl;simp[-bA,dI,dL,mB,hx6,sW,vA,i5,pG,sX,hE0,hv];exact iZ;(iterate 2 exact iZ);exact iZ)));exact RT.nil);(case hc=>first|(refine c8 [(0,7),(1,7),(2,7),(3,7),(4,7),(5,7),(6,7),(0,8),(1,8),(2,8),(3,8),(4,8),(5,8),(6,8),(0,9),(1,9),(2,9),(3,9),(4,9),(5,9),(6,9),(0,10),(1,10),(2,10),(3,10),(4,10),(5,10),(6,10),(0,11),(1,11),(2,11),(3,11),(4,11),(5,11),(6,11),(7,11),(8,11),(9,11),(10,11),(0,12),(1,12),(2,12),(3,12),(4,12),(5,12),(6,12),(7,12),(8,12),(9,12),(10,12),(0,13),(1,13),(2,13),(3,13),(4,13),(5,13),(6,13),(0,16),(1,16),(2,16),(3,16),(4,16),(5,16),(6,16),(7,16),(8,16),(9,16),(10,16),(11,16),(12,16),(13,16),(14,16),(15,16)] (by kernel_rfl) (by kernel_rfl) rfl ?_;simp[lF,jX,dY];done)|(show _=_;kernel_rfl));(case ht=>simp[-bA,dI,dL,mB,hx6,sW,vA,i5,pG,sX,hE0,hv];exact iZ))
 | apply WP.block|apply WP.skip|apply WP.exit|apply WP.ret|refine WP.condT rfl ?_|refine WP.condF rfl ?_)
   apply WP.gen3
   intro hp6 c6 wl6 eS jF
   rw[←eS] at hE5 hx7 ho4
   rw[←eS,←jF] at aBW
   rw[←hN] at hE5 ho3
   have hn6:n4≤n4+(q.n - n4):=by omega
   generalize n4+(q.n - n4)=n6 at hE5 hn6 ho3 ⊢
   generalize aZs:(eZ N t L).2=outs at hso rQ ho4 ⊢
   generalize (eZ N t L).1=u at hE5 rQ
   clear eS jF oZ hv hn tW nJ mH ho1 pW dU hL4 sW hN aAn hpz
   apply WP.loop' (I:=fun D3 st=>∃ (i7 c7:Nat) (wl7:List Nat) (hp7:Hp) (gn7 gv7:Nat),i7+D3=outs.length∧REA o c p2 { b with gn:=gn7,gv:=gv7 } ⟨puts sj.vs ((y.outs.zip outs).take i7),sj.ms,sj.sb.set (mE c y.nm) u⟩ hp7 n6∧hp7.get id=some ⟨go,false,fl (bX outs)⟩∧hp7.get n'=some ⟨c',false,[V.d (.int .i64 y.k),V.d (.str y.nm),V.d (.int .i64 y.t),V.d (.int .i64 y.r.k),V.d (.int .i64 y.r.o),V.d (.int .i64 y.r.t),V.d (.int .i64 y.r.v),V.d (.str y.r.nm),V.d (.slice (fY y.r.args)),V.d (.slice (eT y.outs)),V.d (.slice (fY y.args)),V.d (.slice (iA y.brs))]⟩∧WI (b.r::b.nn::b.vv::cW p) n hp wl7 hp7∧
    st=⟨[(0,.ptr b.r b.gr 0),(1,dL (dJ l)),(4,dI j),(5,.ptr n' c' 0),(8,.osl id go 0 outs.length 1 none),(9,dI i7)],hp7,n6,c7,n,wl7⟩) (d:=outs.length)
   ·exact ⟨0,_,_,_,gn,gv,by simp,by simpa [puts] using hE5,ho4,hx7,aBW,bK (by simp[dI,dL]) rfl⟩
   clear hE5 hx7 aBW ho4
   clear hp6 c6 wl6
   rintro D3 _ ⟨i7,c7,wl7,hp7,gn7,gv7,hi7,hE7,ho7,hx7,aVJ,rfl⟩
   refine lM (j3 @aB @aA @ho7) ?_
   show WP _ _ _ _ _ _
   refine WP.cond _ rfl (fun hb=>?_) (fun hb=>?_)
   ·simp at hb
    have hb7:i7<outs.length:=by omega
    obtain ⟨w,hw7,hwm,aIW⟩:=bL hb7
    have aIX:=aCb hw7
    obtain ⟨x,hx8,hxm,aIY⟩:=bL (show i7<y.outs.length by omega)
    have aIZ:=sJ hx8
    have aVK:=bG hb7 (by omega)
    have hzs:(y.outs.zip outs).take (i7+1)=(y.outs.zip outs).take i7++[(x,w)]:=bM (by rw[List.getElem?_zip_eq_some];exact ⟨hx8,hw7⟩)
    have aOF:=rE ((y.outs.zip outs).take i7) sj.vs
    have hzl:((y.outs.zip outs).take i7).length≤y.outs.length:=by simp;omega
    have aNm:(puts sj.vs ((y.outs.zip outs).take i7)).length≤1099511627776:=by omega
    obtain ⟨q9,oZ,hv,hn,tW,nJ,mH,hpz,⟨gn9,gv9,pW⟩,dU⟩:=(aEQ hE7.ru aNm x w c7).caller (by
     intro z hz
     have l1:b.r<n6:=by omega
     have l2:b.nn<n6:=by omega
     have l3:b.vv<n6:=by omega
     simp at hz;omega)
    have hE9:=hE7.setV (fun k h1 h2=>mH k h1 h2) pW dU
    have hx9:=(mH n' (by omega) (by simp;omega)).trans hx7
    have ho9:=(mH id ho3 (by simp;omega)).trans ho7
    simp only[dI,dS] at oZ
    repeat (first
 | apply WP.seq
 | (apply WP.reg;(case hR=>dsimp only [e8,eA,List.map,gS,gZ];exact iZ);(case hr=>(repeat (first
 | (apply RT.op;simp[-bA,dI,dL,aZ,aW,hx7,ho7,aIW,aIX,aIY,aIZ,hv,hn];exact iZ;(try dsimp only [a8]) <;> exact rfl)
 | (apply RT.call;(iterate 2 simp;exact iZ);exact iZ;(iterate 4 simp[-bA,dI,dL,aZ,aW,hx7,ho7,aIW,aIX,aIY,aIZ,hv,hn];exact iZ);simp[Is];(try dsimp only [a8]) <;> exact rfl;simp;exact iZ;exact iZ)
 | (apply RT.callV;(iterate 2 simp;exact iZ);exact iZ;(iterate 3 simp[-bA,dI,dL,aZ,aW,hx7,ho7,aIW,aIX,aIY,aIZ,hv,hn];exact iZ);(try dsimp only [a8]) <;> exact rfl)
 | (apply RT.callT (hd:=oZ) (hk:=tW);(iterate 2 simp;exact iZ);exact iZ;(iterate 2 simp[-bA,dI,dL,aZ,aW,hx7,ho7,aIW,aIX,aIY,aIZ,hv,hn];exact iZ);(try dsimp only [a8]) <;> exact rfl)
 | (apply RT.wr;simp[-bA,dI,dL,aZ,aW,hx7,ho7,aIW,aIX,aIY,aIZ,hv,hn];exact iZ;(try dsimp only [a8]) <;> exact rfl;simp[-bA,dI,dL,aZ,aW,hx7,ho7,aIW,aIX,aIY,aIZ,hv,hn];exact iZ;(iterate 2 exact iZ);exact iZ)));exact RT.nil);(case hc=>first|(refine c8 [(0,1),(0,2),(0,3),(1,3),(2,3),(0,4),(0,5),(0,6),(1,6),(2,6),(3,6),(4,6),(5,6),(0,7),(1,7),(2,7),(3,7),(4,7),(5,7),(6,7),(0,8),(1,8),(2,8),(3,8),(4,8),(5,8),(0,9),(1,9),(2,9),(3,9),(4,9),(5,9)] (by kernel_rfl) (by kernel_rfl) rfl ?_;simp[lF,jX,dY];done)|(show _=_;kernel_rfl));(case ht=>simp[-bA,dI,dL,aZ,aW,hx7,ho7,aIW,aIX,aIY,aIZ,hv,hn];exact iZ))
 | apply WP.block|apply WP.skip|apply WP.exit|apply WP.ret|refine WP.condT rfl ?_|refine WP.condF rfl ?_)
    refine aY (by simp[-bA,aVK];exact Is.rfl) ?_
    refine ⟨D3 - 1,by omega,i7+1,_,_,_,gn9,gv9,by omega,?_,ho9,hx9,aVJ.sets fun z hz=>?_,bK (by simp[dI,dL,aVK]) rfl⟩
    ·rw[hzs,gE];exact hE9
    ·have h:=nJ z.1 (List.mem_map.2 ⟨z,hz,rfl⟩)
     simp only[List.mem_cons,List.not_mem_nil,or_false] at h ⊢
     rcases h with h|h|h <;> simp[h]
   simp at hb
   have aZt:i7=outs.length:=by omega
   have hzt:(y.outs.zip outs).take i7=y.outs.zip outs:=List.take_of_length_le (by simp;omega)
   rw[hzt] at hE7
   refine bY (jn @aB @aA) ?_
   refine aY (by simp[-bA,dH];exact Is.rfl) ?_
   refine ⟨D - 1,by omega,j+1,_,n6,_,_,_,p2,gn7,gv7,by omega,rfl,hs2,by omega,hmv.trans aRq (by omega),?_,aVJ,bK (by simp[dI,dL,dH]) rfl⟩
   rw[rQ];exact hE7
  ·rw[if_neg (by omega),if_neg (by omega),if_neg (by omega),if_neg (by omega)] at rQ
   obtain ⟨t,ht,hto,htc⟩:=w9 rK.b h1
   rw[ht] at rQ
   obtain ⟨hxi,vG⟩:=aLS rfl h1
   have aDO:=(List.getElem?_eq_some_iff.1 ht).1
   refine bY (uQ @aB @aA @cQ @bS @pD @aC @aE @aH @aI @k @aS) ?_
   apply WP.gen3
   intro gN c3 wl3 eS jF
   have mB:gN.get n'=some ⟨c',false,[V.d (.int .i64 y.k),V.d (.str y.nm),V.d (.int .i64 y.t),V.d (.int .i64 y.r.k),V.d (.int .i64 y.r.o),V.d (.int .i64 y.r.t),V.d (.int .i64 y.r.v),V.d (.str y.r.nm),V.d (.slice (fY y.r.args)),V.d (.slice (eT y.outs)),V.d (.slice (fY y.args)),V.d (.slice (iA y.brs))]⟩:=by rw[eS];simp[k]
   have pM:REA o c p' { b with gn:=gn,gv:=gv } sj gN (n'+1):=by rw[eS];exact pF.mono (by simp[dA,cK]) (by omega)
   have pX:WI (b.r::b.nn::b.vv::cW p) n hp wl3 gN:=by rw[eS,jF];exact (eR.set (.inr (by omega))).set (.inr (by omega))
   clear eS jF
   have lr3:b.r<n'+1:=pM.ru.lr
   have ln3:b.nn<n'+1:=pM.ru.ln
   have lv3:b.vv<n'+1:=pM.ru.lv
   have vA:=pM.ru.ob
   have hbx:b.x=p'.a.x:=pM.bx
   have hbg:b.gx=p'.a.gx:=pM.bg
   simp only[hbx,hbg] at vA
   obtain ⟨lx3,i5⟩:=pM.li.ob
   obtain ⟨li3,pG⟩:=pM.li.io
   simp only[rO,Trn.c,Trn.ms] at i5
   obtain ⟨q0,hq0,tR⟩:=pM.li.sub (i:=mE c y.nm) (u:=t) ht
   obtain ⟨F,G,hF⟩:=gU (C:=fun fP n2=>Ag (n'+1) gN fP∧n'+1≤n2) (P:=Tryz.prog) (cfg:=Ob.cfg) (f:=131) (vs:=[.ptr p'.a.x p'.a.gx 0,dS y.nm]) (v:=dI (aBR c.ins y.nm)) (fun fP n2 c2 hC=>aJg (pM.li.mono hC.1 hC.2) (by have:=gM.sum;simp only[Trn.c];omega) y.nm c2)
   have sW:=hF gN (n'+1) c3 ⟨Ag.refl _ _,Nat.le_refl _⟩
   obtain ⟨q,oZ,hv,hn,tW,nJ,mH,hpz,⟨q2,aBo,pW⟩,dU⟩:=(aMw uS gB t q0 hto gN (n'+1) (c3+(G gN (n'+1) c3 - c3)) tR).caller (fun k hk=>tR.lt k hk)
   have hL4:=pW.after dU
   have hN:n'+1+(q.n - (n'+1))=q.n:=by omega
   obtain ⟨p2,aRq,hE4⟩:=pM.setS ht hq0 aBo hL4 (by omega) (fun k h1 h2=>mH k h1 h2)
   have hpl:p'.ps.length=c.ins.length:=(pM.li.len).2
   have sX:jQ ((aBR c.ins y.nm:Nat):Int) p'.ps.length=some (mE c y.nm):=by rw[hxi];exact m6 (by omega)
   have hE0:(p'.ps.map eQ)[mE c y.nm]?=some (.ptr q0.a.x q0.a.gx 0):=by rw[List.getElem?_map,hq0];rfl
   simp only[dI,dS] at sW
   repeat (first
 | apply WP.seq
 | (apply WP.reg;(case hR=>dsimp only [e8,eA,List.map,gS,gZ];exact iZ);(case hr=>(repeat (first
 | (apply RT.op;simp[-bA,dI,dL,mB,sW,vA,i5,pG,sX,hE0,hv];exact iZ;(try dsimp only [a8]) <;> exact rfl)
 | (apply RT.call;(iterate 2 simp;exact iZ);exact iZ;(iterate 4 simp[-bA,dI,dL,mB,sW,vA,i5,pG,sX,hE0,hv];exact iZ);simp[Is];(try dsimp only [a8]) <;> exact rfl;simp;exact iZ;exact iZ)
 | (apply RT.callV;(iterate 2 simp;exact iZ);exact iZ;(iterate 3 simp[-bA,dI,dL,mB,sW,vA,i5,pG,sX,hE0,hv];exact iZ);(try dsimp only [a8]) <;> exact rfl)
 | (apply RT.callT (hd:=oZ) (hk:=tW);(iterate 2 simp;exact iZ);exact iZ;(iterate 2 simp[-bA,dI,dL,mB,sW,vA,i5,pG,sX,hE0,hv];exact iZ);(try dsimp only [a8]) <;> exact rfl)
 | (apply RT.wr;simp[-bA,dI,dL,mB,sW,vA,i5,pG,sX,hE0,hv];exact iZ;(try dsimp only [a8]) <;> exact rfl;simp[-bA,dI,dL,mB,sW,vA,i5,pG,sX,hE0,hv];exact iZ;(iterate 2 exact iZ);exact iZ)));exact RT.nil);(case hc=>first|(refine c8 [(0,7),(1,7),(2,7),(3,7),(4,7),(5,7),(6,7),(0,8),(1,8),(2,8),(3,8),(4,8),(5,8),(6,8),(0,9),(1,9),(2,9),(3,9),(4,9),(5,9),(6,9),(0,10),(1,10),(2,10),(3,10),(4,10),(5,10),(6,10),(0,11),(1,11),(2,11),(3,11),(4,11),(5,11),(6,11),(7,11),(8,11),(9,11),(10,11),(0,12),(1,12),(2,12),(3,12),(4,12),(5,12),(6,12),(7,12),(8,12),(9,12),(10,12),(0,13),(1,13),(2,13),(3,13),(4,13),(5,13),(6,13)] (by kernel_rfl) (by kernel_rfl) rfl ?_;simp[lF,jX,dY];done)|(show _=_;kernel_rfl));(case ht=>simp[-bA,dI,dL,mB,sW,vA,i5,pG,sX,hE0,hv];exact iZ))
 | apply WP.block|apply WP.skip|apply WP.exit|apply WP.ret|refine WP.condT rfl ?_|refine WP.condF rfl ?_)
   refine aY (by simp[-bA,dH];exact Is.rfl) ?_
   refine ⟨D - 1,by omega,j+1,_,n'+1+(q.n - (n'+1)),_,_,_,p2,gn,gv,by omega,rfl,hs2,by omega,hmv.trans aRq (by omega),?_,pX.sets fun x hx=>?_,bK (by simp[dI,dL,dH]) rfl⟩
   ·rw[rQ,hN];exact hE4
   ·rcases nJ x.1 (List.mem_map.2 ⟨x,hx,rfl⟩) with h|h
    ·have hqp:x.1∈cW p':=by cases p';rw[cW];simp only[List.mem_cons];exact .inr (.inr (.inr (pU _ _ _ hq0 _ h)))
     exact hkk _ (.inl (by simp[hqp]))
    ·exact .inr (by omega)
 simp at hb
 have eM:j=l.length:=by omega
 rw[eM,List.take_length] at hsj
 subst hsj
 refine bY (jn @aB @aA) ?_
 exact ⟨.inl rfl,[],rfl,rfl,hnn,eR,p',gn,gv,hmv,pF⟩
end
end Go.Ac
