/- Statements executed (the reference's). -/
import Derived.Test.YtkgekafdhehleaaGreatObZiM
set_option linter.unusedVariables false
set_option linter.unusedSimpArgs false
set_option maxRecDepth 4000
namespace Go.Ac
open Go.Proofs
attribute [local simp] Hp.get_set cY cE cN bW
theorem aHO (vs:List (Tx×Int)) (x:Tx) (v:Int):(jY vs x v).length≤vs.length+1:=by
 unfold jY;split <;> simp
theorem rF:∀ (ds vs:List (Tx×Int)),(puts vs ds).length≤vs.length+ds.length
 | [],vs=>by rw[puts];simp
 | p::r,vs=>by
  rw[puts]
  have h1:=rF r (jY vs p.1 p.2)
  have h2:=aHO vs p.1 p.2
  simp only[List.length_cons];omega
theorem aMb:∀ (l:List Y) (j:Nat),iG (l.take j)≤iG l
 | [],j=>by simp
 | y::r,0=>by rw[List.take_zero,iG];exact Nat.zero_le _
 | y::r,j+1=>by rw[List.take_succ_cons,iG,iG];have:=aMb r j;omega
theorem aNE:∀ (l:List Y) (j:Nat) (y:Y),l[j]?=some y→iG (l.take j)+y.sz≤iG l
 | [],j,y,h=>by simp at h
 | x::r,0,y,h=>by simp at h;subst h;rw[List.take_zero,iG,iG];omega
 | x::r,j+1,y,h=>by rw[List.take_succ_cons,iG,iG];have:=aNE r j y (by simpa using h);omega
theorem aCD (c:Cl) (F:Trn→List Int→Trn×List Int):∀ (N:Nat) (l:List Y),iG l<N→∀ s:Es,(vN c F l s).vs.length≤s.vs.length+iG l:=by
 intro N
 induction N with
 | zero=>intro l h;omega
 | succ N ih=>
 intro l
 cases l with
 | nil=>intro _ s;rw[vN];omega
 | cons y r=>
 intro hN s
 rw[iG] at hN ⊢
 have hs0:=Y.sz_eq y
 rw[vN]
 have h1:=ih r (by omega) (exY c F y s)
 have h2:(exY c F y s).vs.length≤s.vs.length+y.sz:=by
  rw[aEd]
  split
  ·have:=aHO s.vs y.nm (uO s.vs s.ms y.r);simp only;omega
  split
  ·simp only;omega
  split
  ·cases hb:y.brs[(gz s.vs y.nm).toNat]? with
   | none=>rw[aFz _ _ _ _ _ (by simpa using hb)];omega
   | some b=>
    rw[aBf c F s y.brs _ b hb]
    have hm:=List.mem_of_getElem? hb
    have:=gR hm
    have:=ih b (by omega) s
    omega
  split
  ·split
   ·rename_i t _
    have h3:=rF (y.outs.zip (F t (evL s.vs s.ms y.args)).2) s.vs
    have h4:(y.outs.zip (F t (evL s.vs s.ms y.args)).2).length≤y.outs.length:=by simp;omega
    have h5:=oU y.outs
    simp only;omega
   ·omega
  ·split
   ·exact Nat.le_add_right _ _
   ·exact Nat.le_add_right _ _
 omega
def aPC (hp:Hp) (n:Nat) (ids:List Nat) (va:V) (ins:List Int):Prop:=va=dL (bQ ins)∨∃ id g,va= .osl id g 0 ins.length 1 none∧hp.get id=some ⟨g,false,fl (bQ ins)⟩∧id<n∧id∉ids
def aKm (o:Oc) (N:Nat):Prop:=∀ (t:Trn) (p:Pt) (ins:List Int) (va:V),t.ht≤N→t.ok o→aAf o.en t.c.inn ins→∀ hp n cc,RLies o t p hp n→aPC hp n (cQ p) va ins→
 ∃ id g,aJv 54 [.ptr p.a.x p.a.gx 0,va] hp n cc (.osl id g 0 (fC N t ins).2.length 1 none) (cQ p) (fun bB n'=>(∃ p',Moved p p' n∧RLies o (fC N t ins).1 p' bB n')∧bB.get id=some ⟨g,false,fl (bQ (fC N t ins).2)⟩∧n≤id∧id<n')
theorem REA.setV {o:Oc} {c:Cl} {p:Pt} {b:Rb} {s:Es} {hp bB yH:Hp} {n gn gv:Nat} {vs':List (Tx×Int)} (h:REA o c p b s hp n) (hf:∀ k,k<n→k∉[b.r,b.nn,b.vv]→bB.get k=hp.get k) (hR:RunA { b with gn:=gn,gv:=gv } vs' yH n) (hs:∀ k,k<n→(yH.get k).isSome=true→bB.get k=yH.get k):REA o c p { b with gn:=gn,gv:=gv } { s with vs:=vs' } bB n:=by
 refine ⟨h.li.same (fun k hk=>hf k (h.li.lt k hk) ?_) (Nat.le_refl _),⟨?_,?_,?_,hR.lr,hR.ln,hR.lv,hR.d1,hR.d2,hR.d3⟩,h.bx,h.bg,h.e1,h.e2,h.e3⟩
 ·simp only[List.mem_cons,List.not_mem_nil,or_false,not_or]
  exact ⟨fun e=>h.e1 (e▸hk),fun e=>h.e2 (e▸hk),fun e=>h.e3 (e▸hk)⟩
 ·rw[hs _ hR.lr (by rw[hR.ob];rfl)];exact hR.ob
 ·rw[hs _ hR.ln (by rw[hR.nm];rfl)];exact hR.nm
 ·rw[hs _ hR.lv (by rw[hR.vl];rfl)];exact hR.vl
theorem aFj {o:Oc} {c:Cl} {cx:List Pr} {bf:List Y}:∀ {l:List X} {ds:List Dc},mN ⟨o,c,bf,cx⟩ l ds=0→l.length=ds.length→∀ x,x∈l→bS x=true∧(eZ ⟨o,c,bf,cx⟩ x).2=0
 | [],ds,_,_,x,hx=>by cases hx
 | y::r,[],_,hl,x,hx=>by simp at hl
 | y::r,d::ds,h,hl,x,hx=>by
  rw[mN] at h
  split at h
  ·rename_i hn;exact absurd h hn
  rename_i hn
  have ha:tZ ⟨o,c,bf,cx⟩ y d=0:=Decidable.not_not.1 hn
  unfold tZ at ha
  split at ha
  ·rename_i h1;exact absurd ha h1
  rename_i h1
  rcases List.mem_cons.1 hx with rfl|hx
  ·have h2:=Decidable.not_not.1 h1
   unfold eF at h2
   split at h2
   ·rename_i hf;exact ⟨hf,h2⟩
   ·simp at h2
  ·exact aFj h (by simpa using hl) x hx
theorem wtX.kind {o:Oc} {c:Cl} {x:X} {t:Int} (h:wtX o c x t):bS x=true∧∃ bf cx,(eZ ⟨o,c,bf,cx⟩ x).2=0:=by
 obtain ⟨h1,bf,cx,h2⟩:=h
 exact ⟨h1,bf,cx,by rw[h2]⟩
theorem aLX {ms:List (Tx×Int)} {l:List Mm} {nm:Tx} (v:Int) (hk:ms.map Prod.fst=l.map Mm.nm) (hf:eO l nm≠0):(jY ms nm v).map Prod.snd=(ms.map Prod.snd).set (aBC l nm) v∧(jY ms nm v).length=ms.length:=by
 have e9:ms.length=l.length:=by have:=congrArg List.length hk;simpa using this
 unfold aBC
 cases hx:l.findIdx? (fun d=>decide (d.nm=nm)) with
 | none=>
  exfalso
  obtain ⟨m,hm,he,_⟩:=wU hf
  rw[List.findIdx?_eq_none_iff] at hx
  have:=hx m hm
  simp[he] at this
 | some i=>
  obtain ⟨h1,h2,h3⟩:=List.findIdx?_eq_some_iff_getElem.1 hx
  simp only
  have hi:i<ms.length:=by omega
  have key:∀ (k:Nat) (hk1:k<ms.length) (yE:k<l.length),ms[k].1=l[k].nm:=fun k hk1 yE=>by
   have:=List.getElem_of_eq hk (i:=k) (by simpa using hk1)
   simpa using this
  have hm:jY ms nm v=ms.set i (nm,v):=by
   refine aDy (j:=i) (d:=ms[i]) ?_ (List.getElem?_eq_getElem hi) ((key i hi h1).trans (by simpa using h2))
   rw[List.all_eq_true]
   intro x hx
   obtain ⟨k,hk1,rfl⟩:=List.getElem_of_mem hx
   simp only[List.length_take] at hk1
   rw[List.getElem_take,key k (by omega) (by omega)]
   have:=h3 k (by omega)
   simpa using this
  rw[hm,List.map_set,List.length_set]
  exact ⟨rfl,rfl⟩
theorem REA.setM {o:Oc} {c:Cl} {p:Pt} {b:Rb} {s:Es} {hp bB:Hp} {n:Nat} {ms':List (Tx×Int)} (h:REA o c p b s hp n) (hl:ms'.length=s.ms.length) (hg:∀ id,id<n→bB.get id=if id=p.a.im then some ⟨p.a.gm,false,fl (bQ (ms'.map Prod.snd))⟩ else hp.get id):REA o c p b { s with ms:=ms' } bB n:=by
 obtain ⟨a,ps⟩:=p
 have him:a.im∈cQ (.mk a ps):=by rw[cQ];simp
 have hne:∀ k,k<n→k∉cQ (.mk a ps)→bB.get k=hp.get k:=fun k hk h2=>by
  rw[hg k hk,if_neg (fun e=>h2 (by rw[e];exact him))]
 exact ⟨h.li.setM hl hg,⟨(hne _ h.ru.lr h.e1).trans h.ru.ob,(hne _ h.ru.ln h.e2).trans h.ru.nm,(hne _ h.ru.lv h.e3).trans h.ru.vl,h.ru.lr,h.ru.ln,h.ru.lv,h.ru.d1,h.ru.d2,h.ru.d3⟩,h.bx,h.bg,h.e1,h.e2,h.e3⟩
theorem REA.after {o:Oc} {c:Cl} {p:Pt} {b:Rb} {s:Es} {hp bB:Hp} {n:Nat} (h:REA o c p b s hp n) (hs:∀ k,k<n→(hp.get k).isSome=true→bB.get k=hp.get k):REA o c p b s bB n:=
 ⟨h.li.after hs,⟨(hs _ h.ru.lr (by rw[h.ru.ob];rfl)).trans h.ru.ob,(hs _ h.ru.ln (by rw[h.ru.nm];rfl)).trans h.ru.nm,(hs _ h.ru.lv (by rw[h.ru.vl];rfl)).trans h.ru.vl,h.ru.lr,h.ru.ln,h.ru.lv,h.ru.d1,h.ru.d2,h.ru.d3⟩,h.bx,h.bg,h.e1,h.e2,h.e3⟩
theorem REA.setS {o:Oc} {c:Cl} {p:Pt} {b:Rb} {s:Es} {hp bB:Hp} {n n':Nat} {i:Nat} {t u:Trn} {q q':Pt} (h:REA o c p b s hp n) (ht:s.sb[i]?=some t) (hq:p.ps[i]?=some q) (hm:Moved q q' n) (hL:RLies o u q' bB n') (hn:n≤n') (hf:∀ k,k<n→k∉cQ q→bB.get k=hp.get k):∃ p',Moved p p' n∧REA o c p' b { s with sb:=s.sb.set i u } bB n':=by
 obtain ⟨a,ps⟩:=p
 have g9:ps[i]?=some q:=hq
 obtain ⟨g1,g2⟩:=h.li.setS ht g9 hm hL hn hf
 have hin:∀ k,k∈cQ q→k∈cQ (.mk a ps):=fun k hk=>by rw[cQ];simp[oQ ps i q g9 k hk]
 have hne:∀ k,k<n→k∉cQ (.mk a ps)→bB.get k=hp.get k:=fun k hk h2=>hf k hk fun h3=>h2 (hin k h3)
 have sE:∀ k,k<n→k∉cQ (.mk a ps)→k∉cQ (.mk a (ps.set i q')):=fun k hk h2 h3=>by
  rcases g2.sub k h3 with h4|h4
  ·exact h2 h4
  ·omega
 have l1:=h.ru.lr
 have l2:=h.ru.ln
 have l3:=h.ru.lv
 exact ⟨_,g2,g1,⟨(hne _ l1 h.e1).trans h.ru.ob,(hne _ l2 h.e2).trans h.ru.nm,(hne _ l3 h.e3).trans h.ru.vl,by omega,by omega,by omega,h.ru.d1,h.ru.d2,h.ru.d3⟩,h.bx,h.bg,sE _ l1 h.e1,sE _ l2 h.e2,sE _ l3 h.e3⟩
theorem WI.more {ids0:List Nat} {n k:Nat} {sJ hp:Hp} {wl:List Nat} {x:Ob} (h:WI ids0 n sJ wl hp) (hk:n≤k):WI ids0 n sJ wl (hp.set k x):=
 ⟨h.1,fun j h1 h2=>by rw[Hp.get_set_ne _ _ _ _ (by omega)];exact h.2 j h1 h2⟩
theorem REA.out {o:Oc} {c:Cl} {p:Pt} {b:Rb} {s:Es} {hp bB:Hp} {n n':Nat} (h:REA o c p b s hp n) (hg:∀ x,(x=b.r∨x=b.nn∨x=b.vv∨x∈cQ p)→bB.get x=hp.get x) (hn:n≤n'):REA o c p b s bB n':=
 ⟨h.li.same (fun k hk=>hg k (.inr (.inr (.inr hk)))) hn,⟨(hg _ (.inl rfl)).trans h.ru.ob,(hg _ (.inr (.inl rfl))).trans h.ru.nm,(hg _ (.inr (.inr (.inl rfl)))).trans h.ru.vl,by have:=h.ru.lr;omega,by have:=h.ru.ln;omega,by have:=h.ru.lv;omega,h.ru.d1,h.ru.d2,h.ru.d3⟩,h.bx,h.bg,h.e1,h.e2,h.e3⟩
theorem aNv {l:List Ii} {cs:List Cl} {c:Cl} {nm:Tx} (hl:l=c.ins) (h:(fD l cs nm).2=true):aCr l nm=mU c nm∧aCr l nm<l.length:=by
 subst hl
 unfold aCr mU
 cases hx:c.ins.findIdx? (fun d=>decide (d.nm=nm)) with
 | none=>
  exfalso
  unfold fD at h
  rw[List.findIdx?_eq_none_iff] at hx
  have:c.ins.find? (fun d=>decide (d.nm=nm))=none:=by
   rw[List.find?_eq_none];intro x n8;have:=hx x n8;simpa using this
  rw[this] at h;cases h
 | some i=>
  obtain ⟨h1,h2⟩:=List.findIdx?_eq_some_iff_findIdx_eq.1 hx
  exact ⟨h2.symm,h1⟩
theorem aTR (r:Nat):Ob.keep 103 r=Ob.k103 r:=by kernel_rfl
attribute [local simp] aTR Ob.k103
section
variable {o:Oc} {c:Cl} {N h0:Nat}
set_option maxHeartbeats 16000000 in
theorem aKb (vD:dH o=0) (gK:o.sz≤2097152) (hO:OW o) (hc:c∈o.cl) (hS:aKm o N) (hh:h0≤N):∀ M,M≤8388609→∀ l:List Y,iG l<M→wtL o c l→okY l→∀ (s:Es) (p:Pt) (b:Rb),s.ok o c h0→s.vs.length+iG l≤1099511627776→∀ hp n cc,REA o c p b s hp n→
  aJv 103 [.ptr b.r b.gr 0,dL (dM l)] hp n cc (.tuple []) (b.r::b.nn::b.vv::cQ p) (fun bB n'=>∃ p' gn gv,Moved p p' n∧REA o c p' { b with gn:=gn,gv:=gv } (vN c (fC N) l s) bB n'):=by
 intro M
 induction M with
 | zero=>intro _ l h;omega
 | succ M ih=>
 intro hM l hl hwt cC s p b hs hvl hp n cc hE
 have hw:=hO.wf
 have gI:=hO.len c hc
 have e9:=l0 l
 have hcw:=hw c hc
 have aPq:Fok o N (fC N):=tO hw N
 have hF0:Fok o h0 (fC N):=fun t ins h1=>aPq t ins (by omega)
 refine aJY Tryz.func103 rfl (by kernel_rfl) rfl ?_
 refine bN (j7 @aN @aO @aB @aA @aH @aI @cV) ?_
 apply WP.loop' (I:=fun D st=>∃ (j c' n':Nat) (wl:List Nat) (bB:Hp) (sj:Es) (p':Pt) (gn gv:Nat),j+D=l.length∧sj=vN c (fC N) (l.take j) s∧sj.ok o c h0∧n≤n'∧Moved p p' n∧REA o c p' { b with gn:=gn,gv:=gv } sj bB n'∧WI (b.r::b.nn::b.vv::cQ p) n hp wl bB∧
  st=⟨[(0,.ptr b.r b.gr 0),(1,dL (dM l)),(4,dI j)],bB,n',c',n,wl⟩) (d:=l.length)
 ·exact ⟨0,_,_,_,_,s,p,b.gn,b.gv,by simp,by simp[vN],hs,Nat.le_refl n,Moved.refl,hE,WI.refl,bK (by simp[dI,dL]) rfl⟩
 rintro D _ ⟨j,c',n',wl,bB,sj,p',gn,gv,hj,hsj,sA,hnn,hmv,pX,d6,rfl⟩
 refine iX (j3 @aB @aA @cV) ?_
 show WP _ _ _ _ _ _
 refine WP.cond _ rfl (fun hb=>?_) (fun hb=>?_)
 ·simp at hb
  have bP:j<l.length:=by omega
  obtain ⟨y,hy,vY,bV⟩:=bM bP
  have pW:=oT hy
  have c9:=bE bP (by omega)
  have sE:=aGN (c:=c) (fC N) hy s
  rw[←hsj,aEd] at sE
  have hyt:=hwt y vY
  have aZt:=nS vY
  have nU:=Y.sz_eq y
  obtain ⟨ok1,ok2,ok3,ok4⟩:=Y.ok_eq ((uQ _).1 cC y vY)
  have hs2:=aNo hw hcw hF0 _ (l.take (j+1)) (Nat.lt_succ_self _) (fun z hz=>hwt z (List.mem_of_mem_take hz)) s hs
  have htl:=aMb l j
  have hta:=aNE l j y hy
  have hvk:sj.vs.length≤s.vs.length+iG (l.take j):=by
   have:=aCD c (fC N) _ (l.take j) (Nat.lt_succ_self _) s
   rwa [←hsj] at this
  have hvj:sj.vs.length≤1099511627776:=by
   have:=aCD c (fC N) _ (l.take j) (Nat.lt_succ_self _) s
   rw[←hsj] at this;omega
  have hkk:∀ k,(k∈b.r::b.nn::b.vv::cQ p'∨n'≤k)→k∈b.r::b.nn::b.vv::cQ p∨n≤k:=fun k hk=>by
   rcases hk with hk|hk
   ·simp only[List.mem_cons] at hk ⊢
    rcases hk with hk|hk|hk|hk
    ·exact .inl (.inl hk)
    ·exact .inl (.inr (.inl hk))
    ·exact .inl (.inr (.inr (.inl hk)))
    ·rcases hmv.sub k hk with h|h
     ·exact .inl (.inr (.inr (.inr h)))
     ·exact .inr h
   ·exact .inr (by omega)
  rcases hyt.cases hw hcw with ⟨k,t,h1,h2,h3⟩|⟨k,h1,h2⟩|⟨k,h1,h2,h3,h4⟩|⟨k,h1,h2,h3,cx,bf,h4,h5⟩|⟨k,h1⟩
  ·rw[if_pos k] at sE
   refine bN (u7 @aB @aA @cV @bV @pW @aC @aE @aH @aI @k @aS) ?_
   apply WP.gen3
   intro fX c3 wl3 eG iT
   have lP:fX.get n'=some ⟨c',false,[V.d (.int .i64 y.k),V.d (.str y.nm),V.d (.int .i64 y.t),V.d (.int .i64 y.r.k),V.d (.int .i64 y.r.o),V.d (.int .i64 y.r.t),V.d (.int .i64 y.r.v),V.d (.str y.r.nm),V.d (.slice (gC y.r.args)),V.d (.slice (eX y.outs)),V.d (.slice (gC y.args)),V.d (.slice (iL y.brs))]⟩:=by rw[eG];simp[k]
   have oM:REA o c p' { b with gn:=gn,gv:=gv } sj fX (n'+1):=by rw[eG];exact pX.mono (by simp[cY,cE]) (by omega)
   have mX:WI (b.r::b.nn::b.vv::cQ p) n hp wl3 fX:=by rw[eG,iT];exact (d6.set (.inr (by omega))).set (.inr (by omega))
   clear eG iT
   have lr3:b.r<n'+1:=oM.ru.lr
   have ln3:b.nn<n'+1:=oM.ru.ln
   have lv3:b.vv<n'+1:=oM.ru.lv
   obtain ⟨mJ,bf,cx,aNX⟩:=h1.kind
   obtain ⟨F,G,hF⟩:=fY (C:=fun eW n2=>Ag (n'+1) fX eW∧n'+1≤n2) (P:=Tryz.prog) (cfg:=Ob.cfg) (f:=129) (vs:=[.ptr b.r b.gr 0,aG y.r.cells]) (v:=dI (uO sj.vs sj.ms y.r)) (fun eW n2 c2 hC=>aGc (b:={ b with gn:=gn,gv:=gv }) gI sA.m.1 (by omega) bf cx M (by omega) y.r (by omega) mJ aNX eW n2 c2 (oM.mono hC.1 hC.2))
   have hr:=hF fX (n'+1) c3 ⟨Ag.refl _ _,Nat.le_refl _⟩
   obtain ⟨q,lZ,hv,hn,rX,lY,lD,yH,⟨gn2,gv2,mY⟩,dD⟩:=(aFE oM.ru hvj y.nm (uO sj.vs sj.ms y.r) (c3+(G fX (n'+1) c3 - c3))).caller (by
    intro x hx
    simp at hx;omega)
   have hE4:=oM.setV (fun k h1 h2=>lD k h1 h2) mY dD
   simp only[aG,aE,List.map_cons,List.map_nil,dI,dS] at hr lZ
   repeat (first
 | apply WP.seq
 | (apply WP.reg;(case hR=>dsimp only [eV,eA,List.map,gS,gZ];exact iZ);(case hr=>(repeat (first
 | (apply RT.op;simp[-a9,dI,dL,lP,aE,hr,hv,hn];exact iZ;(try dsimp only [a7]) <;> exact rfl)
 | (apply RT.call;(iterate 2 simp;exact iZ);exact iZ;(iterate 4 simp[-a9,dI,dL,lP,aE,hr,hv,hn];exact iZ);simp[Is];(try dsimp only [a7]) <;> exact rfl;simp;exact iZ;exact iZ)
 | (apply RT.callV;(iterate 2 simp;exact iZ);exact iZ;(iterate 3 simp[-a9,dI,dL,lP,aE,hr,hv,hn];exact iZ);(try dsimp only [a7]) <;> exact rfl)
 | (apply RT.callT (hd:=lZ) (hk:=rX);(iterate 2 simp;exact iZ);exact iZ;(iterate 2 simp[-a9,dI,dL,lP,aE,hr,hv,hn];exact iZ);(try dsimp only [a7]) <;> exact rfl)
 | (apply RT.wr;simp[-a9,dI,dL,lP,aE,hr,hv,hn];exact iZ;(try dsimp only [a7]) <;> exact rfl;simp[-a9,dI,dL,lP,aE,hr,hv,hn];exact iZ;(iterate 2 exact iZ);exact iZ)));exact RT.nil);(case hc=>first|(refine cW [(0,1),(0,2),(0,3),(1,3),(2,3),(0,4),(1,4),(2,4),(3,4),(0,5),(1,5),(2,5),(3,5),(0,6),(1,6),(2,6)] (by kernel_rfl) (by kernel_rfl) rfl ?_;simp[lO,jW,dX];done)|(show _=_;kernel_rfl));(case ht=>simp[-a9,dI,dL,lP,aE,hr,hv,hn];exact iZ))
 | apply WP.block|apply WP.skip|apply WP.exit|apply WP.ret|refine WP.condT rfl ?_|refine WP.condF rfl ?_)
   refine aY (by simp[-a9,c9];exact Is.rfl) ?_
   refine ⟨D - 1,by omega,j+1,_,n'+1,_,_,_,p',gn2,gv2,by omega,rfl,hs2,by omega,hmv,?_,mX.sets fun x hx=>?_,bK (by simp[dI,dL,c9]) rfl⟩
   ·rw[sE];exact hE4
   ·have h:=lY x.1 (List.mem_map.2 ⟨x,hx,rfl⟩)
    simp only[List.mem_cons,List.not_mem_nil,or_false] at h ⊢
    rcases h with h|h|h <;> simp[h]
  ·rw[if_neg (by omega),if_pos k] at sE
   refine bN (u7 @aB @aA @cV @bV @pW @aC @aE @aH @aI @k @aS) ?_
   apply WP.gen3
   intro fX c3 wl3 eG iT
   have lP:fX.get n'=some ⟨c',false,[V.d (.int .i64 y.k),V.d (.str y.nm),V.d (.int .i64 y.t),V.d (.int .i64 y.r.k),V.d (.int .i64 y.r.o),V.d (.int .i64 y.r.t),V.d (.int .i64 y.r.v),V.d (.str y.r.nm),V.d (.slice (gC y.r.args)),V.d (.slice (eX y.outs)),V.d (.slice (gC y.args)),V.d (.slice (iL y.brs))]⟩:=by rw[eG];simp[k]
   have oM:REA o c p' { b with gn:=gn,gv:=gv } sj fX (n'+1):=by rw[eG];exact pX.mono (by simp[cY,cE]) (by omega)
   have mX:WI (b.r::b.nn::b.vv::cQ p) n hp wl3 fX:=by rw[eG,iT];exact (d6.set (.inr (by omega))).set (.inr (by omega))
   clear eG iT
   have lr3:b.r<n'+1:=oM.ru.lr
   have ln3:b.nn<n'+1:=oM.ru.ln
   have lv3:b.vv<n'+1:=oM.ru.lv
   obtain ⟨mJ,bf,cx,aNX⟩:=h1.kind
   have vS:=oM.ru.ob
   have hbx:b.x=p'.a.x:=oM.bx
   have hbg:b.gx=p'.a.gx:=oM.bg
   simp only[hbx,hbg] at vS
   obtain ⟨lx3,gH⟩:=oM.li.ob
   obtain ⟨lm3,aIc⟩:=oM.li.mo
   simp only[rO,Trn.c,Trn.ms] at gH aIc
   obtain ⟨F,G,hF⟩:=fY (C:=fun eW n2=>Ag (n'+1) fX eW∧n'+1≤n2) (P:=Tryz.prog) (cfg:=Ob.cfg) (f:=130) (vs:=[.ptr p'.a.x p'.a.gx 0,dS y.nm]) (v:=dI (aBC c.mems y.nm)) (fun eW n2 c2 hC=>aMc (oM.li.mono hC.1 hC.2) (by have:=gI.sum;simp only[Trn.c];omega) y.nm c2)
   have tJ:=hF fX (n'+1) c3 ⟨Ag.refl _ _,Nat.le_refl _⟩
   obtain ⟨F2,G2,hF2⟩:=fY (C:=fun eW n2=>Ag (n'+1) fX eW∧n'+1≤n2) (P:=Tryz.prog) (cfg:=Ob.cfg) (f:=129) (vs:=[.ptr b.r b.gr 0,aG y.r.cells]) (v:=dI (uO sj.vs sj.ms y.r)) (fun eW n2 c2 hC=>aGc (b:={ b with gn:=gn,gv:=gv }) gI sA.m.1 (by omega) bf cx M (by omega) y.r (by omega) mJ aNX eW n2 c2 (oM.mono hC.1 hC.2))
   have hr2:=hF2 fX (n'+1) (c3+(G fX (n'+1) c3 - c3)) ⟨Ag.refl _ _,Nat.le_refl _⟩
   obtain ⟨aPr,aSb⟩:=aLQ sA.m.1 h2
   obtain ⟨aZP,aZQ⟩:=aLX (uO sj.vs sj.ms y.r) sA.m.1 h2
   have rZ:=kX aSb
   have hlV:(fl (bQ (sj.ms.map Prod.snd))).length=sj.ms.length:=by rw[qP];simp
   have hj1:=eq_true (show aBC c.mems y.nm+1≤sj.ms.length by omega)
   have hj2:=eq_true aSb
   have lm4:=eq_true lm3
   simp only[aG,aE,List.map_cons,List.map_nil,dI,dS] at tJ hr2
   repeat (first
 | apply WP.seq
 | (apply WP.reg;(case hR=>dsimp only [eV,eA,List.map,gS,gZ];exact iZ);(case hr=>(repeat (first
 | (apply RT.op;simp[-a9,dI,dL,lP,aE,tJ,hr2,vS,gH,aIc,rZ,hlV,hj1,hj2,lm4,bH];exact iZ;(try dsimp only [a7]) <;> exact rfl)
 | (apply RT.call;(iterate 2 simp;exact iZ);exact iZ;(iterate 4 simp[-a9,dI,dL,lP,aE,tJ,hr2,vS,gH,aIc,rZ,hlV,hj1,hj2,lm4,bH];exact iZ);simp[Is];(try dsimp only [a7]) <;> exact rfl;simp;exact iZ;exact iZ)
 | (apply RT.callV;(iterate 2 simp;exact iZ);exact iZ;(iterate 3 simp[-a9,dI,dL,lP,aE,tJ,hr2,vS,gH,aIc,rZ,hlV,hj1,hj2,lm4,bH];exact iZ);(try dsimp only [a7]) <;> exact rfl)
 | (apply RT.callT (hd:=lZ) (hk:=rX);(iterate 2 simp;exact iZ);exact iZ;(iterate 2 simp[-a9,dI,dL,lP,aE,tJ,hr2,vS,gH,aIc,rZ,hlV,hj1,hj2,lm4,bH];exact iZ);(try dsimp only [a7]) <;> exact rfl)
 | (apply RT.wr;simp[-a9,dI,dL,lP,aE,tJ,hr2,vS,gH,aIc,rZ,hlV,hj1,hj2,lm4,bH];exact iZ;(try dsimp only [a7]) <;> exact rfl;simp[-a9,dI,dL,lP,aE,tJ,hr2,vS,gH,aIc,rZ,hlV,hj1,hj2,lm4,bH];exact iZ;(iterate 2 exact iZ);exact iZ)));exact RT.nil);(case hc=>first|(refine cW [(0,7),(1,7),(2,7),(3,7),(4,7),(5,7),(6,7),(0,8),(1,8),(2,8),(3,8),(4,8),(5,8),(6,8),(0,9),(1,9),(2,9),(3,9),(4,9),(5,9),(6,9),(0,10),(1,10),(2,10),(3,10),(4,10),(5,10),(6,10),(0,11),(1,11),(2,11),(3,11),(4,11),(5,11),(6,11),(7,11),(8,11),(9,11),(10,11),(0,12),(1,12),(2,12),(3,12),(4,12),(5,12),(6,12),(7,12),(8,12),(9,12),(10,12),(0,13),(1,13),(2,13),(3,13),(4,13),(5,13),(6,13),(0,14),(1,14),(2,14),(3,14),(4,14),(5,14),(6,14),(7,14),(8,14),(9,14),(10,14),(11,14),(12,14),(13,14),(0,15),(1,15),(2,15),(3,15),(4,15),(5,15),(6,15),(7,15),(8,15),(9,15),(10,15),(11,15),(12,15),(13,15),(14,15),(0,16),(1,16),(2,16),(3,16),(4,16),(5,16),(6,16),(7,16),(8,16),(9,16),(10,16),(11,16),(12,16),(13,16),(14,16),(0,17),(1,17),(2,17),(3,17),(4,17),(5,17),(6,17)] (by kernel_rfl) (by kernel_rfl) rfl ?_;simp[lO,jW,dX];done)|(show _=_;kernel_rfl));(case ht=>simp[-a9,dI,dL,lP,aE,tJ,hr2,vS,gH,aIc,rZ,hlV,hj1,hj2,lm4,bH];exact iZ))
 | apply WP.block|apply WP.skip|apply WP.exit|apply WP.ret|refine WP.condT rfl ?_|refine WP.condF rfl ?_)
   refine aY (by simp[-a9,c9];exact Is.rfl) ?_
   refine ⟨D - 1,by omega,j+1,_,n'+1,_,_,_,p',gn,gv,by omega,rfl,hs2,by omega,hmv,?_,?_,bK (by simp[dI,dL,c9]) rfl⟩
   ·rw[sE]
    refine oM.setM aZQ fun id c8=>?_
    rw[aZP,←aDD _ _ _ (by simpa using aSb)]
    by_cases hq:id=p'.a.im
    ·subst hq;simp
    ·simp[hq,Ne.symm hq]
   ·have aZR:p'.a.im∈cQ p':=by cases p';rw[cQ];simp[Pt.a]
    rcases hmv.sub _ aZR with h|h
    ·exact WI.set mX (.inl (by simp[h]))
    ·exact WI.set mX (.inr h)
  ·rw[if_neg (by omega),if_neg (by omega),if_pos k] at sE
   have hvt:=sA.v y.nm h1
   unfold gB at hvt
   rw[if_neg h2] at hvt
   simp at hvt
   have eU:(gz sj.vs y.nm).toNat<y.brs.length:=by omega
   have hzn:gz sj.vs y.nm=(((gz sj.vs y.nm).toNat:Nat):Int):=by omega
   obtain ⟨b0,hb0,zR,uH⟩:=bM eU
   rw[←hzn] at uH
   have aJD:=l9 hb0
   rw[aBf c _ sj y.brs _ b0 hb0] at sE
   have hbz:=gR zR
   refine bN (u7 @aB @aA @cV @bV @pW @aC @aE @aH @aI @k @aS) ?_
   apply WP.gen3
   intro fX c3 wl3 eG iT
   have lP:fX.get n'=some ⟨c',false,[V.d (.int .i64 y.k),V.d (.str y.nm),V.d (.int .i64 y.t),V.d (.int .i64 y.r.k),V.d (.int .i64 y.r.o),V.d (.int .i64 y.r.t),V.d (.int .i64 y.r.v),V.d (.str y.r.nm),V.d (.slice (gC y.r.args)),V.d (.slice (eX y.outs)),V.d (.slice (gC y.args)),V.d (.slice (iL y.brs))]⟩:=by rw[eG];simp[k]
   have oM:REA o c p' { b with gn:=gn,gv:=gv } sj fX (n'+1):=by rw[eG];exact pX.mono (by simp[cY,cE]) (by omega)
   have mX:WI (b.r::b.nn::b.vv::cQ p) n hp wl3 fX:=by rw[eG,iT];exact (d6.set (.inr (by omega))).set (.inr (by omega))
   clear eG iT
   have lr3:b.r<n'+1:=oM.ru.lr
   have ln3:b.nn<n'+1:=oM.ru.ln
   have lv3:b.vv<n'+1:=oM.ru.lv
   obtain ⟨F,G,hF⟩:=fY (C:=fun eW n2=>Ag (n'+1) fX eW∧n'+1≤n2) (P:=Tryz.prog) (cfg:=Ob.cfg) (f:=104) (vs:=[.ptr b.r b.gr 0,dS y.nm]) (v:=dI (gz sj.vs y.nm)) (fun eW n2 c2 hC=>aFV (oM.ru.mono hC.1 hC.2) (by omega) y.nm c2)
   have tJ:=hF fX (n'+1) c3 ⟨Ag.refl _ _,Nat.le_refl _⟩
   obtain ⟨q,lZ,hv,hn,rX,lY,lD,yH,⟨p2,gn2,gv2,aBP,mY⟩,dD⟩:=(ih (by omega) b0 (by omega) (h4 b0 zR) (xT _ |>.1 ok4 b0 zR) sj p' { b with gn:=gn,gv:=gv } sA (by omega) fX (n'+1) (c3+(G fX (n'+1) c3 - c3)) oM).caller (by
    intro x hx
    simp only[List.mem_cons] at hx
    rcases hx with hx|hx|hx|hx
    ·omega
    ·omega
    ·omega
    ·exact oM.li.lt x hx)
   have hE4:=mY.after dD
   have hN:n'+1+(q.n - (n'+1))=q.n:=by omega
   simp only[dI,dL,dS] at tJ lZ
   repeat (first
 | apply WP.seq
 | (apply WP.reg;(case hR=>dsimp only [eV,eA,List.map,gS,gZ];exact iZ);(case hr=>(repeat (first
 | (apply RT.op;simp[-a9,dI,dL,lP,tJ,uH,aJD,aX,hv];exact iZ;(try dsimp only [a7]) <;> exact rfl)
 | (apply RT.call;(iterate 2 simp;exact iZ);exact iZ;(iterate 4 simp[-a9,dI,dL,lP,tJ,uH,aJD,aX,hv];exact iZ);simp[Is];(try dsimp only [a7]) <;> exact rfl;simp;exact iZ;exact iZ)
 | (apply RT.callV;(iterate 2 simp;exact iZ);exact iZ;(iterate 3 simp[-a9,dI,dL,lP,tJ,uH,aJD,aX,hv];exact iZ);(try dsimp only [a7]) <;> exact rfl)
 | (apply RT.callT (hd:=lZ) (hk:=rX);(iterate 2 simp;exact iZ);exact iZ;(iterate 2 simp[-a9,dI,dL,lP,tJ,uH,aJD,aX,hv];exact iZ);(try dsimp only [a7]) <;> exact rfl)
 | (apply RT.wr;simp[-a9,dI,dL,lP,tJ,uH,aJD,aX,hv];exact iZ;(try dsimp only [a7]) <;> exact rfl;simp[-a9,dI,dL,lP,tJ,uH,aJD,aX,hv];exact iZ;(iterate 2 exact iZ);exact iZ)));exact RT.nil);(case hc=>first|(refine cW [(0,1),(0,2),(0,3),(1,3),(2,3),(0,4),(1,4),(2,4),(3,4),(0,5),(1,5),(2,5),(3,5),(0,6),(1,6),(2,6),(0,7),(0,8)] (by kernel_rfl) (by kernel_rfl) rfl ?_;simp[lO,jW,dX];done)|(show _=_;kernel_rfl));(case ht=>simp[-a9,dI,dL,lP,tJ,uH,aJD,aX,hv];exact iZ))
 | apply WP.block|apply WP.skip|apply WP.exit|apply WP.ret|refine WP.condT rfl ?_|refine WP.condF rfl ?_)
   refine aY (by simp[-a9,c9];exact Is.rfl) ?_
   refine ⟨D - 1,by omega,j+1,_,n'+1+(q.n - (n'+1)),_,_,_,p2,gn2,gv2,by omega,rfl,hs2,by omega,hmv.trans aBP (by omega),?_,mX.sets fun x hx=>?_,bK (by simp[dI,dL,c9]) rfl⟩
   ·rw[sE,hN];exact hE4
   ·rcases lY x.1 (List.mem_map.2 ⟨x,hx,rfl⟩) with h|h
    ·exact hkk _ (.inl h)
    ·exact .inr (by omega)
  ·rw[if_neg (by omega),if_neg (by omega),if_neg (by omega),if_pos k] at sE
   obtain ⟨t,ht,hto,htc⟩:=yC sA.b h1
   rw[ht] at sE
   simp only at sE
   rw[←htc] at h2 h3 h4 h5
   have hia:=aCG hw sA.v sA.m cx bf y.args t.c.inn h4 h2
   obtain ⟨hxi,wC⟩:=aNv rfl h1
   have aEv:=(List.getElem?_eq_some_iff.1 ht).1
   have hax:=aFj h4 h2
   have haz:=gV y.args
   have hoz:=oU y.outs
   have lr0:b.r<n':=pX.ru.lr
   have ln0:b.nn<n':=pX.ru.ln
   have lv0:b.vv<n':=pX.ru.lv
   have aSc:∀ x,(x=b.r∨x=b.nn∨x=b.vv∨x∈cQ p')→x<n':=fun x hx=>by
    rcases hx with hx|hx|hx|hx
    ·omega
    ·omega
    ·omega
    ·exact pX.li.lt x hx
   refine bN (u7 @aB @aA @cV @bV @pW @aC @aE @aH @aI @k @aS) ?_
   apply WP.gen3
   intro fX c3 wl3 eG iT
   have lP:fX.get n'=some ⟨c',false,[V.d (.int .i64 y.k),V.d (.str y.nm),V.d (.int .i64 y.t),V.d (.int .i64 y.r.k),V.d (.int .i64 y.r.o),V.d (.int .i64 y.r.t),V.d (.int .i64 y.r.v),V.d (.str y.r.nm),V.d (.slice (gC y.r.args)),V.d (.slice (eX y.outs)),V.d (.slice (gC y.args)),V.d (.slice (iL y.brs))]⟩:=by rw[eG];simp[k]
   have hx6:fX.get (n'+1)=some ⟨c'+1,false,[]⟩:=by rw[eG];simp
   have oM:REA o c p' { b with gn:=gn,gv:=gv } sj fX (n'+2):=by rw[eG];exact pX.mono (by simp[cY,cE]) (by omega)
   have mX:WI (b.r::b.nn::b.vv::cQ p) n hp wl3 fX:=by rw[eG,iT];exact WI.more ((d6.set (.inr (by omega))).set (.inr (by omega))) (by omega)
   clear eG iT
   apply WP.loop' (I:=fun D2 st=>∃ (i g c4 n4:Nat) (wl4:List Nat) (hp4:Hp) (L:List Int),i+D2=y.args.length∧n'+2≤n4∧L=(y.args.take i).map (uO sj.vs sj.ms)∧REA o c p' { b with gn:=gn,gv:=gv } sj hp4 n4∧hp4.get n'=some ⟨c',false,[V.d (.int .i64 y.k),V.d (.str y.nm),V.d (.int .i64 y.t),V.d (.int .i64 y.r.k),V.d (.int .i64 y.r.o),V.d (.int .i64 y.r.t),V.d (.int .i64 y.r.v),V.d (.str y.r.nm),V.d (.slice (gC y.r.args)),V.d (.slice (eX y.outs)),V.d (.slice (gC y.args)),V.d (.slice (iL y.brs))]⟩∧hp4.get (n'+1)=some ⟨g,false,fl (bQ L)⟩∧WI (b.r::b.nn::b.vv::cQ p) n hp wl4 hp4∧
    st=⟨[(0,.ptr b.r b.gr 0),(1,dL (dM l)),(4,dI j),(5,.ptr n' c' 0),(6,.osl (n'+1) g 0 i 1 none),(7,dI i)],hp4,n4,c4,n,wl4⟩) (d:=y.args.length)
   ·exact ⟨0,c'+1,_,n'+2,_,_,[],by simp,Nat.le_refl _,by simp,oM,lP,by rw[hx6];rfl,mX,bK (by simp[dI,dL]) rfl⟩
   clear lP hx6 oM mX
   clear fX c3 wl3
   rintro D2 _ ⟨i,g,c4,n4,wl4,hp4,L,hi4,hn4,hL,hE4,lP,hx6,aCx,rfl⟩
   refine iX (j4 @aB @aA @lP @aT) ?_
   show WP _ _ _ _ _ _
   refine WP.cond _ rfl (fun hb=>?_) (fun hb=>?_)
   ·simp at hb
    have hb4:i<y.args.length:=by omega
    obtain ⟨d,hd,d8,aZS⟩:=bM hb4
    have cG:=i8 hd
    have aCv:=bE hb4 (by omega)
    have hdz:=dZ d8
    obtain ⟨mJ,aNX⟩:=hax d d8
    obtain ⟨F,G,hF⟩:=fY (C:=fun eW n2=>Ag n4 hp4 eW∧n4≤n2) (P:=Tryz.prog) (cfg:=Ob.cfg) (f:=129) (vs:=[.ptr b.r b.gr 0,aG d.cells]) (v:=dI (uO sj.vs sj.ms d)) (fun eW n2 c2 hC=>aGc (b:={ b with gn:=gn,gv:=gv }) gI sA.m.1 (by omega) bf cx M (by omega) d (by omega) mJ aNX eW n2 c2 (hE4.mono hC.1 hC.2))
    have hr:=hF hp4 n4 c4 ⟨Ag.refl _ _,Nat.le_refl _⟩
    simp only[aG,aE,List.map_cons,List.map_nil,dI] at hr
    have y6:=bL hd
    have nT:L.length=i:=by rw[hL];simp;omega
    have hLs:(y.args.take (i+1)).map (uO sj.vs sj.ms)=L++[uO sj.vs sj.ms d]:=by rw[y6,hL];simp
    have r2:=cR (b7 L)
    have r3:=cI (b7 L)
    have r4:=dT (bQ L) [.int .i64 (uO sj.vs sj.ms d)]
    have r5:=g7 L (uO sj.vs sj.ms d)
    have f5:bU (i+1) 8=true:=by simp[bU];omega
    rw[r5] at r4
    rw[aZ,nT,Nat.mul_one] at r2 r3
    simp only[List.map_cons,List.map_nil] at r4
    have m1:=nf (show n' < n4 by omega)
    have m2:=nf (show n'+1<n4 by omega)
    have lt6:=eq_true (show n'+1<n4+1 by omega)
    refine bN (j23 @aB @aA @aE @aZS @cG @hr @aH @aI @aP @aQ @iE.eq_def @bG @b8 @bH @f5 @r2 @r3 @r4 @lP @hx6 @m1 @m2 @lt6) ?_
    refine aY (by simp[-a9,aCv];exact Is.rfl) ?_
    refine ⟨D2 - 1,by omega,i+1,c4+(G hp4 n4 c4 - c4)+1,_,n4+1,_,_,_,by omega,by omega,hLs.symm,?_,by simp[m1,lP],by simp,(aCx.set (.inr (by omega))).set (.inr (by omega)),bK (by simp[dI,dL,aCv]) rfl⟩
    refine hE4.out (fun x hx=>?_) (by omega)
    have n8:x<n':=aSc x hx
    have e1:(n4=x)=False:=eq_false (by omega)
    have e2:(n'+1=x)=False:=eq_false (by omega)
    simp[e1,e2]
   simp at hb
   have kP:i=y.args.length:=by omega
   rw[kP,List.take_length,←qF] at hL
   have nT:L.length=y.args.length:=by rw[hL,qF];simp
   refine bN (jn @aB @aA) ?_
   have vS:=hE4.ru.ob
   have hbx:b.x=p'.a.x:=hE4.bx
   have hbg:b.gx=p'.a.gx:=hE4.bg
   simp only[hbx,hbg] at vS
   obtain ⟨lx3,gH⟩:=hE4.li.ob
   obtain ⟨li3,jZ⟩:=hE4.li.io
   simp only[rO,Trn.c,Trn.ms] at gH
   obtain ⟨q0,hq0,pR⟩:=hE4.li.sub (i:=mU c y.nm) (u:=t) ht
   have hqp:∀ x,x∈cQ q0→x∈cQ p':=fun x h=>by cases p';rw[cQ];simp only[List.mem_cons];exact .inr (.inr (.inr (oQ _ _ _ hq0 _ h)))
   obtain ⟨F,G,hF⟩:=fY (C:=fun eW n2=>Ag n4 hp4 eW∧n4≤n2) (P:=Tryz.prog) (cfg:=Ob.cfg) (f:=131) (vs:=[.ptr p'.a.x p'.a.gx 0,dS y.nm]) (v:=dI (aCr c.ins y.nm)) (fun eW n2 c2 hC=>aKg (hE4.li.mono hC.1 hC.2) (by have:=gI.sum;simp only[Trn.c];omega) y.nm c2)
   have tJ:=hF hp4 n4 c4 ⟨Ag.refl _ _,Nat.le_refl _⟩
   have hth:t.ht≤N:=by have:=lM (List.mem_of_getElem? ht);have:=sA.h;omega
   rw[←hL] at hia sE
   have hIn:aPC hp4 n4 (cQ q0) (.osl (n'+1) g 0 i 1 none) L:= .inr ⟨n'+1,g,by rw[nT,kP],hx6,by omega,fun h=>by have:=aSc _ (.inr (.inr (.inr (hqp _ h))));omega⟩
   obtain ⟨id,go,aAP⟩:=hS t q0 L (.osl (n'+1) g 0 i 1 none) hth hto hia hp4 n4 (c4+(G hp4 n4 c4 - c4)) pR hIn
   obtain ⟨q,lZ,hv,hn,rX,lY,lD,yH,⟨⟨q2,aBP,mY⟩,ho1,uC,ho3⟩,dD⟩:=aAP.caller (fun k hk=>pR.lt k hk)
   have ho4:=(dD id ho3 (by rw[ho1];rfl)).trans ho1
   have hL4:=mY.after dD
   have hN:n4+(q.n - n4)=q.n:=by omega
   obtain ⟨p2,aSd,hE5⟩:=hE4.setS ht hq0 aBP hL4 (by omega) (fun k h1 h2=>lD k h1 h2)
   have hpl:p'.ps.length=c.ins.length:=(hE4.li.len).2
   have rZ:jR ((aCr c.ins y.nm:Nat):Int) p'.ps.length=some (mU c y.nm):=by rw[hxi];exact kX (by omega)
   have hE0:(p'.ps.map eQ)[mU c y.nm]?=some (.ptr q0.a.x q0.a.gx 0):=by rw[List.getElem?_map,hq0];rfl
   have hx7:=(lD n' (by omega) (fun h=>by have:=aSc _ (.inr (.inr (.inr (hqp _ h))));omega)).trans lP
   have aCw:WI (b.r::b.nn::b.vv::cQ p) n hp (a9 n wl4 (sK q n4)) (hp4.sets (sK q n4)):=aCx.sets fun x hx=>by
    rcases lY x.1 (List.mem_map.2 ⟨x,hx,rfl⟩) with h|h
    ·exact hkk _ (.inl (by simp[hqp _ h]))
    ·exact .inr (by omega)
   have hso:=(hF0 t L (by have:=lM (List.mem_of_getElem? ht);have:=sA.h;omega) hto hia).2.2.2.1
   rw[←h3] at hso
   simp only[dI,dS] at tJ
   repeat (first
 | apply WP.seq
 | (apply WP.reg;(case hR=>dsimp only [eV,eA,List.map,gS,gZ];exact iZ);(case hr=>(repeat (first
 | (apply RT.op;simp[-a9,dI,dL,lP,hx6,tJ,vS,gH,jZ,rZ,hE0,hv];exact iZ;(try dsimp only [a7]) <;> exact rfl)
 | (apply RT.call;(iterate 2 simp;exact iZ);exact iZ;(iterate 4 simp[-a9,dI,dL,lP,hx6,tJ,vS,gH,jZ,rZ,hE0,hv];exact iZ);simp[Is];(try dsimp only [a7]) <;> exact rfl;simp;exact iZ;exact iZ)
 | (apply RT.callV;(iterate 2 simp;exact iZ);exact iZ;(iterate 3 simp[-a9,dI,dL,lP,hx6,tJ,vS,gH,jZ,rZ,hE0,hv];exact iZ);(try dsimp only [a7]) <;> exact rfl)
 | (apply RT.callT (hd:=lZ) (hk:=rX);(iterate 2 simp;exact iZ);exact iZ;(iterate 2 simp[-a9,dI,dL,lP,hx6,tJ,vS,gH,jZ,rZ,hE0,hv];exact iZ);(try dsimp only [a7]) <;> exact rfl)
 | (apply RT.wr;simp[-a9,dI,dL,lP,hx6,tJ,vS,gH,jZ,rZ,hE0,hv];exact iZ;(try dsimp only [a7]) <;> exact rfl;simp[-a9,dI,dL,lP,hx6,tJ,vS,gH,jZ,rZ,hE0,hv];exact iZ;(iterate 2 exact iZ);exact iZ)));exact RT.nil);(case hc=>first|(refine cW [(0,7),(1,7),(2,7),(3,7),(4,7),(5,7),(6,7),(0,8),(1,8),(2,8),(3,8),(4,8),(5,8),(6,8),(0,9),(1,9),(2,9),(3,9),(4,9),(5,9),(6,9),(0,10),(1,10),(2,10),(3,10),(4,10),(5,10),(6,10),(0,11),(1,11),(2,11),(3,11),(4,11),(5,11),(6,11),(7,11),(8,11),(9,11),(10,11),(0,12),(1,12),(2,12),(3,12),(4,12),(5,12),(6,12),(7,12),(8,12),(9,12),(10,12),(0,13),(1,13),(2,13),(3,13),(4,13),(5,13),(6,13),(0,16),(1,16),(2,16),(3,16),(4,16),(5,16),(6,16),(7,16),(8,16),(9,16),(10,16),(11,16),(12,16),(13,16),(14,16),(15,16)] (by kernel_rfl) (by kernel_rfl) rfl ?_;simp[lO,jW,dX];done)|(show _=_;kernel_rfl));(case ht=>simp[-a9,dI,dL,lP,hx6,tJ,vS,gH,jZ,rZ,hE0,hv];exact iZ))
 | apply WP.block|apply WP.skip|apply WP.exit|apply WP.ret|refine WP.condT rfl ?_|refine WP.condF rfl ?_)
   apply WP.gen3
   intro hp6 c6 wl6 eG iT
   rw[←eG] at hE5 hx7 ho4
   rw[←eG,←iT] at aCw
   rw[←hN] at hE5 ho3
   have hn6:n4≤n4+(q.n - n4):=by omega
   generalize n4+(q.n - n4)=n6 at hE5 hn6 ho3 ⊢
   generalize bAm:(fC N t L).2=outs at hso sE ho4 ⊢
   generalize (fC N t L).1=u at hE5 sE
   clear eG iT lZ hv hn rX lY lD ho1 mY dD hL4 tJ hN aAP yH
   apply WP.loop' (I:=fun D3 st=>∃ (i7 c7:Nat) (wl7:List Nat) (hp7:Hp) (gn7 gv7:Nat),i7+D3=outs.length∧REA o c p2 { b with gn:=gn7,gv:=gv7 } ⟨puts sj.vs ((y.outs.zip outs).take i7),sj.ms,sj.sb.set (mU c y.nm) u⟩ hp7 n6∧hp7.get id=some ⟨go,false,fl (bQ outs)⟩∧hp7.get n'=some ⟨c',false,[V.d (.int .i64 y.k),V.d (.str y.nm),V.d (.int .i64 y.t),V.d (.int .i64 y.r.k),V.d (.int .i64 y.r.o),V.d (.int .i64 y.r.t),V.d (.int .i64 y.r.v),V.d (.str y.r.nm),V.d (.slice (gC y.r.args)),V.d (.slice (eX y.outs)),V.d (.slice (gC y.args)),V.d (.slice (iL y.brs))]⟩∧WI (b.r::b.nn::b.vv::cQ p) n hp wl7 hp7∧
    st=⟨[(0,.ptr b.r b.gr 0),(1,dL (dM l)),(4,dI j),(5,.ptr n' c' 0),(8,.osl id go 0 outs.length 1 none),(9,dI i7)],hp7,n6,c7,n,wl7⟩) (d:=outs.length)
   ·exact ⟨0,_,_,_,gn,gv,by simp,by simpa [puts] using hE5,ho4,hx7,aCw,bK (by simp[dI,dL]) rfl⟩
   clear hE5 hx7 aCw ho4
   clear hp6 c6 wl6
   rintro D3 _ ⟨i7,c7,wl7,hp7,gn7,gv7,hi7,hE7,ho7,hx7,aWs,rfl⟩
   refine iX (j3 @aB @aA @ho7) ?_
   show WP _ _ _ _ _ _
   refine WP.cond _ rfl (fun hb=>?_) (fun hb=>?_)
   ·simp at hb
    have hb7:i7<outs.length:=by omega
    obtain ⟨w,hw7,hwm,aJE⟩:=bM hb7
    have aJF:=aCQ hw7
    obtain ⟨x,hx8,hxm,aJG⟩:=bM (show i7<y.outs.length by omega)
    have aJH:=sW hx8
    have aWt:=bE hb7 (by omega)
    have hzs:(y.outs.zip outs).take (i7+1)=(y.outs.zip outs).take i7++[(x,w)]:=bL (by rw[List.getElem?_zip_eq_some];exact ⟨hx8,hw7⟩)
    have aPt:=rF ((y.outs.zip outs).take i7) sj.vs
    have hzl:((y.outs.zip outs).take i7).length≤y.outs.length:=by simp;omega
    have aNY:(puts sj.vs ((y.outs.zip outs).take i7)).length≤1099511627776:=by omega
    obtain ⟨q9,lZ,hv,hn,rX,lY,lD,yH,⟨gn9,gv9,mY⟩,dD⟩:=(aFE hE7.ru aNY x w c7).caller (by
     intro z hz
     have l1:b.r<n6:=by omega
     have l2:b.nn<n6:=by omega
     have l3:b.vv<n6:=by omega
     simp at hz;omega)
    have hE9:=hE7.setV (fun k h1 h2=>lD k h1 h2) mY dD
    have hx9:=(lD n' (by omega) (by simp;omega)).trans hx7
    have ho9:=(lD id ho3 (by simp;omega)).trans ho7
    simp only[dI,dS] at lZ
    repeat (first
 | apply WP.seq
 | (apply WP.reg;(case hR=>dsimp only [eV,eA,List.map,gS,gZ];exact iZ);(case hr=>(repeat (first
 | (apply RT.op;simp[-a9,dI,dL,aZ,aW,hx7,ho7,aJE,aJF,aJG,aJH,hv,hn];exact iZ;(try dsimp only [a7]) <;> exact rfl)
 | (apply RT.call;(iterate 2 simp;exact iZ);exact iZ;(iterate 4 simp[-a9,dI,dL,aZ,aW,hx7,ho7,aJE,aJF,aJG,aJH,hv,hn];exact iZ);simp[Is];(try dsimp only [a7]) <;> exact rfl;simp;exact iZ;exact iZ)
 | (apply RT.callV;(iterate 2 simp;exact iZ);exact iZ;(iterate 3 simp[-a9,dI,dL,aZ,aW,hx7,ho7,aJE,aJF,aJG,aJH,hv,hn];exact iZ);(try dsimp only [a7]) <;> exact rfl)
 | (apply RT.callT (hd:=lZ) (hk:=rX);(iterate 2 simp;exact iZ);exact iZ;(iterate 2 simp[-a9,dI,dL,aZ,aW,hx7,ho7,aJE,aJF,aJG,aJH,hv,hn];exact iZ);(try dsimp only [a7]) <;> exact rfl)
 | (apply RT.wr;simp[-a9,dI,dL,aZ,aW,hx7,ho7,aJE,aJF,aJG,aJH,hv,hn];exact iZ;(try dsimp only [a7]) <;> exact rfl;simp[-a9,dI,dL,aZ,aW,hx7,ho7,aJE,aJF,aJG,aJH,hv,hn];exact iZ;(iterate 2 exact iZ);exact iZ)));exact RT.nil);(case hc=>first|(refine cW [(0,1),(0,2),(0,3),(1,3),(2,3),(0,4),(0,5),(0,6),(1,6),(2,6),(3,6),(4,6),(5,6),(0,7),(1,7),(2,7),(3,7),(4,7),(5,7),(6,7),(0,8),(1,8),(2,8),(3,8),(4,8),(5,8),(0,9),(1,9),(2,9),(3,9),(4,9),(5,9)] (by kernel_rfl) (by kernel_rfl) rfl ?_;simp[lO,jW,dX];done)|(show _=_;kernel_rfl));(case ht=>simp[-a9,dI,dL,aZ,aW,hx7,ho7,aJE,aJF,aJG,aJH,hv,hn];exact iZ))
 | apply WP.block|apply WP.skip|apply WP.exit|apply WP.ret|refine WP.condT rfl ?_|refine WP.condF rfl ?_)
    refine aY (by simp[-a9,aWt];exact Is.rfl) ?_
    refine ⟨D3 - 1,by omega,i7+1,_,_,_,gn9,gv9,by omega,?_,ho9,hx9,aWs.sets fun z hz=>?_,bK (by simp[dI,dL,aWt]) rfl⟩
    ·rw[hzs,fQ];exact hE9
    ·have h:=lY z.1 (List.mem_map.2 ⟨z,hz,rfl⟩)
     simp only[List.mem_cons,List.not_mem_nil,or_false] at h ⊢
     rcases h with h|h|h <;> simp[h]
   simp at hb
   have bAn:i7=outs.length:=by omega
   have hzt:(y.outs.zip outs).take i7=y.outs.zip outs:=List.take_of_length_le (by simp;omega)
   rw[hzt] at hE7
   refine bN (jn @aB @aA) ?_
   refine aY (by simp[-a9,c9];exact Is.rfl) ?_
   refine ⟨D - 1,by omega,j+1,_,n6,_,_,_,p2,gn7,gv7,by omega,rfl,hs2,by omega,hmv.trans aSd (by omega),?_,aWs,bK (by simp[dI,dL,c9]) rfl⟩
   rw[sE];exact hE7
  ·rw[if_neg (by omega),if_neg (by omega),if_neg (by omega),if_neg (by omega)] at sE
   obtain ⟨t,ht,hto,htc⟩:=yC sA.b h1
   rw[ht] at sE
   obtain ⟨hxi,wC⟩:=aNv rfl h1
   have aEv:=(List.getElem?_eq_some_iff.1 ht).1
   refine bN (u7 @aB @aA @cV @bV @pW @aC @aE @aH @aI @k @aS) ?_
   apply WP.gen3
   intro fX c3 wl3 eG iT
   have lP:fX.get n'=some ⟨c',false,[V.d (.int .i64 y.k),V.d (.str y.nm),V.d (.int .i64 y.t),V.d (.int .i64 y.r.k),V.d (.int .i64 y.r.o),V.d (.int .i64 y.r.t),V.d (.int .i64 y.r.v),V.d (.str y.r.nm),V.d (.slice (gC y.r.args)),V.d (.slice (eX y.outs)),V.d (.slice (gC y.args)),V.d (.slice (iL y.brs))]⟩:=by rw[eG];simp[k]
   have oM:REA o c p' { b with gn:=gn,gv:=gv } sj fX (n'+1):=by rw[eG];exact pX.mono (by simp[cY,cE]) (by omega)
   have mX:WI (b.r::b.nn::b.vv::cQ p) n hp wl3 fX:=by rw[eG,iT];exact (d6.set (.inr (by omega))).set (.inr (by omega))
   clear eG iT
   have lr3:b.r<n'+1:=oM.ru.lr
   have ln3:b.nn<n'+1:=oM.ru.ln
   have lv3:b.vv<n'+1:=oM.ru.lv
   have vS:=oM.ru.ob
   have hbx:b.x=p'.a.x:=oM.bx
   have hbg:b.gx=p'.a.gx:=oM.bg
   simp only[hbx,hbg] at vS
   obtain ⟨lx3,gH⟩:=oM.li.ob
   obtain ⟨li3,jZ⟩:=oM.li.io
   simp only[rO,Trn.c,Trn.ms] at gH
   obtain ⟨q0,hq0,pR⟩:=oM.li.sub (i:=mU c y.nm) (u:=t) ht
   obtain ⟨F,G,hF⟩:=fY (C:=fun eW n2=>Ag (n'+1) fX eW∧n'+1≤n2) (P:=Tryz.prog) (cfg:=Ob.cfg) (f:=131) (vs:=[.ptr p'.a.x p'.a.gx 0,dS y.nm]) (v:=dI (aCr c.ins y.nm)) (fun eW n2 c2 hC=>aKg (oM.li.mono hC.1 hC.2) (by have:=gI.sum;simp only[Trn.c];omega) y.nm c2)
   have tJ:=hF fX (n'+1) c3 ⟨Ag.refl _ _,Nat.le_refl _⟩
   obtain ⟨q,lZ,hv,hn,rX,lY,lD,yH,⟨q2,aBP,mY⟩,dD⟩:=(aMw vD gK t q0 hto fX (n'+1) (c3+(G fX (n'+1) c3 - c3)) pR).caller (fun k hk=>pR.lt k hk)
   have hL4:=mY.after dD
   have hN:n'+1+(q.n - (n'+1))=q.n:=by omega
   obtain ⟨p2,aSd,hE4⟩:=oM.setS ht hq0 aBP hL4 (by omega) (fun k h1 h2=>lD k h1 h2)
   have hpl:p'.ps.length=c.ins.length:=(oM.li.len).2
   have rZ:jR ((aCr c.ins y.nm:Nat):Int) p'.ps.length=some (mU c y.nm):=by rw[hxi];exact kX (by omega)
   have hE0:(p'.ps.map eQ)[mU c y.nm]?=some (.ptr q0.a.x q0.a.gx 0):=by rw[List.getElem?_map,hq0];rfl
   simp only[dI,dS] at tJ
   repeat (first
 | apply WP.seq
 | (apply WP.reg;(case hR=>dsimp only [eV,eA,List.map,gS,gZ];exact iZ);(case hr=>(repeat (first
 | (apply RT.op;simp[-a9,dI,dL,lP,tJ,vS,gH,jZ,rZ,hE0,hv];exact iZ;(try dsimp only [a7]) <;> exact rfl)
 | (apply RT.call;(iterate 2 simp;exact iZ);exact iZ;(iterate 4 simp[-a9,dI,dL,lP,tJ,vS,gH,jZ,rZ,hE0,hv];exact iZ);simp[Is];(try dsimp only [a7]) <;> exact rfl;simp;exact iZ;exact iZ)
 | (apply RT.callV;(iterate 2 simp;exact iZ);exact iZ;(iterate 3 simp[-a9,dI,dL,lP,tJ,vS,gH,jZ,rZ,hE0,hv];exact iZ);(try dsimp only [a7]) <;> exact rfl)
 | (apply RT.callT (hd:=lZ) (hk:=rX);(iterate 2 simp;exact iZ);exact iZ;(iterate 2 simp[-a9,dI,dL,lP,tJ,vS,gH,jZ,rZ,hE0,hv];exact iZ);(try dsimp only [a7]) <;> exact rfl)
 | (apply RT.wr;simp[-a9,dI,dL,lP,tJ,vS,gH,jZ,rZ,hE0,hv];exact iZ;(try dsimp only [a7]) <;> exact rfl;simp[-a9,dI,dL,lP,tJ,vS,gH,jZ,rZ,hE0,hv];exact iZ;(iterate 2 exact iZ);exact iZ)));exact RT.nil);(case hc=>first|(refine cW [(0,7),(1,7),(2,7),(3,7),(4,7),(5,7),(6,7),(0,8),(1,8),(2,8),(3,8),(4,8),(5,8),(6,8),(0,9),(1,9),(2,9),(3,9),(4,9),(5,9),(6,9),(0,10),(1,10),(2,10),(3,10),(4,10),(5,10),(6,10),(0,11),(1,11),(2,11),(3,11),(4,11),(5,11),(6,11),(7,11),(8,11),(9,11),(10,11),(0,12),(1,12),(2,12),(3,12),(4,12),(5,12),(6,12),(7,12),(8,12),(9,12),(10,12),(0,13),(1,13),(2,13),(3,13),(4,13),(5,13),(6,13)] (by kernel_rfl) (by kernel_rfl) rfl ?_;simp[lO,jW,dX];done)|(show _=_;kernel_rfl));(case ht=>simp[-a9,dI,dL,lP,tJ,vS,gH,jZ,rZ,hE0,hv];exact iZ))
 | apply WP.block|apply WP.skip|apply WP.exit|apply WP.ret|refine WP.condT rfl ?_|refine WP.condF rfl ?_)
   refine aY (by simp[-a9,c9];exact Is.rfl) ?_
   refine ⟨D - 1,by omega,j+1,_,n'+1+(q.n - (n'+1)),_,_,_,p2,gn,gv,by omega,rfl,hs2,by omega,hmv.trans aSd (by omega),?_,mX.sets fun x hx=>?_,bK (by simp[dI,dL,c9]) rfl⟩
   ·rw[sE,hN];exact hE4
   ·rcases lY x.1 (List.mem_map.2 ⟨x,hx,rfl⟩) with h|h
    ·have hqp:x.1∈cQ p':=by cases p';rw[cQ];simp only[List.mem_cons];exact .inr (.inr (.inr (oQ _ _ _ hq0 _ h)))
     exact hkk _ (.inl (by simp[hqp]))
    ·exact .inr (by omega)
 simp at hb
 have eE:j=l.length:=by omega
 rw[eE,List.take_length] at hsj
 subst hsj
 refine bN (jn @aB @aA) ?_
 exact ⟨.inl rfl,[],rfl,rfl,hnn,d6,p',gn,gv,hmv,pX⟩
end
end Go.Ac
