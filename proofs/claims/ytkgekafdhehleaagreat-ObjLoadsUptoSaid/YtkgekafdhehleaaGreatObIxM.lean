/- Look-ups of classes by name, the program's. -/
import Derived.Test.YtkgekafdhehleaaGreatObPoM
set_option linter.unusedVariables false
set_option linter.unusedSimpArgs false
section
set_option maxRecDepth 4000
namespace Go.Ac
open Go.Proofs
attribute [local simp] Hp.get_set cY cE cN bW
def gz (l:List (Tx×Int)) (x:Tx):Int:=(eS l x).getD 0
def evK (vs ms:List (Tx×Int)) (k o v:Int) (nm:Tx) (l:List Int):Int:=
 if k=1 then v else if k=2 then gz vs nm else if k=12 then gz ms nm
 else if k=4 then (if l.getD 0 0=1 then l.getD 1 0 else l.getD 2 0) else (lI o l).1
mutual
def uO (vs ms:List (Tx×Int)):X→Int
 | .mk k o _ v nm args=>evK vs ms k o v nm (evL vs ms args)
def evL (vs ms:List (Tx×Int)):List X→List Int
 | []=>[]
 | x::r=>uO vs ms x::evL vs ms r
end
theorem aJg (vs ms:List (Tx×Int)) (x:X):uO vs ms x=evK vs ms x.k x.o x.v x.nm (evL vs ms x.args):=by cases x;rw[uO];rfl
theorem qF (vs ms:List (Tx×Int)):∀ l:List X,evL vs ms l=l.map (uO vs ms)
 | []=>by rw[evL];rfl
 | x::r=>by rw[evL,qF vs ms r];rfl
def oO (g:Nat) (en:List En) (c:Cl) (im gm ii gi:Nat):Ob:=⟨g,false,[V.d (.slice (f9 en)),V.d (.str c.nm),V.d (.slice (cM c.inn)),V.d (.slice (cM c.out)),V.d (.slice (cM c.loc)),V.d (.slice (lF c.mems)),V.d (.slice (lV c.ins)),V.d (.slice (dM c.step)),.mp im gm,.mp ii gi]⟩
structure Pa where
 x:Nat
 gx:Nat
 im:Nat
 gm:Nat
 ii:Nat
 gi:Nat
 v:Nat
 gv:Nat
structure RA (a:Pa) (en:List En) (c:Cl) (ms vs:List (Tx×Int)) (hp:Hp) (n:Nat):Prop where
 ob:hp.get a.x=some (oO a.gx en c a.im a.gm a.ii a.gi)
 me:hp.get a.im=some ⟨a.gm,false,[fW eI ms]⟩
 va:hp.get a.v=some ⟨a.gv,false,[fW eI vs]⟩
 lx:a.x<n
 lm:a.im<n
 lv:a.v<n
def rV (a:Pa):V:= .agg [.ptr a.x a.gx 0,.mp a.v a.gv]
section
variable {a:Pa} {en:List En} {c:Cl} {ms vs:List (Tx×Int)}
theorem RA.ag {hp bB:Hp} {n n':Nat} (h:RA a en c ms vs hp n) (ha:Ag n hp bB) (hn:n≤n'):RA a en c ms vs bB n':=by
 obtain ⟨h1,h2,h3,l1,l2,l3⟩:=h
 rw[←ha _ l1] at h1
 rw[←ha _ l2] at h2
 rw[←ha _ l3] at h3
 exact ⟨h1,h2,h3,by omega,by omega,by omega⟩
def QR (a:Pa) (en:List En) (c:Cl) (ms vs:List (Tx×Int)) (f:FuncId) (xs:List V) (v:V):Prop:=∀ hp n cc,RA a en c ms vs hp n→jL Tryz.prog Ob.cfg f xs hp n cc v
theorem QR.fn {f:FuncId} {xs:List V} {v:V} (h:QR a en c ms vs f xs v) {hp:Hp} {n:Nat} (hK:RA a en c ms vs hp n):
  ∃ (F:Hp→Nat→Nat→Hp) (G:Hp→Nat→Nat→Nat),∀ bB n' cc,Ag n hp bB→n≤n'→nV Tryz.prog Ob.cfg f xs bB n' cc=some ⟨v,F bB n' cc,n',G bB n' cc,[]⟩:=by
 obtain ⟨F,G,h1⟩:=fY (C:=fun bB n'=>Ag n hp bB∧n≤n') (P:=Tryz.prog) (cfg:=Ob.cfg) (f:=f) (vs:=xs) (v:=v) (fun bB n' cc ha=>h bB n' cc (hK.ag ha.1 ha.2))
 exact ⟨F,G,fun bB n' cc a b=>h1 bB n' cc ⟨a,b⟩⟩
theorem aAE (l:List (Tx×Int)) {id g:Nat} {ro:Bool} {sz by_:Nat} {zr:Option (List V)} {look:cA} {x:Tx} (h:look id=some ⟨g,ro,[fW eI l]⟩):
  gU look ⟨.str,sz,by_,zr⟩ (some (.d (.int .i64 0))) (.mp id g) (.d (.str x)) false=some ⟨.d (.int .i64 (gz l x)),[],[id],0,0,false⟩:=by
 rw[iO eI l h]
 unfold gz
 cases eS l x <;> rfl
theorem aTQ (r:Nat):Ob.keep 124 r=Ob.k124 r:=by kernel_rfl
theorem aSj (r:Nat):Ob.keep 123 r=Ob.k123 r:=by kernel_rfl
attribute [local simp] aTQ Ob.k124 aSj Ob.k123
set_option maxHeartbeats 2000000 in
theorem aKn {N:Nat} (ih:∀ x:X,x.sz<N→bS x=true→x.ok→QR a en c ms vs 123 [rV a,aG x.cells] (dI (uO vs ms x)))
  (l:List X) (hN:szX l<N) (hf:l.all bS=true) (cC:okX l) (hM:szX l≤8388608):QR a en c ms vs 124 [rV a,dL (gC l)] (dL (bQ (evL vs ms l))):=by
 intro hp n cc hK
 have e9:=gV l
 rw[qF]
 refine j1 Tryz.func124 rfl (by kernel_rfl) rfl ?_
 refine cT (j7 @aN @aO @rV.eq_1 @aA @aH @aI @aT) ?_
 apply WP.loop' (I:=fun D s=>∃ (j g c':Nat) (bB:Hp) (L:List Int),j+D=l.length∧L=(l.take j).map (uO vs ms)∧Ag n hp bB∧bB.get n=some ⟨cc,false,[.ptr a.x a.gx 0,.mp a.v a.gv]⟩∧bB.get (n+1)=some ⟨g,false,fl (bQ L)⟩∧
  s=⟨[(2,.ptr n cc 0),(5,.osl (n+1) g 0 j 1 none),(8,dL (gC l)),(9,dI l.length),(10,dI j)],bB,n+2,c',n,[]⟩) (d:=l.length)
 ·exact ⟨0,cc+1,_,_,[],by simp,by simp,by simp,by simp,by simp[fl,bQ],bK (by simp[dI,dL]) rfl⟩
 rintro D _ ⟨j,g,c',bB,L,hj,hL,dW,lS,jI,rfl⟩
 have dN:=eq_true dW
 refine pS (jn @aB @aA) ?_
 show WP _ _ _ _ _ _
 refine WP.cond _ rfl (fun hb=>?_) (fun hb=>?_)
 ·simp at hb
  have bP:j<l.length:=by omega
  obtain ⟨d,hd,d8,bV⟩:=bM bP
  have cG:=i8 hd
  have c9:=bE bP (by omega)
  obtain ⟨F,G,hr⟩:=(ih d (by have:=dZ d8;omega) (List.all_eq_true.1 hf d d8) ((u9 _).1 cC d d8)).fn hK
  simp only[aG,rV,aE,List.map_cons,List.map_nil,dI] at hr
  have y6:=bL hd
  have nT:L.length=j:=by rw[hL];simp;omega
  have hLs:(l.take (j+1)).map (uO vs ms)=L++[uO vs ms d]:=by rw[y6,hL];simp
  have r2:=cR (b7 L)
  have r3:=cI (b7 L)
  have r4:=dT (bQ L) [.int .i64 (uO vs ms d)]
  have r5:=g7 L (uO vs ms d)
  have f5:bU (j+1) 8=true:=by simp[bU];omega
  rw[r5] at r4
  rw[aZ,nT,Nat.mul_one] at r2 r3
  simp only[List.map_cons,List.map_nil] at r4
  refine cT (j21 @aB @aA @aE @bV @cG @hr @aH @aI @aP @aQ @iE.eq_def @bG @b8 @bH @f5 @r2 @r3 @r4 @lS @jI @dN) ?_
  refine aY (by simp[c9];exact Is.rfl) ?_
  exact ⟨D - 1,by omega,j+1,_,_,_,_,by omega,hLs.symm,by simp[dW],by simp[lS],by simp;rfl,bK (by simp[dI,dL,c9]) rfl⟩
 ·simp at hb
  have eE:j=l.length:=by omega
  rw[eE,List.take_length] at hL
  have nT:L.length=j:=by rw[hL,eE];simp
  rw[←hL]
  refine cT (jn @aB @aA) ?_
  have gI:=jA (look:=bB.get) (id:=n+1) (g:=g) (ro:=false) (cap:=none) (b7 L) jI
  rw[aZ,nT] at gI
  refine ⟨.inr rfl,rfl,_,[n+1],rfl,?_,by simp[Nat.ble_eq]⟩
  show d7 bB.get (.osl (n+1) g 0 j 1 none)=_
  rw[gI]
theorem aUF {x:X} (hf:bS x=true) (q:x.k=4):x.args.length=3:=by
 rw[bX] at hf
 simp only[cH,q] at hf
 split at hf
 ·cases hf
 ·rename_i n hn
  simp at hn hf
  have h1:=hf.1
  rw[←hn.2] at h1
  omega
set_option maxHeartbeats 4000000 in
theorem aEc:∀ (N:Nat),N≤8388609→∀ x:X,x.sz<N→bS x=true→x.ok→QR a en c ms vs 123 [rV a,aG x.cells] (dI (uO vs ms x)):=by
 intro N
 induction N with
 | zero=>intro _ x h;omega
 | succ N ih=>
 intro hNM x hN hf cC hp n cc hK
 obtain ⟨hf1,hf2,hf3⟩:=aAz hf
 obtain ⟨jI,n8⟩:=X.ok_eq cC
 have hs0:=X.sz_eq x
 have hvs:=aKn (a:=a) (en:=en) (c:=c) (ms:=ms) (vs:=vs) (N:=N) (fun y h1 h2 h3=>ih (by omega) y h1 h2 h3) x.args (by omega) hf1 n8 (by omega)
 have kD:=hK.ob
 simp only[oO] at kD
 have nx:=nf hK.lx
 have nm:=nf hK.lm
 have nv:=nf hK.lv
 obtain ⟨F,G,hr⟩:=hvs.fn hK
 simp only[rV,dL] at hr
 have vT:=fun (look:cA) (sz by_:Nat) (zr:Option (List V)) (y:Tx) (h:look a.v=hp.get a.v)=>aAE vs (sz:=sz) (by_:=by_) (zr:=zr) (x:=y) (h.trans hK.va)
 have hlm:=fun (look:cA) (sz by_:Nat) (zr:Option (List V)) (y:Tx) (h:look a.im=hp.get a.im)=>aAE ms (sz:=sz) (by_:=by_) (zr:=zr) (x:=y) (h.trans hK.me)
 have hel:(evL vs ms x.args).length=x.args.length:=by rw[qF];simp
 refine i9 Tryz.func123 rfl (by kernel_rfl) rfl (fun _=>rfl) ?_
 rw[aJg]
 rcases aAC hf with q|q|q|q|q
 ·simp only[evK,q]
  refine cT (j8 @aN @aO @rV.eq_1 @aD @aE @aB @q @aS) ?_
  exact ⟨.inr rfl,rfl,_,rfl,rfl⟩
 ·simp only[evK,q]
  refine cT (u7 @aN @aO @rV.eq_1 @aD @aE @aB @q @aS @zt3 @nv @vT) ?_
  exact ⟨.inr rfl,rfl,_,rfl,rfl⟩
 ·simp only[evK,q]
  refine cT (o9 @aN @aO @rV.eq_1 @aD @aE @aB @q @aS @zt3 @kD @nx @nm @hlm) ?_
  exact ⟨.inr rfl,rfl,_,rfl,rfl⟩
 ·have yO:=aNz x.o (evL vs ms x.args) (by rw[hel];have:=gV x.args;unfold MX;omega)
  simp only[dI,dL] at yO
  simp only[evK,q]
  refine cT (u7 @aN @aO @rV.eq_1 @aD @aE @aB @aA @q @aS @hr @yO) ?_
  exact ⟨.inr rfl,rfl,_,rfl,rfl⟩
 ·have h3:=aUF hf q
  simp only[evK,q]
  generalize evL vs ms x.args=L at*
  rw[h3] at hel
  obtain ⟨v0,v1,v2,rfl⟩:∃ v0 v1 v2,L=[v0,v1,v2]:=by
   match L,hel with
   | [a,b,c],_=>exact ⟨a,b,c,rfl⟩
  simp only[bQ,List.map_cons,List.map_nil] at hr
  simp only[List.getD_cons_zero,List.getD_cons_succ]
  have i0:jR 0 3=some 0:=rfl
  have i1:jR 1 3=some 1:=rfl
  have i2:jR 2 3=some 2:=rfl
  by_cases q0:v0=1
  ·simp only[q0] at hr
   rw[q0]
   refine cT (qJ @aN @aO @rV.eq_1 @aD @aE @aB @aA @q @aS @hr @i0 @i1) ?_
   exact ⟨.inr rfl,rfl,_,rfl,rfl⟩
  ·have q0':=eq_false q0
   rw[if_neg q0]
   refine cT (o9 @aN @aO @rV.eq_1 @aD @aE @aB @aA @q @aS @hr @i0 @i2 @q0') ?_
   exact ⟨.inr rfl,rfl,_,rfl,rfl⟩
end
end Go.Ac
end
section
set_option maxRecDepth 4000
namespace Go.Ac
open Go.Proofs
inductive Trn where
 | mk (c:Cl) (ms:List (Tx×Int)) (sb:List Trn)
def Trn.c:Trn→Cl|.mk c _ _=>c
def Trn.ms:Trn→List (Tx×Int)|.mk _ m _=>m
def Trn.sb:Trn→List Trn|.mk _ _ s=>s
def mI (l:List Mm):List (Tx×Int):=l.map fun d=>(d.nm,d.ini)
mutual
def Trn.init:Trn→Trn
 | .mk c ms sb=> .mk c (puts ms (mI c.mems)) (hJ sb)
def hJ:List Trn→List Trn
 | []=>[]
 | t::r=>t.init::hJ r
end
mutual
def Trn.ht:Trn→Nat
 | .mk _ _ sb=>htL sb+1
def htL:List Trn→Nat
 | []=>0
 | t::r=>max t.ht (htL r)
end
structure Es where
 vs:List (Tx×Int)
 ms:List (Tx×Int)
 sb:List Trn
def mU (c:Cl) (nm:Tx):Nat:=c.ins.findIdx fun d=>decide (d.nm=nm)
mutual
def exY (c:Cl) (F:Trn→List Int→Trn×List Int):Y→Es→Es
 | .mk k nm _ r outs args brs,s=>
  if k=1 then { s with vs:=jY s.vs nm (uO s.vs s.ms r) }
  else if k=2 then { s with ms:=jY s.ms nm (uO s.vs s.ms r) }
  else if k=3 then exN c F brs (gz s.vs nm).toNat s
  else if k=4 then (match s.sb[mU c nm]? with
   | some t=>{ s with vs:=puts s.vs (outs.zip (F t (evL s.vs s.ms args)).2),sb:=s.sb.set (mU c nm) (F t (evL s.vs s.ms args)).1 }
   | none=>s)
  else match s.sb[mU c nm]? with
   | some t=>{ s with sb:=s.sb.set (mU c nm) t.init }
   | none=>s
def vN (c:Cl) (F:Trn→List Int→Trn×List Int):List Y→Es→Es
 | [],s=>s
 | y::r,s=>vN c F r (exY c F y s)
def exN (c:Cl) (F:Trn→List Int→Trn×List Int):List (List Y)→Nat→Es→Es
 | [],_,s=>s
 | b::_,0,s=>vN c F b s
 | _::r,n+1,s=>exN c F r n s
end
def fC:Nat→Trn→List Int→Trn×List Int
 | 0,t,_=>(t,[])
 | n+1,.mk c ms sb,ins=>
  (.mk c (vN c (fC n) c.step ⟨puts [] ((c.inn.map Dc.nm).zip ins),ms,sb⟩).ms (vN c (fC n) c.step ⟨puts [] ((c.inn.map Dc.nm).zip ins),ms,sb⟩).sb,
   c.out.map fun d=>gz (vN c (fC n) c.step ⟨puts [] ((c.inn.map Dc.nm).zip ins),ms,sb⟩).vs d.nm)
theorem aEd (c:Cl) (F:Trn→List Int→Trn×List Int) (y:Y) (s:Es):exY c F y s=
  if y.k=1 then { s with vs:=jY s.vs y.nm (uO s.vs s.ms y.r) }
  else if y.k=2 then { s with ms:=jY s.ms y.nm (uO s.vs s.ms y.r) }
  else if y.k=3 then exN c F y.brs (gz s.vs y.nm).toNat s
  else if y.k=4 then (match s.sb[mU c y.nm]? with
   | some t=>{ s with vs:=puts s.vs (y.outs.zip (F t (evL s.vs s.ms y.args)).2),sb:=s.sb.set (mU c y.nm) (F t (evL s.vs s.ms y.args)).1 }
   | none=>s)
  else match s.sb[mU c y.nm]? with
   | some t=>{ s with sb:=s.sb.set (mU c y.nm) t.init }
   | none=>s:=by cases y;rw[exY];rfl
theorem aBf (c:Cl) (F:Trn→List Int→Trn×List Int) (s:Es):∀ (l:List (List Y)) (n:Nat) (b:List Y),l[n]?=some b→exN c F l n s=vN c F b s
 | [],n,b,h=>by simp at h
 | d::r,0,b,h=>by simp at h;subst h;rw[exN]
 | d::r,n+1,b,h=>by rw[exN];exact aBf c F s r n b (by simpa using h)
theorem aFz (c:Cl) (F:Trn→List Int→Trn×List Int) (s:Es):∀ (l:List (List Y)) (n:Nat),l.length≤n→exN c F l n s=s
 | [],n,h=>by rw[exN]
 | d::r,0,h=>by simp at h
 | d::r,n+1,h=>by rw[exN];exact aFz c F s r n (by simpa using h)
theorem aJP (c:Cl) (F:Trn→List Int→Trn×List Int):∀ (a b:List Y) (s:Es),vN c F (a++b) s=vN c F b (vN c F a s)
 | [],b,s=>by rw[vN];rfl
 | y::r,b,s=>by rw[List.cons_append,vN,vN,aJP c F r b]
theorem aLS (l:List (Tx×Int)) (x y:Tx) (v:Int):gz (jY l x v) y=if y=x then v else gz l y:=by
 unfold gz;rw[aDd];split <;> rfl
def wtY (o:Oc) (c:Cl) (y:Y):Prop:=∃ cx bf,wG o c cx bf y=0
def wtL (o:Oc) (c:Cl) (l:List Y):Prop:=∀ y,y∈l→wtY o c y
theorem aIF (o:Oc) (c:Cl):∀ (l:List Y) (cx:List Pr) (bf:List Y),fU o c cx bf l=0→wtL o c l
 | [],_,_,_=>fun y h=>by cases h
 | x::r,cx,bf,h=>by
  rw[fU] at h
  split at h
  ·rename_i hn;exact absurd h hn
  ·rename_i hn
   intro y hy
   rcases List.mem_cons.1 hy with rfl|hy
   ·exact ⟨cx,bf,Decidable.not_not.1 hn⟩
   ·exact aIF o c r cx _ h y hy
theorem aLZ (o:Oc) (c:Cl) (cx:List Pr) (bf:List Y) (nm:Tx):∀ (l:List (List Y)) (k:Nat),uY o c cx bf nm k l=0→∀ b,b∈l→wtL o c b
 | [],_,_=>fun y h=>by cases h
 | x::r,k,h=>by
  rw[uY] at h
  split at h
  ·rename_i hn;exact absurd h hn
  ·rename_i hn
   intro y hy
   rcases List.mem_cons.1 hy with rfl|hy
   ·exact aIF o c _ _ _ (Decidable.not_not.1 hn)
   ·exact aLZ o c cx bf nm r (k+1) h y hy
def wtX (o:Oc) (c:Cl) (x:X) (t:Int):Prop:=bS x=true∧∃ bf cx,eZ ⟨o,c,bf,cx⟩ x=(t,0)
theorem aJh {o:Oc} {c:Cl} {bf:List Y} {cx:List Pr} {x:X} (h:(eF ⟨o,c,bf,cx⟩ x).2=0):wtX o c x (eF ⟨o,c,bf,cx⟩ x).1:=by
 unfold eF at h ⊢
 split
 ·rename_i hf
  rw[if_pos hf] at h
  exact ⟨hf,bf,cx,by rw[←h]⟩
 ·rename_i hf;rw[if_neg hf] at h;simp at h
def tyV (en:List En) (c:Cl) (vs:List (Tx×Int)):Prop:=∀ nm,dF c nm≠0→gB en (dF c nm) (gz vs nm)=true
def tyM (en:List En) (c:Cl) (ms:List (Tx×Int)):Prop:=ms.map Prod.fst=c.mems.map Mm.nm∧∀ nm,eO c.mems nm≠0→gB en (eO c.mems nm) (gz ms nm)=true
theorem aLc (en:List En) (b:Bool):gB en 1 (trE b)=true:=by cases b <;> simp[gB,fG,trE]
theorem aJb (n:Int):inW (wr n)=true:=by have:=pY n;simp[inW];omega
theorem aOe (o a b:Int):inW (tY o a b)=true:=by
 unfold tY
 repeat' split
 all_goals try exact aJb _
 ·unfold aJl;split
  ·simp[inW]
  ·exact aJb _
 ·unfold aIG;split
  ·exact aJb _
  ·have:=aFW a b;simp[inW];omega
theorem aPY {en:List En} {o t:Int} {ts vs:List Int} (h:jM o ts=(t,0)) (hl:vs.length=ts.length) (hv:∀ (i:Nat) (u v:Int),ts[i]?=some u→vs[i]?=some v→gB en u v=true):gB en t (lI o vs).1=true:=by
 have hz:∀ t,t=1∨t=2→gB en t 0=true:=by intro t ht;rcases ht with rfl|rfl <;> simp[gB,fG,inW]
 have ht:t=if qS o then 2 else 1:=by
  unfold jM at h
  repeat' split at h
  all_goals simp at h
  ·rename_i ha;rw[if_pos ha];exact h.symm
  ·rename_i ha;rw[if_neg ha];exact h.symm
 have ht2:t=1∨t=2:=by rw[ht];split <;> simp
 unfold lI
 split
 ·exact hz t ht2
 split
 ·exact hz t ht2
 split
 ·exact hz t ht2
 split
 ·rename_i hg
  have:qS o=true:=by
   unfold fP at hg
   repeat' split at hg
   all_goals simp_all
  rw[ht,if_pos this]
  simpa [gB] using aOe _ _ _
 ·rename_i hg0 _ _ hg
  have hb:qT o=true→qS o=false:=fun hb=>by
   unfold qT qS at *;simp at hb ⊢;omega
  have:qS o=false:=by
   cases ha:qS o with
   | false=>rfl
   | true=>
    exfalso
    have h0:eT o≠0:=fun h0=>hg0 (by unfold fP;rw[if_pos h0])
    have hbo:¬ qT o=true:=fun hbo=>by rw[hb hbo] at ha;cases ha
    exact hg (by unfold fP;rw[if_neg h0,if_neg hbo,if_pos ha])
  rw[ht,this]
  exact aLc en _
theorem aDx (w:Pl):∀ {l:List X} {ts:List Int},gA w l=(ts,0)→l.length=ts.length∧∀ (i:Nat) (x:X) (t:Int),l[i]?=some x→ts[i]?=some t→eZ w x=(t,0)
 | [],ts,h=>by
  rw[gA] at h
  simp at h;subst h
  exact ⟨rfl,fun i x t h=>by simp at h⟩
 | x::r,ts,h=>by
  rw[gA] at h
  split at h
  ·rename_i hn;simp at h;exact absurd h.2 hn
  ·rename_i h1
   split at h
   ·rename_i hn;simp at h;exact absurd h.2 hn
   ·rename_i h2
    simp only[Prod.mk.injEq,and_true] at h
    have ih:=aDx w (l:=r) (ts:=(gA w r).1) (by rw[←Decidable.not_not.1 h2])
    subst h
    refine ⟨by simp[ih.1],fun i y t hy ht=>?_⟩
    cases i with
    | zero=>simp at hy ht;subst hy;subst ht;exact Prod.ext rfl (Decidable.not_not.1 h1)
    | succ i=>exact ih.2 i y t (by simpa using hy) (by simpa using ht)
theorem aSA {o:Oc} {c:Cl} {vs ms:List (Tx×Int)} (hV:tyV o.en c vs) (hM:tyM o.en c ms) (bf:List Y) (cx:List Pr):∀ (N:Nat) (x:X) (t:Int),x.sz<N→bS x=true→eZ ⟨o,c,bf,cx⟩ x=(t,0)→gB o.en t (uO vs ms x)=true:=by
 intro N
 induction N with
 | zero=>intro x t h;omega
 | succ N ih=>
 intro x t hN hf hk
 obtain ⟨hf1,hf2,hf3⟩:=aAz hf
 have hs0:=X.sz_eq x
 rw[uA] at hk
 split at hk
 ·rename_i hn;simp at hk;exact absurd hk.2 hn
 rename_i hn
 have hks:gA ⟨o,c,bf,cx⟩ x.args=((gA ⟨o,c,bf,cx⟩ x.args).1,0):=by rw[←Decidable.not_not.1 hn]
 obtain ⟨hl,i6⟩:=aDx _ hks
 generalize (gA ⟨o,c,bf,cx⟩ x.args).1=ts at*
 have aFo:∀ (i:Nat) (u v:Int),ts[i]?=some u→(evL vs ms x.args)[i]?=some v→gB o.en u v=true:=by
  intro i u v hu hv
  rw[qF,List.getElem?_map] at hv
  cases hx:x.args[i]? with
  | none=>rw[hx] at hv;simp at hv
  | some y=>
   rw[hx] at hv
   simp at hv;subst hv
   have hm:=List.mem_of_getElem? hx
   exact ih y u (by have:=dZ hm;omega) (List.all_eq_true.1 hf1 y hm) (i6 i y u hx hu)
 have hel:(evL vs ms x.args).length=ts.length:=by rw[qF];simp[hl]
 rw[aJg]
 unfold gY at hk
 unfold evK
 by_cases k1:x.k=1
 ·rw[if_pos k1] at hk ⊢
  split at hk
  ·rename_i h;simp at hk;rw[←hk];exact h
  ·simp at hk
 rw[if_neg k1] at hk ⊢
 by_cases k2:x.k=2
 ·rw[if_pos k2] at hk ⊢
  split at hk
  ·simp at hk
  ·rename_i h
   split at hk
   ·simp at hk;rw[←hk];exact hV _ h
   ·simp at hk
 rw[if_neg k2] at hk ⊢
 by_cases k3:x.k=12
 ·rw[if_pos k3] at hk ⊢
  split at hk
  ·simp at hk
  ·rename_i h
   simp at hk;rw[←hk];exact hM.2 _ h
 rw[if_neg k3] at hk ⊢
 by_cases k4:x.k=3
 ·rw[if_pos k4] at hk
  rw[if_neg (by omega)]
  exact aPY hk hel aFo
 rw[if_neg k4] at hk
 split at hk
 ·simp at hk
 rename_i hcd
 simp only[Prod.mk.injEq,and_true] at hk
 have k5:x.k=4:=by
  rcases aAC hf with h|h|h|h|h <;> first|exact absurd h k1|exact absurd h k2|exact absurd h k3|exact absurd h k4|exact h
 rw[if_pos k5]
 have h3:x.args.length=3:=by
  rw[bX] at hf
  simp only[cH,k5] at hf
  split at hf
  ·cases hf
  ·rename_i n hn
   simp at hn hf
   have h1:=hf.1
   rw[←hn.2] at h1
   omega
 have jP:ts.length=3:=by omega
 obtain ⟨t0,t1,t2,rfl⟩:∃ t0 t1 t2,ts=[t0,t1,t2]:=by
  match ts,jP with
  | [a,b,c],_=>exact ⟨a,b,c,rfl⟩
 generalize hL:evL vs ms x.args=L at*
 obtain ⟨v0,v1,v2,rfl⟩:∃ v0 v1 v2,L=[v0,v1,v2]:=by
  match L,hel with
  | [a,b,c],_=>exact ⟨a,b,c,rfl⟩
 simp only[List.getD_cons_zero,List.getD_cons_succ] at hcd hk ⊢
 have e12:t1=t2:=Decidable.not_not.1 fun h=>hcd (.inr h)
 split
 ·rw[←hk];exact aFo 1 t1 v1 rfl rfl
 ·rw[←hk];exact aFo 2 t1 v2 (by rw[e12];rfl) rfl
theorem wtX.ty {o:Oc} {c:Cl} {vs ms:List (Tx×Int)} (hV:tyV o.en c vs) (hM:tyM o.en c ms) {x:X} {t:Int} (h:wtX o c x t):gB o.en t (uO vs ms x)=true:=by
 obtain ⟨hf,bf,cx,hk⟩:=h
 exact aSA hV hM bf cx _ x t (Nat.lt_succ_self _) hf hk
end Go.Ac
end
section
set_option maxRecDepth 4000
namespace Go.Ac
open Go.Proofs
attribute [local simp] Hp.get_set cY cE cN bW
theorem aWQ (r:Nat):Ob.keep 78 r=Ob.k78 r:=by kernel_rfl
theorem aXq (r:Nat):Ob.keep 67 r=Ob.k67 r:=by kernel_rfl
theorem aUU (r:Nat):Ob.keep 108 r=Ob.k108 r:=by kernel_rfl
theorem aWU (r:Nat):Ob.keep 68 r=Ob.k68 r:=by kernel_rfl
theorem aXl (r:Nat):Ob.keep 79 r=Ob.k79 r:=by kernel_rfl
theorem aWI (r:Nat):Ob.keep 34 r=Ob.k34 r:=by kernel_rfl
attribute [local simp] aWQ Ob.k78 aXq Ob.k67 aUU Ob.k108 aWU Ob.k68 aXl Ob.k79 aWI Ob.k34
theorem aMv {i1 g1:Nat} {p:Cl→Bool} (l:List (Cl)) (hl:l.length≤MX) (hp:Hp) (n:Nat) (hq:∀ v,v∈l→∀ bB c,Ag n hp bB→eK Tryz.prog Ob.cfg 108 [aG v.cells,.ptr i1 g1 0] bB n c (.bool (p v))) (c:Nat):
  eK Tryz.prog Ob.cfg 78 [dL (gJ l),.fn 108 [.ptr i1 g1 0]] hp n c (.int .i64 (ixP p l)):=by
 unfold MX at hl
 refine fV Tryz.func78 rfl (by kernel_rfl) rfl ?_
 refine pS (j4 @aN @aO @aA @nK) ?_
 apply WP.loop' (I:=fun d s=>∃ i:Nat,i+d=l.length∧(l.take i).all (fun v=> !p v)=true∧SQ [(0,dL (gJ l)),(1,.fn 108 [.ptr i1 g1 0]),(7,dI l.length),(8,dI i)] hp n n s) (d:=l.length)
 ·exact ⟨0,by simp,by simp,_,_,Ag.refl n hp,bK (by simp[dL,dI]) rfl⟩
 rintro d _ ⟨i,hii,cF,bB,c1,dW,rfl⟩
 refine pS (jn @aB @aA) ?_
 show WP _ _ _ _ _ _
 refine WP.cond _ rfl (fun hb=>?_) (fun hb=>?_)
 ·simp at hb
  have bP:i<l.length:=hb
  obtain ⟨v,hv,hvm,bV⟩:=bM bP
  have zO:=lH hv
  have hw:=bE bP (by omega)
  have jP:=bZ (p:=fun v=> !p v) hv
  obtain ⟨h5,h6,h4⟩:=eK.fn (fun c=>hq v hvm bB c dW)
  simp only[aG,dL,dI,Cl.cells,List.map_cons,List.map_nil] at h4
  refine pS (j6 @bV @zO @aA @aB @aK @h4) ?_
  show WP _ _ _ _ _ _
  refine WP.cond _ rfl (fun hb=>?_) (fun hb=>?_)
  ·refine pS True.intro ?_
   rw[kZ cF hv hb]
   exact ⟨.inr rfl,rfl,_,rfl,rfl⟩
  ·refine pS True.intro ?_
   refine aY (by simp[hw];exact Is.rfl) ?_
   exact ⟨d - 1,by omega,i+1,by omega,by rw[jP,cF];simpa using hb,_,_,dW.trunc,bK (by simp[dI,dL,hw]) rfl⟩
 ·simp at hb
  have wB:i=l.length:=by omega
  subst wB
  rw[List.take_length] at cF
  refine pS True.intro ?_
  rw[kU cF]
  exact ⟨.inr rfl,rfl,_,rfl,rfl⟩
theorem aLO {i1 g1:Nat} {p:Cl→Bool} (l:List (Cl)) (hl:l.length≤MX) (hp:Hp) (n:Nat) (hq:∀ v,v∈l→∀ bB c,Ag n hp bB→eK Tryz.prog Ob.cfg 68 [aG v.cells,.ptr i1 g1 0] bB n c (.bool (p v))) (c:Nat):
  eK Tryz.prog Ob.cfg 78 [dL (gJ l),.fn 68 [.ptr i1 g1 0]] hp n c (.int .i64 (ixP p l)):=by
 unfold MX at hl
 refine fV Tryz.func78 rfl (by kernel_rfl) rfl ?_
 refine pS (j4 @aN @aO @aA @nK) ?_
 apply WP.loop' (I:=fun d s=>∃ i:Nat,i+d=l.length∧(l.take i).all (fun v=> !p v)=true∧SQ [(0,dL (gJ l)),(1,.fn 68 [.ptr i1 g1 0]),(7,dI l.length),(8,dI i)] hp n n s) (d:=l.length)
 ·exact ⟨0,by simp,by simp,_,_,Ag.refl n hp,bK (by simp[dL,dI]) rfl⟩
 rintro d _ ⟨i,hii,cF,bB,c1,dW,rfl⟩
 refine pS (jn @aB @aA) ?_
 show WP _ _ _ _ _ _
 refine WP.cond _ rfl (fun hb=>?_) (fun hb=>?_)
 ·simp at hb
  have bP:i<l.length:=hb
  obtain ⟨v,hv,hvm,bV⟩:=bM bP
  have zO:=lH hv
  have hw:=bE bP (by omega)
  have jP:=bZ (p:=fun v=> !p v) hv
  obtain ⟨h5,h6,h4⟩:=eK.fn (fun c=>hq v hvm bB c dW)
  simp only[aG,dL,dI,Cl.cells,List.map_cons,List.map_nil] at h4
  refine pS (j6 @bV @zO @aA @aB @aK @h4) ?_
  show WP _ _ _ _ _ _
  refine WP.cond _ rfl (fun hb=>?_) (fun hb=>?_)
  ·refine pS True.intro ?_
   rw[kZ cF hv hb]
   exact ⟨.inr rfl,rfl,_,rfl,rfl⟩
  ·refine pS True.intro ?_
   refine aY (by simp[hw];exact Is.rfl) ?_
   exact ⟨d - 1,by omega,i+1,by omega,by rw[jP,cF];simpa using hb,_,_,dW.trunc,bK (by simp[dI,dL,hw]) rfl⟩
 ·simp at hb
  have wB:i=l.length:=by omega
  subst wB
  rw[List.take_length] at cF
  refine pS True.intro ?_
  rw[kU cF]
  exact ⟨.inr rfl,rfl,_,rfl,rfl⟩
theorem aJm {i1 g1:Nat} {p:Cl→Bool} (l:List (Cl)) (hl:l.length≤MX) (hp:Hp) (n:Nat) (hq:∀ v,v∈l→∀ bB c,Ag n hp bB→eK Tryz.prog Ob.cfg 68 [aG v.cells,.ptr i1 g1 0] bB n c (.bool (p v))) (c:Nat):
  eK Tryz.prog Ob.cfg 67 [dL (gJ l),.fn 68 [.ptr i1 g1 0]] hp n c (.bool (l.any p)):=by
 obtain ⟨h5,h6,h4⟩:=eK.fn (fun c=>aLO (p:=p) l hl hp n hq c)
 simp only[dL] at h4
 rw[←xZ]
 refine fV Tryz.func67 rfl (by kernel_rfl) rfl ?_
 refine pS (j4 @aN @aO @aA @h4) ?_
 exact ⟨.inr rfl,rfl,_,rfl,rfl⟩
theorem aLR {i1 g1:Nat} {p:Cl→Bool} (l:List (Cl)) (hl:l.length≤MX) (hp:Hp) (n:Nat) (hq:∀ v,v∈l→∀ bB c,Ag n hp bB→eK Tryz.prog Ob.cfg 79 [aG v.cells,.ptr i1 g1 0] bB n c (.bool (p v))) (c:Nat):
  eK Tryz.prog Ob.cfg 78 [dL (gJ l),.fn 79 [.ptr i1 g1 0]] hp n c (.int .i64 (ixP p l)):=by
 unfold MX at hl
 refine fV Tryz.func78 rfl (by kernel_rfl) rfl ?_
 refine pS (j4 @aN @aO @aA @nK) ?_
 apply WP.loop' (I:=fun d s=>∃ i:Nat,i+d=l.length∧(l.take i).all (fun v=> !p v)=true∧SQ [(0,dL (gJ l)),(1,.fn 79 [.ptr i1 g1 0]),(7,dI l.length),(8,dI i)] hp n n s) (d:=l.length)
 ·exact ⟨0,by simp,by simp,_,_,Ag.refl n hp,bK (by simp[dL,dI]) rfl⟩
 rintro d _ ⟨i,hii,cF,bB,c1,dW,rfl⟩
 refine pS (jn @aB @aA) ?_
 show WP _ _ _ _ _ _
 refine WP.cond _ rfl (fun hb=>?_) (fun hb=>?_)
 ·simp at hb
  have bP:i<l.length:=hb
  obtain ⟨v,hv,hvm,bV⟩:=bM bP
  have zO:=lH hv
  have hw:=bE bP (by omega)
  have jP:=bZ (p:=fun v=> !p v) hv
  obtain ⟨h5,h6,h4⟩:=eK.fn (fun c=>hq v hvm bB c dW)
  simp only[aG,dL,dI,Cl.cells,List.map_cons,List.map_nil] at h4
  refine pS (j6 @bV @zO @aA @aB @aK @h4) ?_
  show WP _ _ _ _ _ _
  refine WP.cond _ rfl (fun hb=>?_) (fun hb=>?_)
  ·refine pS True.intro ?_
   rw[kZ cF hv hb]
   exact ⟨.inr rfl,rfl,_,rfl,rfl⟩
  ·refine pS True.intro ?_
   refine aY (by simp[hw];exact Is.rfl) ?_
   exact ⟨d - 1,by omega,i+1,by omega,by rw[jP,cF];simpa using hb,_,_,dW.trunc,bK (by simp[dI,dL,hw]) rfl⟩
 ·simp at hb
  have wB:i=l.length:=by omega
  subst wB
  rw[List.take_length] at cF
  refine pS True.intro ?_
  rw[kU cF]
  exact ⟨.inr rfl,rfl,_,rfl,rfl⟩
theorem aOB {nm:Tx} {w:V} {i1 g1:Nat} (d:Cl) (hp:Hp) (n c:Nat) (h1:hp.get i1=some ⟨g1,false,[w,dS nm]⟩) (l1:i1<n):eK Tryz.prog Ob.cfg 108 [aG d.cells,.ptr i1 g1 0] hp n c (.bool (decide (d.nm=nm))):=by
 have ne:=nf l1
 simp only[dS] at h1
 refine fV Tryz.func108 rfl (by kernel_rfl) rfl ?_
 refine pS (j7 @aN @aO @aD @aK @ne @h1 @bF) ?_
 exact ⟨.inr rfl,rfl,_,rfl,rfl⟩
theorem aOl {ic gc iv gv ip gp im gm ii gi:Nat} {o:Oc} {ea:List Cl} {c:Cl} {lv lm:List (Tx×Int)} {lp:List (Tx×Bool)} {li:List (Tx×Cl)} {i1 g1:Nat} (d:Cl) (hp:Hp) (n cc:Nat) (hK:KG ic gc iv gv ip gp im gm ii gi o ea c lv lp lm li hp n) (h1:hp.get i1=some ⟨g1,false,[.ptr ic gc 0]⟩) (l1:i1<n):
  eK Tryz.prog Ob.cfg 68 [aG d.cells,.ptr i1 g1 0] hp n cc (.bool (decide (d.nm=c.nm))):=by
 have ne:=nf l1
 have nc:=nf hK.lc
 have eH:=hK.co
 refine fV Tryz.func68 rfl (by kernel_rfl) rfl ?_
 refine pS (j9 @aN @aO @aD @aK @ne @nc @h1 @eH @bF) ?_
 exact ⟨.inr rfl,rfl,_,rfl,rfl⟩
theorem aRI {nm:Tx} {i1 g1:Nat} (d:Cl) (hp:Hp) (n c:Nat) (h1:hp.get i1=some ⟨g1,false,[dS nm]⟩) (l1:i1<n):eK Tryz.prog Ob.cfg 79 [aG d.cells,.ptr i1 g1 0] hp n c (.bool (decide (d.nm=nm))):=by
 have ne:=nf l1
 simp only[dS] at h1
 refine fV Tryz.func79 rfl (by kernel_rfl) rfl ?_
 refine pS (j7 @aN @aO @aD @aK @ne @h1 @bF) ?_
 exact ⟨.inr rfl,rfl,_,rfl,rfl⟩
theorem aJs (o:Oc) (nm:Tx) (hl:o.cl.length≤MX):eJ Tryz.prog Ob.cfg 34 [aG o.cells,dS nm]=some (dI (ixP (fun d:Cl=>decide (d.nm=nm)) o.cl)):=by
 obtain ⟨F,G,hF⟩:=fY (C:=fun bB n'=>bB.get 1=some ⟨1,false,[dS nm]⟩∧1<n') (P:=Tryz.prog) (cfg:=Ob.cfg) (f:=78) (vs:=[dL (gJ o.cl),.fn 79 [.ptr 1 1 0]]) (v:= .d (.int .i64 (ixP (fun d:Cl=>decide (d.nm=nm)) o.cl)))
  (fun bB n' c' hC=>aLR (p:=fun d=>decide (d.nm=nm)) o.cl hl bB n' (fun v hv aRU c'' dW=>aRI v aRU n' c'' ((dW 1 hC.2).trans hC.1) hC.2) c')
 have hF':=hF [(0,⟨0,false,[V.d (D.slice (f9 o.en)),V.d (D.slice (gJ o.cl))]⟩),(1,⟨1,false,[V.d (D.str nm)]⟩)] 2 2 ⟨by simp[dS],by simp⟩
 simp only[dL,dS] at hF'
 refine bI Tryz.func34 rfl (by kernel_rfl) rfl rfl ?_
 refine cT (j5 @aD @aJ @aA @aM @hF') ?_
 show a8 _ _ _ _ _
 exact ⟨.inr rfl,_,_,rfl,rfl⟩
end Go.Ac
end
