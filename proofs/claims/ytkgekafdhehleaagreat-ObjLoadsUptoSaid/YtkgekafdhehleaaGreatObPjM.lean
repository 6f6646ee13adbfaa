/- Expressions, targets and stores, the program's. -/
import Derived.Test.YtkgekafdhehleaaGreatObPfM
set_option linter.unusedVariables false
set_option linter.unusedSimpArgs false
section
set_option maxRecDepth 4000
namespace Go.Ac
open Go.Proofs
theorem aQL (n:Nat):n+1+1=n+2:=rfl
theorem aQi (n:Nat):n+1+2=n+3:=rfl
theorem aRf (n:Nat):n+1+3=n+4:=rfl
theorem aRl (n:Nat):n+2+1=n+3:=rfl
theorem aRo (n:Nat):n+2+2=n+4:=rfl
theorem aQT (n:Nat):n+2+3=n+5:=rfl
theorem aQv (n:Nat):n+3+1=n+4:=rfl
theorem aQb (n:Nat):n+3+2=n+5:=rfl
theorem aRE (n:Nat):n+3+3=n+6:=rfl
theorem aQy (n:Nat):n+4+1=n+5:=rfl
theorem aQl (n:Nat):n+4+2=n+6:=rfl
theorem aRu (n:Nat):n+4+3=n+7:=rfl
theorem aRz (n:Nat):n+5+1=n+6:=rfl
theorem aQu (n:Nat):n+5+2=n+7:=rfl
theorem aQt (n:Nat):n+5+3=n+8:=rfl
theorem aQA (n:Nat):n+6+1=n+7:=rfl
theorem aQQ (n:Nat):n+6+2=n+8:=rfl
theorem aRH (n:Nat):n+6+3=n+9:=rfl
theorem aQP (n:Nat):n+7+1=n+8:=rfl
theorem aQz (n:Nat):n+7+2=n+9:=rfl
theorem aQE (n:Nat):n+7+3=n+10:=rfl
theorem aRs (n:Nat):n+8+1=n+9:=rfl
theorem aQN (n:Nat):n+8+2=n+10:=rfl
theorem aQY (n:Nat):n+8+3=n+11:=rfl
theorem aQM (n:Nat):n+9+1=n+10:=rfl
theorem aPU (n:Nat):n+9+2=n+11:=rfl
theorem aRb (n:Nat):n+9+3=n+12:=rfl
theorem aQR (n:Nat):(n+1<n)=False:=eq_false (by omega)
theorem aRn (n:Nat):(n+2<n)=False:=eq_false (by omega)
theorem aPZ (n:Nat):(n+3<n)=False:=eq_false (by omega)
theorem aQJ (n:Nat):(n+4<n)=False:=eq_false (by omega)
theorem aQZ (n:Nat):(n+5<n)=False:=eq_false (by omega)
theorem aRq (n:Nat):(n+6<n)=False:=eq_false (by omega)
theorem aRD (n:Nat):(n+7<n)=False:=eq_false (by omega)
theorem aRg (n:Nat):(n+8<n)=False:=eq_false (by omega)
theorem aRB (n:Nat):(n+9<n)=False:=eq_false (by omega)
attribute [simp] aQL aQi aRf aRl aRo aQT aQv aQb aRE aQy aQl aRu aRz aQu aQt aQA aQQ aRH aQP aQz aQE aRs aQN aQY aQM aPU aRb aQR aRn aPZ aQJ aQZ aRq aRD aRg aRB
def eS {α:Type} (l:List (Tx×α)) (x:Tx):Option α:=(l.find? (fun p=>decide (p.1=x))).map (·.2)
def fW {α:Type} (e:α→V) (l:List (Tx×α)):V:= .mpc (l.map fun p=> .str p.1) (l.map fun p=>e p.2) (List.range l.length) l.length
theorem aAr {α:Type} (x:Tx):∀ (l:List (Tx×α)) (j:Nat),vI (.str x) (l.map fun p=>D.str p.1) j=some ((l.findIdx? (fun p=>decide (p.1=x))).map (j+·))
 | [],j=>rfl
 | p::r,j=>by
  have ih:=aAr x r (j+1)
  simp only[List.map_cons,vI,aFe,List.findIdx?_cons]
  by_cases h:p.1=x
  ·have:(x==p.1)=true:=by simp[h]
   rw[this,if_pos (by simp[h])];rfl
  ·have:(x==p.1)=false:=by simp;exact fun e=>h e.symm
   rw[this,if_neg (by simp[h])]
   simp only[ih,Option.map_map]
   congr 2
   funext i;simp;omega
theorem aAB {α:Type} (x:Tx):∀ (l:List (Tx×α)),(match l.findIdx? (fun p=>decide (p.1=x)) with|some i=>(l[i]?).map (·.2)|none=>none)=eS l x
 | []=>rfl
 | p::r=>by
  have ih:=aAB x r
  unfold eS at*
  simp only[List.findIdx?_cons,List.find?_cons]
  by_cases h:p.1=x
  ·simp[h]
  ·simp only[h,decide_false,if_false,Bool.false_eq_true]
   rw[←ih]
   cases List.findIdx? (fun p=>decide (p.1=x)) r with
   | none=>rfl
   | some i=>simp
theorem iO {α:Type} (e:α→V) (l:List (Tx×α)) {id g:Nat} {ro ok:Bool} {z:V} {sz by_:Nat} {zr:Option (List V)} {look:cA} {x:Tx} (h:look id=some ⟨g,ro,[fW e l]⟩):
  gU look ⟨.str,sz,by_,zr⟩ (some z) (.mp id g) (.d (.str x)) ok=some ⟨eM ok (match eS l x with|some v=>e v|none=>z) (eS l x).isSome,[],[id],0,0,false⟩:=by
 unfold gU
 have hl:live look id g=some ⟨g,ro,[fW e l]⟩:=by unfold live;rw[h];simp
 simp only[nY,hl,fW,aAr]
 rw[←aAB]
 cases hf:List.findIdx? (fun p=>decide (p.1=x)) l with
 | none=>rfl
 | some i=>
  have hi:i<l.length:=(List.findIdx?_eq_some_iff_getElem.1 hf).1
  simp only[Option.map_some,Nat.zero_add,List.getElem?_map,List.getElem?_eq_getElem hi,Option.map_some]
  rfl
theorem zt3:yP Tryz.prog 3=some (.d (.int .i64 0)):=by kernel_rfl
theorem zt4:yP Tryz.prog 4=some (.d (.bool false)):=by kernel_rfl
theorem kM:yP Tryz.prog 36=some (.agg [.d (.str []),.full [],.full [],.full [],.full [],.full [],.full []]):=by kernel_rfl
theorem fY {P:Program} {cfg:Cfg} {f:FuncId} {vs:List V} {v:V} {C:Hp→Nat→Prop} (h:∀ hp n c,C hp n→jL P cfg f vs hp n c v):
  ∃ (F:Hp→Nat→Nat→Hp) (G:Hp→Nat→Nat→Nat),∀ hp n c,C hp n→nV P cfg f vs hp n c=some ⟨v,F hp n c,n,G hp n c,[]⟩:=by
 classical
 refine ⟨fun hp n c=>if hc:C hp n then Classical.choose (h hp n c hc) else [],fun hp n c=>if hc:C hp n then Classical.choose (Classical.choose_spec (h hp n c hc)) else 0,fun hp n c hc=>?_⟩
 simp only[dif_pos hc]
 exact Classical.choose_spec (Classical.choose_spec (h hp n c hc))
theorem cY {n k:Nat} {hp bB:Hp} {o:Ob} (h:n≤k):Ag n hp (bB.set k o)=Ag n hp bB:=by
 refine propext ⟨fun a id hi=>?_,fun a id hi=>?_⟩
 ·have:=a id hi;rwa [Hp.get_set_ne _ _ _ _ (by omega)] at this
 ·rw[Hp.get_set_ne _ _ _ _ (by omega)];exact a id hi
theorem cN {n k:Nat} {hp bB:Hp} (h:n≤k):Ag n hp (Hp.trunc k bB)=Ag n hp bB:=by
 refine propext ⟨fun a id hi=>?_,fun a id hi=>?_⟩
 ·have:=a id hi;rwa [Hp.get_trunc _ _ _ (by omega)] at this
 ·rw[Hp.get_trunc _ _ _ (by omega)];exact a id hi
theorem bW {k id:Nat} {hp:Hp} (h:id<k):(Hp.trunc k hp).get id=hp.get id:=Hp.get_trunc _ _ _ h
theorem cE (n:Nat) (hp:Hp):Ag n hp hp=True:=eq_true (Ag.refl n hp)
theorem Hp.get_set (h:Hp) (k t:Nat) (o:Ob):(Hp.set h k o).get t=if k=t then some o else h.get t:=by
 split
 ·rename_i hk;subst hk;exact Hp.get_set_self ..
 ·rename_i hk;exact Hp.get_set_ne _ _ _ _ hk
theorem nf {n id:Nat} (h:id<n):(n=id)=False∧(n+1=id)=False∧(n+2=id)=False∧(n+3=id)=False∧(n+4=id)=False∧(n+5=id)=False∧(n+6=id)=False∧(n+7=id)=False:=by
 refine ⟨?_,?_,?_,?_,?_,?_,?_,?_⟩ <;> exact eq_false (by omega)
structure KAt (ic gc iv gv ip gp im gm ii gi:Nat) (o:Oc) (ea:List Cl) (c:Cl) (hp:Hp) (n:Nat):Prop where
 co:hp.get ic=some ⟨gc,false,[V.d (.slice (f9 o.en)),V.d (.slice (gJ ea)),V.d (.str c.nm),V.d (.slice (cM c.inn)),V.d (.slice (cM c.out)),V.d (.slice (cM c.loc)),V.d (.slice (lF c.mems)),V.d (.slice (lV c.ins)),V.d (.slice (dM c.step)),.mp iv gv,.mp ip gp,.mp im gm,.mp ii gi]⟩
 vars:∃ l,hp.get iv=some ⟨gv,false,[fW (fun t:Int=>V.d (.int .i64 t)) l]⟩∧∀ x,eS l x=if dF c x=0 then none else some (dF c x)
 ports:∃ l,hp.get ip=some ⟨gp,false,[fW (fun b:Bool=>V.d (.bool b)) l]⟩∧∀ x,eS l x=if kN c x=0 then none else some true
 mems:∃ l,hp.get im=some ⟨gm,false,[fW (fun t:Int=>V.d (.int .i64 t)) l]⟩∧∀ x,eS l x=if eO c.mems x=0 then none else some (eO c.mems x)
 ins:∃ l,hp.get ii=some ⟨gi,false,[fW (fun k:Cl=>aG k.cells) l]⟩∧∀ x,eS l x=if (fD c.ins o.cl x).2=true then some (fD c.ins o.cl x).1 else none
 lc:ic<n
 lv:iv<n
 lp:ip<n
 lm:im<n
 li:ii<n
theorem KAt.ag {ic gc iv gv ip gp im gm ii gi:Nat} {o:Oc} {ea:List Cl} {c:Cl} {hp bB:Hp} {n n':Nat} (h:KAt ic gc iv gv ip gp im gm ii gi o ea c hp n) (ha:Ag n hp bB) (hn:n≤n'):KAt ic gc iv gv ip gp im gm ii gi o ea c bB n':=by
 obtain ⟨h1,h2,h3,h4,h5,l1,l2,l3,l4,l5⟩:=h
 rw[←ha _ l1] at h1
 rw[←ha _ l2] at h2
 rw[←ha _ l3] at h3
 rw[←ha _ l4] at h4
 rw[←ha _ l5] at h5
 exact ⟨h1,h2,h3,h4,h5,by omega,by omega,by omega,by omega,by omega⟩
def QK (ic gc iv gv ip gp im gm ii gi:Nat) (o:Oc) (ea:List Cl) (c:Cl) (f:FuncId) (vs:List V) (v:V):Prop:=∀ hp n cc,KAt ic gc iv gv ip gp im gm ii gi o ea c hp n→jL Tryz.prog Ob.cfg f vs hp n cc v
section
variable {ic gc iv gv ip gp im gm ii gi:Nat} {o:Oc} {ea:List Cl} {c:Cl} {hp:Hp} {n:Nat}
theorem QK.fn {f:FuncId} {vs:List V} {v:V} (h:QK ic gc iv gv ip gp im gm ii gi o ea c f vs v) (hK:KAt ic gc iv gv ip gp im gm ii gi o ea c hp n):
  ∃ (F:Hp→Nat→Nat→Hp) (G:Hp→Nat→Nat→Nat),∀ bB n' cc,Ag n hp bB→n≤n'→nV Tryz.prog Ob.cfg f vs bB n' cc=some ⟨v,F bB n' cc,n',G bB n' cc,[]⟩:=by
 obtain ⟨F,G,h1⟩:=fY (C:=fun bB n'=>Ag n hp bB∧n≤n') (P:=Tryz.prog) (cfg:=Ob.cfg) (f:=f) (vs:=vs) (v:=v) (fun bB n' cc ha=>h bB n' cc (hK.ag ha.1 ha.2))
 exact ⟨F,G,fun bB n' cc a b=>h1 bB n' cc ⟨a,b⟩⟩
theorem KAt.look_vars (hK:KAt ic gc iv gv ip gp im gm ii gi o ea c hp n) {look:cA} {sz by_:Nat} {zr:Option (List V)} {x:Tx} (h:look iv=hp.get iv):
  gU look ⟨.str,sz,by_,zr⟩ (some (.d (.int .i64 0))) (.mp iv gv) (.d (.str x)) true=some ⟨.tuple [.d (.int .i64 (dF c x)),.d (.bool (decide (dF c x≠0)))],[],[iv],0,0,false⟩:=by
 obtain ⟨l,h1,h2⟩:=hK.vars
 rw[iO _ l (h.trans h1),h2]
 by_cases q:dF c x=0
 ·simp[q,eM]
 ·simp[q,eM]
theorem KAt.look_vars1 (hK:KAt ic gc iv gv ip gp im gm ii gi o ea c hp n) {look:cA} {sz by_:Nat} {zr:Option (List V)} {x:Tx} (h:look iv=hp.get iv):
  gU look ⟨.str,sz,by_,zr⟩ (some (.d (.int .i64 0))) (.mp iv gv) (.d (.str x)) false=some ⟨.d (.int .i64 (dF c x)),[],[iv],0,0,false⟩:=by
 obtain ⟨l,h1,h2⟩:=hK.vars
 rw[iO _ l (h.trans h1),h2]
 by_cases q:dF c x=0
 ·simp[q,eM]
 ·simp[q,eM]
theorem KAt.look_ports (hK:KAt ic gc iv gv ip gp im gm ii gi o ea c hp n) {look:cA} {sz by_:Nat} {zr:Option (List V)} {x:Tx} (h:look ip=hp.get ip):
  gU look ⟨.str,sz,by_,zr⟩ (some (.d (.bool false))) (.mp ip gp) (.d (.str x)) false=some ⟨.d (.bool (decide (kN c x≠0))),[],[ip],0,0,false⟩:=by
 obtain ⟨l,h1,h2⟩:=hK.ports
 rw[iO _ l (h.trans h1),h2]
 by_cases q:kN c x=0
 ·simp[q,eM]
 ·simp[q,eM]
theorem KAt.look_mems (hK:KAt ic gc iv gv ip gp im gm ii gi o ea c hp n) {look:cA} {sz by_:Nat} {zr:Option (List V)} {x:Tx} (h:look im=hp.get im):
  gU look ⟨.str,sz,by_,zr⟩ (some (.d (.int .i64 0))) (.mp im gm) (.d (.str x)) true=some ⟨.tuple [.d (.int .i64 (eO c.mems x)),.d (.bool (decide (eO c.mems x≠0)))],[],[im],0,0,false⟩:=by
 obtain ⟨l,h1,h2⟩:=hK.mems
 rw[iO _ l (h.trans h1),h2]
 by_cases q:eO c.mems x=0
 ·simp[q,eM]
 ·simp[q,eM]
def aBD (k:Cl×Bool):V:=match k with|(d,true)=>aG d.cells|(_,false)=> .agg [.d (.str []),.full [],.full [],.full [],.full [],.full [],.full []]
theorem KAt.look_ins (hK:KAt ic gc iv gv ip gp im gm ii gi o ea c hp n) {look:cA} {sz by_:Nat} {zr:Option (List V)} {x:Tx} (h:look ii=hp.get ii):
  gU look ⟨.str,sz,by_,zr⟩ (some (.agg [.d (.str []),.full [],.full [],.full [],.full [],.full [],.full []])) (.mp ii gi) (.d (.str x)) true=some ⟨.tuple [aBD (fD c.ins o.cl x),.d (.bool (fD c.ins o.cl x).2)],[],[ii],0,0,false⟩:=by
 obtain ⟨l,h1,h2⟩:=hK.ins
 rw[iO _ l (h.trans h1),h2]
 cases q:fD c.ins o.cl x with
 | mk d b=>cases b <;> simp[q,eM,aBD]
structure KW (o:Oc) (c:Cl):Prop where
 inn:∀ x,c.inn.any (fun d=>decide (d.nm=x))=decide (fI c.inn x≠0)
 set:∀ x,kN c x≠0→dF c x=kN c x
 i64:∀ x,vB (dF c x)
 linn:c.inn.length≤MX
end
theorem aTq (r:Nat):Ob.keep 190 r=Ob.k190 r:=by kernel_rfl
theorem aUT (r:Nat):Ob.keep 171 r=Ob.k171 r:=by kernel_rfl
attribute [local simp] aTq Ob.k190 aUT Ob.k171
theorem aMZ {i1 g1:Nat} {p:Dc→Bool} (l:List (Dc)) (hl:l.length≤MX) (hp:Hp) (n:Nat) (hq:∀ v,v∈l→∀ bB c,Ag n hp bB→eK Tryz.prog Ob.cfg 172 [aG v.cells,.ptr i1 g1 0] bB n c (.bool (p v))) (c:Nat):
  eK Tryz.prog Ob.cfg 190 [dL (cM l),.fn 172 [.ptr i1 g1 0]] hp n c (.int .i64 (ixP p l)):=by
 unfold MX at hl
 refine fV Tryz.func190 rfl (by kernel_rfl) rfl ?_
 refine pS (j4 @aN @aO @aA @bT) ?_
 apply WP.loop' (I:=fun d s=>∃ i:Nat,i+d=l.length∧(l.take i).all (fun v=> !p v)=true∧SQ [(0,dL (cM l)),(1,.fn 172 [.ptr i1 g1 0]),(7,dI l.length),(8,dI i)] hp n n s) (d:=l.length)
 ·exact ⟨0,by simp,by simp,_,_,Ag.refl n hp,bK (by simp[dL,dI]) rfl⟩
 rintro d _ ⟨i,hii,cF,bB,c1,dW,rfl⟩
 refine pS (jn @aB @aA) ?_
 show WP _ _ _ _ _ _
 refine WP.cond _ rfl (fun hb=>?_) (fun hb=>?_)
 ·simp at hb
  have bP:i<l.length:=hb
  obtain ⟨v,hv,hvm,bV⟩:=bM bP
  have zO:=eD hv
  have hw:=bE bP (by omega)
  have jP:=bZ (p:=fun v=> !p v) hv
  obtain ⟨h5,h6,h4⟩:=eK.fn (fun c=>hq v hvm bB c dW)
  simp only[aG,dL,dI,Dc.cells,List.map_cons,List.map_nil] at h4
  refine pS (j6 @bV @zO @aA @aB @aR @h4) ?_
  show WP _ _ _ _ _ _
  refine WP.cond _ rfl (fun hb=>?_) (fun hb=>?_)
  ·refine pS True.intro ?_
   rw[kZ cF hv hb]
   exact ⟨.inr rfl,rfl,_,rfl,rfl⟩
  ·refine pS True.intro ?_
   refine aY (by simp[hw];exact Is.rfl) ?_
   exact ⟨d - 1,by omega,i+1,by omega,by rw[jP,cF];simpa using hb,_,_,dW.trunc,bK (by simp[dI,dL,hw]) rfl⟩
 ·simp at hb
  have wB:i=l.length:=by omega
  subst wB
  rw[List.take_length] at cF
  refine pS True.intro ?_
  rw[kU cF]
  exact ⟨.inr rfl,rfl,_,rfl,rfl⟩
theorem aGJ {i1 g1:Nat} {p:Dc→Bool} (l:List (Dc)) (hl:l.length≤MX) (hp:Hp) (n:Nat) (hq:∀ v,v∈l→∀ bB c,Ag n hp bB→eK Tryz.prog Ob.cfg 172 [aG v.cells,.ptr i1 g1 0] bB n c (.bool (p v))) (c:Nat):
  eK Tryz.prog Ob.cfg 171 [dL (cM l),.fn 172 [.ptr i1 g1 0]] hp n c (.bool (l.any p)):=by
 obtain ⟨h5,h6,h4⟩:=eK.fn (fun c=>aMZ (p:=p) l hl hp n hq c)
 simp only[dL] at h4
 rw[←xZ]
 refine fV Tryz.func171 rfl (by kernel_rfl) rfl ?_
 refine pS (j4 @aN @aO @aA @h4) ?_
 exact ⟨.inr rfl,rfl,_,rfl,rfl⟩
theorem aTJ (r:Nat):Ob.keep 172 r=Ob.k172 r:=by kernel_rfl
theorem aVf (r:Nat):Ob.keep 151 r=Ob.k151 r:=by kernel_rfl
attribute [local simp] aTJ Ob.k172 aVf Ob.k151
theorem aNm {nm:Tx} {i1 g1:Nat} (d:Dc) (hp:Hp) (n c:Nat) (h1:hp.get i1=some ⟨g1,false,[dS nm]⟩) (l1:i1<n):eK Tryz.prog Ob.cfg 172 [aG d.cells,.ptr i1 g1 0] hp n c (.bool (decide (d.nm=nm))):=by
 have ne:=nf l1
 simp only[dS] at h1
 refine fV Tryz.func172 rfl (by kernel_rfl) rfl ?_
 refine pS (j8 @aN @aO @aD @aR @Hp.get_set @ne @h1 @bF) ?_
 exact ⟨.inr rfl,rfl,_,rfl,rfl⟩
section
variable {ic gc iv gv ip gp im gm ii gi:Nat} {o:Oc} {ea:List Cl} {c:Cl}
set_option maxHeartbeats 1000000 in
theorem aHJ (hW:KW o c) (nm:Tx) (cx:List Pr) (bl:List (List Y)) (hl:bl.length≤MX) (hnb:nbB bl=true) (hb:cx.length+iG bl.flatten≤8388608):
  QK ic gc iv gv ip gp im gm ii gi o ea c 151 [.ptr ic gc 0,dS nm,pP cx bl] (dI (if mG ⟨o,c,bl.flatten,cx⟩ nm then 0 else 22)):=by
 intro hp n cc hK
 have eH:=hK.co
 have nc:=nf hK.lc
 have ha:=zE nm false cx bl hl hnb hb
 obtain ⟨F,G,hF⟩:=fY (C:=fun bB n'=>bB.get n=some ⟨cc,false,[dS nm]⟩∧n<n') (P:=Tryz.prog) (cfg:=Ob.cfg) (f:=171) (vs:=[dL (cM c.inn),.fn 172 [.ptr n cc 0]]) (v:= .d (.bool (c.inn.any fun d=>decide (d.nm=nm))))
  (fun bB n' c' hC=>aGJ (p:=fun d=>decide (d.nm=nm)) c.inn hW.linn bB n' (fun v hv aRU c'' dW=>aNm v aRU n' c'' ((dW n hC.2).trans hC.1) hC.2) c')
 have hF':=fun bB n' c' a b=>hF bB n' c' ⟨a,b⟩
 simp only[dL,dS,dB,pP,hW.inn] at ha hF'
 refine i9 Tryz.func151 rfl (by kernel_rfl) rfl (fun _=>rfl) ?_
 unfold mG
 by_cases q:fI c.inn nm=0
 ·rw[show decide (fI c.inn nm≠0)=false by simp[q],Bool.false_or]
  simp only[q,ne_eq,not_true_eq_false,decide_false] at hF'
  cases hs:vQ nm true cx bl.flatten with
  | true=>
   rw[show vQ nm (!false) cx bl.flatten=true from hs] at ha
   refine cT (oR @aN @aO @aA @aM @pP.eq_1 @Hp.get_set @nc @eH @hF' @ha) ?_
   exact ⟨.inr rfl,rfl,_,rfl,rfl⟩
  | false=>
   rw[show vQ nm (!false) cx bl.flatten=false from hs] at ha
   refine cT (oR @aN @aO @aA @aM @pP.eq_1 @Hp.get_set @nc @eH @hF' @ha) ?_
   exact ⟨.inr rfl,rfl,_,rfl,rfl⟩
 ·rw[show decide (fI c.inn nm≠0)=true by simp[q],Bool.true_or]
  simp only[q,ne_eq,not_false_eq_true,decide_true] at hF'
  refine cT (oR @aN @aO @aA @aM @pP.eq_1 @Hp.get_set @nc @eH @hF' @ha) ?_
  exact ⟨.inr rfl,rfl,_,rfl,rfl⟩
end
end Go.Ac
end
section
set_option maxRecDepth 4000
namespace Go.Ac
open Go.Proofs
attribute [local simp] Hp.get_set cY cE cN bW
def qB (w:Pl) (x:X):Int:=if x.k=2 then dF w.c x.nm else (eZ w x).1
theorem aDv {x:X} (hf:bS x=true) (q:x.k=2):x.args=[]:=by
 rw[bX] at hf
 simp only[cH,q] at hf
 split at hf
 ·cases hf
 ·rename_i n hn
  simp at hn hf
  have:n=0:=hn.2.symm
  have h1:=hf.1
  rw[this] at h1
  simpa using h1
theorem aHc {w:Pl} {x:X} (hf:bS x=true) (h:(eZ w x).2=0):qB w x=(eZ w x).1:=by
 unfold qB
 split
 ·rename_i q
  rw[uA] at h ⊢
  have ha:=aDv hf q
  rw[ha] at h ⊢
  simp only[gA,gY,q] at h ⊢
  simp at h ⊢
  split
  ·rename_i hz;simp[hz]
  ·rename_i hz
   simp only[hz,if_false] at h
   split at h
   ·simp[*]
   ·simp at h
 ·rfl
theorem aTF (r:Nat):Ob.keep 174 r=Ob.k174 r:=by kernel_rfl
attribute [local simp] aTF Ob.k174
section
variable {ic gc iv gv ip gp im gm ii gi:Nat} {o:Oc} {ea:List Cl} {c:Cl}
structure BOK (cx:List Pr) (bl:List (List Y)):Prop where
 len:bl.length≤MX
 nb:nbB bl=true
 sz:cx.length+iG bl.flatten≤8388608
set_option maxHeartbeats 4000000 in
theorem aMI (hW:KW o c) (cx:List Pr) (bl:List (List Y)) (hB:BOK cx bl):∀ (N:Nat) (x:X),x.sz<N→bS x=true→x.ok→
  QK ic gc iv gv ip gp im gm ii gi o ea c 174 [.ptr ic gc 0,aG x.cells,pP cx bl] (.tuple [dI (qB ⟨o,c,bl.flatten,cx⟩ x),dI (eZ ⟨o,c,bl.flatten,cx⟩ x).2]):=by
 intro N
 induction N with
 | zero=>intro x h;omega
 | succ N ih=>
 intro x hN hf cC hp n cc hK
 obtain ⟨hf1,hf2,hf3⟩:=aAz hf
 obtain ⟨jI,n8⟩:=X.ok_eq cC
 have hs0:=X.sz_eq x
 refine i9 Tryz.func174 rfl (by kernel_rfl) rfl (fun _=>rfl) ?_
 generalize hw:(⟨o,c,bl.flatten,cx⟩:Pl)=w at*
 refine cT (j6 @aN @aO @aD @pP.eq_1 @aE @aA) ?_
 apply WP.loop' (I:=fun D s=>∃ j g:Nat,j+D=x.args.length∧(x.args.take j).all (okK w)=true∧∃ (c':Nat) (L:List Int) (bB:Hp),L=(x.args.take j).map (fun y=>(eZ w y).1)∧Ag n hp bB∧
  bB.get n=some ⟨cc,false,x.cells.map .d⟩∧bB.get (n+1)=some ⟨cc+1,false,[V.d (.slice (iJ cx)),V.d (.slice (iL bl))]⟩∧bB.get (n+2)=some ⟨g,false,fl (bQ L)⟩∧
  s=⟨[(0,.ptr ic gc 0),(4,.ptr n cc 0),(5,.ptr (n+1) (cc+1) 0),(8,.osl (n+2) g 0 j 1 none),(18,dL (gC x.args)),(19,dI x.args.length),(20,dI j)],bB,n+3,c',n,[]⟩) (d:=x.args.length)
 ·refine ⟨0,cc+1+1,by simp,by simp,_,[],_,by simp,?_,?_,?_,?_,bK (by simp[dI,dL]) rfl⟩
  ·simp[cY,cE]
  ·simp[Hp.get_set,aE]
  ·simp[Hp.get_set]
  ·simp[Hp.get_set,fl,bQ]
 rintro D _ ⟨j,g,hj,cF,c',L,bB,hL,dW,lS,aAR,aAS,rfl⟩
 have hKp:=hK.ag dW (Nat.le_refl n)
 have eH:=hKp.co
 have nc:=nf hK.lc
 have dN:=eq_true dW
 rw[aE] at lS
 simp only[List.map_cons,List.map_nil] at lS
 refine pS (jn @aB @aA) ?_
 show WP _ _ _ _ _ _
 refine WP.cond _ rfl (fun hb=>?_) (fun hb=>?_)
 ·simp at hb
  have bP:j<x.args.length:=by omega
  obtain ⟨d,hd,d8,bV⟩:=bM bP
  have cG:=i8 hd
  have c9:=bE bP (by omega)
  have hs:=bZ (p:=okK w) hd
  obtain ⟨F,G,hr⟩:=(ih d (by have:=dZ d8;omega) (List.all_eq_true.1 hf1 d d8) ((u9 _).1 n8 d d8)).fn hK
  simp only[aG,pP,aE,List.map_cons,List.map_nil,dI] at hr
  by_cases hz:(eZ w d).2=0
  ·rw[hz,aHc (List.all_eq_true.1 hf1 d d8) hz] at hr
   have y6:=bL hd
   have nT:L.length=j:=by rw[hL];simp;omega
   have hLs:(x.args.take (j+1)).map (fun y=>(eZ w y).1)=L++[(eZ w d).1]:=by rw[y6,hL];simp
   have r2:=cR (b7 L)
   have r3:=cI (b7 L)
   have r4:=dT (bQ L) [.int .i64 (eZ w d).1]
   have r5:=g7 L (eZ w d).1
   have f5:bU (j+1) 8=true:=by simp[bU];omega
   rw[r5] at r4
   rw[aZ,nT,Nat.mul_one] at r2 r3
   simp only[List.map_cons,List.map_nil] at r4
   refine cT (j26 @aB @aA @aE @bV @cG @hr @aH @aI @aP @aQ @iE.eq_def @bG @b8 @bH @f5 @r2 @r3 @r4 @Hp.get_set @lS @aAR @aAS @nc @eH @cY @dN) ?_
   refine aY (by simp[c9];exact Is.rfl) ?_
   exact ⟨D - 1,by omega,j+1,_,by omega,by rw[hs,cF];simp[okK,hz],_,_,_,hLs.symm,by simp[dW],by simp[lS,aE],by simp[aAR],by simp;rfl,bK (by simp[dI,dL,c9]) rfl⟩
  ·have mK:=eq_false hz
   have hkk:eZ w x=(0,(eZ w d).2):=by rw[uA,zF w cF hd hz,if_pos hz]
   have hkt:x.k≠2:=fun q=>by
    have:=aDv hf q
    rw[this] at bP;simp at bP
   rw[show qB w x=0 by unfold qB;rw[if_neg hkt,hkk],hkk]
   refine cT (vM @aB @aA @aE @lS @aAR @aAS @nc @eH @dN @bV @cG @hr @mK @aV) ?_
   exact ⟨.inr rfl,rfl,_,rfl,rfl⟩
 ·simp at hb
  have eE:j=x.args.length:=by omega
  rw[eE,List.take_length] at cF
  have hks:=aBv w cF
  have hkk:eZ w x=gY w x.k x.o x.t x.v x.nm (x.args.map (fun y=>(eZ w y).1)):=by rw[uA,hks,if_neg (by simp)]
  have hx:(x.args.take x.args.length).map (fun y=>(eZ w y).1)=x.args.map (fun y=>(eZ w y).1):=by rw[List.take_length]
  rw[eE,hx] at hL
  rw[←hL] at hkk
  rw[hkk]
  have nT:L.length=x.args.length:=by rw[hL];simp
  subst eE
  clear hL hx hks
  have hwo:w.o=o:=by rw[←hw]
  have hwc:w.c=c:=by rw[←hw]
  rcases aAC hf with q|q|q|q|q
  ·have hh:=aKC o.en x.t x.v jI
   simp only[dL,dI,dB] at hh
   rw[show qB w x=(gY w x.k x.o x.t x.v x.nm L).1 by unfold qB;rw[if_neg (by omega),hkk]]
   cases hz:gB o.en x.t x.v with
   | true=>
    rw[hz] at hh
    simp only[gY,q,hwo,hz]
    refine cT (u7 @aB @aA @aE @lS @aAR @aAS @nc @eH @dN @q @hh) ?_
    exact ⟨.inr rfl,rfl,_,rfl,rfl⟩
   | false=>
    rw[hz] at hh
    simp only[gY,q,hwo,hz]
    refine cT (u7 @aB @aA @aE @lS @aAR @aAS @nc @eH @dN @q @hh) ?_
    exact ⟨.inr rfl,rfl,_,rfl,rfl⟩
  ·have yF:=fun (look:cA) (sz by_:Nat) (zr:Option (List V)) (y:Tx) (h:look iv=bB.get iv)=>hKp.look_vars (look:=look) (sz:=sz) (by_:=by_) (zr:=zr) (x:=y) h
   have nv:=nf hK.lv
   obtain ⟨F,G,hr⟩:=(aHJ (ic:=ic) (gc:=gc) (iv:=iv) (gv:=gv) (ip:=ip) (gp:=gp) (im:=im) (gm:=gm) (ii:=ii) (gi:=gi) (ea:=ea) hW x.nm cx bl hB.len hB.nb hB.sz).fn hK
   rw[hw] at hr
   simp only[dS,pP,dI] at hr
   rw[show qB w x=dF c x.nm by unfold qB;rw[if_pos q,hwc]]
   by_cases hz:dF c x.nm=0
   ·simp only[gY,q,hwc,hz]
    refine cT (nB @aB @aA @aE @lS @aAR @aAS @nc @eH @dN @q @zt3 @eM.eq_1 @eM.eq_2 @nv @yF @hz) ?_
    exact ⟨.inr rfl,rfl,_,rfl,rfl⟩
   have mK:=eq_false hz
   cases hy:mG w x.nm with
   | true=>
    rw[hy] at hr
    simp only[gY,q,hwc,mK,hy]
    refine cT (sG @aB @aA @aE @lS @aAR @aAS @nc @eH @dN @q @zt3 @eM.eq_1 @eM.eq_2 @nv @yF @mK @hr) ?_
    exact ⟨.inr rfl,rfl,_,rfl,rfl⟩
   | false=>
    rw[hy] at hr
    simp only[gY,q,hwc,mK,hy]
    refine cT (sG @aB @aA @aE @lS @aAR @aAS @nc @eH @dN @q @zt3 @eM.eq_1 @eM.eq_2 @nv @yF @mK @hr) ?_
    exact ⟨.inr rfl,rfl,_,rfl,rfl⟩
  ·have yF:=fun (look:cA) (sz by_:Nat) (zr:Option (List V)) (y:Tx) (h:look im=bB.get im)=>hKp.look_mems (look:=look) (sz:=sz) (by_:=by_) (zr:=zr) (x:=y) h
   have nv:=nf hK.lm
   rw[show qB w x=(gY w x.k x.o x.t x.v x.nm L).1 by unfold qB;rw[if_neg (by omega),hkk]]
   by_cases hz:eO c.mems x.nm=0
   ·simp only[gY,q,hwc,hz]
    refine cT (nB @aB @aA @aE @lS @aAR @aAS @nc @eH @dN @q @zt3 @eM.eq_1 @eM.eq_2 @nv @yF @hz) ?_
    exact ⟨.inr rfl,rfl,_,rfl,rfl⟩
   have mK:=eq_false hz
   simp only[gY,q,hwc,mK]
   refine cT (nB @aB @aA @aE @lS @aAR @aAS @nc @eH @dN @q @zt3 @eM.eq_1 @eM.eq_2 @nv @yF @mK) ?_
   exact ⟨.inr rfl,rfl,_,rfl,rfl⟩
  ·have hg:=aQj x.o L
   have r2:=cR (b7 L)
   have r3:=cI (b7 L)
   have r4:=eN (b7 L)
   rw[aZ,Nat.mul_one] at r2 r3
   rw[aZ] at r4
   rw[nT] at r2 r3 r4
   simp only[dL,dI] at hg
   rw[show qB w x=(gY w x.k x.o x.t x.v x.nm L).1 by unfold qB;rw[if_neg (by omega),hkk]]
   simp only[gY,q]
   refine cT (j21 @aB @aA @aE @lS @aAR @aAS @nc @eH @dN @q @hg @aP @aQ @iE.eq_def @bG @b8 @cJ @r2 @r3 @r4 @bH) ?_
   exact ⟨.inr rfl,rfl,_,rfl,rfl⟩
  ·rw[show qB w x=(gY w x.k x.o x.t x.v x.nm L).1 by unfold qB;rw[if_neg (by omega),hkk]]
   rw[hf2 q] at nT ⊢
   obtain ⟨a,b,d,rfl⟩:∃ a b d,L=[a,b,d]:=by
    match L,nT with
    | [a,b,d],_=>exact ⟨a,b,d,rfl⟩
   have e:fl (bQ [a,b,d])=[.d (.int .i64 a),.d (.int .i64 b),.d (.int .i64 d)]:=rfl
   rw[e] at aAS
   by_cases c1:a=1
   case neg=>
    have c1':=eq_false c1
    simp only[gY,q]
    rw[show (if ([a,b,d].getD 0 0≠1∨[a,b,d].getD 1 0≠[a,b,d].getD 2 0) then ((0:Int),(10:Int)) else ([a,b,d].getD 1 0,0))=(0,10) by simp[c1]]
    refine cT (o9 @aB @aA @aE @lS @aAR @aAS @nc @eH @dN @q @c1' @aV @jR.eq_def) ?_
    exact ⟨.inr rfl,rfl,_,rfl,rfl⟩
   by_cases c2:b=d
   case neg=>
    have c2':=eq_false c2
    simp only[gY,q]
    rw[show (if ([a,b,d].getD 0 0≠1∨[a,b,d].getD 1 0≠[a,b,d].getD 2 0) then ((0:Int),(10:Int)) else ([a,b,d].getD 1 0,0))=(0,10) by simp[c2]]
    refine cT (vM @aB @aA @aE @lS @aAR @aAS @nc @eH @dN @q @c1 @c2' @aV @jR.eq_def) ?_
    exact ⟨.inr rfl,rfl,_,rfl,rfl⟩
   simp only[gY,q]
   rw[show (if ([a,b,d].getD 0 0≠1∨[a,b,d].getD 1 0≠[a,b,d].getD 2 0) then ((0:Int),(10:Int)) else ([a,b,d].getD 1 0,0))=(b,0) by simp[c1,c2]]
   subst c1 c2
   refine cT (qJ @aB @aA @aE @lS @aAR @aAS @nc @eH @dN @q @aV @jR.eq_def) ?_
   exact ⟨.inr rfl,rfl,_,rfl,rfl⟩
end
end Go.Ac
end
section
set_option maxRecDepth 4000
namespace Go.Ac
open Go.Proofs
attribute [local simp] Hp.get_set cY cE cN bW
theorem aVG (r:Nat):Ob.keep 153 r=Ob.k153 r:=by kernel_rfl
theorem aTK (r:Nat):Ob.keep 154 r=Ob.k154 r:=by kernel_rfl
theorem aUy (r:Nat):Ob.keep 136 r=Ob.k136 r:=by kernel_rfl
attribute [local simp] aVG Ob.k153 aTK Ob.k154 aUy Ob.k136
def aKA (w:Pl) (x:X):Int:=if bS x then qB w x else 0
theorem aHx {w:Pl} {x:X} (h:(eF w x).2=0):aKA w x=(eF w x).1:=by
 unfold aKA eF at*
 split
 ·rename_i hf
  rw[if_pos hf] at h
  exact aHc hf h
 ·rename_i hf
  rw[if_neg hf] at h
def aKG (w:Pl) (nm:Tx) (twice:Bool) (t:Int):Int:=if kN w.c nm=0 then 6 else if twice then 7 else jJ w nm t
def wW (w:Pl) (y:Y):Int:=if (eF w y.r).2≠0 then (eF w y.r).2 else if y.k=1 then jJ w y.nm (eF w y.r).1 else if eO w.c.mems y.nm=0 then 6 else if eO w.c.mems y.nm≠(eF w y.r).1 then 10 else 0
section
variable {ic gc iv gv ip gp im gm ii gi:Nat} {o:Oc} {ea:List Cl} {c:Cl}
set_option maxHeartbeats 1000000 in
theorem aKu (hW:KW o c) (cx:List Pr) (bl:List (List Y)) (hB:BOK cx bl) (x:X) (hx:x.sz≤MX) (cC:x.ok):
  QK ic gc iv gv ip gp im gm ii gi o ea c 153 [.ptr ic gc 0,aG x.cells,pP cx bl] (.tuple [dI (aKA ⟨o,c,bl.flatten,cx⟩ x),dI (eF ⟨o,c,bl.flatten,cx⟩ x).2]):=by
 intro hp n cc hK
 have ho:=aKY _ x (Nat.lt_succ_self _) hx
 simp only[aG,aE,List.map_cons,List.map_nil,dB] at ho
 refine i9 Tryz.func153 rfl (by kernel_rfl) rfl (fun _=>rfl) ?_
 unfold aKA eF
 cases hf:bS x with
 | false=>
  rw[hf] at ho
  refine cT (j7 @aN @aO @aD @pP.eq_1 @aE @aA @ho) ?_
  exact ⟨.inr rfl,rfl,_,rfl,rfl⟩
 | true=>
  rw[hf] at ho
  obtain ⟨F,G,hr⟩:=(aMI hW cx bl hB _ x (Nat.lt_succ_self _) hf cC).fn hK
  simp only[aG,pP,aE,List.map_cons,List.map_nil,dI] at hr
  simp only[if_true]
  refine cT (j8 @aN @aO @aD @pP.eq_1 @aE @aA @ho @hr) ?_
  exact ⟨.inr rfl,rfl,_,rfl,rfl⟩
set_option maxHeartbeats 1000000 in
theorem aEG (hW:KW o c) (cx:List Pr) (bl:List (List Y)) (hB:BOK cx bl) (nm:Tx) (tw:Bool) (t:Int):
  QK ic gc iv gv ip gp im gm ii gi o ea c 154 [.ptr ic gc 0,dS nm,pP cx bl,dB tw,dI t] (dI (aKG ⟨o,c,bl.flatten,cx⟩ nm tw t)):=by
 intro hp n cc hK
 have ha:=zE nm true cx bl hB.len hB.nb hB.sz
 have eH:=hK.co
 have nc:=nf hK.lc
 have np:=nf hK.lp
 have nv:=nf hK.lv
 have hlp:=fun (look:cA) (sz by_:Nat) (zr:Option (List V)) (y:Tx) (h:look ip=hp.get ip)=>hK.look_ports (look:=look) (sz:=sz) (by_:=by_) (zr:=zr) (x:=y) h
 have vT:=fun (look:cA) (sz by_:Nat) (zr:Option (List V)) (y:Tx) (h:look iv=hp.get iv)=>hK.look_vars1 (look:=look) (sz:=sz) (by_:=by_) (zr:=zr) (x:=y) h
 simp only[dL,dS,dB,pP,Bool.not_true] at ha
 refine i9 Tryz.func154 rfl (by kernel_rfl) rfl (fun _=>rfl) ?_
 unfold aKG jJ
 by_cases hz:kN c nm=0
 ·simp only[hz]
  refine cT (o9 @aN @aO @aM @aF @aB @pP.eq_1 @aA @eH @nc @np @hlp @zt4 @hz) ?_
  exact ⟨.inr rfl,rfl,_,rfl,rfl⟩
 have mK:=eq_false hz
 have hg:=hW.set nm hz
 cases tw with
 | true=>
  simp only[mK,if_true,if_false]
  refine cT (o9 @aN @aO @aM @aF @aB @pP.eq_1 @aA @eH @nc @np @hlp @zt4 @mK) ?_
  exact ⟨.inr rfl,rfl,_,rfl,rfl⟩
 | false=>
  cases has:vQ nm false cx bl.flatten with
  | true=>
   rw[has] at ha
   simp only[mK,if_true,if_false]
   refine cT (vM @aN @aO @aM @aF @aB @pP.eq_1 @aA @eH @nc @np @hlp @zt4 @mK @ha) ?_
   exact ⟨.inr rfl,rfl,_,rfl,rfl⟩
  | false=>
   rw[has] at ha
   by_cases ht:kN c nm=t
   ·have ht':=eq_true ht
    rw[if_neg hz,if_neg (by simp),if_neg hz,if_neg (by simp[has]),if_neg (by simp[ht])]
    refine cT (j20 @aN @aO @aM @aF @aB @pP.eq_1 @aA @eH @nc @np @nv @hlp @vT @zt4 @zt3 @mK @ha @hg @aV @ht') ?_
    exact ⟨.inr rfl,rfl,_,rfl,rfl⟩
   ·have ht':=eq_false ht
    simp only[mK,if_true,if_false,ne_eq,ht',not_false_eq_true,Bool.false_eq_true]
    refine cT (j20 @aN @aO @aM @aF @aB @pP.eq_1 @aA @eH @nc @np @nv @hlp @vT @zt4 @zt3 @mK @ha @hg @aV @ht') ?_
    exact ⟨.inr rfl,rfl,_,rfl,rfl⟩
set_option maxHeartbeats 2000000 in
theorem aNy (hW:KW o c) (cx:List Pr) (bl:List (List Y)) (hB:BOK cx bl) (y:Y) (hy:y.k=1∨y.k=2) (gK:y.sz≤MX) (cC:y.ok):
  QK ic gc iv gv ip gp im gm ii gi o ea c 136 [.ptr ic gc 0,aG y.cells,pP cx bl] (dI (wW ⟨o,c,bl.flatten,cx⟩ y)):=by
 intro hp n cc hK
 obtain ⟨hy1,hy2,hy3,hy4⟩:=Y.ok_eq cC
 rw[Y.sz_eq] at gK
 have eH:=hK.co
 have nc:=nf hK.lc
 have nm:=nf hK.lm
 have hlm:=fun (look:cA) (sz by_:Nat) (zr:Option (List V)) (y:Tx) (h:look im=hp.get im)=>hK.look_mems (look:=look) (sz:=sz) (by_:=by_) (zr:=zr) (x:=y) h
 obtain ⟨F,G,hr⟩:=(aKu hW cx bl hB y.r (by omega) hy2).fn hK
 simp only[aG,pP,aE,List.map_cons,List.map_nil,dI] at hr
 refine i9 Tryz.func136 rfl (by kernel_rfl) rfl (fun _=>rfl) ?_
 unfold wW
 by_cases he:(eF ⟨o,c,bl.flatten,cx⟩ y.r).2=0
 case neg=>
  have he':=eq_false he
  rw[if_pos he]
  refine cT (u7 @aN @aO @aB @pP.eq_1 @aD @aC @eH @nc @hr @aV @he') ?_
  exact ⟨.inr rfl,rfl,_,rfl,rfl⟩
 rw[if_neg (by simp[he])]
 rw[he,aHx he] at hr
 generalize (eF ⟨o,c,bl.flatten,cx⟩ y.r).1=t at hr ⊢
 rcases hy with q|q
 ·rw[if_pos q]
  obtain ⟨F',G',ht⟩:=(aEG hW cx bl hB y.nm false t).fn hK
  rw[show aKG ⟨o,c,bl.flatten,cx⟩ y.nm false t=jJ ⟨o,c,bl.flatten,cx⟩ y.nm t by unfold aKG jJ;split <;> simp[*]] at ht
  simp only[pP,dI,dS,dB] at ht
  refine cT (qJ @aN @aO @aB @pP.eq_1 @aD @aC @eH @nc @hr @aV @q @ht) ?_
  exact ⟨.inr rfl,rfl,_,rfl,rfl⟩
 rw[if_neg (by omega)]
 by_cases hz:eO c.mems y.nm=0
 ·simp only[hz]
  refine cT (vG @aN @aO @aB @pP.eq_1 @aD @aC @eH @nc @nm @hr @aV @q @hlm @zt3 @hz) ?_
  exact ⟨.inr rfl,rfl,_,rfl,rfl⟩
 have mK:=eq_false hz
 by_cases ht:eO c.mems y.nm=t
 ·have ht':=eq_true ht
  rw[if_neg hz,if_neg (by simp[ht])]
  refine cT (nB @aN @aO @aB @pP.eq_1 @aD @aC @eH @nc @nm @hr @aV @q @hlm @zt3 @mK @ht') ?_
  exact ⟨.inr rfl,rfl,_,rfl,rfl⟩
 ·have ht':=eq_false ht
  simp only[mK,if_false,ht',ne_eq,not_false_eq_true,if_true]
  refine cT (nB @aN @aO @aB @pP.eq_1 @aD @aC @eH @nc @nm @hr @aV @q @hlm @zt3 @mK @ht') ?_
  exact ⟨.inr rfl,rfl,_,rfl,rfl⟩
end
end Go.Ac
end
