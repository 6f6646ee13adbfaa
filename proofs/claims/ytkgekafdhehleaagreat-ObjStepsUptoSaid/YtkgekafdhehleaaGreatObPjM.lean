/- Expressions, targets and stores, the program's. -/
import Derived.Test.YtkgekafdhehleaaGreatObPfM
set_option linter.unusedVariables false
set_option linter.unusedSimpArgs false
section
set_option maxRecDepth 4000
namespace Go.Ac
open Go.Proofs
theorem aPp (n:Nat):n+1+1=n+2:=rfl
theorem aPh (n:Nat):n+1+2=n+3:=rfl
theorem aPI (n:Nat):n+1+3=n+4:=rfl
theorem aPA (n:Nat):n+2+1=n+3:=rfl
theorem aQH (n:Nat):n+2+2=n+4:=rfl
theorem aQk (n:Nat):n+2+3=n+5:=rfl
theorem aPX (n:Nat):n+3+1=n+4:=rfl
theorem aQi (n:Nat):n+3+2=n+5:=rfl
theorem aPx (n:Nat):n+3+3=n+6:=rfl
theorem aPH (n:Nat):n+4+1=n+5:=rfl
theorem aPO (n:Nat):n+4+2=n+6:=rfl
theorem aPN (n:Nat):n+4+3=n+7:=rfl
theorem aQb (n:Nat):n+5+1=n+6:=rfl
theorem aQJ (n:Nat):n+5+2=n+7:=rfl
theorem aPz (n:Nat):n+5+3=n+8:=rfl
theorem aQa (n:Nat):n+6+1=n+7:=rfl
theorem aQc (n:Nat):n+6+2=n+8:=rfl
theorem aPf (n:Nat):n+6+3=n+9:=rfl
theorem aPY (n:Nat):n+7+1=n+8:=rfl
theorem aQe (n:Nat):n+7+2=n+9:=rfl
theorem aQL (n:Nat):n+7+3=n+10:=rfl
theorem aPT (n:Nat):n+8+1=n+9:=rfl
theorem aPu (n:Nat):n+8+2=n+10:=rfl
theorem aQR (n:Nat):n+8+3=n+11:=rfl
theorem aQG (n:Nat):n+9+1=n+10:=rfl
theorem aPC (n:Nat):n+9+2=n+11:=rfl
theorem aPL (n:Nat):n+9+3=n+12:=rfl
theorem aQu (n:Nat):(n+1<n)=False:=eq_false (by omega)
theorem aQn (n:Nat):(n+2<n)=False:=eq_false (by omega)
theorem aPD (n:Nat):(n+3<n)=False:=eq_false (by omega)
theorem aQh (n:Nat):(n+4<n)=False:=eq_false (by omega)
theorem aPV (n:Nat):(n+5<n)=False:=eq_false (by omega)
theorem aQS (n:Nat):(n+6<n)=False:=eq_false (by omega)
theorem aPi (n:Nat):(n+7<n)=False:=eq_false (by omega)
theorem aQQ (n:Nat):(n+8<n)=False:=eq_false (by omega)
theorem aQM (n:Nat):(n+9<n)=False:=eq_false (by omega)
attribute [simp] aPp aPh aPI aPA aQH aQk aPX aQi aPx aPH aPO aPN aQb aQJ aPz aQa aQc aPf aPY aQe aQL aPT aPu aQR aQG aPC aPL aQu aQn aPD aQh aPV aQS aPi aQQ aQM
def eO {α:Type} (l:List (Tx×α)) (x:Tx):Option α:=(l.find? (fun p=>decide (p.1=x))).map (·.2)
def gF {α:Type} (e:α→V) (l:List (Tx×α)):V:= .mpc (l.map fun p=> .str p.1) (l.map fun p=>e p.2) (List.range l.length) l.length
theorem zU {α:Type} (x:Tx):∀ (l:List (Tx×α)) (j:Nat),uU (.str x) (l.map fun p=>D.str p.1) j=some ((l.findIdx? (fun p=>decide (p.1=x))).map (j+·))
 | [],j=>rfl
 | p::r,j=>by
  have ih:=zU x r (j+1)
  simp only[List.map_cons,uU,aEs,List.findIdx?_cons]
  by_cases h:p.1=x
  ·have:(x==p.1)=true:=by simp[h]
   rw[this,if_pos (by simp[h])];rfl
  ·have:(x==p.1)=false:=by simp;exact fun e=>h e.symm
   rw[this,if_neg (by simp[h])]
   simp only[ih,Option.map_map]
   congr 2
   funext i;simp;omega
theorem z9 {α:Type} (x:Tx):∀ (l:List (Tx×α)),(match l.findIdx? (fun p=>decide (p.1=x)) with|some i=>(l[i]?).map (·.2)|none=>none)=eO l x
 | []=>rfl
 | p::r=>by
  have ih:=z9 x r
  unfold eO at*
  simp only[List.findIdx?_cons,List.find?_cons]
  by_cases h:p.1=x
  ·simp[h]
  ·simp only[h,decide_false,if_false,Bool.false_eq_true]
   rw[←ih]
   cases List.findIdx? (fun p=>decide (p.1=x)) r with
   | none=>rfl
   | some i=>simp
theorem jP {α:Type} (e:α→V) (l:List (Tx×α)) {id g:Nat} {ro ok:Bool} {z:V} {sz by_:Nat} {zr:Option (List V)} {look:cA} {x:Tx} (h:look id=some ⟨g,ro,[gF e l]⟩):
  iH look ⟨.str,sz,by_,zr⟩ (some z) (.mp id g) (.d (.str x)) ok=some ⟨eG ok (match eO l x with|some v=>e v|none=>z) (eO l x).isSome,[],[id],0,0,false⟩:=by
 unfold iH
 have hl:live look id g=some ⟨g,ro,[gF e l]⟩:=by unfold live;rw[h];simp
 simp only[nF,hl,gF,zU]
 rw[←z9]
 cases hf:List.findIdx? (fun p=>decide (p.1=x)) l with
 | none=>rfl
 | some i=>
  have hi:i<l.length:=(List.findIdx?_eq_some_iff_getElem.1 hf).1
  simp only[Option.map_some,Nat.zero_add,List.getElem?_map,List.getElem?_eq_getElem hi,Option.map_some]
  rfl
theorem zt3:xS Tryz.prog 3=some (.d (.int .i64 0)):=by kernel_rfl
theorem zt4:xS Tryz.prog 4=some (.d (.bool false)):=by kernel_rfl
theorem jY:xS Tryz.prog 36=some (.agg [.d (.str []),.full [],.full [],.full [],.full [],.full [],.full []]):=by kernel_rfl
theorem gU {P:Program} {cfg:Cfg} {f:FuncId} {vs:List V} {v:V} {C:Hp→Nat→Prop} (h:∀ hp n c,C hp n→kV P cfg f vs hp n c v):
  ∃ (F:Hp→Nat→Nat→Hp) (G:Hp→Nat→Nat→Nat),∀ hp n c,C hp n→m9 P cfg f vs hp n c=some ⟨v,F hp n c,n,G hp n c,[]⟩:=by
 classical
 refine ⟨fun hp n c=>if hc:C hp n then Classical.choose (h hp n c hc) else [],fun hp n c=>if hc:C hp n then Classical.choose (Classical.choose_spec (h hp n c hc)) else 0,fun hp n c hc=>?_⟩
 simp only[dif_pos hc]
 exact Classical.choose_spec (Classical.choose_spec (h hp n c hc))
theorem dA {n k:Nat} {hp bD:Hp} {o:Ob} (h:n≤k):Ag n hp (bD.set k o)=Ag n hp bD:=by
 refine propext ⟨fun a id hi=>?_,fun a id hi=>?_⟩
 ·have:=a id hi;rwa [Hp.get_set_ne _ _ _ _ (by omega)] at this
 ·rw[Hp.get_set_ne _ _ _ _ (by omega)];exact a id hi
theorem cR {n k:Nat} {hp bD:Hp} (h:n≤k):Ag n hp (Hp.trunc k bD)=Ag n hp bD:=by
 refine propext ⟨fun a id hi=>?_,fun a id hi=>?_⟩
 ·have:=a id hi;rwa [Hp.get_trunc _ _ _ (by omega)] at this
 ·rw[Hp.get_trunc _ _ _ (by omega)];exact a id hi
theorem bW {k id:Nat} {hp:Hp} (h:id<k):(Hp.trunc k hp).get id=hp.get id:=Hp.get_trunc _ _ _ h
theorem cK (n:Nat) (hp:Hp):Ag n hp hp=True:=eq_true (Ag.refl n hp)
theorem Hp.get_set (h:Hp) (k t:Nat) (o:Ob):(Hp.set h k o).get t=if k=t then some o else h.get t:=by
 split
 ·rename_i hk;subst hk;exact Hp.get_set_self ..
 ·rename_i hk;exact Hp.get_set_ne _ _ _ _ hk
theorem nf {n id:Nat} (h:id<n):(n=id)=False∧(n+1=id)=False∧(n+2=id)=False∧(n+3=id)=False∧(n+4=id)=False∧(n+5=id)=False∧(n+6=id)=False∧(n+7=id)=False:=by
 refine ⟨?_,?_,?_,?_,?_,?_,?_,?_⟩ <;> exact eq_false (by omega)
structure KAt (ic gc iv gv ip gp im gm ii gi:Nat) (o:Oc) (ea:List Cl) (c:Cl) (hp:Hp) (n:Nat):Prop where
 co:hp.get ic=some ⟨gc,false,[V.d (.slice (fW o.en)),V.d (.slice (gA ea)),V.d (.str c.nm),V.d (.slice (cM c.inn)),V.d (.slice (cM c.out)),V.d (.slice (cM c.loc)),V.d (.slice (lA c.mems)),V.d (.slice (mD c.ins)),V.d (.slice (dJ c.step)),.mp iv gv,.mp ip gp,.mp im gm,.mp ii gi]⟩
 vars:∃ l,hp.get iv=some ⟨gv,false,[gF (fun t:Int=>V.d (.int .i64 t)) l]⟩∧∀ x,eO l x=if cZ c x=0 then none else some (cZ c x)
 ports:∃ l,hp.get ip=some ⟨gp,false,[gF (fun b:Bool=>V.d (.bool b)) l]⟩∧∀ x,eO l x=if j1 c x=0 then none else some true
 mems:∃ l,hp.get im=some ⟨gm,false,[gF (fun t:Int=>V.d (.int .i64 t)) l]⟩∧∀ x,eO l x=if eK c.mems x=0 then none else some (eK c.mems x)
 ins:∃ l,hp.get ii=some ⟨gi,false,[gF (fun k:Cl=>aG k.cells) l]⟩∧∀ x,eO l x=if (e9 c.ins o.cl x).2=true then some (e9 c.ins o.cl x).1 else none
 lc:ic<n
 lv:iv<n
 lp:ip<n
 lm:im<n
 li:ii<n
theorem KAt.ag {ic gc iv gv ip gp im gm ii gi:Nat} {o:Oc} {ea:List Cl} {c:Cl} {hp bD:Hp} {n n':Nat} (h:KAt ic gc iv gv ip gp im gm ii gi o ea c hp n) (ha:Ag n hp bD) (hn:n≤n'):KAt ic gc iv gv ip gp im gm ii gi o ea c bD n':=by
 obtain ⟨h1,h2,h3,h4,h5,l1,l2,l3,l4,l5⟩:=h
 rw[←ha _ l1] at h1
 rw[←ha _ l2] at h2
 rw[←ha _ l3] at h3
 rw[←ha _ l4] at h4
 rw[←ha _ l5] at h5
 exact ⟨h1,h2,h3,h4,h5,by omega,by omega,by omega,by omega,by omega⟩
def QK (ic gc iv gv ip gp im gm ii gi:Nat) (o:Oc) (ea:List Cl) (c:Cl) (f:FuncId) (vs:List V) (v:V):Prop:=∀ hp n cc,KAt ic gc iv gv ip gp im gm ii gi o ea c hp n→kV Tryz.prog Ob.cfg f vs hp n cc v
section
variable {ic gc iv gv ip gp im gm ii gi:Nat} {o:Oc} {ea:List Cl} {c:Cl} {hp:Hp} {n:Nat}
theorem QK.fn {f:FuncId} {vs:List V} {v:V} (h:QK ic gc iv gv ip gp im gm ii gi o ea c f vs v) (hK:KAt ic gc iv gv ip gp im gm ii gi o ea c hp n):
  ∃ (F:Hp→Nat→Nat→Hp) (G:Hp→Nat→Nat→Nat),∀ bD n' cc,Ag n hp bD→n≤n'→m9 Tryz.prog Ob.cfg f vs bD n' cc=some ⟨v,F bD n' cc,n',G bD n' cc,[]⟩:=by
 obtain ⟨F,G,h1⟩:=gU (C:=fun bD n'=>Ag n hp bD∧n≤n') (P:=Tryz.prog) (cfg:=Ob.cfg) (f:=f) (vs:=vs) (v:=v) (fun bD n' cc ha=>h bD n' cc (hK.ag ha.1 ha.2))
 exact ⟨F,G,fun bD n' cc a b=>h1 bD n' cc ⟨a,b⟩⟩
theorem KAt.look_vars (hK:KAt ic gc iv gv ip gp im gm ii gi o ea c hp n) {look:cA} {sz by_:Nat} {zr:Option (List V)} {x:Tx} (h:look iv=hp.get iv):
  iH look ⟨.str,sz,by_,zr⟩ (some (.d (.int .i64 0))) (.mp iv gv) (.d (.str x)) true=some ⟨.tuple [.d (.int .i64 (cZ c x)),.d (.bool (decide (cZ c x≠0)))],[],[iv],0,0,false⟩:=by
 obtain ⟨l,h1,h2⟩:=hK.vars
 rw[jP _ l (h.trans h1),h2]
 by_cases q:cZ c x=0
 ·simp[q,eG]
 ·simp[q,eG]
theorem KAt.look_vars1 (hK:KAt ic gc iv gv ip gp im gm ii gi o ea c hp n) {look:cA} {sz by_:Nat} {zr:Option (List V)} {x:Tx} (h:look iv=hp.get iv):
  iH look ⟨.str,sz,by_,zr⟩ (some (.d (.int .i64 0))) (.mp iv gv) (.d (.str x)) false=some ⟨.d (.int .i64 (cZ c x)),[],[iv],0,0,false⟩:=by
 obtain ⟨l,h1,h2⟩:=hK.vars
 rw[jP _ l (h.trans h1),h2]
 by_cases q:cZ c x=0
 ·simp[q,eG]
 ·simp[q,eG]
theorem KAt.look_ports (hK:KAt ic gc iv gv ip gp im gm ii gi o ea c hp n) {look:cA} {sz by_:Nat} {zr:Option (List V)} {x:Tx} (h:look ip=hp.get ip):
  iH look ⟨.str,sz,by_,zr⟩ (some (.d (.bool false))) (.mp ip gp) (.d (.str x)) false=some ⟨.d (.bool (decide (j1 c x≠0))),[],[ip],0,0,false⟩:=by
 obtain ⟨l,h1,h2⟩:=hK.ports
 rw[jP _ l (h.trans h1),h2]
 by_cases q:j1 c x=0
 ·simp[q,eG]
 ·simp[q,eG]
theorem KAt.look_mems (hK:KAt ic gc iv gv ip gp im gm ii gi o ea c hp n) {look:cA} {sz by_:Nat} {zr:Option (List V)} {x:Tx} (h:look im=hp.get im):
  iH look ⟨.str,sz,by_,zr⟩ (some (.d (.int .i64 0))) (.mp im gm) (.d (.str x)) true=some ⟨.tuple [.d (.int .i64 (eK c.mems x)),.d (.bool (decide (eK c.mems x≠0)))],[],[im],0,0,false⟩:=by
 obtain ⟨l,h1,h2⟩:=hK.mems
 rw[jP _ l (h.trans h1),h2]
 by_cases q:eK c.mems x=0
 ·simp[q,eG]
 ·simp[q,eG]
def aAP (k:Cl×Bool):V:=match k with|(d,true)=>aG d.cells|(_,false)=> .agg [.d (.str []),.full [],.full [],.full [],.full [],.full [],.full []]
theorem KAt.look_ins (hK:KAt ic gc iv gv ip gp im gm ii gi o ea c hp n) {look:cA} {sz by_:Nat} {zr:Option (List V)} {x:Tx} (h:look ii=hp.get ii):
  iH look ⟨.str,sz,by_,zr⟩ (some (.agg [.d (.str []),.full [],.full [],.full [],.full [],.full [],.full []])) (.mp ii gi) (.d (.str x)) true=some ⟨.tuple [aAP (e9 c.ins o.cl x),.d (.bool (e9 c.ins o.cl x).2)],[],[ii],0,0,false⟩:=by
 obtain ⟨l,h1,h2⟩:=hK.ins
 rw[jP _ l (h.trans h1),h2]
 cases q:e9 c.ins o.cl x with
 | mk d b=>cases b <;> simp[q,eG,aAP]
structure KW (o:Oc) (c:Cl):Prop where
 inn:∀ x,c.inn.any (fun d=>decide (d.nm=x))=decide (fG c.inn x≠0)
 set:∀ x,j1 c x≠0→cZ c x=j1 c x
 i64:∀ x,u9 (cZ c x)
 linn:c.inn.length≤MX
end
theorem aRH (r:Nat):Ob.keep 190 r=Ob.k190 r:=by kernel_rfl
theorem aTp (r:Nat):Ob.keep 171 r=Ob.k171 r:=by kernel_rfl
attribute [local simp] aRH Ob.k190 aTp Ob.k171
theorem aLZ {i1 g1:Nat} {p:Dc→Bool} (l:List (Dc)) (hl:l.length≤MX) (hp:Hp) (n:Nat) (hq:∀ v,v∈l→∀ bD c,Ag n hp bD→eF Tryz.prog Ob.cfg 172 [aG v.cells,.ptr i1 g1 0] bD n c (.bool (p v))) (c:Nat):
  eF Tryz.prog Ob.cfg 190 [dL (cM l),.fn 172 [.ptr i1 g1 0]] hp n c (.int .i64 (ixP p l)):=by
 unfold MX at hl
 refine fT Tryz.func190 rfl (by kernel_rfl) rfl ?_
 refine qE (j4 @aN @aO @aA @bP) ?_
 apply WP.loop' (I:=fun d s=>∃ i:Nat,i+d=l.length∧(l.take i).all (fun v=> !p v)=true∧SQ [(0,dL (cM l)),(1,.fn 172 [.ptr i1 g1 0]),(7,dI l.length),(8,dI i)] hp n n s) (d:=l.length)
 ·exact ⟨0,by simp,by simp,_,_,Ag.refl n hp,bK (by simp[dL,dI]) rfl⟩
 rintro d _ ⟨i,hii,cD,bD,c1,d8,rfl⟩
 refine qE (jn @aB @aA) ?_
 show WP _ _ _ _ _ _
 refine WP.cond _ rfl (fun hb=>?_) (fun hb=>?_)
 ·simp at hb
  have bR:i<l.length:=hb
  obtain ⟨v,hv,hvm,bS⟩:=bL bR
  have hv':=d6 hv
  have hw:=bG bR (by omega)
  have pC:=bZ (p:=fun v=> !p v) hv
  obtain ⟨h5,h6,h4⟩:=eF.fn (fun c=>hq v hvm bD c d8)
  simp only[aG,dL,dI,Dc.cells,List.map_cons,List.map_nil] at h4
  refine qE (j6 @bS @hv' @aA @aB @aP @h4) ?_
  show WP _ _ _ _ _ _
  refine WP.cond _ rfl (fun hb=>?_) (fun hb=>?_)
  ·refine qE True.intro ?_
   rw[kF cD hv hb]
   exact ⟨.inr rfl,rfl,_,rfl,rfl⟩
  ·refine qE True.intro ?_
   refine aY (by simp[hw];exact Is.rfl) ?_
   exact ⟨d - 1,by omega,i+1,by omega,by rw[pC,cD];simpa using hb,_,_,d8.trunc,bK (by simp[dI,dL,hw]) rfl⟩
 ·simp at hb
  have xX:i=l.length:=by omega
  subst xX
  rw[List.take_length] at cD
  refine qE True.intro ?_
  rw[kG cD]
  exact ⟨.inr rfl,rfl,_,rfl,rfl⟩
theorem aHj {i1 g1:Nat} {p:Dc→Bool} (l:List (Dc)) (hl:l.length≤MX) (hp:Hp) (n:Nat) (hq:∀ v,v∈l→∀ bD c,Ag n hp bD→eF Tryz.prog Ob.cfg 172 [aG v.cells,.ptr i1 g1 0] bD n c (.bool (p v))) (c:Nat):
  eF Tryz.prog Ob.cfg 171 [dL (cM l),.fn 172 [.ptr i1 g1 0]] hp n c (.bool (l.any p)):=by
 obtain ⟨h5,h6,h4⟩:=eF.fn (fun c=>aLZ (p:=p) l hl hp n hq c)
 simp only[dL] at h4
 rw[←wV]
 refine fT Tryz.func171 rfl (by kernel_rfl) rfl ?_
 refine qE (j4 @aN @aO @aA @h4) ?_
 exact ⟨.inr rfl,rfl,_,rfl,rfl⟩
theorem aSb (r:Nat):Ob.keep 172 r=Ob.k172 r:=by kernel_rfl
theorem aSZ (r:Nat):Ob.keep 151 r=Ob.k151 r:=by kernel_rfl
attribute [local simp] aSb Ob.k172 aSZ Ob.k151
theorem aMv {nm:Tx} {i1 g1:Nat} (d:Dc) (hp:Hp) (n c:Nat) (h1:hp.get i1=some ⟨g1,false,[dS nm]⟩) (l1:i1<n):eF Tryz.prog Ob.cfg 172 [aG d.cells,.ptr i1 g1 0] hp n c (.bool (decide (d.nm=nm))):=by
 have ne:=nf l1
 simp only[dS] at h1
 refine fT Tryz.func172 rfl (by kernel_rfl) rfl ?_
 refine qE (j8 @aN @aO @aD @aP @Hp.get_set @ne @h1 @bE) ?_
 exact ⟨.inr rfl,rfl,_,rfl,rfl⟩
section
variable {ic gc iv gv ip gp im gm ii gi:Nat} {o:Oc} {ea:List Cl} {c:Cl}
set_option maxHeartbeats 1000000 in
theorem aHh (hW:KW o c) (nm:Tx) (cx:List Pr) (bl:List (List Y)) (hl:bl.length≤MX) (hnb:nbB bl=true) (hb:cx.length+hH bl.flatten≤8388608):
  QK ic gc iv gv ip gp im gm ii gi o ea c 151 [.ptr ic gc 0,dS nm,pP cx bl] (dI (if lO ⟨o,c,bl.flatten,cx⟩ nm then 0 else 22)):=by
 intro hp n cc hK
 have eD:=hK.co
 have nc:=nf hK.lc
 have ha:=yB nm false cx bl hl hnb hb
 obtain ⟨F,G,hF⟩:=gU (C:=fun bD n'=>bD.get n=some ⟨cc,false,[dS nm]⟩∧n<n') (P:=Tryz.prog) (cfg:=Ob.cfg) (f:=171) (vs:=[dL (cM c.inn),.fn 172 [.ptr n cc 0]]) (v:= .d (.bool (c.inn.any fun d=>decide (d.nm=nm))))
  (fun bD n' c' hC=>aHj (p:=fun d=>decide (d.nm=nm)) c.inn hW.linn bD n' (fun v hv aRg c'' d8=>aMv v aRg n' c'' ((d8 n hC.2).trans hC.1) hC.2) c')
 have hF':=fun bD n' c' a b=>hF bD n' c' ⟨a,b⟩
 simp only[dL,dS,dB,pP,hW.inn] at ha hF'
 refine iR Tryz.func151 rfl (by kernel_rfl) rfl (fun _=>rfl) ?_
 unfold lO
 by_cases q:fG c.inn nm=0
 ·rw[show decide (fG c.inn nm≠0)=false by simp[q],Bool.false_or]
  simp only[q,ne_eq,not_true_eq_false,decide_false] at hF'
  cases hs:u6 nm true cx bl.flatten with
  | true=>
   rw[show u6 nm (!false) cx bl.flatten=true from hs] at ha
   refine cV (nW @aN @aO @aA @aM @pP.eq_1 @Hp.get_set @nc @eD @hF' @ha) ?_
   exact ⟨.inr rfl,rfl,_,rfl,rfl⟩
  | false=>
   rw[show u6 nm (!false) cx bl.flatten=false from hs] at ha
   refine cV (nW @aN @aO @aA @aM @pP.eq_1 @Hp.get_set @nc @eD @hF' @ha) ?_
   exact ⟨.inr rfl,rfl,_,rfl,rfl⟩
 ·rw[show decide (fG c.inn nm≠0)=true by simp[q],Bool.true_or]
  simp only[q,ne_eq,not_false_eq_true,decide_true] at hF'
  refine cV (nW @aN @aO @aA @aM @pP.eq_1 @Hp.get_set @nc @eD @hF' @ha) ?_
  exact ⟨.inr rfl,rfl,_,rfl,rfl⟩
end
end Go.Ac
end
section
set_option maxRecDepth 4000
namespace Go.Ac
open Go.Proofs
attribute [local simp] Hp.get_set dA cK cR bW
def pI (w:Pl) (x:X):Int:=if x.k=2 then cZ w.c x.nm else (eV w x).1
theorem aCS {x:X} (hf:bQ x=true) (q:x.k=2):x.args=[]:=by
 rw[bU] at hf
 simp only[cC,q] at hf
 split at hf
 ·cases hf
 ·rename_i n hn
  simp at hn hf
  have:n=0:=hn.2.symm
  have h1:=hf.1
  rw[this] at h1
  simpa using h1
theorem aGS {w:Pl} {x:X} (hf:bQ x=true) (h:(eV w x).2=0):pI w x=(eV w x).1:=by
 unfold pI
 split
 ·rename_i q
  rw[tG] at h ⊢
  have ha:=aCS hf q
  rw[ha] at h ⊢
  simp only[fV,gO,q] at h ⊢
  simp at h ⊢
  split
  ·rename_i hz;simp[hz]
  ·rename_i hz
   simp only[hz,if_false] at h
   split at h
   ·simp[*]
   ·simp at h
 ·rfl
theorem aRy (r:Nat):Ob.keep 174 r=Ob.k174 r:=by kernel_rfl
attribute [local simp] aRy Ob.k174
section
variable {ic gc iv gv ip gp im gm ii gi:Nat} {o:Oc} {ea:List Cl} {c:Cl}
structure BOK (cx:List Pr) (bl:List (List Y)):Prop where
 len:bl.length≤MX
 nb:nbB bl=true
 sz:cx.length+hH bl.flatten≤8388608
set_option maxHeartbeats 4000000 in
theorem aMI (hW:KW o c) (cx:List Pr) (bl:List (List Y)) (hB:BOK cx bl):∀ (N:Nat) (x:X),x.sz<N→bQ x=true→x.ok→
  QK ic gc iv gv ip gp im gm ii gi o ea c 174 [.ptr ic gc 0,aG x.cells,pP cx bl] (.tuple [dI (pI ⟨o,c,bl.flatten,cx⟩ x),dI (eV ⟨o,c,bl.flatten,cx⟩ x).2]):=by
 intro N
 induction N with
 | zero=>intro x h;omega
 | succ N ih=>
 intro x hN hf cE hp n cc hK
 obtain ⟨hf1,hf2,hf3⟩:=zH hf
 obtain ⟨jA,nH⟩:=X.ok_eq cE
 have hs0:=X.sz_eq x
 refine iR Tryz.func174 rfl (by kernel_rfl) rfl (fun _=>rfl) ?_
 generalize hw:(⟨o,c,bl.flatten,cx⟩:Pl)=w at*
 refine cV (j6 @aN @aO @aD @pP.eq_1 @aE @aA) ?_
 apply WP.loop' (I:=fun D s=>∃ j g:Nat,j+D=x.args.length∧(x.args.take j).all (okK w)=true∧∃ (c':Nat) (L:List Int) (bD:Hp),L=(x.args.take j).map (fun y=>(eV w y).1)∧Ag n hp bD∧
  bD.get n=some ⟨cc,false,x.cells.map .d⟩∧bD.get (n+1)=some ⟨cc+1,false,[V.d (.slice (iB cx)),V.d (.slice (iA bl))]⟩∧bD.get (n+2)=some ⟨g,false,fl (bX L)⟩∧
  s=⟨[(0,.ptr ic gc 0),(4,.ptr n cc 0),(5,.ptr (n+1) (cc+1) 0),(8,.osl (n+2) g 0 j 1 none),(18,dL (fY x.args)),(19,dI x.args.length),(20,dI j)],bD,n+3,c',n,[]⟩) (d:=x.args.length)
 ·refine ⟨0,cc+1+1,by simp,by simp,_,[],_,by simp,?_,?_,?_,?_,bK (by simp[dI,dL]) rfl⟩
  ·simp[dA,cK]
  ·simp[Hp.get_set,aE]
  ·simp[Hp.get_set]
  ·simp[Hp.get_set,fl,bX]
 rintro D _ ⟨j,g,hj,cD,c',L,bD,hL,d8,kY,aAp,aAq,rfl⟩
 have hKp:=hK.ag d8 (Nat.le_refl n)
 have eD:=hKp.co
 have nc:=nf hK.lc
 have dR:=eq_true d8
 rw[aE] at kY
 simp only[List.map_cons,List.map_nil] at kY
 refine qE (jn @aB @aA) ?_
 show WP _ _ _ _ _ _
 refine WP.cond _ rfl (fun hb=>?_) (fun hb=>?_)
 ·simp at hb
  have bR:j<x.args.length:=by omega
  obtain ⟨d,hd,d9,bS⟩:=bL bR
  have cF:=iQ hd
  have dH:=bG bR (by omega)
  have hs:=bZ (p:=okK w) hd
  obtain ⟨F,G,hr⟩:=(ih d (by have:=dX d9;omega) (List.all_eq_true.1 hf1 d d9) ((uF _).1 nH d d9)).fn hK
  simp only[aG,pP,aE,List.map_cons,List.map_nil,dI] at hr
  by_cases hz:(eV w d).2=0
  ·rw[hz,aGS (List.all_eq_true.1 hf1 d d9) hz] at hr
   have hsn:=bM hd
   have pL:L.length=j:=by rw[hL];simp;omega
   have hLs:(x.args.take (j+1)).map (fun y=>(eV w y).1)=L++[(eV w d).1]:=by rw[hsn,hL];simp
   have r2:=cT (cI L)
   have r3:=cL (cI L)
   have r4:=dW (bX L) [.int .i64 (eV w d).1]
   have r5:=iY L (eV w d).1
   have f5:bT (j+1) 8=true:=by simp[bT];omega
   rw[r5] at r4
   rw[aZ,pL,Nat.mul_one] at r2 r3
   simp only[List.map_cons,List.map_nil] at r4
   refine cV (j26 @aB @aA @aE @bS @cF @hr @aH @aI @aQ @aR @iE.eq_def @bI @b8 @bJ @f5 @r2 @r3 @r4 @Hp.get_set @kY @aAp @aAq @nc @eD @dA @dR) ?_
   refine aY (by simp[dH];exact Is.rfl) ?_
   exact ⟨D - 1,by omega,j+1,_,by omega,by rw[hs,cD];simp[okK,hz],_,_,_,hLs.symm,by simp[d8],by simp[kY,aE],by simp[aAp],by simp;rfl,bK (by simp[dI,dL,dH]) rfl⟩
  ·have lV:=eq_false hz
   have hkk:eV w x=(0,(eV w d).2):=by rw[tG,yP w cD hd hz,if_pos hz]
   have hkt:x.k≠2:=fun q=>by
    have:=aCS hf q
    rw[this] at bR;simp at bR
   rw[show pI w x=0 by unfold pI;rw[if_neg hkt,hkk],hkk]
   refine cV (uN @aB @aA @aE @kY @aAp @aAq @nc @eD @dR @bS @cF @hr @lV @aV) ?_
   exact ⟨.inr rfl,rfl,_,rfl,rfl⟩
 ·simp at hb
  have eM:j=x.args.length:=by omega
  rw[eM,List.take_length] at cD
  have hks:=aBg w cD
  have hkk:eV w x=gO w x.k x.o x.t x.v x.nm (x.args.map (fun y=>(eV w y).1)):=by rw[tG,hks,if_neg (by simp)]
  have hx:(x.args.take x.args.length).map (fun y=>(eV w y).1)=x.args.map (fun y=>(eV w y).1):=by rw[List.take_length]
  rw[eM,hx] at hL
  rw[←hL] at hkk
  rw[hkk]
  have pL:L.length=x.args.length:=by rw[hL];simp
  subst eM
  clear hL hx hks
  have hwo:w.o=o:=by rw[←hw]
  have hwc:w.c=c:=by rw[←hw]
  rcases zQ hf with q|q|q|q|q
  ·have hh:=aMr o.en x.t x.v jA
   simp only[dL,dI,dB] at hh
   rw[show pI w x=(gO w x.k x.o x.t x.v x.nm L).1 by unfold pI;rw[if_neg (by omega),hkk]]
   cases hz:iG o.en x.t x.v with
   | true=>
    rw[hz] at hh
    simp only[gO,q,hwo,hz]
    refine cV (uQ @aB @aA @aE @kY @aAp @aAq @nc @eD @dR @q @hh) ?_
    exact ⟨.inr rfl,rfl,_,rfl,rfl⟩
   | false=>
    rw[hz] at hh
    simp only[gO,q,hwo,hz]
    refine cV (uQ @aB @aA @aE @kY @aAp @aAq @nc @eD @dR @q @hh) ?_
    exact ⟨.inr rfl,rfl,_,rfl,rfl⟩
  ·have hlk:=fun (look:cA) (sz by_:Nat) (zr:Option (List V)) (y:Tx) (h:look iv=bD.get iv)=>hKp.look_vars (look:=look) (sz:=sz) (by_:=by_) (zr:=zr) (x:=y) h
   have nv:=nf hK.lv
   obtain ⟨F,G,hr⟩:=(aHh (ic:=ic) (gc:=gc) (iv:=iv) (gv:=gv) (ip:=ip) (gp:=gp) (im:=im) (gm:=gm) (ii:=ii) (gi:=gi) (ea:=ea) hW x.nm cx bl hB.len hB.nb hB.sz).fn hK
   rw[hw] at hr
   simp only[dS,pP,dI] at hr
   rw[show pI w x=cZ c x.nm by unfold pI;rw[if_pos q,hwc]]
   by_cases hz:cZ c x.nm=0
   ·simp only[gO,q,hwc,hz]
    refine cV (mX @aB @aA @aE @kY @aAp @aAq @nc @eD @dR @q @zt3 @eG.eq_1 @eG.eq_2 @nv @hlk @hz) ?_
    exact ⟨.inr rfl,rfl,_,rfl,rfl⟩
   have lV:=eq_false hz
   cases hy:lO w x.nm with
   | true=>
    rw[hy] at hr
    simp only[gO,q,hwc,lV,hy]
    refine cV (sS @aB @aA @aE @kY @aAp @aAq @nc @eD @dR @q @zt3 @eG.eq_1 @eG.eq_2 @nv @hlk @lV @hr) ?_
    exact ⟨.inr rfl,rfl,_,rfl,rfl⟩
   | false=>
    rw[hy] at hr
    simp only[gO,q,hwc,lV,hy]
    refine cV (sS @aB @aA @aE @kY @aAp @aAq @nc @eD @dR @q @zt3 @eG.eq_1 @eG.eq_2 @nv @hlk @lV @hr) ?_
    exact ⟨.inr rfl,rfl,_,rfl,rfl⟩
  ·have hlk:=fun (look:cA) (sz by_:Nat) (zr:Option (List V)) (y:Tx) (h:look im=bD.get im)=>hKp.look_mems (look:=look) (sz:=sz) (by_:=by_) (zr:=zr) (x:=y) h
   have nv:=nf hK.lm
   rw[show pI w x=(gO w x.k x.o x.t x.v x.nm L).1 by unfold pI;rw[if_neg (by omega),hkk]]
   by_cases hz:eK c.mems x.nm=0
   ·simp only[gO,q,hwc,hz]
    refine cV (mX @aB @aA @aE @kY @aAp @aAq @nc @eD @dR @q @zt3 @eG.eq_1 @eG.eq_2 @nv @hlk @hz) ?_
    exact ⟨.inr rfl,rfl,_,rfl,rfl⟩
   have lV:=eq_false hz
   simp only[gO,q,hwc,lV]
   refine cV (mX @aB @aA @aE @kY @aAp @aAq @nc @eD @dR @q @zt3 @eG.eq_1 @eG.eq_2 @nv @hlk @lV) ?_
   exact ⟨.inr rfl,rfl,_,rfl,rfl⟩
  ·have hg:=aPM x.o L
   have r2:=cT (cI L)
   have r3:=cL (cI L)
   have r4:=eJ (cI L)
   rw[aZ,Nat.mul_one] at r2 r3
   rw[aZ] at r4
   rw[pL] at r2 r3 r4
   simp only[dL,dI] at hg
   rw[show pI w x=(gO w x.k x.o x.t x.v x.nm L).1 by unfold pI;rw[if_neg (by omega),hkk]]
   simp only[gO,q]
   refine cV (j21 @aB @aA @aE @kY @aAp @aAq @nc @eD @dR @q @hg @aQ @aR @iE.eq_def @bI @b8 @cG @r2 @r3 @r4 @bJ) ?_
   exact ⟨.inr rfl,rfl,_,rfl,rfl⟩
  ·rw[show pI w x=(gO w x.k x.o x.t x.v x.nm L).1 by unfold pI;rw[if_neg (by omega),hkk]]
   rw[hf2 q] at pL ⊢
   obtain ⟨a,b,d,rfl⟩:∃ a b d,L=[a,b,d]:=by
    match L,pL with
    | [a,b,d],_=>exact ⟨a,b,d,rfl⟩
   have e:fl (bX [a,b,d])=[.d (.int .i64 a),.d (.int .i64 b),.d (.int .i64 d)]:=rfl
   rw[e] at aAq
   by_cases c1:a=1
   case neg=>
    have c1':=eq_false c1
    simp only[gO,q]
    rw[show (if ([a,b,d].getD 0 0≠1∨[a,b,d].getD 1 0≠[a,b,d].getD 2 0) then ((0:Int),(10:Int)) else ([a,b,d].getD 1 0,0))=(0,10) by simp[c1]]
    refine cV (oY @aB @aA @aE @kY @aAp @aAq @nc @eD @dR @q @c1' @aV @jQ.eq_def) ?_
    exact ⟨.inr rfl,rfl,_,rfl,rfl⟩
   by_cases c2:b=d
   case neg=>
    have c2':=eq_false c2
    simp only[gO,q]
    rw[show (if ([a,b,d].getD 0 0≠1∨[a,b,d].getD 1 0≠[a,b,d].getD 2 0) then ((0:Int),(10:Int)) else ([a,b,d].getD 1 0,0))=(0,10) by simp[c2]]
    refine cV (uN @aB @aA @aE @kY @aAp @aAq @nc @eD @dR @q @c1 @c2' @aV @jQ.eq_def) ?_
    exact ⟨.inr rfl,rfl,_,rfl,rfl⟩
   simp only[gO,q]
   rw[show (if ([a,b,d].getD 0 0≠1∨[a,b,d].getD 1 0≠[a,b,d].getD 2 0) then ((0:Int),(10:Int)) else ([a,b,d].getD 1 0,0))=(b,0) by simp[c1,c2]]
   subst c1 c2
   refine cV (tS @aB @aA @aE @kY @aAp @aAq @nc @eD @dR @q @aV @jQ.eq_def) ?_
   exact ⟨.inr rfl,rfl,_,rfl,rfl⟩
end
end Go.Ac
end
section
set_option maxRecDepth 4000
namespace Go.Ac
open Go.Proofs
attribute [local simp] Hp.get_set dA cK cR bW
theorem aSV (r:Nat):Ob.keep 153 r=Ob.k153 r:=by kernel_rfl
theorem aUy (r:Nat):Ob.keep 154 r=Ob.k154 r:=by kernel_rfl
theorem aSF (r:Nat):Ob.keep 136 r=Ob.k136 r:=by kernel_rfl
attribute [local simp] aSV Ob.k153 aUy Ob.k154 aSF Ob.k136
def aJl (w:Pl) (x:X):Int:=if bQ x then pI w x else 0
theorem aGH {w:Pl} {x:X} (h:(eB w x).2=0):aJl w x=(eB w x).1:=by
 unfold aJl eB at*
 split
 ·rename_i hf
  rw[if_pos hf] at h
  exact aGS hf h
 ·rename_i hf
  rw[if_neg hf] at h
def aKV (w:Pl) (nm:Tx) (twice:Bool) (t:Int):Int:=if j1 w.c nm=0 then 6 else if twice then 7 else jB w nm t
def vL (w:Pl) (y:Y):Int:=if (eB w y.r).2≠0 then (eB w y.r).2 else if y.k=1 then jB w y.nm (eB w y.r).1 else if eK w.c.mems y.nm=0 then 6 else if eK w.c.mems y.nm≠(eB w y.r).1 then 10 else 0
section
variable {ic gc iv gv ip gp im gm ii gi:Nat} {o:Oc} {ea:List Cl} {c:Cl}
set_option maxHeartbeats 1000000 in
theorem aJo (hW:KW o c) (cx:List Pr) (bl:List (List Y)) (hB:BOK cx bl) (x:X) (hx:x.sz≤MX) (cE:x.ok):
  QK ic gc iv gv ip gp im gm ii gi o ea c 153 [.ptr ic gc 0,aG x.cells,pP cx bl] (.tuple [dI (aJl ⟨o,c,bl.flatten,cx⟩ x),dI (eB ⟨o,c,bl.flatten,cx⟩ x).2]):=by
 intro hp n cc hK
 have ho:=aKt _ x (Nat.lt_succ_self _) hx
 simp only[aG,aE,List.map_cons,List.map_nil,dB] at ho
 refine iR Tryz.func153 rfl (by kernel_rfl) rfl (fun _=>rfl) ?_
 unfold aJl eB
 cases hf:bQ x with
 | false=>
  rw[hf] at ho
  refine cV (j7 @aN @aO @aD @pP.eq_1 @aE @aA @ho) ?_
  exact ⟨.inr rfl,rfl,_,rfl,rfl⟩
 | true=>
  rw[hf] at ho
  obtain ⟨F,G,hr⟩:=(aMI hW cx bl hB _ x (Nat.lt_succ_self _) hf cE).fn hK
  simp only[aG,pP,aE,List.map_cons,List.map_nil,dI] at hr
  simp only[if_true]
  refine cV (j8 @aN @aO @aD @pP.eq_1 @aE @aA @ho @hr) ?_
  exact ⟨.inr rfl,rfl,_,rfl,rfl⟩
set_option maxHeartbeats 1000000 in
theorem aDX (hW:KW o c) (cx:List Pr) (bl:List (List Y)) (hB:BOK cx bl) (nm:Tx) (tw:Bool) (t:Int):
  QK ic gc iv gv ip gp im gm ii gi o ea c 154 [.ptr ic gc 0,dS nm,pP cx bl,dB tw,dI t] (dI (aKV ⟨o,c,bl.flatten,cx⟩ nm tw t)):=by
 intro hp n cc hK
 have ha:=yB nm true cx bl hB.len hB.nb hB.sz
 have eD:=hK.co
 have nc:=nf hK.lc
 have np:=nf hK.lp
 have nv:=nf hK.lv
 have hlp:=fun (look:cA) (sz by_:Nat) (zr:Option (List V)) (y:Tx) (h:look ip=hp.get ip)=>hK.look_ports (look:=look) (sz:=sz) (by_:=by_) (zr:=zr) (x:=y) h
 have vB:=fun (look:cA) (sz by_:Nat) (zr:Option (List V)) (y:Tx) (h:look iv=hp.get iv)=>hK.look_vars1 (look:=look) (sz:=sz) (by_:=by_) (zr:=zr) (x:=y) h
 simp only[dL,dS,dB,pP,Bool.not_true] at ha
 refine iR Tryz.func154 rfl (by kernel_rfl) rfl (fun _=>rfl) ?_
 unfold aKV jB
 by_cases hz:j1 c nm=0
 ·simp only[hz]
  refine cV (oY @aN @aO @aM @aF @aB @pP.eq_1 @aA @eD @nc @np @hlp @zt4 @hz) ?_
  exact ⟨.inr rfl,rfl,_,rfl,rfl⟩
 have lV:=eq_false hz
 have hg:=hW.set nm hz
 cases tw with
 | true=>
  simp only[lV,if_true,if_false]
  refine cV (oY @aN @aO @aM @aF @aB @pP.eq_1 @aA @eD @nc @np @hlp @zt4 @lV) ?_
  exact ⟨.inr rfl,rfl,_,rfl,rfl⟩
 | false=>
  cases has:u6 nm false cx bl.flatten with
  | true=>
   rw[has] at ha
   simp only[lV,if_true,if_false]
   refine cV (uN @aN @aO @aM @aF @aB @pP.eq_1 @aA @eD @nc @np @hlp @zt4 @lV @ha) ?_
   exact ⟨.inr rfl,rfl,_,rfl,rfl⟩
  | false=>
   rw[has] at ha
   by_cases ht:j1 c nm=t
   ·have ht':=eq_true ht
    rw[if_neg hz,if_neg (by simp),if_neg hz,if_neg (by simp[has]),if_neg (by simp[ht])]
    refine cV (j20 @aN @aO @aM @aF @aB @pP.eq_1 @aA @eD @nc @np @nv @hlp @vB @zt4 @zt3 @lV @ha @hg @aV @ht') ?_
    exact ⟨.inr rfl,rfl,_,rfl,rfl⟩
   ·have ht':=eq_false ht
    simp only[lV,if_true,if_false,ne_eq,ht',not_false_eq_true,Bool.false_eq_true]
    refine cV (j20 @aN @aO @aM @aF @aB @pP.eq_1 @aA @eD @nc @np @nv @hlp @vB @zt4 @zt3 @lV @ha @hg @aV @ht') ?_
    exact ⟨.inr rfl,rfl,_,rfl,rfl⟩
set_option maxHeartbeats 2000000 in
theorem aLC (hW:KW o c) (cx:List Pr) (bl:List (List Y)) (hB:BOK cx bl) (y:Y) (hy:y.k=1∨y.k=2) (gB:y.sz≤MX) (cE:y.ok):
  QK ic gc iv gv ip gp im gm ii gi o ea c 136 [.ptr ic gc 0,aG y.cells,pP cx bl] (dI (vL ⟨o,c,bl.flatten,cx⟩ y)):=by
 intro hp n cc hK
 obtain ⟨hy1,hy2,hy3,hy4⟩:=Y.ok_eq cE
 rw[Y.sz_eq] at gB
 have eD:=hK.co
 have nc:=nf hK.lc
 have nm:=nf hK.lm
 have hlm:=fun (look:cA) (sz by_:Nat) (zr:Option (List V)) (y:Tx) (h:look im=hp.get im)=>hK.look_mems (look:=look) (sz:=sz) (by_:=by_) (zr:=zr) (x:=y) h
 obtain ⟨F,G,hr⟩:=(aJo hW cx bl hB y.r (by omega) hy2).fn hK
 simp only[aG,pP,aE,List.map_cons,List.map_nil,dI] at hr
 refine iR Tryz.func136 rfl (by kernel_rfl) rfl (fun _=>rfl) ?_
 unfold vL
 by_cases he:(eB ⟨o,c,bl.flatten,cx⟩ y.r).2=0
 case neg=>
  have he':=eq_false he
  rw[if_pos he]
  refine cV (uQ @aN @aO @aB @pP.eq_1 @aD @aC @eD @nc @hr @aV @he') ?_
  exact ⟨.inr rfl,rfl,_,rfl,rfl⟩
 rw[if_neg (by simp[he])]
 rw[he,aGH he] at hr
 generalize (eB ⟨o,c,bl.flatten,cx⟩ y.r).1=t at hr ⊢
 rcases hy with q|q
 ·rw[if_pos q]
  obtain ⟨F',G',ht⟩:=(aDX hW cx bl hB y.nm false t).fn hK
  rw[show aKV ⟨o,c,bl.flatten,cx⟩ y.nm false t=jB ⟨o,c,bl.flatten,cx⟩ y.nm t by unfold aKV jB;split <;> simp[*]] at ht
  simp only[pP,dI,dS,dB] at ht
  refine cV (tS @aN @aO @aB @pP.eq_1 @aD @aC @eD @nc @hr @aV @q @ht) ?_
  exact ⟨.inr rfl,rfl,_,rfl,rfl⟩
 rw[if_neg (by omega)]
 by_cases hz:eK c.mems y.nm=0
 ·simp only[hz]
  refine cV (uV @aN @aO @aB @pP.eq_1 @aD @aC @eD @nc @nm @hr @aV @q @hlm @zt3 @hz) ?_
  exact ⟨.inr rfl,rfl,_,rfl,rfl⟩
 have lV:=eq_false hz
 by_cases ht:eK c.mems y.nm=t
 ·have ht':=eq_true ht
  rw[if_neg hz,if_neg (by simp[ht])]
  refine cV (mX @aN @aO @aB @pP.eq_1 @aD @aC @eD @nc @nm @hr @aV @q @hlm @zt3 @lV @ht') ?_
  exact ⟨.inr rfl,rfl,_,rfl,rfl⟩
 ·have ht':=eq_false ht
  simp only[lV,if_false,ht',ne_eq,not_false_eq_true,if_true]
  refine cV (mX @aN @aO @aB @pP.eq_1 @aD @aC @eD @nc @nm @hr @aV @q @hlm @zt3 @lV @ht') ?_
  exact ⟨.inr rfl,rfl,_,rfl,rfl⟩
end
end Go.Ac
end
