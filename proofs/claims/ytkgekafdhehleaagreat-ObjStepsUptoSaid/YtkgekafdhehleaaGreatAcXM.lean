/- The abstract machine: a region's operations with their guards looked up beforehand. No conditions. -/
import Derived.Test.YtkgekafdhehleaaGreatAcTM
set_option linter.unusedVariables false
set_option linter.unusedSimpArgs false
section
namespace Go.Ac
variable {P:Program}
def Ex.toExit:Ex→Exit
 | .normal=> .normal
 | .exit id=> .exit id
 | .ret=> .ret
def lN (P:Program) (c:Code) (Q:Exit→Act→World→Prop) (a:Act) (w:World):Prop:=
 ∀ (b:Frame) (k:List Item) (cs:List Frame),∃ e a' w',Q e a' w'∧Arrives P (lone (b.at a (.code c:: .inLoop c::k)) cs w) b k cs e a' w'
theorem lN.wp {c:Code} {Q:Exit→Act→World→Prop} {a:Act} {w:World} (h:lN P c Q a w):(Code.loop c).wp P Q a w:=
 fun b k cs=>let ⟨e,a',w',q,r⟩:=h b k cs;⟨e,a',w',q,.of_steps (.one step_loop) r⟩
theorem lN.round {c:Code} {Q:Exit→Act→World→Prop} {a:Act} {w:World} (h:c.wp P (Exit.then (lN P c Q) Q) a w):lN P c Q a w:=by
 intro b k cs
 obtain ⟨e,a₁,w₁,hq,aKW⟩:=h b (.inLoop c::k) cs
 cases e with
 | normal=>
  obtain ⟨e₂,a₂,w₂,aVt,aOx⟩:=hq b k cs
  exact ⟨e₂,a₂,w₂,aVt,.of_steps (Steps.trans aKW (.one step_inLoop)) aOx⟩
 | exit id=>exact ⟨_,a₁,w₁,hq,.pass (x:= .inLoop c) rfl (fun _ _=> .inl (by simp)) aKW⟩
 | goto l=>exact ⟨_,a₁,w₁,hq,.pass (x:= .inLoop c) rfl (fun _ _=> .inl (by simp)) aKW⟩
 | ret=>exact ⟨_,a₁,w₁,hq,.pass (x:= .inLoop c) rfl (fun _ _=> .inl (by simp)) aKW⟩
 | panic ch=>exact ⟨_,a₁,w₁,hq,.pass (x:= .inLoop c) rfl (fun _ _=> .inl (by simp)) aKW⟩
 | outgrown=>exact ⟨_,a₁,w₁,hq,.pass (x:= .inLoop c) rfl (fun _ _=> .inl (by simp)) aKW⟩
section
variable {S:Nat→Prop} {m:M} {s:St} {N:Nat} {a:Act}
theorem aKc {look:cA} {i:TI} {p:V} {v:Value} {r:Res} (h:xR look i p=some r) (hl:look=m.h) (hv:RV S m p v):∃ ad,v= .pointer (some ad):=by
 unfold xR at h
 split at h
 ·rename_i id g off
  cases vB:live look id g with
  | none=>simp[vB] at h
  | some o=>
   obtain ⟨_,_,b,base,_,rfl⟩:=hv.ptr_live (hl▸vB)
   exact ⟨_,rfl⟩
 ·cases hv with|vref f hf hr=>exact ⟨_,rfl⟩
 ·simp at h
def vH (tmps:Array Value):ResultVar→Sem Value
 | .tmp t=>pure (tmps.getD t undef)
 | .cell a t=>do loadVar t (←asAddr (tmps.getD a undef))
theorem aDC [Gl] (h:RS S N s m a) {r:ResultVar} {v:V} (hr:zM P s r=some v):∃ x,(vH a.tmps r).run P m.w= .ok x m.w∧RV S m v x:=by
 cases r with
 | tmp t=>simp[zM] at hr;subst hr;exact ⟨_,rfl,h.env t⟩
 | cell q t=>
  simp only[zM,Option.bind_eq_some_iff,Option.map_eq_some_iff] at hr
  obtain ⟨i,hi,y,hy,rfl⟩:=hr
  obtain ⟨x,g1,g2⟩:=aBz (c:=0) hi hy h.h.symm h.rel (h.env q)
  obtain ⟨ad,had⟩:=aKc hy h.h.symm (h.env q)
  refine ⟨x,?_,g2.2.2.1⟩
  rw[had] at g1
  simp only[vH,had,asAddr,Sem.run_bind,Sem.run_pure,Result.andThen_ok]
  simpa [Instr.loadAt,Instr.sureAddr] using g1
theorem wF [Gl] (h:RS S N s m a):∀ {l:List ResultVar} {vs:List V},f9 P s l=some vs→∃ xs,(l.mapM (vH a.tmps)).run P m.w= .ok xs m.w∧jL S m vs xs
 | [],vs,hr=>by simp[f9] at hr;subst hr;exact ⟨[],by simp,.nil⟩
 | r::l,vs,hr=>by
  simp only[f9] at hr
  split at hr
  ·rename_i v us h1 h2
   simp only[Option.some.injEq] at hr;subst hr
   obtain ⟨x,g1,g2⟩:=aDC h h1
   obtain ⟨xs,g3,g4⟩:=wF h h2
   exact ⟨x::xs,by simp[List.mapM_cons,Sem.run_bind,g1,g3],.cons g2 g4⟩
  ·simp at hr
theorem aDK [Gl] (h:RS S N s m a) {fn:Func} {rs:List V} (hr:f9 P s fn.results.toList=some rs):∃ x,(results fn a.tmps).run P m.w= .ok x m.w∧RV S m (tup rs) x:=by
 obtain ⟨xs,g1,g2⟩:=wF h hr
 have e:results fn a.tmps=(do let vs ←fn.results.mapM (vH a.tmps);pure (if h:vs.size=1 then vs[0] else .tuple vs)):=by
  unfold results
  congr 1
 have kX:(fn.results.mapM (vH a.tmps)).run P m.w= .ok xs.toArray m.w:=by
  rw[Array.mapM_eq_mapM_toList]
  simp[g1]
 rw[e]
 simp only[Sem.run_bind,kX,Result.andThen_ok,Sem.run_pure]
 refine ⟨_,rfl,?_⟩
 cases rs with
 | nil=>
  have:xs=[]:=List.length_eq_zero_iff.1 (by rw[←g2.1];rfl)
  subst this
  exact g2.tuple
 | cons v r=>
  obtain ⟨x,ys,rfl,k1,k2⟩:=g2.cases
  cases r with
  | nil=>
   have:ys=[]:=List.length_eq_zero_iff.1 (by rw[←k2.1];rfl)
   subst this
   simpa [tup] using k1
  | cons u r=>
   obtain ⟨y,zs,rfl,k3,k4⟩:=k2.cases
   simp only[tup]
   rw[dif_neg (by simp)]
   exact g2.tuple
theorem aBH [Gl] (h:RS S N s m a) {n:Nat} (hn:s.n0≤n):∃ m',m'.w=m.w∧RS S N { s with hp:=Hp.trunc n s.hp,n:=n } m' a∧Evo S m m':=by
 obtain ⟨g1,g2⟩:=h.rel.less (h':=(Hp.trunc n s.hp).get) (fun id o ho=>by
  rw[gD] at ho
  split at ho
  ·rw[h.h];exact ho
  ·cases ho)
 refine ⟨{ m with h:=(Hp.trunc n s.hp).get },rfl,⟨rfl,h.iss,g1,fun t=>(h.env t).mono g2,h.size,h.defers,fun id cY=>?_,hn⟩,g2⟩
 show (Hp.trunc n s.hp).get id=none
 rw[gD,if_neg (by have:n≤id:=cY;omega)]
theorem aFo [Gl] (h:RS S N s m a) {thr:Bool} {n:Nat} {v:V} {x:Value} {r:CR} (hv:RV S m v x) (hr:kW thr n s v=some r):∃ m',m'.w=m.w∧Rel S m'∧Evo S m m'∧RV S m' r.v x∧m'.h=r.hp.get∧m'.iss=fun _ g=>g<r.c:=by
 unfold kW at hr
 split at hr
 ·rename_i w ids gM
  have aOu:dZ s.hp.get v=some (w,ids):=by
   cases thr with
   | true=>simp at gM
   | false=>simpa using gM
  split at hr
  ·rename_i cE
   simp only[Option.some.injEq] at hr;subst hr
   obtain ⟨m1,e1,hb⟩:=ros h.rel ids
   have hw:=aFi h.rel (by rw[h.h];exact aOu) hv hb (fun i hi=>hi)
   cases hfl:w.flat with
   | true=>
    obtain ⟨g1,g2⟩:=h.rel.less (h':=(Hp.trunc n s.hp).get) (fun id o ho=>by
     rw[gD] at ho
     split at ho
     ·rw[h.h];exact ho
     ·cases ho)
    exact ⟨{ m with h:=(Hp.trunc n s.hp).get },rfl,g1,g2,hw.flat hfl,rfl,h.iss⟩
   | false=>
    rw[hfl] at cE
    simp only[Bool.false_or] at cE
    have dU:∀ id,id<n→m1.h id=m.h id:=fun id cY=>hb.not id fun hm=>by
     have:=List.all_eq_true.1 cE id hm
     have:=Nat.le_of_ble_eq_true this
     omega
    obtain ⟨g1,g2⟩:=hb.rel.less (h':=(Hp.trunc n s.hp).get) (fun id o ho=>by
     rw[gD] at ho
     split at ho
     ·rename_i fB;rw[dU id fB,h.h];exact ho
     ·cases ho)
    exact ⟨{ m1 with h:=(Hp.trunc n s.hp).get },hb.w,g1,hb.evo.trans g2,hw.mono g2,rfl,by show m1.iss=_;rw[hb.iss];exact h.iss⟩
  ·simp at hr
 ·simp only[Option.some.injEq] at hr;subst hr
  exact ⟨m,rfl,h.rel,.refl S m,hv,h.h,h.iss⟩
end
theorem aEu:∀ (vs:List V) (k t:Nat),(dD k vs).get t=if k≤t then (vs[t - k]?).getD .any else .any
 | [],k,t=>by simp[dD,nZ.get]
 | v::r,k,t=>by
  simp only[dD,mP]
  by_cases h:t=k
  ·subst h;simp
  ·rw[b7 _ _ h,aEu r (k+1) t]
   by_cases hk:k≤t
   ·rw[if_pos hk,if_pos (by omega)]
    rw[show t - k=(t - (k+1))+1 by omega];simp
   ·rw[if_neg hk,if_neg (by omega)]
theorem aIy {s0 s:St} {thr:Bool} {v:V} {r:CR} {hp:Hp} {n c:Nat} {vs:List V} (hl:Log (enter vs hp n c) s) (hr:kW thr n s v=some r) (ht:yJ hp n):LogOK hp n c r:=by
 have top:=hl.top (Nat.le_refl _) ht
 have wl:∀ id,id<n→id∉s.wl→s.hp.get id=hp.get id:=fun id cY hw=>(hl.wl (Nat.le_refl _) id cY hw).2
 have stay:∀ id,id<n→s.hp.get id=none→hp.get id=none:=fun id cY hn=>hl.stay (Nat.le_refl _) id cY hn
 unfold kW at hr
 split at hr
 ·split at hr
  ·simp only[Option.some.injEq] at hr;subst hr
   refine ⟨Nat.le_refl _,hl.c,fun id cY=>?_,fun id cY hw=>?_,fun id cY hn=>?_⟩
   ·show (Hp.trunc n s.hp).get id=none
    rw[gD,if_neg (by have:n≤id:=cY;omega)]
   ·show (Hp.trunc n s.hp).get id=_
    rw[gD,if_pos cY];exact wl id cY hw
   ·have hn':(Hp.trunc n s.hp).get id=none:=hn
    rw[gD,if_pos cY] at hn';exact stay id cY hn'
  ·simp at hr
 ·simp only[Option.some.injEq] at hr;subst hr
  exact ⟨hl.n,hl.c,top,wl,stay⟩
def aOV [Gl] (P:Program) (cfg:Cfg) (k:Nat):Prop:=∀ {fid:FuncId} {c:Code} {s s':St} {e:Ex},cU P cfg k fid c s=some (e,s')→∀ {S:Nat→Prop} {N:Nat} {m:M} {a:Act},fH N c=true→RS S N s m a→
 ∀ {Q:Exit→Act→World→Prop},(∀ m' a',RS S N s' m' a'→Evo S m m'→Q e.toExit a' m'.w)→c.wp P Q a m.w
def aEd [Gl] (P:Program) (cfg:Cfg) (k:Nat):Prop:=∀ {fid:FuncId} {c:Code} {s s':St} {e:Ex},cU P cfg k fid (.loop c) s=some (e,s')→∀ {S:Nat→Prop} {N:Nat} {m:M} {a:Act},fH N c=true→RS S N s m a→
 ∀ {Q:Exit→Act→World→Prop},(∀ m' a',RS S N s' m' a'→Evo S m m'→Q e.toExit a' m'.w)→lN P c Q a m.w
theorem yN {cfg:Cfg} {run:FuncId→Code→St→Option (Ex×St)} {f:FuncId} {vs:List V} {hp:Hp} {n c:Nat} {r:CR} (h:fJ P cfg run f vs hp n c=some r):
  ∃ fn body e s rs,P.funcs[f]?=some fn∧fn.body=some body∧vs.length≤fn.ntmps∧fH fn.ntmps body=true∧run f body (enter vs hp n c)=some (e,s)∧(e= .normal∨e= .ret)∧
   f9 P s fn.results.toList=some rs∧kW (cfg.thr f) n s (tup rs)=some r:=by
 unfold fJ at h
 split at h
 ·rename_i fn hfn
  split at h
  ·rename_i body aJT
   split at h
   ·rename_i cE
    simp only[Bool.and_eq_true] at cE
    unfold aBq at h
    split at h
    ·rename_i s hs
     split at h
     ·rename_i rs hrs;exact ⟨fn,body,.normal,s,rs,hfn,aJT,Nat.le_of_ble_eq_true cE.1,cE.2,hs,.inl rfl,hrs,h⟩
     ·simp at h
    ·rename_i s hs
     split at h
     ·rename_i rs hrs;exact ⟨fn,body,.ret,s,rs,hfn,aJT,Nat.le_of_ble_eq_true cE.1,cE.2,hs,.inr rfl,hrs,h⟩
     ·simp at h
    ·simp at h
   ·simp at h
  ·simp at h
 ·simp at h
theorem xU {cfg:Cfg} {run:FuncId→Code→St→Option (Ex×St)}:yG P (fJ P cfg run):=by
 intro f vs hp n c r h
 obtain ⟨fn,body,e,s,rs,h1,h2,_⟩:=yN h
 exact ⟨fn,h1,by rw[h2];rfl⟩
theorem aAJ [Gl] {cfg:Cfg} {k:Nat} (hs:aOV P cfg k):CallOK P (fJ P cfg (cU P cfg k)) where
 log:=by
  intro f vs hp n c r h ht
  obtain ⟨fn,body,e,s,rs,h1,h2,h3,h4,h5,h6,h7,h8⟩:=yN h
  exact aIy (s0:=s) (fU h5) h8 ht
 ok:=by
  intro f vs hp n c r h ht S m xs hh hi hR hv
  obtain ⟨fn,body,e,s,rs,h1,h2,h3,h4,h5,h6,h7,h8⟩:=yN h
  refine calls_of_wp h1 h2 ?_
  have eY:xs.length≤fn.ntmps:=by rw[←hv.1];exact h3
  have h0:RS S fn.ntmps (enter vs hp n c) m { tmps:=xs.toArray++Array.replicate (fn.ntmps - xs.toArray.size) undef,defers:=[] }:=by
   refine ⟨hh,hi,hR,fun t=>?_,by simp;omega,rfl,ht,Nat.le_refl _⟩
   show RV S m ((dD 0 vs).get t) _
   rw[aEu,if_pos (Nat.zero_le t)]
   cases hvt:vs[t - 0]? with
   | none=>exact .any _
   | some v=>
    simp only[Nat.sub_zero] at hvt
    have fB:t<xs.length:=by rw[←hv.1];exact (List.getElem?_eq_some_iff.1 hvt).1
    have:=hv.2 t v xs[t] hvt (by simp[fB])
    have e:(xs.toArray++Array.replicate (fn.ntmps - xs.toArray.size) undef).getD t undef=xs[t]:=by
     have h1:t<xs.length+(fn.ntmps - xs.length):=by omega
     simp[Array.getD,Array.getElem_append,fB,h1]
    show RV S m v ((xs.toArray++Array.replicate (fn.ntmps - xs.toArray.size) undef).getD t undef)
    rw[e];exact this
  refine hs h5 h4 h0 fun m' a' k1 k2=>?_
  obtain ⟨x,g1,g2⟩:=aDK k1 h7
  obtain ⟨m2,q1,q2,q3,q4,q5,q6⟩:=aFo k1 g2 h8
  have hR':∃ x_1 m'_1,Ending.returned x=Ending.returned x_1∧m'_1.w=m'.w∧aRE S m r x_1 m'_1:=⟨x,m2,rfl,q1,q2,k2.trans q3,q4,q5,q6⟩
  rcases h6 with rfl|rfl
  ·exact ⟨k1.defers,x,g1,hR'⟩
  ·exact ⟨k1.defers,x,g1,hR'⟩
section
variable {S:Nat→Prop} {m:M} {s:St} {N:Nat} {a:Act}
theorem RS.put [Gl] (h:RS S N s m a) {d:Nat} {q:Res} {x:Value} {m1:M} (hA:cB S m s.c q x m1) (hd:d<N) (hdn:q.dn=0) (hwr:q.wr.all (fun p=>Nat.blt p.1 s.n)=true):RS S N (s.put (some d) q) m1 (a.put (some d) x):=by
 obtain ⟨k1,k2,k3,k4,k5⟩:=hA
 have aYq:Log s (s.put (some d) q):=Log.put (by rw[hdn];exact hwr)
 refine ⟨?_,?_,k1,fun t=>?_,by simp[Act.put,h.size],h.defers,aYq.top h.n0 h.top,?_⟩
 ·rw[k4,h.h];show _=(s.hp.sets q.wr).get;rw[l9]
 ·rw[k5,h.iss];funext _ g;apply propext;show _↔g<s.c+q.dc;omega
 ·show RV S m1 (nZ.get ((d,q.v)::s.env) t) _
  rw[mP]
  by_cases ht:t=d
  ·subst ht
   simp only[bV,Act.put]
   have:(a.tmps.setIfInBounds t x).getD t undef=x:=by simp[h.size,hd]
   rw[this];exact k3
  ·rw[b7 _ _ ht]
   simp only[Act.put]
   have:(a.tmps.setIfInBounds d x).getD t undef=a.tmps.getD t undef:=by simp[Array.getElem?_setIfInBounds_ne (Ne.symm ht)]
   rw[this];exact (h.env t).mono k2
 ·show s.n0≤s.n+q.dn
  have:=h.n0;omega
theorem aBD {ops ops':Array Oper} {Q:Exit→Act→World→Prop} (hy:yielded ops=yielded ops'):∀ (l:List Nat) (a:Act) (w:World),(∀ i,i∈l→ops[i]?=ops'[i]?)→wpOps P ops Q l a w=wpOps P ops' Q l a w
 | [],a,w,_=>rfl
 | i::r,a,w,h=>by
  have ih:wpOps P ops Q r=wpOps P ops' Q r:=by funext a w;exact aBD hy r a w fun j hj=>h j (List.mem_cons_of_mem _ hj)
  simp only[wpOps,h i (List.mem_cons_self ..),ih,hy]
theorem aGg (ops:Array Oper) (d:Nat):(fQ ops d).size=ops.size:=by simp[fQ]
theorem yF {ops:Array Oper} {d i:Nat} (h:i≠0):(fQ ops d)[i]?=ops[i]?:=by
 unfold fQ;rw[Array.getElem?_setIfInBounds_ne (Ne.symm h)]
theorem vJ {ops:Array Oper} {d:Nat} (h:0<ops.size):(fQ ops d)[0]?=some ⟨some d,.move (.tmp d),0, "",#[],none⟩:=by
 unfold fQ;simp[h]
theorem aDs {ops:Array Oper} {d:Nat} {o:Oper} (h:ops[0]?=some o) (hd:o.dst=some d):yielded ops=yielded (fQ ops d):=by
 have h0:0<ops.size:=(Array.getElem?_eq_some_iff.1 h).1
 funext tmps i
 unfold yielded
 by_cases hi:i=0
 ·subst hi
  rw[h,vJ h0]
  simp[hd]
 ·rw[yF hi]
theorem aGe {ops:Array Oper} {d:Nat} {l:List Nat} {Q:Exit→Act→World→Prop} (h0:ops[0]?=some ⟨some d,.move (.tmp d),0, "",#[],none⟩) (hd:d<a.tmps.size) {w:World} (h:wpOps P ops Q (0::l) a w):wpOps P ops Q l a w:=by
 simp only[wpOps,h0] at h
 have hw:Region.wanted ⟨some d,.move (.tmp d),0, "",#[],none⟩ (yielded ops a.tmps)=true:=rfl
 rw[if_pos hw] at h
 have aOw:a.put (some d) (a.eval (.tmp d))=a:=by
  obtain ⟨ts,df⟩:=a
  simp only[Act.put,Act.eval]
  congr 1
  have cF:d<ts.size:=hd
  have e:ts.getD d undef=ts[d]:=by simp[Array.getD,cF]
  rw[e,Array.setIfInBounds_def,dif_pos cF]
  simp
 rcases h with h|⟨h,_⟩
 ·have h':wpOps P ops Q l (a.put (some d) (a.eval (.tmp d))) w:=h
  rwa [aOw] at h'
 ·exfalso
  have h1:=h.1
  have:((execOp a.eval ⟨some d,.move (.tmp d),0, "",#[],none⟩).runT P w #[]).2=#[]:=rfl
  rw[this] at h1
  simp at h1
variable {cfg:Cfg} {fid:FuncId} {k:Nat}
theorem aDx [Gl] (hN:Pre P cfg) (hc:CallOK P (fJ P cfg (cU P cfg k))) (hS:∀ {s s':St} {e:Ex} {m:M} {a:Act} {rest:Code},cU P cfg k fid rest s=some (e,s')→fH N rest=true→RS S N s m a→∀ {Q:Exit→Act→World→Prop},(∀ m' a',RS S N s' m' a'→Evo S m m'→Q e.toExit a' m'.w)→rest.wp P Q a m.w)
  {rid t d:Nat} {ops:Array Oper} {rest:Code} {ty:TypeId} {pos:String} {af:Array Edge} (h0:ops[0]?=some ⟨some d,.next (.tmp t) false,ty,pos,af,none⟩)
  (cE:fH N (.seq (.region rid ops false) rest)=true) (h:RS S N s m a) {q:Res} {x:Value} {m1:M} (hA:cB S m s.c q x m1) (hdn:q.dn=0) (hwr:q.wr.all (fun p=>Nat.blt p.1 s.n)=true)
  (hx:(Instr.next (a.eval (.tmp t)) false ty).run P m.w= .ok x m1.w) {e:Ex} {u:St}
  (hr:t8 (dN P cfg (fJ P cfg (cU P cfg k)) fid rid (fQ ops d) false) (cU P cfg k fid rest) (s.put (some d) q)=some (e,u))
  {Q:Exit→Act→World→Prop} (hQ:∀ m' a',RS S N u m' a'→Evo S m m'→Q e.toExit a' m'.w):(Code.seq (.region rid ops false) rest).wp P Q a m.w:=by
 have rT:0<ops.size:=(Array.getElem?_eq_some_iff.1 h0).1
 simp only[fH,Bool.and_eq_true] at cE
 have aBU:∀ (i:Nat) (o:Oper) (d:Nat),ops[i]?=some o→o.dst=some d→d<N:=fun i o d ho hd=>by
  have:=List.all_eq_true.1 cE.1 o (by simpa using Array.mem_of_getElem? ho)
  rw[hd] at this
  simpa [Nat.blt_eq] using this
 have hdN:d<N:=aBU 0 _ d h0 rfl
 have h1:=h.put hA hdN hdn hwr
 unfold t8 at hr
 split at hr
 ·rename_i s2 aBm
  unfold dN at aBm
  simp only[Bool.false_eq_true,if_false] at aBm
  split at aBm
  ·rename_i u2 hu2
   simp only[Option.some.injEq] at aBm
   obtain ⟨σ,ρ,g0,g1,tr⟩:=uL hu2
   have g1':σ (fQ ops d).size=u2:=by simpa using g1
   refine wp_seq (wp_region ?_)
   have aRd:List.range ops.size=0::List.range' 1 (ops.size - 1):=by
    rw[List.range_eq_range',show ops.size=(ops.size - 1)+1 by omega,List.range'_succ];simp
   rw[aRd,wpOps_cons]
   unfold wpOp
   simp only[h0]
   have hw:Region.wanted ⟨some d,.next (.tmp t) false,ty,pos,af,none⟩ (yielded ops a.tmps)=true:=rfl
   rw[if_pos hw]
   refine .inl ?_
   unfold Oper.wp
   have kX:(execOp a.eval ⟨some d,.next (.tmp t) false,ty,pos,af,none⟩).run P m.w= .ok (.value x) m1.w:=by simp[execOp,hx]
   rw[kX,Oper.upon_value]
   have aVu:∀ (i:Nat) (o:Oper) (e:Nat),(fQ ops d)[i]?=some o→o.dst=some e→e<N:=fun i o e ho he=>by
    by_cases hi:i=0
    ·subst hi
     rw[vJ rT] at ho
     simp only[Option.some.injEq] at ho;subst ho
     simp at he;subst he;exact hdN
    ·rw[yF hi] at ho;exact aBU i o e ho he
   have pJ:wpOps P (fQ ops d) (Exit.then (rest.wp P Q) Q) (List.range' 0 (fQ ops d).size) (a.put (some d) x) m1.w:=by
    refine aCV hN hc xU tr g0 h1.n0 h1.top aVu (m0:=m1) (fun m' a' k1 k2=>?_) (fQ ops d).size 0 (by omega) (h1.start fun i hi=>by simp)
    rw[g1'] at k1
    obtain ⟨m2,q1,q2,q3⟩:=yR (cfg.mat fid rid) k1
    rw[←q1]
    have k3:=z5 q2 (cfg.keep fid rid)
    rw[aBm] at k3
    exact hS hr cE.2 k3 fun m' a' p1 p2=>hQ m' a' p1 (hA.2.1.trans (k2.trans (q3.trans p2)))
   rw[aGg,show ops.size=(ops.size - 1)+1 by omega,List.range'_succ] at pJ
   have:=aGe (vJ rT) (by rw[h1.size];exact hdN) pJ
   rw[aBD (aDs h0 rfl) _ _ _ fun i hi=>(yF (by have:=List.mem_range'.1 hi;obtain ⟨j,_,rfl⟩:=this;omega)).symm]
   exact this
  ·cases aBm
 ·cases hr
theorem aIA [Gl] (h:RS S N s m a) {t:Nat} {I:Itr} (hI:aAQ s t=some I):∃ (o:Ob) (b bm:Nat) (es:Array MapEntry),m.h I.id=some o∧o.gen=I.g∧o.ro=false∧(∃ last,o.cells=[.itm I.mid I.mg I.since I.seen last])∧m.at_ I.id=some (b,0)∧a.eval (.tmp t)= .pointer (some ⟨b,0,none⟩)∧
  m.w.heap[b]?=some (.mapIter (some bm) I.since I.seen.toArray I.since)∧m.w.heap[bm]?=some (.map es I.since)∧MapAt S m I.ks I.vs I.bs es∧RV S m (.mp I.mid I.mg) (.map (some bm)):=by
 obtain ⟨he,_,⟨last,hl,aVv⟩,⟨q,hq,hqc⟩,_,_⟩:=aAI hI
 have hv:=h.env t
 rw[he] at hv
 rw[←h.h] at hl hq
 obtain ⟨ho,hg,hk,b,iP,wM⟩:=hv.it_live hl
 have dC:=(h.rel.obj I.id _ b 0 ho iP).2
 obtain ⟨_,bm,hh,hmp⟩:=dC
 obtain ⟨tP,hg2,xJ,bm2,aRc,e2⟩:=hmp.mp_live hq
 have:bm=bm2:=by injection e2 with e2;injection e2
 subst this
 have aHr:=(h.rel.obj I.mid q bm 0 tP aRc).2
 rw[hqc] at aHr
 obtain ⟨_,es,hh2,hm⟩:=aHr
 rw[aVv] at hh
 exact ⟨_,b,bm,es,ho,rfl,rfl,⟨last,rfl⟩,iP,wM,hh,hh2,hm,hmp⟩
end
theorem yD {b:Nat} {l:List Nat} (h:b∈l):(b::l.erase b).isPerm l=true:=List.isPerm_iff.2 (List.perm_cons_erase h).symm
theorem RS.raise [Gl] {S:Nat→Prop} {N:Nat} {m:M} {y x:St} {a:Act} (h:RS S N y m a) (hl:LeSt y x):∃ m',m'.w=m.w∧RS S N x m' a∧Evo S m m':=by
 obtain ⟨g1,g2⟩:=h.rel.less (h':=x.hp.get) (fun id o ho=>by rw[h.h];exact hl.hp id o ho)
 let m1:M:={ m with h:=x.hp.get }
 let m':M:={ m1 with iss:=fun _ g=>g<x.c }
 have uR:m1.iss=fun _ g=>g<y.c:=h.iss
 have e:Evo S m1 m':={
  rest:=⟨rfl,rfl,fun _=>rfl⟩
  iss:=fun i g hg=>by rw[uR] at hg;exact Nat.lt_of_lt_of_le hg hl.c
  size:=Nat.le_refl _
  shape:=fun k ks T1 f1 hk=>⟨ks,f1,hk,rfl⟩
  keepS:=fun k hk _=>rfl
  keep:=fun k hk hn=>⟨hn,rfl⟩
  live:=fun i q hq hi=>⟨q,hq,rfl,rfl,Nat.le_refl _,rfl⟩
  old:=fun i q k z h1 h2 hk=>⟨q,z,h1,h2⟩ }
 refine ⟨m',rfl,⟨rfl,rfl,⟨fun g=>(g1.glob g).mono e,fun id o ho=>e.iss _ _ (g1.iss id o ho),g1.none_,fun id o b base ho ha=>⟨(g1.obj id o b base ho ha).1,(g1.obj id o b base ho ha).2.mono e rfl⟩,g1.inj,g1.sub⟩,fun t=>?_,h.size,h.defers,fun id cY=>hl.top id cY,hl.n⟩,g2.trans e⟩
 rcases hl.env t with ht|ht
 ·rw[ht];exact (h.env t).mono (g2.trans e)
 ·rw[ht];exact .any _
theorem aLk [Gl] {cfg:Cfg} {fid:FuncId} {k:Nat} {S:Nat→Prop} {N:Nat} (hN:Pre P cfg) (hc:CallOK P (fJ P cfg (cU P cfg k))) (hS:∀ {s s':St} {e:Ex} {m:M} {a:Act} {rest:Code},cU P cfg k fid rest s=some (e,s')→fH N rest=true→RS S N s m a→∀ {Q:Exit→Act→World→Prop},(∀ m' a',RS S N s' m' a'→Evo S m m'→Q e.toExit a' m'.w)→rest.wp P Q a m.w)
  {rid t d:Nat} {ops:Array Oper} {rest:Code} {ty:TypeId} {pos:String} {af:Array Edge} (h0:ops[0]?=some ⟨some d,.next (.tmp t) false,ty,pos,af,none⟩)
  (cE:fH N (.seq (.region rid ops false) rest)=true) {own:Bool} {e:Ex} {s':St}:∀ (n:Nat) {s:St} {m:M} {a:Act} {I:Itr},aAQ s t=some I→(fE I).length=n→RS S N s m a→
   (∀ p:List Nat,p.isPerm (fE I)=true→∃ y,jE (dN P cfg (fJ P cfg (cU P cfg k)) fid rid (fQ ops d) false) (cU P cfg k fid rest) own t d p s=some (e,y)∧LeSt y s')→
   ∀ {Q:Exit→Act→World→Prop},(∀ m' a',RS S N s' m' a'→Evo S m m'→Q e.toExit a' m'.w)→lN P (.seq (.region rid ops false) rest) Q a m.w
 | n,s,m,a,I,hI,hn,hr,hp,Q,hQ=>by
  obtain ⟨o,b,bm,es,ho,hog,aYr,⟨last,hoc⟩,iP,wM,hh,hh2,hm,hmp⟩:=aIA hr hI
  obtain ⟨_,cY,_,_,oW,mA⟩:=aAI hI
  have hbe:∀ (j:Nat) (x:MapEntry),es[j]?=some x→I.bs[j]?=some x.born:=fun j x hx=>by
   have hj:j<es.size:=(Array.getElem?_eq_some_iff.1 hx).1
   have hjb:j<I.bs.length:=by rw[hm.lb];exact hj
   have h1:I.bs[j]?=some I.bs[j]:=by simp[hjb]
   rw[h1,hm.born j _ x h1 hx]
  have aVw:∀ x,x∈es.toList→x.born∈I.bs:=fun x hx=>by
   obtain ⟨j,hj⟩:=List.mem_iff_getElem?.1 hx
   exact List.mem_of_getElem? (hbe j x (by simpa using hj))
  rcases aGo (P:=P) m.w ty b bm I.since I.seen.toArray es hh hh2 (fun x hx=>oW _ (aVw x hx)) with ⟨hz,kX⟩|⟨x,hx,dr,kX⟩
  ·-- nothing is left
   have aMY:fE I=[]:=by
    rw[List.eq_nil_iff_forall_not_mem]
    intro y hy
    unfold fE at hy
    rw[List.mem_filter] at hy
    obtain ⟨j,hj⟩:=List.mem_iff_getElem?.1 hy.1
    have hjb:j<I.bs.length:=(List.getElem?_eq_some_iff.1 hj).1
    have eM:j<es.size:=by rw[←hm.lb];exact hjb
    have hej:es[j]?=some es[j]:=by simp[eM]
    have wL:=hbe j _ hej
    rw[hj] at wL
    simp only[Option.some.injEq] at wL
    have vC:es[j]∈leftOf es I.seen.toArray:=by
     unfold leftOf
     rw[Array.mem_filter]
     exact ⟨Array.getElem_mem eM,by rw[←wL];simpa using hy.2⟩
    have:leftOf es I.seen.toArray=#[]:=Array.eq_empty_of_size_eq_zero hz
    rw[this] at vC;simp at vC
   obtain ⟨y,h1,hle⟩:=hp [] (by rw[aMY];rfl)
   simp only[jE,hI] at h1
   rw[aMY] at h1
   simp only[List.isEmpty_nil] at h1
   split at h1
   ·cases h1
   ·rename_i hne
    have hA:cB S m s.c aJM (.tuple #[.bool false]) m:=cB.quiet hr.rel (.tuple rfl fun u y z hu hz=>by
     rcases u with _|u
     ·simp at hu hz;subst hu;subst hz;exact .d (.bool _)
     ·simp at hu)
    refine lN.round (aDx hN hc hS h0 cE hr hA rfl rfl (by rw[wM];exact kX) h1 fun m' a' k1 k2=>?_)
    obtain ⟨m3,e1,e2,e3⟩:=k1.raise hle
    have:=hQ m3 a' e2 (k2.trans e3)
    rw[e1] at this
    cases e with
    | normal=>exact absurd h1 (hne y)
    | exit id=>exact this
    | ret=>exact this
  ·-- one entry comes out
   have vG:=mem_left hx
   obtain ⟨i,hi⟩:=List.mem_iff_getElem?.1 vG.1
   have wK:es[i]?=some x:=by simpa using hi
   have hbi:=hbe i x wK
   have vC:x.born∈fE I:=by
    unfold fE
    rw[List.mem_filter]
    exact ⟨List.mem_of_getElem? hbi,by simpa using vG.2⟩
   obtain ⟨y,h1,hle⟩:=hp (x.born::(fE I).erase x.born) (yD vC)
   simp only[jE,hI,yD vC] at h1
   split at h1
   ·rename_i q _ hq
    obtain ⟨j,kd,v,hj,hk,hv,rfl⟩:=aDd hq
    obtain ⟨i2,x2,g1,g2,g3,_⟩:=vI (es:=es.toList) hj (by rw[hm.lb];simp) (fun q n e h1 h2=>hm.born q n e h1 (by simpa using h2))
    rw[Nat.zero_add] at g1;subst g1
    have g2':es[j]?=some x2:=by simpa using g2
    have hbj:=hbe j x2 g2'
    have hij:i=j:=by
     rw[g3] at hbj
     have l1:=(List.getElem?_eq_some_iff.1 hbi).1
     have l2:=(List.getElem?_eq_some_iff.1 hbj).1
     exact (List.getElem?_inj l1 mA).1 (hbi.trans hbj.symm)
    subst hij
    rw[wK] at g2'
    simp only[Option.some.injEq] at g2';subst g2'
    obtain ⟨m1,w1,w2,w3,w4,w5,w6⟩:=rG (id:=I.id) (o:=o) (o':=⟨I.g,false,[.itm I.mid I.mg I.since (I.seen++[x.born]) I.since]⟩) (b:=b) (c:=s.c) (ob:= .mapIter (some bm) I.since I.seen.toArray I.since) (ob':= .mapIter (some bm) I.since (I.seen++[x.born]).toArray I.since)
     (w':={ m.w with drawn:=m.w.drawn+dr,heap:=m.w.heap.setIfInBounds b (.mapIter (some bm) I.since (I.seen++[x.born]).toArray I.since) })
     hr.rel ho iP aYr hh trivial trivial rfl hog.symm (by rw[hoc];rfl) (by rw[hoc];simp) (fun m' e hm'=>⟨rfl,bm,hm',hmp.mono e⟩)
    have hA:cB S m s.c ⟨.tuple [.d (.bool true),.d kd,v],[(I.id,⟨I.g,false,[.itm I.mid I.mg I.since (I.seen++[x.born]) I.since]⟩)],[],0,0,false⟩ (.tuple #[.bool true,x.key,x.val]) m1:=
     ⟨w5,w6,.tuple rfl fun u y z hu hz=>by
      rcases u with _|_|_|u
      ·simp at hu hz;subst hu;subst hz;exact .d (.bool _)
      ·simp at hu hz;subst hu;subst hz;exact .d ((hm.key i kd x hk wK).mono w6.keep)
      ·simp at hu hz;subst hu;subst hz;exact (hm.val i v x hv wK).mono w6
      ·simp at hu,by rw[w2];rfl,by rw[w4];exact (jJ m s.c).symm⟩
    have aOZ:(Instr.next (a.eval (.tmp t)) false ty).run P m.w= .ok (.tuple #[.bool true,x.key,x.val]) m1.w:=by
     rw[wM,w1,kX];simp
    have fB:((fE I).erase x.born).length=(fE I).length - 1:=List.length_erase_of_mem vC
    have rT:0<(fE I).length:=List.length_pos_of_mem vC
    split at h1
    ·rename_i u hu
     refine lN.round (aDx hN hc hS h0 cE hr hA rfl (by simp[Nat.blt_eq,cY]) aOZ hu fun m' a' k1 k2=>?_)
     show lN P _ Q a' m'.w
     -- every other order that begins with this entry
     have aMZ:∀ l:List Nat,(x.born::l).isPerm (fE I)=true→∃ y,jE (dN P cfg (fJ P cfg (cU P cfg k)) fid rid (fQ ops d) false) (cU P cfg k fid rest) own t d l (if own then u else { u with hp:=Hp.trunc s.n u.hp,n:=s.n })=some (e,y)∧LeSt y s':=fun l hl=>by
      obtain ⟨y2,h2,aQY⟩:=hp (x.born::l) hl
      simp only[jE,hI,hl,hq,hu] at h2
      exact ⟨y2,h2,aQY⟩
     have wN:∀ {s2:St} {m2:M},RS S N s2 m2 a'→Evo S m m2→m2.w=m'.w→(if own then u else { u with hp:=Hp.trunc s.n u.hp,n:=s.n })=s2→lN P (.seq (.region rid ops false) rest) Q a' m'.w:=by
      intro s2 m2 hr2 he2 hw2 hs2
      rw[hs2] at aMZ
      obtain ⟨y3,h3,_⟩:=aMZ _ (yD vC)
      obtain ⟨I2,hI2,yA⟩:∃ I2,aAQ s2 t=some I2∧((fE I).erase x.born).isPerm (fE I2)=true:=by
       cases hl:(fE I).erase x.born with
       | nil=>
        rw[hl] at h3
        simp only[jE] at h3
        split at h3
        ·rename_i I2 hI2
         split at h3
         ·rename_i hem
          refine ⟨I2,hI2,?_⟩
          rw[List.isEmpty_iff.1 hem];rfl
         ·cases h3
        ·cases h3
       | cons y l=>
        rw[hl] at h3
        simp only[jE] at h3
        split at h3
        ·rename_i I2 hI2
         split at h3
         ·rename_i q2 hpm _;exact ⟨I2,hI2,hpm⟩
         ·cases h3
        ·cases h3
      have aNa:=List.isPerm_iff.1 yA
      rw[←hw2]
      refine aLk hN hc hS h0 cE (own:=own) (e:=e) (s':=s') (fE I2).length hI2 rfl hr2 (fun p hpp=>aMZ p ?_) fun m'' a'' p1 p2=>hQ m'' a'' p1 (he2.trans p2)
      have aYs:=List.isPerm_iff.1 hpp
      exact List.isPerm_iff.2 (((aYs.trans aNa.symm).cons x.born).trans (List.perm_cons_erase vC).symm)
     cases how:own with
     | true=>exact wN k1 k2 rfl (by rw[how];rfl)
     | false=>
      have hl:=(Log.put (s:=s) (dst:=some d) (q:=⟨.tuple [.d (.bool true),.d kd,v],[(I.id,⟨I.g,false,[.itm I.mid I.mg I.since (I.seen++[x.born]) I.since]⟩)],[],0,0,false⟩) (by simp[Nat.blt_eq];omega))
      have hl2:Log (s.put (some d) ⟨.tuple [.d (.bool true),.d kd,v],[(I.id,⟨I.g,false,[.itm I.mid I.mg I.since (I.seen++[x.born]) I.since]⟩)],[],0,0,false⟩) u:=by
       unfold t8 at hu
       split at hu
       ·rename_i s2 hs2;exact (sU hs2).trans (fU hu)
       ·cases hu
      obtain ⟨m2,g1,g2,g3⟩:=aBH k1 (n:=s.n) (by rw[(hl.trans hl2).n0];exact hr.n0)
      exact wN g2 (k2.trans g3) g1 (by rw[how];rfl)
    ·rename_i hne
     refine lN.round (aDx hN hc hS h0 cE hr hA rfl (by simp[Nat.blt_eq,cY]) aOZ h1 fun m' a' k1 k2=>?_)
     obtain ⟨m3,e1,e2,e3⟩:=k1.raise hle
     have:=hQ m3 a' e2 (k2.trans e3)
     rw[e1] at this
     cases e with
     | normal=>exact absurd h1 (hne y)
     | exit id=>exact this
     | ret=>exact this
   ·cases h1
 termination_by n=>n
 decreasing_by
  subst hn
  have:=aNa.length_eq
  omega
theorem xT {c:Code} {r t d:Nat} {ops:Array Oper} {rest:Code} (h:mN c=some (r,ops,t,d,rest)):c= .seq (.region r ops false) rest∧∃ ty pos af,ops[0]?=some ⟨some d,.next (.tmp t) false,ty,pos,af,none⟩:=by
 unfold mN at h
 split at h
 ·split at h
  ·rename_i hz
   simp only[Option.some.injEq,Prod.mk.injEq] at h
   obtain ⟨rfl,rfl,rfl,rfl,rfl⟩:=h
   exact ⟨rfl,_,_,_,hz⟩
  ·cases h
 ·cases h
theorem aDf [Gl] (cfg:Cfg) (hN:Pre P cfg) (hm:P.follows .mixedOrders=true):∀ k,aOV P cfg k∧aEd P cfg k
 | 0=>⟨fun {fid c s s' e} h=>by simp[cU] at h,fun {fid c s s' e} h=>by simp[cU] at h⟩
 | k+1=>by
  obtain ⟨ihS,ihL⟩:=aDf cfg hN hm k
  have aPa:aEd P cfg (k+1):=by
   intro fid c s s' e h S N m a cE hr Q hQ
   simp only[cU] at h
   split at h
   ·split at h
    ·rename_i t ht
     refine lN.round (ihS ht cE hr fun m1 a1 k1 k2=>?_)
     show lN P c Q a1 m1.w
     have hl:=fU ht
     split at h
     ·exact ihL h cE k1 fun m' a' q1 q2=>hQ m' a' q1 (k2.trans q2)
     ·obtain ⟨m2,g1,g2,g3⟩:=aBH k1 (n:=s.n) (by rw[hl.n0];exact hr.n0)
      rw[←g1]
      exact ihL h cE g2 fun m' a' q1 q2=>hQ m' a' q1 (k2.trans (g3.trans q2))
    ·rename_i hne
     refine lN.round (ihS h cE hr fun m1 a1 k1 k2=>?_)
     have:=hQ m1 a1 k1 k2
     cases e with
     | normal=>exact absurd h (hne s')
     | exit id=>exact this
     | ret=>exact this
   ·rename_i r ops t d rest hnx
    obtain ⟨rfl,ty,pos,af,h0⟩:=xT hnx
    split at h
    ·rename_i I hI
     exact aLk hN (aAJ ihS) (fun {s s' e m a rest} h1 h2 h3 {Q} h4=>ihS h1 h2 h3 h4) h0 cE _ hI rfl hr (aBB h).2 hQ
    ·cases h
  refine ⟨?_,aPa⟩
  intro fid c s s' e h S N m a cE hr Q hQ
  cases c <;> try (simp only[cU] at h;simp at h;done)
  case skip=>simp only[cU] at h;simp at h;obtain ⟨rfl,rfl⟩:=h;exact wp_skip (hQ m a hr (.refl S m))
  case label l=>simp only[cU] at h;simp at h;obtain ⟨rfl,rfl⟩:=h;exact wp_label (hQ m a hr (.refl S m))
  case ret=>simp only[cU] at h;simp at h;obtain ⟨rfl,rfl⟩:=h;exact wp_ret (hQ m a hr (.refl S m))
  case exit id=>simp only[cU] at h;simp at h;obtain ⟨rfl,rfl⟩:=h;exact wp_exit (hQ m a hr (.refl S m))
  case seq x y=>
   simp only[fH,Bool.and_eq_true] at cE
   simp only[cU] at h
   split at h
   ·rename_i t ht
    refine wp_seq (ihS ht cE.1 hr fun m1 a1 k1 k2=>?_)
    exact ihS h cE.2 k1 fun m' a' q1 q2=>hQ m' a' q1 (k2.trans q2)
   ·rename_i hne
    refine wp_seq (ihS h cE.1 hr fun m1 a1 k1 k2=>?_)
    have:=hQ m1 a1 k1 k2
    cases e with
    | normal=>exact absurd h (hne s')
    | exit id=>exact this
    | ret=>exact this
  case cond q x y=>
   simp only[fH,Bool.and_eq_true] at cE
   simp only[cU] at h
   have hq:RV S m (gC s.env q) (a.eval q):=by
    have:aGy S m s.env a (match q with|.tmp t=>[t]|_=>[]):=fun t _=>hr.env t
    exact aCq hr.rel this fun t ht=>by subst ht;simp
   split at h
   ·rename_i hb
    rw[hb] at hq
    exact wp_cond_true hq.bool_inv (ihS h cE.1 hr hQ)
   ·rename_i hb
    rw[hb] at hq
    exact wp_cond_false hq.bool_inv (ihS h cE.2 hr hQ)
   ·simp at h
  case block id b=>
   simp only[fH] at cE
   simp only[cU] at h
   split at h
   ·rename_i i t ht
    split at h
    ·rename_i cY
     simp at h;obtain ⟨rfl,rfl⟩:=h
     refine wp_block (ihS ht cE hr fun m1 a1 k1 k2=>?_)
     show (if i=id then _ else _)
     rw[if_pos cY]
     exact hQ m1 a1 k1 k2
    ·rename_i cY
     simp at h;obtain ⟨rfl,rfl⟩:=h
     refine wp_block (ihS ht cE hr fun m1 a1 k1 k2=>?_)
     show (if i=id then _ else _)
     rw[if_neg cY]
     exact hQ m1 a1 k1 k2
   ·rename_i hne
    refine wp_block (ihS h cE hr fun m1 a1 k1 k2=>?_)
    have:=hQ m1 a1 k1 k2
    cases e with
    | normal=>exact this
    | exit id'=>exact absurd h (hne id' s')
    | ret=>exact this
  case loop b=>simp only[fH] at cE;exact (aPa h cE hr hQ).wp
  case region id ops draw=>
   simp only[fH] at cE
   simp only[cU,Option.map_eq_some_iff] at h
   obtain ⟨t,ht,h⟩:=h
   simp at h;obtain ⟨rfl,rfl⟩:=h
   unfold dN at ht
   split at ht
   ·simp at ht
   ·rename_i aAo
    split at ht
    ·rename_i u hu
     simp only[Option.some.injEq] at ht;subst ht
     refine aIJ hN hm (aAJ ihS) xU aAo hu (fun i o d ho hd=>?_) hr fun m1 a1 k1 k2=>?_
     ·have:=List.all_eq_true.1 cE o (by simpa using Array.mem_of_getElem? ho)
      rw[hd] at this
      simpa [Nat.blt_eq] using this
     ·obtain ⟨m2,g1,g2,g3⟩:=yR (cfg.mat fid id) k1
      rw[←g1]
      exact hQ m2 a1 (z5 g2 _) (k2.trans g3)
    ·simp at ht
theorem aLx [Gl] (cfg:Cfg) (hN:Pre P cfg) (hm:P.follows .mixedOrders=true) (k:Nat):CallOK P (oT P cfg k):=aAJ (aDf cfg hN hm k).1
end Go.Ac
end
section
namespace Go.Ac
variable {P:Program}
section
variable {look:cA}
end
def Ev [Gl] (P:Program) (cfg:Cfg) (f:FuncId) (vs:List V) (hp:Hp) (n c:Nat) (r:CR):Prop:=∃ K,∀ k,K≤k→oT P cfg k f vs hp n c=some r
open Classical in
noncomputable def m9 [Gl] (P:Program) (cfg:Cfg):iX:=fun f vs hp n c=>if h:∃ r,Ev P cfg f vs hp n c r then some h.choose else none
section
variable {cfg:Cfg}
theorem Ev.unique [Gl] {f:FuncId} {vs:List V} {hp:Hp} {n c:Nat} {u v:CR} (h:Ev P cfg f vs hp n c u) (k:Ev P cfg f vs hp n c v):u=v:=by
 obtain ⟨K,hK⟩:=h
 obtain ⟨L,hL⟩:=k
 have h1:=hK (max K L) (Nat.le_max_left _ _)
 rw[hL (max K L) (Nat.le_max_right _ _)] at h1
 exact (Option.some.inj h1).symm
theorem aAf [Gl] {f:FuncId} {vs:List V} {hp:Hp} {n c:Nat} {r:CR} (h:m9 P cfg f vs hp n c=some r):Ev P cfg f vs hp n c r:=by
 unfold m9 at h
 split at h
 ·rename_i hx
  simp only[Option.some.injEq] at h
  rw[←h];exact hx.choose_spec
 ·simp at h
theorem aAx [Gl] {f:FuncId} {vs:List V} {hp:Hp} {n c:Nat} {r:CR} (h:Ev P cfg f vs hp n c r):m9 P cfg f vs hp n c=some r:=by
 have hx:∃ r,Ev P cfg f vs hp n c r:=⟨r,h⟩
 unfold m9
 rw[dif_pos hx,hx.choose_spec.unique h]
theorem aKv [Gl] {hp:Hp} {n c:Nat} {f:FuncId} {vs:List V} {r:Res} (h:jW cfg (m9 P cfg) hp n c f vs=some r):∃ K,∀ k,K≤k→jW cfg (oT P cfg k) hp n c f vs=some r:=by
 unfold jW at h
 split at h
 ·rename_i ws ids gM
  split at h
  ·rename_i r0 hr0
   obtain ⟨K,hK⟩:=aAf hr0
   refine ⟨K,fun k hk=>?_⟩
   unfold jW
   rw[gM]
   simp only[hK k hk]
   exact h
  ·simp at h
 ·rename_i gM
  split at h
  ·rename_i r0 hr0
   obtain ⟨K,hK⟩:=aAf hr0
   refine ⟨K,fun k hk=>?_⟩
   unfold jW
   rw[gM]
   simp only[hK k hk]
   exact h
  ·simp at h
variable {fid rid:Nat}
theorem aOi [Gl] {all:List Oper} {o:Oper} {s:St} {r:Res} (h:opW P cfg fid rid (m9 P cfg) all o s=some r):∃ K,∀ k,K≤k→opW P cfg fid rid (oT P cfg k) all o s=some r:=by
 unfold opW at h
 split at h
 ·rename_i hw
  split at h
  ·rename_i q hq
   have:∃ K,∀ k,K≤k→opR P cfg fid rid (oT P cfg k) o s=some q:=by
    unfold opR at hq
    split at hq
    ·rename_i fo args ts ho
     split at hq
     ·rename_i f caps hf
      split at hq
      ·rename_i p hp
       refine ⟨0,fun k hk=>?_⟩
       unfold opR
       rw[ho]
       simp only[hf,hp]
       exact hq
      ·rename_i hp
       obtain ⟨K,hK⟩:=aKv hq
       refine ⟨K,fun k hk=>?_⟩
       unfold opR
       rw[ho]
       simp only[hf,hp]
       exact hK k hk
     ·simp at hq
    ·rename_i cD
     refine ⟨0,fun k hk=>?_⟩
     unfold opR
     split
     ·rename_i fo args ts ho;exact absurd ho (cD fo args ts)
     ·exact hq
   obtain ⟨K,hK⟩:=this
   refine ⟨K,fun k hk=>?_⟩
   unfold opW
   rw[hw]
   simp only[hK k hk]
   exact h
  ·simp at h
 ·rename_i hw
  exact ⟨0,fun k hk=>by unfold opW;rw[hw];exact h⟩
 ·simp at h
theorem aCD [Gl] {all:List Oper}:∀ {l:List Oper} {s t:St},kE P cfg fid rid (m9 P cfg) all l s=some t→∃ K,∀ k,K≤k→kE P cfg fid rid (oT P cfg k) all l s=some t∧
  ∀ ancs tr,gV P cfg fid rid (m9 P cfg) all l ancs tr s=true→gV P cfg fid rid (oT P cfg k) all l ancs tr s=true
 | [],s,t,h=>⟨0,fun k _=>⟨h,fun ancs tr hc=>by cases ancs <;> exact hc⟩⟩
 | o::r,s,t,h=>by
  simp only[kE] at h
  split at h
  ·rename_i q hq
   obtain ⟨K1,h1⟩:=aOi hq
   obtain ⟨K2,h2⟩:=aCD h
   refine ⟨max K1 K2,fun k hk=>?_⟩
   have hop:=h1 k (Nat.le_trans (Nat.le_max_left _ _) hk)
   obtain ⟨h3,h4⟩:=h2 k (Nat.le_trans (Nat.le_max_right _ _) hk)
   refine ⟨by simp only[kE,hop,h3],fun ancs tr hc=>?_⟩
   cases ancs with
   | nil=>simp[gV] at hc
   | cons a ancs=>
    simp only[gV,hq,hop,Bool.and_eq_true] at hc ⊢
    exact ⟨hc.1,h4 _ _ hc.2⟩
  ·simp at h
theorem region_lim [Gl] {ops:Array Oper} {draw:Bool} {s t:St} (h:dN P cfg (m9 P cfg) fid rid ops draw s=some t):∃ K,∀ k,K≤k→dN P cfg (oT P cfg k) fid rid ops draw s=some t:=by
 unfold dN at h
 split at h
 ·simp at h
 ·rename_i aAo
  split at h
  ·rename_i u hu
   obtain ⟨K,hK⟩:=aCD hu
   refine ⟨K,fun k hk=>?_⟩
   obtain ⟨h1,h2⟩:=hK k hk
   unfold dN
   have:(if draw=true then sH ops.toList&&gV P cfg fid rid (oT P cfg k) ops.toList ops.toList (anc ops.toList) [] s else true)=true:=by
    cases draw with
    | false=>rfl
    | true=>
     rw[if_pos rfl,Bool.and_eq_true] at aAo ⊢
     exact ⟨aAo.1,h2 _ _ aAo.2⟩
   rw[this,h1]
   exact h
  ·simp at h
noncomputable def d7 [Gl] (P:Program) (cfg:Cfg) (f:FuncId) (ws:List V):Option V:=
 match m9 P cfg f ws [] 0 0 with
 | some r=>match dZ eW r.v with
  | some _=>some r.v
  | none=>none
 | none=>none
theorem aKZ [Gl] {f:FuncId} {ws:List V} {r:CR} (he:Ev P cfg f ws [] 0 0 r) (hv:(dZ eW r.v).isSome=true):d7 P cfg f ws=some r.v:=by
 unfold d7
 rw[aAx he]
 obtain ⟨q,hq⟩:=Option.isSome_iff_exists.1 hv
 simp only[hq]
def a8 (e:nZ) (dst:Option Nat) (v:V):nZ:=match dst with|some d=>(d,v)::e|none=>e
def qI (a b:Tr):Bool:=
 (match a.ds with|some d=> !(b.sl.contains d)&& !(b.ds==some d)|none=>true)&&(match b.ds with|some d=> !(a.sl.contains d)|none=>true)
def zD (o:Oper) (all:List Oper):Tr:=⟨[],[],oH o all,o.dst,false,0⟩
def kH (all:List Oper):List Oper→List (List Nat)→List Tr→Bool
 | o::r,a::ancs,tr=>(tr.zipIdx.all fun p=>a.contains p.2||qI p.1 (zD o all))&&kH all r ancs (tr++[zD o all])
 | [],[],_=>true
 | _,_,_=>false
def aFe (ops:Array Oper) (draw:Bool):Bool:= !draw||(sH ops.toList&&kH ops.toList ops.toList (anc ops.toList) [])
def aMy (a b:Tr):Prop:=a.wr=[]∧b.wr=[]∧a.all=false∧b.all=false∧a.sl=b.sl∧a.ds=b.ds∧a.dc=0∧b.dc=0
def vW:List Tr→List Tr→Prop
 | [],[]=>True
 | a::r,b::l=>aMy a b∧vW r l
 | _,_=>False
theorem vW.snoc:∀ {r l:List Tr} {a b:Tr},vW r l→aMy a b→vW (r++[a]) (l++[b])
 | [],[],a,b,_,h=>⟨h,trivial⟩
 | x::r,y::l,a,b,h,h'=>⟨h.1,vW.snoc h.2 h'⟩
 | [],_::_,_,_,h,_=>h.elim
 | _::_,[],_,_,h,_=>h.elim
theorem vW.all {p q:Tr→Nat→Bool} (hpq:∀ a b i,aMy a b→p a i=true→q b i=true):∀ {r l:List Tr} {k:Nat},vW r l→((r.zipIdx k).all fun x=>p x.1 x.2)=true→((l.zipIdx k).all fun x=>q x.1 x.2)=true
 | [],[],k,_,_=>rfl
 | x::r,y::l,k,h,h'=>by
  simp only[List.zipIdx_cons,List.all_cons,Bool.and_eq_true] at h' ⊢
  exact ⟨hpq _ _ _ h.1 h'.1,vW.all hpq h.2 h'.2⟩
 | [],_::_,_,h,_=>h.elim
 | _::_,[],_,h,_=>h.elim
end
end Go.Ac
end
section
namespace Go.Ac
variable {P:Program} {cfg:Cfg} {fid:FuncId}
def iI [Gl] (P:Program) (cfg:Cfg) (fid:FuncId) (c:Code) (s:St) (e:Ex) (s':St):Prop:=∃ K,∀ k,K≤k→cU P cfg k fid c s=some (e,s')
theorem nA {p:Nat→Prop} {K:Nat} (h:∀ k,K≤k→p (k+1)):∃ K,∀ k,K≤k→p k:=
 ⟨K+1,fun k hk=>by
  obtain ⟨j,rfl⟩:∃ j,k=j+1:=⟨k - 1,by omega⟩
  exact h j (by omega)⟩
section
variable {s t u:St} {e:Ex}
theorem iI.skip [Gl]:iI P cfg fid .skip s .normal s:=nA (K:=0) fun k _=>rfl
theorem iI.ret [Gl]:iI P cfg fid .ret s .ret s:=nA (K:=0) fun k _=>rfl
theorem iI.exit [Gl] {i:Nat}:iI P cfg fid (.exit i) s (.exit i) s:=nA (K:=0) fun k _=>rfl
theorem iI.seq [Gl] {a b:Code} (h:iI P cfg fid a s .normal t) (h':iI P cfg fid b t e u):iI P cfg fid (.seq a b) s e u:=by
 obtain ⟨K,hK⟩:=h
 obtain ⟨L,hL⟩:=h'
 exact nA (K:=max K L) fun k hk=>by
  simp only[cU]
  rw[hK k (Nat.le_trans (Nat.le_max_left _ _) hk)]
  exact hL k (Nat.le_trans (Nat.le_max_right _ _) hk)
theorem iI.seq_out [Gl] {a b:Code} (h:iI P cfg fid a s e t) (he:e≠ .normal):iI P cfg fid (.seq a b) s e t:=by
 obtain ⟨K,hK⟩:=h
 exact nA (K:=K) fun k hk=>by
  simp only[cU]
  rw[hK k hk]
  cases e <;> first|rfl|exact absurd rfl he
theorem iI.cond_true [Gl] {q:Operand} {a b:Code} (hq:gC s.env q= .d (.bool true)) (h:iI P cfg fid a s e t):iI P cfg fid (.cond q a b) s e t:=by
 obtain ⟨K,hK⟩:=h
 exact nA (K:=K) fun k hk=>by simp only[cU,hq];exact hK k hk
theorem iI.cond_false [Gl] {q:Operand} {a b:Code} (hq:gC s.env q= .d (.bool false)) (h:iI P cfg fid b s e t):iI P cfg fid (.cond q a b) s e t:=by
 obtain ⟨K,hK⟩:=h
 exact nA (K:=K) fun k hk=>by simp only[cU,hq];exact hK k hk
theorem iI.block [Gl] {i:Nat} {b:Code} (h:iI P cfg fid b s e t) (he:∀ j,e≠ .exit j):iI P cfg fid (.block i b) s e t:=by
 obtain ⟨K,hK⟩:=h
 exact nA (K:=K) fun k hk=>by
  simp only[cU]
  rw[hK k hk]
  cases e with
  | normal=>rfl
  | exit j=>exact absurd rfl (he j)
  | ret=>rfl
theorem iI.block_exit [Gl] {i:Nat} {b:Code} (h:iI P cfg fid b s (.exit i) t):iI P cfg fid (.block i b) s .normal t:=by
 obtain ⟨K,hK⟩:=h
 exact nA (K:=K) fun k hk=>by
  simp only[cU]
  rw[hK k hk]
  simp
theorem iI.block_other [Gl] {i j:Nat} {b:Code} (h:iI P cfg fid b s (.exit j) t) (hj:j≠i):iI P cfg fid (.block i b) s (.exit j) t:=by
 obtain ⟨K,hK⟩:=h
 exact nA (K:=K) fun k hk=>by
  simp only[cU]
  rw[hK k hk]
  simp[hj]
def cut (cfg:Cfg) (fid:FuncId) (s t:St):St:=if cfg.own fid then t else { t with hp:=Hp.trunc s.n t.hp,n:=s.n }
theorem aEn [Gl] {b:Code} {x:Nat×Array Oper×Nat×Nat×Code} (h:mN b=some x):∀ (k:Nat) (s:St),cU P cfg k fid b s=none:=by
 obtain ⟨r,ops,t,d,rest⟩:=x
 obtain ⟨rfl,ty,pos,af,h0⟩:=xT h
 intro k s
 cases k with
 | zero=>rfl
 | succ k=>
  simp only[cU]
  cases k with
  | zero=>rfl
  | succ k=>
   have hl:ops.toList=⟨some d,.next (.tmp t) false,ty,pos,af,none⟩::ops.toList.tail:=by
    cases ho:ops.toList with
    | nil=>
     have:ops=#[]:=by apply Array.ext';simpa using ho
     rw[this] at h0;simp at h0
    | cons a r=>
     have:ops.toList[0]?=some ⟨some d,.next (.tmp t) false,ty,pos,af,none⟩:=by simpa using h0
     rw[ho] at this
     simp at this
     rw[this];rfl
   have aBm:dN P cfg (fJ P cfg (cU P cfg k)) fid r ops false s=none:=by
    unfold dN
    simp only[Bool.false_eq_true,if_false]
    have:∀ all,kE P cfg fid r (fJ P cfg (cU P cfg k)) all ops.toList s=none:=fun all=>by
     rw[hl]
     simp only[kE,opW,w8,opR,step]
    rw[this]
   simp only[cU,aBm,Option.map_none]
theorem iI.round [Gl] {b:Code} (h:iI P cfg fid b s .normal t) (h':iI P cfg fid (.loop b) (cut cfg fid s t) e u):iI P cfg fid (.loop b) s e u:=by
 obtain ⟨K,hK⟩:=h
 obtain ⟨L,hL⟩:=h'
 have hn:mN b=none:=by
  cases hb:mN b with
  | none=>rfl
  | some x=>have:=hK K (Nat.le_refl _);rw[aEn hb] at this;cases this
 exact nA (K:=max K L) fun k hk=>by
  simp only[cU,hn]
  rw[hK k (Nat.le_trans (Nat.le_max_left _ _) hk)]
  exact hL k (Nat.le_trans (Nat.le_max_right _ _) hk)
theorem iI.loop_out [Gl] {b:Code} (h:iI P cfg fid b s e t) (he:e≠ .normal):iI P cfg fid (.loop b) s e t:=by
 obtain ⟨K,hK⟩:=h
 have hn:mN b=none:=by
  cases hb:mN b with
  | none=>rfl
  | some x=>have:=hK K (Nat.le_refl _);rw[aEn hb] at this;cases this
 exact nA (K:=K) fun k hk=>by
  simp only[cU,hn]
  rw[hK k hk]
  cases e <;> first|rfl|exact absurd rfl he
theorem iI.region [Gl] {id:Nat} {ops:Array Oper} {draw:Bool} (h:∃ K,∀ k,K≤k→dN P cfg (oT P cfg k) fid id ops draw s=some t):iI P cfg fid (.region id ops draw) s .normal t:=by
 obtain ⟨K,hK⟩:=h
 refine nA (K:=K) fun k hk=>?_
 have:=hK k hk
 unfold oT at this
 simp only[cU,this];rfl
end
theorem iI.reg [Gl] {id:Nat} {ops:Array Oper} {draw:Bool} {s t:St} (h:dN P cfg (m9 P cfg) fid id ops draw s=some t):iI P cfg fid (.region id ops draw) s .normal t:=iI.region (Go.Ac.region_lim h)
def stH (e:nZ) (hp:Hp) (n c:Nat):St:=⟨e,hp,n,c,0,[]⟩
def st (e:nZ):St:=stH e [] 0 0
end Go.Ac
end
section
namespace Go.Ac
variable {P:Program} {cfg:Cfg} {fid:FuncId}
inductive Gd where
 | free
 | on (d:Nat) (want:Bool)
 | bad
structure PO where
 op:Op
 dst:Option Nat
 g:Gd
def eA (all:List Oper) (o:Oper):PO:=⟨o.op,o.dst,match o.guard with
 | none=> .free
 | some (j,want)=>match all[j]? with
  | some g=>match g.dst with|some d=> .on d want|none=> .bad
  | none=> .bad⟩
def pO (e:nZ):Gd→Option Bool
 | .free=>some true
 | .on d want=>match e.get d with
  | .d (.bool b)=>some (b==want)
  | .undef=>some false
  | _=>none
 | .bad=>none
theorem aId (all:List Oper) (e:nZ) (o:Oper):pO e (eA all o).g=w8 all e o:=by
 unfold eA w8
 cases o.guard with
 | none=>rfl
 | some q=>
  obtain ⟨j,want⟩:=q
  simp only
  cases all[j]? with
  | none=>rfl
  | some g=>simp only;cases g.dst <;> rfl
end Go.Ac
end
