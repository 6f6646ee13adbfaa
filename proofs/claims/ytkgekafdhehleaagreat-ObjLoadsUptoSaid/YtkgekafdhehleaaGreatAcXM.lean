/- The abstract machine: a region's operations with their guards looked up beforehand. No conditions. -/
import Derived.Test.YtkgekafdhehleaaGreatAcTM
set_option linter.unusedVariables false
set_option linter.unusedSimpArgs false
section
namespace Go.Ac
variable {P:Program}
def Ex.toExit:Ex→Exit
 | .normal=> .normal
 | .exit id=> .exit id
 | .ret=> .ret
def mF (P:Program) (c:Code) (Q:Exit→Act→World→Prop) (a:Act) (w:World):Prop:=
 ∀ (b:Frame) (k:List Item) (cs:List Frame),∃ e a' w',Q e a' w'∧Arrives P (lone (b.at a (.code c:: .inLoop c::k)) cs w) b k cs e a' w'
theorem mF.wp {c:Code} {Q:Exit→Act→World→Prop} {a:Act} {w:World} (h:mF P c Q a w):(Code.loop c).wp P Q a w:=
 fun b k cs=>let ⟨e,a',w',q,r⟩:=h b k cs;⟨e,a',w',q,.of_steps (.one step_loop) r⟩
theorem mF.round {c:Code} {Q:Exit→Act→World→Prop} {a:Act} {w:World} (h:c.wp P (Exit.then (mF P c Q) Q) a w):mF P c Q a w:=by
 intro b k cs
 obtain ⟨e,a₁,w₁,hq,aLG⟩:=h b (.inLoop c::k) cs
 cases e with
 | normal=>
  obtain ⟨e₂,a₂,w₂,aWc,aPl⟩:=hq b k cs
  exact ⟨e₂,a₂,w₂,aWc,.of_steps (Steps.trans aLG (.one step_inLoop)) aPl⟩
 | exit id=>exact ⟨_,a₁,w₁,hq,.pass (x:= .inLoop c) rfl (fun _ _=> .inl (by simp)) aLG⟩
 | goto l=>exact ⟨_,a₁,w₁,hq,.pass (x:= .inLoop c) rfl (fun _ _=> .inl (by simp)) aLG⟩
 | ret=>exact ⟨_,a₁,w₁,hq,.pass (x:= .inLoop c) rfl (fun _ _=> .inl (by simp)) aLG⟩
 | panic ch=>exact ⟨_,a₁,w₁,hq,.pass (x:= .inLoop c) rfl (fun _ _=> .inl (by simp)) aLG⟩
 | outgrown=>exact ⟨_,a₁,w₁,hq,.pass (x:= .inLoop c) rfl (fun _ _=> .inl (by simp)) aLG⟩
section
variable {S:Nat→Prop} {m:M} {s:St} {N:Nat} {a:Act}
theorem aLF {look:cA} {i:TI} {p:V} {v:Value} {r:Res} (h:yS look i p=some r) (hl:look=m.h) (hv:RV S m p v):∃ ad,v= .pointer (some ad):=by
 unfold yS at h
 split at h
 ·rename_i id g off
  cases vT:live look id g with
  | none=>simp[vT] at h
  | some o=>
   obtain ⟨_,_,b,base,_,rfl⟩:=hv.ptr_live (hl▸vT)
   exact ⟨_,rfl⟩
 ·cases hv with|vref f hf hr=>exact ⟨_,rfl⟩
 ·simp at h
def wJ (tmps:Array Value):ResultVar→Sem Value
 | .tmp t=>pure (tmps.getD t undef)
 | .cell a t=>do loadVar t (←asAddr (tmps.getD a undef))
theorem aEq [Gl] (h:RS S N s m a) {r:ResultVar} {v:V} (hr:aAh P s r=some v):∃ x,(wJ a.tmps r).run P m.w= .ok x m.w∧RV S m v x:=by
 cases r with
 | tmp t=>simp[aAh] at hr;subst hr;exact ⟨_,rfl,h.env t⟩
 | cell q t=>
  simp only[aAh,Option.bind_eq_some_iff,Option.map_eq_some_iff] at hr
  obtain ⟨i,hi,y,hy,rfl⟩:=hr
  obtain ⟨x,g1,g2⟩:=aBY (c:=0) hi hy h.h.symm h.rel (h.env q)
  obtain ⟨ad,had⟩:=aLF hy h.h.symm (h.env q)
  refine ⟨x,?_,g2.2.2.1⟩
  rw[had] at g1
  simp only[wJ,had,asAddr,Sem.run_bind,Sem.run_pure,Result.andThen_ok]
  simpa [Instr.loadAt,Instr.sureAddr] using g1
theorem wE [Gl] (h:RS S N s m a):∀ {l:List ResultVar} {vs:List V},gG P s l=some vs→∃ xs,(l.mapM (wJ a.tmps)).run P m.w= .ok xs m.w∧jU S m vs xs
 | [],vs,hr=>by simp[gG] at hr;subst hr;exact ⟨[],by simp,.nil⟩
 | r::l,vs,hr=>by
  simp only[gG] at hr
  split at hr
  ·rename_i v us h1 h2
   simp only[Option.some.injEq] at hr;subst hr
   obtain ⟨x,g1,g2⟩:=aEq h h1
   obtain ⟨xs,g3,g4⟩:=wE h h2
   exact ⟨x::xs,by simp[List.mapM_cons,Sem.run_bind,g1,g3],.cons g2 g4⟩
  ·simp at hr
theorem aEr [Gl] (h:RS S N s m a) {fn:Func} {rs:List V} (hr:gG P s fn.results.toList=some rs):∃ x,(results fn a.tmps).run P m.w= .ok x m.w∧RV S m (tup rs) x:=by
 obtain ⟨xs,g1,g2⟩:=wE h hr
 have e:results fn a.tmps=(do let vs ←fn.results.mapM (wJ a.tmps);pure (if h:vs.size=1 then vs[0] else .tuple vs)):=by
  unfold results
  congr 1
 have lR:(fn.results.mapM (wJ a.tmps)).run P m.w= .ok xs.toArray m.w:=by
  rw[Array.mapM_eq_mapM_toList]
  simp[g1]
 rw[e]
 simp only[Sem.run_bind,lR,Result.andThen_ok,Sem.run_pure]
 refine ⟨_,rfl,?_⟩
 cases rs with
 | nil=>
  have:xs=[]:=List.length_eq_zero_iff.1 (by rw[←g2.1];rfl)
  subst this
  exact g2.tuple
 | cons v r=>
  obtain ⟨x,ys,rfl,k1,k2⟩:=g2.cases
  cases r with
  | nil=>
   have:ys=[]:=List.length_eq_zero_iff.1 (by rw[←k2.1];rfl)
   subst this
   simpa [tup] using k1
  | cons u r=>
   obtain ⟨y,zs,rfl,k3,k4⟩:=k2.cases
   simp only[tup]
   rw[dif_neg (by simp)]
   exact g2.tuple
theorem aCi [Gl] (h:RS S N s m a) {n:Nat} (hn:s.n0≤n):∃ m',m'.w=m.w∧RS S N { s with hp:=Hp.trunc n s.hp,n:=n } m' a∧Evo S m m':=by
 obtain ⟨g1,g2⟩:=h.rel.less (h':=(Hp.trunc n s.hp).get) (fun id o ho=>by
  rw[gM] at ho
  split at ho
  ·rw[h.h];exact ho
  ·cases ho)
 refine ⟨{ m with h:=(Hp.trunc n s.hp).get },rfl,⟨rfl,h.iss,g1,fun t=>(h.env t).mono g2,h.size,h.defers,fun id c8=>?_,hn⟩,g2⟩
 show (Hp.trunc n s.hp).get id=none
 rw[gM,if_neg (by have:n≤id:=c8;omega)]
theorem aFv [Gl] (h:RS S N s m a) {thr:Bool} {n:Nat} {v:V} {x:Value} {r:CR} (hv:RV S m v x) (hr:lQ thr n s v=some r):∃ m',m'.w=m.w∧Rel S m'∧Evo S m m'∧RV S m' r.v x∧m'.h=r.hp.get∧m'.iss=fun _ g=>g<r.c:=by
 unfold lQ at hr
 split at hr
 ·rename_i w ids gI
  have aPi:d7 s.hp.get v=some (w,ids):=by
   cases thr with
   | true=>simp at gI
   | false=>simpa using gI
  split at hr
  ·rename_i cC
   simp only[Option.some.injEq] at hr;subst hr
   obtain ⟨m1,e1,hb⟩:=ros h.rel ids
   have hw:=aFG h.rel (by rw[h.h];exact aPi) hv hb (fun i hi=>hi)
   cases hfl:w.flat with
   | true=>
    obtain ⟨g1,g2⟩:=h.rel.less (h':=(Hp.trunc n s.hp).get) (fun id o ho=>by
     rw[gM] at ho
     split at ho
     ·rw[h.h];exact ho
     ·cases ho)
    exact ⟨{ m with h:=(Hp.trunc n s.hp).get },rfl,g1,g2,hw.flat hfl,rfl,h.iss⟩
   | false=>
    rw[hfl] at cC
    simp only[Bool.false_or] at cC
    have dD:∀ id,id<n→m1.h id=m.h id:=fun id c8=>hb.not id fun hm=>by
     have:=List.all_eq_true.1 cC id hm
     have:=Nat.le_of_ble_eq_true this
     omega
    obtain ⟨g1,g2⟩:=hb.rel.less (h':=(Hp.trunc n s.hp).get) (fun id o ho=>by
     rw[gM] at ho
     split at ho
     ·rename_i eU;rw[dD id eU,h.h];exact ho
     ·cases ho)
    exact ⟨{ m1 with h:=(Hp.trunc n s.hp).get },hb.w,g1,hb.evo.trans g2,hw.mono g2,rfl,by show m1.iss=_;rw[hb.iss];exact h.iss⟩
  ·simp at hr
 ·simp only[Option.some.injEq] at hr;subst hr
  exact ⟨m,rfl,h.rel,.refl S m,hv,h.h,h.iss⟩
end
theorem aFm:∀ (vs:List V) (k t:Nat),(dG k vs).get t=if k≤t then (vs[t - k]?).getD .any else .any
 | [],k,t=>by simp[dG,oH.get]
 | v::r,k,t=>by
  simp only[dG,m7]
  by_cases h:t=k
  ·subst h;simp
  ·rw[b9 _ _ h,aFm r (k+1) t]
   by_cases hk:k≤t
   ·rw[if_pos hk,if_pos (by omega)]
    rw[show t - k=(t - (k+1))+1 by omega];simp
   ·rw[if_neg hk,if_neg (by omega)]
theorem aIx {s0 s:St} {thr:Bool} {v:V} {r:CR} {hp:Hp} {n c:Nat} {vs:List V} (hl:Log (enter vs hp n c) s) (hr:lQ thr n s v=some r) (ht:zB hp n):LogOK hp n c r:=by
 have top:=hl.top (Nat.le_refl _) ht
 have wl:∀ id,id<n→id∉s.wl→s.hp.get id=hp.get id:=fun id c8 hw=>(hl.wl (Nat.le_refl _) id c8 hw).2
 have stay:∀ id,id<n→s.hp.get id=none→hp.get id=none:=fun id c8 hn=>hl.stay (Nat.le_refl _) id c8 hn
 unfold lQ at hr
 split at hr
 ·split at hr
  ·simp only[Option.some.injEq] at hr;subst hr
   refine ⟨Nat.le_refl _,hl.c,fun id c8=>?_,fun id c8 hw=>?_,fun id c8 hn=>?_⟩
   ·show (Hp.trunc n s.hp).get id=none
    rw[gM,if_neg (by have:n≤id:=c8;omega)]
   ·show (Hp.trunc n s.hp).get id=_
    rw[gM,if_pos c8];exact wl id c8 hw
   ·have hn':(Hp.trunc n s.hp).get id=none:=hn
    rw[gM,if_pos c8] at hn';exact stay id c8 hn'
  ·simp at hr
 ·simp only[Option.some.injEq] at hr;subst hr
  exact ⟨hl.n,hl.c,top,wl,stay⟩
def aPA [Gl] (P:Program) (cfg:Cfg) (k:Nat):Prop:=∀ {fid:FuncId} {c:Code} {s s':St} {e:Ex},cZ P cfg k fid c s=some (e,s')→∀ {S:Nat→Prop} {N:Nat} {m:M} {a:Act},fL N c=true→RS S N s m a→
 ∀ {Q:Exit→Act→World→Prop},(∀ m' a',RS S N s' m' a'→Evo S m m'→Q e.toExit a' m'.w)→c.wp P Q a m.w
def aEP [Gl] (P:Program) (cfg:Cfg) (k:Nat):Prop:=∀ {fid:FuncId} {c:Code} {s s':St} {e:Ex},cZ P cfg k fid (.loop c) s=some (e,s')→∀ {S:Nat→Prop} {N:Nat} {m:M} {a:Act},fL N c=true→RS S N s m a→
 ∀ {Q:Exit→Act→World→Prop},(∀ m' a',RS S N s' m' a'→Evo S m m'→Q e.toExit a' m'.w)→mF P c Q a m.w
theorem y9 {cfg:Cfg} {run:FuncId→Code→St→Option (Ex×St)} {f:FuncId} {vs:List V} {hp:Hp} {n c:Nat} {r:CR} (h:fM P cfg run f vs hp n c=some r):
  ∃ fn body e s rs,P.funcs[f]?=some fn∧fn.body=some body∧vs.length≤fn.ntmps∧fL fn.ntmps body=true∧run f body (enter vs hp n c)=some (e,s)∧(e= .normal∨e= .ret)∧
   gG P s fn.results.toList=some rs∧lQ (cfg.thr f) n s (tup rs)=some r:=by
 unfold fM at h
 split at h
 ·rename_i fn hfn
  split at h
  ·rename_i body aKE
   split at h
   ·rename_i cC
    simp only[Bool.and_eq_true] at cC
    unfold aBV at h
    split at h
    ·rename_i s hs
     split at h
     ·rename_i rs hrs;exact ⟨fn,body,.normal,s,rs,hfn,aKE,Nat.le_of_ble_eq_true cC.1,cC.2,hs,.inl rfl,hrs,h⟩
     ·simp at h
    ·rename_i s hs
     split at h
     ·rename_i rs hrs;exact ⟨fn,body,.ret,s,rs,hfn,aKE,Nat.le_of_ble_eq_true cC.1,cC.2,hs,.inr rfl,hrs,h⟩
     ·simp at h
    ·simp at h
   ·simp at h
  ·simp at h
 ·simp at h
theorem yR {cfg:Cfg} {run:FuncId→Code→St→Option (Ex×St)}:zA P (fM P cfg run):=by
 intro f vs hp n c r h
 obtain ⟨fn,body,e,s,rs,h1,h2,_⟩:=y9 h
 exact ⟨fn,h1,by rw[h2];rfl⟩
theorem aBz [Gl] {cfg:Cfg} {k:Nat} (hs:aPA P cfg k):CallOK P (fM P cfg (cZ P cfg k)) where
 log:=by
  intro f vs hp n c r h ht
  obtain ⟨fn,body,e,s,rs,h1,h2,h3,h4,h5,h6,h7,h8⟩:=y9 h
  exact aIx (s0:=s) (fZ h5) h8 ht
 ok:=by
  intro f vs hp n c r h ht S m xs hh hi hR hv
  obtain ⟨fn,body,e,s,rs,h1,h2,h3,h4,h5,h6,h7,h8⟩:=y9 h
  refine calls_of_wp h1 h2 ?_
  have e9:xs.length≤fn.ntmps:=by rw[←hv.1];exact h3
  have h0:RS S fn.ntmps (enter vs hp n c) m { tmps:=xs.toArray++Array.replicate (fn.ntmps - xs.toArray.size) undef,defers:=[] }:=by
   refine ⟨hh,hi,hR,fun t=>?_,by simp;omega,rfl,ht,Nat.le_refl _⟩
   show RV S m ((dG 0 vs).get t) _
   rw[aFm,if_pos (Nat.zero_le t)]
   cases hvt:vs[t - 0]? with
   | none=>exact .any _
   | some v=>
    simp only[Nat.sub_zero] at hvt
    have eU:t<xs.length:=by rw[←hv.1];exact (List.getElem?_eq_some_iff.1 hvt).1
    have:=hv.2 t v xs[t] hvt (by simp[eU])
    have e:(xs.toArray++Array.replicate (fn.ntmps - xs.toArray.size) undef).getD t undef=xs[t]:=by
     have h1:t<xs.length+(fn.ntmps - xs.length):=by omega
     simp[Array.getD,Array.getElem_append,eU,h1]
    show RV S m v ((xs.toArray++Array.replicate (fn.ntmps - xs.toArray.size) undef).getD t undef)
    rw[e];exact this
  refine hs h5 h4 h0 fun m' a' k1 k2=>?_
  obtain ⟨x,g1,g2⟩:=aEr k1 h7
  obtain ⟨m2,q1,q2,q3,q4,q5,q6⟩:=aFv k1 g2 h8
  have hR':∃ x_1 m'_1,Ending.returned x=Ending.returned x_1∧m'_1.w=m'.w∧aTv S m r x_1 m'_1:=⟨x,m2,rfl,q1,q2,k2.trans q3,q4,q5,q6⟩
  rcases h6 with rfl|rfl
  ·exact ⟨k1.defers,x,g1,hR'⟩
  ·exact ⟨k1.defers,x,g1,hR'⟩
section
variable {S:Nat→Prop} {m:M} {s:St} {N:Nat} {a:Act}
theorem RS.put [Gl] (h:RS S N s m a) {d:Nat} {q:Res} {x:Value} {m1:M} (hA:cD S m s.c q x m1) (hd:d<N) (hdn:q.dn=0) (hwr:q.wr.all (fun p=>Nat.blt p.1 s.n)=true):RS S N (s.put (some d) q) m1 (a.put (some d) x):=by
 obtain ⟨k1,k2,k3,k4,k5⟩:=hA
 have aZd:Log s (s.put (some d) q):=Log.put (by rw[hdn];exact hwr)
 refine ⟨?_,?_,k1,fun t=>?_,by simp[Act.put,h.size],h.defers,aZd.top h.n0 h.top,?_⟩
 ·rw[k4,h.h];show _=(s.hp.sets q.wr).get;rw[mP]
 ·rw[k5,h.iss];funext _ g;apply propext;show _↔g<s.c+q.dc;omega
 ·show RV S m1 (oH.get ((d,q.v)::s.env) t) _
  rw[m7]
  by_cases ht:t=d
  ·subst ht
   simp only[bY,Act.put]
   have:(a.tmps.setIfInBounds t x).getD t undef=x:=by simp[h.size,hd]
   rw[this];exact k3
  ·rw[b9 _ _ ht]
   simp only[Act.put]
   have:(a.tmps.setIfInBounds d x).getD t undef=a.tmps.getD t undef:=by simp[Array.getElem?_setIfInBounds_ne (Ne.symm ht)]
   rw[this];exact (h.env t).mono k2
 ·show s.n0≤s.n+q.dn
  have:=h.n0;omega
theorem aCj {ops ops':Array Oper} {Q:Exit→Act→World→Prop} (hy:yielded ops=yielded ops'):∀ (l:List Nat) (a:Act) (w:World),(∀ i,i∈l→ops[i]?=ops'[i]?)→wpOps P ops Q l a w=wpOps P ops' Q l a w
 | [],a,w,_=>rfl
 | i::r,a,w,h=>by
  have ih:wpOps P ops Q r=wpOps P ops' Q r:=by funext a w;exact aCj hy r a w fun j hj=>h j (List.mem_cons_of_mem _ hj)
  simp only[wpOps,h i (List.mem_cons_self ..),ih,hy]
theorem aHq (ops:Array Oper) (d:Nat):(fT ops d).size=ops.size:=by simp[fT]
theorem y8 {ops:Array Oper} {d i:Nat} (h:i≠0):(fT ops d)[i]?=ops[i]?:=by
 unfold fT;rw[Array.getElem?_setIfInBounds_ne (Ne.symm h)]
theorem wK {ops:Array Oper} {d:Nat} (h:0<ops.size):(fT ops d)[0]?=some ⟨some d,.move (.tmp d),0, "",#[],none⟩:=by
 unfold fT;simp[h]
theorem aCT {ops:Array Oper} {d:Nat} {o:Oper} (h:ops[0]?=some o) (hd:o.dst=some d):yielded ops=yielded (fT ops d):=by
 have h0:0<ops.size:=(Array.getElem?_eq_some_iff.1 h).1
 funext tmps i
 unfold yielded
 by_cases hi:i=0
 ·subst hi
  rw[h,wK h0]
  simp[hd]
 ·rw[y8 hi]
theorem aGW {ops:Array Oper} {d:Nat} {l:List Nat} {Q:Exit→Act→World→Prop} (h0:ops[0]?=some ⟨some d,.move (.tmp d),0, "",#[],none⟩) (hd:d<a.tmps.size) {w:World} (h:wpOps P ops Q (0::l) a w):wpOps P ops Q l a w:=by
 simp only[wpOps,h0] at h
 have hw:Region.wanted ⟨some d,.move (.tmp d),0, "",#[],none⟩ (yielded ops a.tmps)=true:=rfl
 rw[if_pos hw] at h
 have aPk:a.put (some d) (a.eval (.tmp d))=a:=by
  obtain ⟨ts,df⟩:=a
  simp only[Act.put,Act.eval]
  congr 1
  have cG:d<ts.size:=hd
  have e:ts.getD d undef=ts[d]:=by simp[Array.getD,cG]
  rw[e,Array.setIfInBounds_def,dif_pos cG]
  simp
 rcases h with h|⟨h,_⟩
 ·have h':wpOps P ops Q l (a.put (some d) (a.eval (.tmp d))) w:=h
  rwa [aPk] at h'
 ·exfalso
  have h1:=h.1
  have:((execOp a.eval ⟨some d,.move (.tmp d),0, "",#[],none⟩).runT P w #[]).2=#[]:=rfl
  rw[this] at h1
  simp at h1
variable {cfg:Cfg} {fid:FuncId} {k:Nat}
theorem aDE [Gl] (hN:Pre P cfg) (hc:CallOK P (fM P cfg (cZ P cfg k))) (hS:∀ {s s':St} {e:Ex} {m:M} {a:Act} {rest:Code},cZ P cfg k fid rest s=some (e,s')→fL N rest=true→RS S N s m a→∀ {Q:Exit→Act→World→Prop},(∀ m' a',RS S N s' m' a'→Evo S m m'→Q e.toExit a' m'.w)→rest.wp P Q a m.w)
  {rid t d:Nat} {ops:Array Oper} {rest:Code} {ty:TypeId} {pos:String} {af:Array Edge} (h0:ops[0]?=some ⟨some d,.next (.tmp t) false,ty,pos,af,none⟩)
  (cC:fL N (.seq (.region rid ops false) rest)=true) (h:RS S N s m a) {q:Res} {x:Value} {m1:M} (hA:cD S m s.c q x m1) (hdn:q.dn=0) (hwr:q.wr.all (fun p=>Nat.blt p.1 s.n)=true)
  (hx:(Instr.next (a.eval (.tmp t)) false ty).run P m.w= .ok x m1.w) {e:Ex} {u:St}
  (hr:u5 (dR P cfg (fM P cfg (cZ P cfg k)) fid rid (fT ops d) false) (cZ P cfg k fid rest) (s.put (some d) q)=some (e,u))
  {Q:Exit→Act→World→Prop} (hQ:∀ m' a',RS S N u m' a'→Evo S m m'→Q e.toExit a' m'.w):(Code.seq (.region rid ops false) rest).wp P Q a m.w:=by
 have sI:0<ops.size:=(Array.getElem?_eq_some_iff.1 h0).1
 simp only[fL,Bool.and_eq_true] at cC
 have aCu:∀ (i:Nat) (o:Oper) (d:Nat),ops[i]?=some o→o.dst=some d→d<N:=fun i o d ho hd=>by
  have:=List.all_eq_true.1 cC.1 o (by simpa using Array.mem_of_getElem? ho)
  rw[hd] at this
  simpa [Nat.blt_eq] using this
 have hdN:d<N:=aCu 0 _ d h0 rfl
 have h1:=h.put hA hdN hdn hwr
 unfold u5 at hr
 split at hr
 ·rename_i s2 aBM
  unfold dR at aBM
  simp only[Bool.false_eq_true,if_false] at aBM
  split at aBM
  ·rename_i u2 hu2
   simp only[Option.some.injEq] at aBM
   obtain ⟨σ,ρ,g0,g1,tr⟩:=uJ hu2
   have g1':σ (fT ops d).size=u2:=by simpa using g1
   refine wp_seq (wp_region ?_)
   have aRR:List.range ops.size=0::List.range' 1 (ops.size - 1):=by
    rw[List.range_eq_range',show ops.size=(ops.size - 1)+1 by omega,List.range'_succ];simp
   rw[aRR,wpOps_cons]
   unfold wpOp
   simp only[h0]
   have hw:Region.wanted ⟨some d,.next (.tmp t) false,ty,pos,af,none⟩ (yielded ops a.tmps)=true:=rfl
   rw[if_pos hw]
   refine .inl ?_
   unfold Oper.wp
   have lR:(execOp a.eval ⟨some d,.next (.tmp t) false,ty,pos,af,none⟩).run P m.w= .ok (.value x) m1.w:=by simp[execOp,hx]
   rw[lR,Oper.upon_value]
   have aWd:∀ (i:Nat) (o:Oper) (e:Nat),(fT ops d)[i]?=some o→o.dst=some e→e<N:=fun i o e ho he=>by
    by_cases hi:i=0
    ·subst hi
     rw[wK sI] at ho
     simp only[Option.some.injEq] at ho;subst ho
     simp at he;subst he;exact hdN
    ·rw[y8 hi] at ho;exact aCu i o e ho he
   have qC:wpOps P (fT ops d) (Exit.then (rest.wp P Q) Q) (List.range' 0 (fT ops d).size) (a.put (some d) x) m1.w:=by
    refine aCY hN hc yR tr g0 h1.n0 h1.top aWd (m0:=m1) (fun m' a' k1 k2=>?_) (fT ops d).size 0 (by omega) (h1.start fun i hi=>by simp)
    rw[g1'] at k1
    obtain ⟨m2,q1,q2,q3⟩:=zN (cfg.mat fid rid) k1
    rw[←q1]
    have k3:=aAK q2 (cfg.keep fid rid)
    rw[aBM] at k3
    exact hS hr cC.2 k3 fun m' a' p1 p2=>hQ m' a' p1 (hA.2.1.trans (k2.trans (q3.trans p2)))
   rw[aHq,show ops.size=(ops.size - 1)+1 by omega,List.range'_succ] at qC
   have:=aGW (wK sI) (by rw[h1.size];exact hdN) qC
   rw[aCj (aCT h0 rfl) _ _ _ fun i hi=>(y8 (by have:=List.mem_range'.1 hi;obtain ⟨j,_,rfl⟩:=this;omega)).symm]
   exact this
  ·cases aBM
 ·cases hr
theorem aIE [Gl] (h:RS S N s m a) {t:Nat} {I:Itr} (hI:aBw s t=some I):∃ (o:Ob) (b bm:Nat) (es:Array MapEntry),m.h I.id=some o∧o.gen=I.g∧o.ro=false∧(∃ last,o.cells=[.itm I.mid I.mg I.since I.seen last])∧m.at_ I.id=some (b,0)∧a.eval (.tmp t)= .pointer (some ⟨b,0,none⟩)∧
  m.w.heap[b]?=some (.mapIter (some bm) I.since I.seen.toArray I.since)∧m.w.heap[bm]?=some (.map es I.since)∧MapAt S m I.ks I.vs I.bs es∧RV S m (.mp I.mid I.mg) (.map (some bm)):=by
 obtain ⟨he,_,⟨last,hl,aWe⟩,⟨q,hq,hqc⟩,_,_⟩:=aBj hI
 have hv:=h.env t
 rw[he] at hv
 rw[←h.h] at hl hq
 obtain ⟨ho,hg,hk,b,i6,vW⟩:=hv.it_live hl
 have dK:=(h.rel.obj I.id _ b 0 ho i6).2
 obtain ⟨_,bm,hh,hmp⟩:=dK
 obtain ⟨uC,hg2,yE,bm2,aRQ,e2⟩:=hmp.mp_live hq
 have:bm=bm2:=by injection e2 with e2;injection e2
 subst this
 have aHZ:=(h.rel.obj I.mid q bm 0 uC aRQ).2
 rw[hqc] at aHZ
 obtain ⟨_,es,hh2,hm⟩:=aHZ
 rw[aWe] at hh
 exact ⟨_,b,bm,es,ho,rfl,rfl,⟨last,rfl⟩,i6,vW,hh,hh2,hm,hmp⟩
end
theorem zJ {b:Nat} {l:List Nat} (h:b∈l):(b::l.erase b).isPerm l=true:=List.isPerm_iff.2 (List.perm_cons_erase h).symm
theorem RS.raise [Gl] {S:Nat→Prop} {N:Nat} {m:M} {y x:St} {a:Act} (h:RS S N y m a) (hl:LeSt y x):∃ m',m'.w=m.w∧RS S N x m' a∧Evo S m m':=by
 obtain ⟨g1,g2⟩:=h.rel.less (h':=x.hp.get) (fun id o ho=>by rw[h.h];exact hl.hp id o ho)
 let m1:M:={ m with h:=x.hp.get }
 let m':M:={ m1 with iss:=fun _ g=>g<x.c }
 have vC:m1.iss=fun _ g=>g<y.c:=h.iss
 have e:Evo S m1 m':={
  rest:=⟨rfl,rfl,fun _=>rfl⟩
  iss:=fun i g hg=>by rw[vC] at hg;exact Nat.lt_of_lt_of_le hg hl.c
  size:=Nat.le_refl _
  shape:=fun k ks T1 f1 hk=>⟨ks,f1,hk,rfl⟩
  keepS:=fun k hk _=>rfl
  keep:=fun k hk hn=>⟨hn,rfl⟩
  live:=fun i q hq hi=>⟨q,hq,rfl,rfl,Nat.le_refl _,rfl⟩
  old:=fun i q k z h1 h2 hk=>⟨q,z,h1,h2⟩ }
 refine ⟨m',rfl,⟨rfl,rfl,⟨fun g=>(g1.glob g).mono e,fun id o ho=>e.iss _ _ (g1.iss id o ho),g1.none_,fun id o b base ho ha=>⟨(g1.obj id o b base ho ha).1,(g1.obj id o b base ho ha).2.mono e rfl⟩,g1.inj,g1.sub⟩,fun t=>?_,h.size,h.defers,fun id c8=>hl.top id c8,hl.n⟩,g2.trans e⟩
 rcases hl.env t with ht|ht
 ·rw[ht];exact (h.env t).mono (g2.trans e)
 ·rw[ht];exact .any _
theorem aLM [Gl] {cfg:Cfg} {fid:FuncId} {k:Nat} {S:Nat→Prop} {N:Nat} (hN:Pre P cfg) (hc:CallOK P (fM P cfg (cZ P cfg k))) (hS:∀ {s s':St} {e:Ex} {m:M} {a:Act} {rest:Code},cZ P cfg k fid rest s=some (e,s')→fL N rest=true→RS S N s m a→∀ {Q:Exit→Act→World→Prop},(∀ m' a',RS S N s' m' a'→Evo S m m'→Q e.toExit a' m'.w)→rest.wp P Q a m.w)
  {rid t d:Nat} {ops:Array Oper} {rest:Code} {ty:TypeId} {pos:String} {af:Array Edge} (h0:ops[0]?=some ⟨some d,.next (.tmp t) false,ty,pos,af,none⟩)
  (cC:fL N (.seq (.region rid ops false) rest)=true) {own:Bool} {e:Ex} {s':St}:∀ (n:Nat) {s:St} {m:M} {a:Act} {I:Itr},aBw s t=some I→(fJ I).length=n→RS S N s m a→
   (∀ p:List Nat,p.isPerm (fJ I)=true→∃ y,jK (dR P cfg (fM P cfg (cZ P cfg k)) fid rid (fT ops d) false) (cZ P cfg k fid rest) own t d p s=some (e,y)∧LeSt y s')→
   ∀ {Q:Exit→Act→World→Prop},(∀ m' a',RS S N s' m' a'→Evo S m m'→Q e.toExit a' m'.w)→mF P (.seq (.region rid ops false) rest) Q a m.w
 | n,s,m,a,I,hI,hn,hr,hp,Q,hQ=>by
  obtain ⟨o,b,bm,es,ho,hog,aZe,⟨last,hoc⟩,i6,vW,hh,hh2,hm,hmp⟩:=aIE hr hI
  obtain ⟨_,c8,_,_,pQ,mB⟩:=aBj hI
  have hbe:∀ (j:Nat) (x:MapEntry),es[j]?=some x→I.bs[j]?=some x.born:=fun j x hx=>by
   have hj:j<es.size:=(Array.getElem?_eq_some_iff.1 hx).1
   have hjb:j<I.bs.length:=by rw[hm.lb];exact hj
   have h1:I.bs[j]?=some I.bs[j]:=by simp[hjb]
   rw[h1,hm.born j _ x h1 hx]
  have aWf:∀ x,x∈es.toList→x.born∈I.bs:=fun x hx=>by
   obtain ⟨j,hj⟩:=List.mem_iff_getElem?.1 hx
   exact List.mem_of_getElem? (hbe j x (by simpa using hj))
  rcases aHX (P:=P) m.w ty b bm I.since I.seen.toArray es hh hh2 (fun x hx=>pQ _ (aWf x hx)) with ⟨hz,lR⟩|⟨x,hx,dr,lR⟩
  ·-- nothing is left
   have aNN:fJ I=[]:=by
    rw[List.eq_nil_iff_forall_not_mem]
    intro y hy
    unfold fJ at hy
    rw[List.mem_filter] at hy
    obtain ⟨j,hj⟩:=List.mem_iff_getElem?.1 hy.1
    have hjb:j<I.bs.length:=(List.getElem?_eq_some_iff.1 hj).1
    have eE:j<es.size:=by rw[←hm.lb];exact hjb
    have hej:es[j]?=some es[j]:=by simp[eE]
    have xG:=hbe j _ hej
    rw[hj] at xG
    simp only[Option.some.injEq] at xG
    have vU:es[j]∈leftOf es I.seen.toArray:=by
     unfold leftOf
     rw[Array.mem_filter]
     exact ⟨Array.getElem_mem eE,by rw[←xG];simpa using hy.2⟩
    have:leftOf es I.seen.toArray=#[]:=Array.eq_empty_of_size_eq_zero hz
    rw[this] at vU;simp at vU
   obtain ⟨y,h1,yM⟩:=hp [] (by rw[aNN];rfl)
   simp only[jK,hI] at h1
   rw[aNN] at h1
   simp only[List.isEmpty_nil] at h1
   split at h1
   ·cases h1
   ·rename_i hne
    have hA:cD S m s.c aJN (.tuple #[.bool false]) m:=cD.quiet hr.rel (.tuple rfl fun u y z hu hz=>by
     rcases u with _|u
     ·simp at hu hz;subst hu;subst hz;exact .d (.bool _)
     ·simp at hu)
    refine mF.round (aDE hN hc hS h0 cC hr hA rfl rfl (by rw[vW];exact lR) h1 fun m' a' k1 k2=>?_)
    obtain ⟨m3,e1,e2,e3⟩:=k1.raise yM
    have:=hQ m3 a' e2 (k2.trans e3)
    rw[e1] at this
    cases e with
    | normal=>exact absurd h1 (hne y)
    | exit id=>exact this
    | ret=>exact this
  ·-- one entry comes out
   have wC:=mem_left hx
   obtain ⟨i,hi⟩:=List.mem_iff_getElem?.1 wC.1
   have xF:es[i]?=some x:=by simpa using hi
   have hbi:=hbe i x xF
   have vU:x.born∈fJ I:=by
    unfold fJ
    rw[List.mem_filter]
    exact ⟨List.mem_of_getElem? hbi,by simpa using wC.2⟩
   obtain ⟨y,h1,yM⟩:=hp (x.born::(fJ I).erase x.born) (zJ vU)
   simp only[jK,hI,zJ vU] at h1
   split at h1
   ·rename_i q _ hq
    obtain ⟨j,kd,v,hj,hk,hv,rfl⟩:=aDz hq
    obtain ⟨i2,x2,g1,g2,g3,_⟩:=wI (es:=es.toList) hj (by rw[hm.lb];simp) (fun q n e h1 h2=>hm.born q n e h1 (by simpa using h2))
    rw[Nat.zero_add] at g1;subst g1
    have g2':es[j]?=some x2:=by simpa using g2
    have hbj:=hbe j x2 g2'
    have hij:i=j:=by
     rw[g3] at hbj
     have l1:=(List.getElem?_eq_some_iff.1 hbi).1
     have l2:=(List.getElem?_eq_some_iff.1 hbj).1
     exact (List.getElem?_inj l1 mB).1 (hbi.trans hbj.symm)
    subst hij
    rw[xF] at g2'
    simp only[Option.some.injEq] at g2';subst g2'
    obtain ⟨m1,w1,w2,w3,w4,w5,w6⟩:=rP (id:=I.id) (o:=o) (o':=⟨I.g,false,[.itm I.mid I.mg I.since (I.seen++[x.born]) I.since]⟩) (b:=b) (c:=s.c) (ob:= .mapIter (some bm) I.since I.seen.toArray I.since) (ob':= .mapIter (some bm) I.since (I.seen++[x.born]).toArray I.since)
     (w':={ m.w with drawn:=m.w.drawn+dr,heap:=m.w.heap.setIfInBounds b (.mapIter (some bm) I.since (I.seen++[x.born]).toArray I.since) })
     hr.rel ho i6 aZe hh trivial trivial rfl hog.symm (by rw[hoc];rfl) (by rw[hoc];simp) (fun m' e hm'=>⟨rfl,bm,hm',hmp.mono e⟩)
    have hA:cD S m s.c ⟨.tuple [.d (.bool true),.d kd,v],[(I.id,⟨I.g,false,[.itm I.mid I.mg I.since (I.seen++[x.born]) I.since]⟩)],[],0,0,false⟩ (.tuple #[.bool true,x.key,x.val]) m1:=
     ⟨w5,w6,.tuple rfl fun u y z hu hz=>by
      rcases u with _|_|_|u
      ·simp at hu hz;subst hu;subst hz;exact .d (.bool _)
      ·simp at hu hz;subst hu;subst hz;exact .d ((hm.key i kd x hk xF).mono w6.keep)
      ·simp at hu hz;subst hu;subst hz;exact (hm.val i v x hv xF).mono w6
      ·simp at hu,by rw[w2];rfl,by rw[w4];exact (jS m s.c).symm⟩
    have aPL:(Instr.next (a.eval (.tmp t)) false ty).run P m.w= .ok (.tuple #[.bool true,x.key,x.val]) m1.w:=by
     rw[vW,w1,lR];simp
    have eU:((fJ I).erase x.born).length=(fJ I).length - 1:=List.length_erase_of_mem vU
    have sI:0<(fJ I).length:=List.length_pos_of_mem vU
    split at h1
    ·rename_i u hu
     refine mF.round (aDE hN hc hS h0 cC hr hA rfl (by simp[Nat.blt_eq,c8]) aPL hu fun m' a' k1 k2=>?_)
     show mF P _ Q a' m'.w
     -- every other order that begins with this entry
     have aNO:∀ l:List Nat,(x.born::l).isPerm (fJ I)=true→∃ y,jK (dR P cfg (fM P cfg (cZ P cfg k)) fid rid (fT ops d) false) (cZ P cfg k fid rest) own t d l (if own then u else { u with hp:=Hp.trunc s.n u.hp,n:=s.n })=some (e,y)∧LeSt y s':=fun l hl=>by
      obtain ⟨y2,h2,aRM⟩:=hp (x.born::l) hl
      simp only[jK,hI,hl,hq,hu] at h2
      exact ⟨y2,h2,aRM⟩
     have xH:∀ {s2:St} {m2:M},RS S N s2 m2 a'→Evo S m m2→m2.w=m'.w→(if own then u else { u with hp:=Hp.trunc s.n u.hp,n:=s.n })=s2→mF P (.seq (.region rid ops false) rest) Q a' m'.w:=by
      intro s2 m2 hr2 he2 hw2 hs2
      rw[hs2] at aNO
      obtain ⟨y3,h3,_⟩:=aNO _ (zJ vU)
      obtain ⟨I2,hI2,y7⟩:∃ I2,aBw s2 t=some I2∧((fJ I).erase x.born).isPerm (fJ I2)=true:=by
       cases hl:(fJ I).erase x.born with
       | nil=>
        rw[hl] at h3
        simp only[jK] at h3
        split at h3
        ·rename_i I2 hI2
         split at h3
         ·rename_i hem
          refine ⟨I2,hI2,?_⟩
          rw[List.isEmpty_iff.1 hem];rfl
         ·cases h3
        ·cases h3
       | cons y l=>
        rw[hl] at h3
        simp only[jK] at h3
        split at h3
        ·rename_i I2 hI2
         split at h3
         ·rename_i q2 hpm _;exact ⟨I2,hI2,hpm⟩
         ·cases h3
        ·cases h3
      have aNP:=List.isPerm_iff.1 y7
      rw[←hw2]
      refine aLM hN hc hS h0 cC (own:=own) (e:=e) (s':=s') (fJ I2).length hI2 rfl hr2 (fun p hpp=>aNO p ?_) fun m'' a'' p1 p2=>hQ m'' a'' p1 (he2.trans p2)
      have aZf:=List.isPerm_iff.1 hpp
      exact List.isPerm_iff.2 (((aZf.trans aNP.symm).cons x.born).trans (List.perm_cons_erase vU).symm)
     cases how:own with
     | true=>exact xH k1 k2 rfl (by rw[how];rfl)
     | false=>
      have hl:=(Log.put (s:=s) (dst:=some d) (q:=⟨.tuple [.d (.bool true),.d kd,v],[(I.id,⟨I.g,false,[.itm I.mid I.mg I.since (I.seen++[x.born]) I.since]⟩)],[],0,0,false⟩) (by simp[Nat.blt_eq];omega))
      have hl2:Log (s.put (some d) ⟨.tuple [.d (.bool true),.d kd,v],[(I.id,⟨I.g,false,[.itm I.mid I.mg I.since (I.seen++[x.born]) I.since]⟩)],[],0,0,false⟩) u:=by
       unfold u5 at hu
       split at hu
       ·rename_i s2 hs2;exact (tD hs2).trans (fZ hu)
       ·cases hu
      obtain ⟨m2,g1,g2,g3⟩:=aCi k1 (n:=s.n) (by rw[(hl.trans hl2).n0];exact hr.n0)
      exact xH g2 (k2.trans g3) g1 (by rw[how];rfl)
    ·rename_i hne
     refine mF.round (aDE hN hc hS h0 cC hr hA rfl (by simp[Nat.blt_eq,c8]) aPL h1 fun m' a' k1 k2=>?_)
     obtain ⟨m3,e1,e2,e3⟩:=k1.raise yM
     have:=hQ m3 a' e2 (k2.trans e3)
     rw[e1] at this
     cases e with
     | normal=>exact absurd h1 (hne y)
     | exit id=>exact this
     | ret=>exact this
   ·cases h1
 termination_by n=>n
 decreasing_by
  subst hn
  have:=aNP.length_eq
  omega
theorem yT {c:Code} {r t d:Nat} {ops:Array Oper} {rest:Code} (h:nA c=some (r,ops,t,d,rest)):c= .seq (.region r ops false) rest∧∃ ty pos af,ops[0]?=some ⟨some d,.next (.tmp t) false,ty,pos,af,none⟩:=by
 unfold nA at h
 split at h
 ·split at h
  ·rename_i hz
   simp only[Option.some.injEq,Prod.mk.injEq] at h
   obtain ⟨rfl,rfl,rfl,rfl,rfl⟩:=h
   exact ⟨rfl,_,_,_,hz⟩
  ·cases h
 ·cases h
theorem aDT [Gl] (cfg:Cfg) (hN:Pre P cfg) (hm:P.follows .mixedOrders=true):∀ k,aPA P cfg k∧aEP P cfg k
 | 0=>⟨fun {fid c s s' e} h=>by simp[cZ] at h,fun {fid c s s' e} h=>by simp[cZ] at h⟩
 | k+1=>by
  obtain ⟨ihS,ihL⟩:=aDT cfg hN hm k
  have aPM:aEP P cfg (k+1):=by
   intro fid c s s' e h S N m a cC hr Q hQ
   simp only[cZ] at h
   split at h
   ·split at h
    ·rename_i t ht
     refine mF.round (ihS ht cC hr fun m1 a1 k1 k2=>?_)
     show mF P c Q a1 m1.w
     have hl:=fZ ht
     split at h
     ·exact ihL h cC k1 fun m' a' q1 q2=>hQ m' a' q1 (k2.trans q2)
     ·obtain ⟨m2,g1,g2,g3⟩:=aCi k1 (n:=s.n) (by rw[hl.n0];exact hr.n0)
      rw[←g1]
      exact ihL h cC g2 fun m' a' q1 q2=>hQ m' a' q1 (k2.trans (g3.trans q2))
    ·rename_i hne
     refine mF.round (ihS h cC hr fun m1 a1 k1 k2=>?_)
     have:=hQ m1 a1 k1 k2
     cases e with
     | normal=>exact absurd h (hne s')
     | exit id=>exact this
     | ret=>exact this
   ·rename_i r ops t d rest hnx
    obtain ⟨rfl,ty,pos,af,h0⟩:=yT hnx
    split at h
    ·rename_i I hI
     exact aLM hN (aBz ihS) (fun {s s' e m a rest} h1 h2 h3 {Q} h4=>ihS h1 h2 h3 h4) h0 cC _ hI rfl hr (aCm h).2 hQ
    ·cases h
  refine ⟨?_,aPM⟩
  intro fid c s s' e h S N m a cC hr Q hQ
  cases c <;> try (simp only[cZ] at h;simp at h;done)
  case skip=>simp only[cZ] at h;simp at h;obtain ⟨rfl,rfl⟩:=h;exact wp_skip (hQ m a hr (.refl S m))
  case label l=>simp only[cZ] at h;simp at h;obtain ⟨rfl,rfl⟩:=h;exact wp_label (hQ m a hr (.refl S m))
  case ret=>simp only[cZ] at h;simp at h;obtain ⟨rfl,rfl⟩:=h;exact wp_ret (hQ m a hr (.refl S m))
  case exit id=>simp only[cZ] at h;simp at h;obtain ⟨rfl,rfl⟩:=h;exact wp_exit (hQ m a hr (.refl S m))
  case seq x y=>
   simp only[fL,Bool.and_eq_true] at cC
   simp only[cZ] at h
   split at h
   ·rename_i t ht
    refine wp_seq (ihS ht cC.1 hr fun m1 a1 k1 k2=>?_)
    exact ihS h cC.2 k1 fun m' a' q1 q2=>hQ m' a' q1 (k2.trans q2)
   ·rename_i hne
    refine wp_seq (ihS h cC.1 hr fun m1 a1 k1 k2=>?_)
    have:=hQ m1 a1 k1 k2
    cases e with
    | normal=>exact absurd h (hne s')
    | exit id=>exact this
    | ret=>exact this
  case cond q x y=>
   simp only[fL,Bool.and_eq_true] at cC
   simp only[cZ] at h
   have hq:RV S m (gL s.env q) (a.eval q):=by
    have:aGT S m s.env a (match q with|.tmp t=>[t]|_=>[]):=fun t _=>hr.env t
    exact aDH hr.rel this fun t ht=>by subst ht;simp
   split at h
   ·rename_i hb
    rw[hb] at hq
    exact wp_cond_true hq.bool_inv (ihS h cC.1 hr hQ)
   ·rename_i hb
    rw[hb] at hq
    exact wp_cond_false hq.bool_inv (ihS h cC.2 hr hQ)
   ·simp at h
  case block id b=>
   simp only[fL] at cC
   simp only[cZ] at h
   split at h
   ·rename_i i t ht
    split at h
    ·rename_i c8
     simp at h;obtain ⟨rfl,rfl⟩:=h
     refine wp_block (ihS ht cC hr fun m1 a1 k1 k2=>?_)
     show (if i=id then _ else _)
     rw[if_pos c8]
     exact hQ m1 a1 k1 k2
    ·rename_i c8
     simp at h;obtain ⟨rfl,rfl⟩:=h
     refine wp_block (ihS ht cC hr fun m1 a1 k1 k2=>?_)
     show (if i=id then _ else _)
     rw[if_neg c8]
     exact hQ m1 a1 k1 k2
   ·rename_i hne
    refine wp_block (ihS h cC hr fun m1 a1 k1 k2=>?_)
    have:=hQ m1 a1 k1 k2
    cases e with
    | normal=>exact this
    | exit id'=>exact absurd h (hne id' s')
    | ret=>exact this
  case loop b=>simp only[fL] at cC;exact (aPM h cC hr hQ).wp
  case region id ops draw=>
   simp only[fL] at cC
   simp only[cZ,Option.map_eq_some_iff] at h
   obtain ⟨t,ht,h⟩:=h
   simp at h;obtain ⟨rfl,rfl⟩:=h
   unfold dR at ht
   split at ht
   ·simp at ht
   ·rename_i aAQ
    split at ht
    ·rename_i u hu
     simp only[Option.some.injEq] at ht;subst ht
     refine aIA hN hm (aBz ihS) yR aAQ hu (fun i o d ho hd=>?_) hr fun m1 a1 k1 k2=>?_
     ·have:=List.all_eq_true.1 cC o (by simpa using Array.mem_of_getElem? ho)
      rw[hd] at this
      simpa [Nat.blt_eq] using this
     ·obtain ⟨m2,g1,g2,g3⟩:=zN (cfg.mat fid id) k1
      rw[←g1]
      exact hQ m2 a1 (aAK g2 _) (k2.trans g3)
    ·simp at ht
theorem aNd [Gl] (cfg:Cfg) (hN:Pre P cfg) (hm:P.follows .mixedOrders=true) (k:Nat):CallOK P (oW P cfg k):=aBz (aDT cfg hN hm k).1
end Go.Ac
end
section
namespace Go.Ac
variable {P:Program}
section
variable {look:cA}
end
def Ev [Gl] (P:Program) (cfg:Cfg) (f:FuncId) (vs:List V) (hp:Hp) (n c:Nat) (r:CR):Prop:=∃ K,∀ k,K≤k→oW P cfg k f vs hp n c=some r
open Classical in
noncomputable def nV [Gl] (P:Program) (cfg:Cfg):jB:=fun f vs hp n c=>if h:∃ r,Ev P cfg f vs hp n c r then some h.choose else none
section
variable {cfg:Cfg}
theorem Ev.unique [Gl] {f:FuncId} {vs:List V} {hp:Hp} {n c:Nat} {u v:CR} (h:Ev P cfg f vs hp n c u) (k:Ev P cfg f vs hp n c v):u=v:=by
 obtain ⟨K,hK⟩:=h
 obtain ⟨L,hL⟩:=k
 have h1:=hK (max K L) (Nat.le_max_left _ _)
 rw[hL (max K L) (Nat.le_max_right _ _)] at h1
 exact (Option.some.inj h1).symm
theorem aAF [Gl] {f:FuncId} {vs:List V} {hp:Hp} {n c:Nat} {r:CR} (h:nV P cfg f vs hp n c=some r):Ev P cfg f vs hp n c r:=by
 unfold nV at h
 split at h
 ·rename_i hx
  simp only[Option.some.injEq] at h
  rw[←h];exact hx.choose_spec
 ·simp at h
theorem aBt [Gl] {f:FuncId} {vs:List V} {hp:Hp} {n c:Nat} {r:CR} (h:Ev P cfg f vs hp n c r):nV P cfg f vs hp n c=some r:=by
 have hx:∃ r,Ev P cfg f vs hp n c r:=⟨r,h⟩
 unfold nV
 rw[dif_pos hx,hx.choose_spec.unique h]
theorem aKZ [Gl] {hp:Hp} {n c:Nat} {f:FuncId} {vs:List V} {r:Res} (h:kH cfg (nV P cfg) hp n c f vs=some r):∃ K,∀ k,K≤k→kH cfg (oW P cfg k) hp n c f vs=some r:=by
 unfold kH at h
 split at h
 ·rename_i ws ids gI
  split at h
  ·rename_i r0 hr0
   obtain ⟨K,hK⟩:=aAF hr0
   refine ⟨K,fun k hk=>?_⟩
   unfold kH
   rw[gI]
   simp only[hK k hk]
   exact h
  ·simp at h
 ·rename_i gI
  split at h
  ·rename_i r0 hr0
   obtain ⟨K,hK⟩:=aAF hr0
   refine ⟨K,fun k hk=>?_⟩
   unfold kH
   rw[gI]
   simp only[hK k hk]
   exact h
  ·simp at h
variable {fid rid:Nat}
theorem aOt [Gl] {all:List Oper} {o:Oper} {s:St} {r:Res} (h:opW P cfg fid rid (nV P cfg) all o s=some r):∃ K,∀ k,K≤k→opW P cfg fid rid (oW P cfg k) all o s=some r:=by
 unfold opW at h
 split at h
 ·rename_i hw
  split at h
  ·rename_i q hq
   have:∃ K,∀ k,K≤k→opR P cfg fid rid (oW P cfg k) o s=some q:=by
    unfold opR at hq
    split at hq
    ·rename_i fo args ts ho
     split at hq
     ·rename_i f caps hf
      split at hq
      ·rename_i p hp
       refine ⟨0,fun k hk=>?_⟩
       unfold opR
       rw[ho]
       simp only[hf,hp]
       exact hq
      ·rename_i hp
       obtain ⟨K,hK⟩:=aKZ hq
       refine ⟨K,fun k hk=>?_⟩
       unfold opR
       rw[ho]
       simp only[hf,hp]
       exact hK k hk
     ·simp at hq
    ·rename_i cF
     refine ⟨0,fun k hk=>?_⟩
     unfold opR
     split
     ·rename_i fo args ts ho;exact absurd ho (cF fo args ts)
     ·exact hq
   obtain ⟨K,hK⟩:=this
   refine ⟨K,fun k hk=>?_⟩
   unfold opW
   rw[hw]
   simp only[hK k hk]
   exact h
  ·simp at h
 ·rename_i hw
  exact ⟨0,fun k hk=>by unfold opW;rw[hw];exact h⟩
 ·simp at h
theorem aDt [Gl] {all:List Oper}:∀ {l:List Oper} {s t:St},kS P cfg fid rid (nV P cfg) all l s=some t→∃ K,∀ k,K≤k→kS P cfg fid rid (oW P cfg k) all l s=some t∧
  ∀ ancs tr,iB P cfg fid rid (nV P cfg) all l ancs tr s=true→iB P cfg fid rid (oW P cfg k) all l ancs tr s=true
 | [],s,t,h=>⟨0,fun k _=>⟨h,fun ancs tr hc=>by cases ancs <;> exact hc⟩⟩
 | o::r,s,t,h=>by
  simp only[kS] at h
  split at h
  ·rename_i q hq
   obtain ⟨K1,h1⟩:=aOt hq
   obtain ⟨K2,h2⟩:=aDt h
   refine ⟨max K1 K2,fun k hk=>?_⟩
   have hop:=h1 k (Nat.le_trans (Nat.le_max_left _ _) hk)
   obtain ⟨h3,h4⟩:=h2 k (Nat.le_trans (Nat.le_max_right _ _) hk)
   refine ⟨by simp only[kS,hop,h3],fun ancs tr hc=>?_⟩
   cases ancs with
   | nil=>simp[iB] at hc
   | cons a ancs=>
    simp only[iB,hq,hop,Bool.and_eq_true] at hc ⊢
    exact ⟨hc.1,h4 _ _ hc.2⟩
  ·simp at h
theorem region_lim [Gl] {ops:Array Oper} {draw:Bool} {s t:St} (h:dR P cfg (nV P cfg) fid rid ops draw s=some t):∃ K,∀ k,K≤k→dR P cfg (oW P cfg k) fid rid ops draw s=some t:=by
 unfold dR at h
 split at h
 ·simp at h
 ·rename_i aAQ
  split at h
  ·rename_i u hu
   obtain ⟨K,hK⟩:=aDt hu
   refine ⟨K,fun k hk=>?_⟩
   obtain ⟨h1,h2⟩:=hK k hk
   unfold dR
   have:(if draw=true then sQ ops.toList&&iB P cfg fid rid (oW P cfg k) ops.toList ops.toList (anc ops.toList) [] s else true)=true:=by
    cases draw with
    | false=>rfl
    | true=>
     rw[if_pos rfl,Bool.and_eq_true] at aAQ ⊢
     exact ⟨aAQ.1,h2 _ _ aAQ.2⟩
   rw[this,h1]
   exact h
  ·simp at h
noncomputable def eJ [Gl] (P:Program) (cfg:Cfg) (f:FuncId) (ws:List V):Option V:=
 match nV P cfg f ws [] 0 0 with
 | some r=>match d7 fF r.v with
  | some _=>some r.v
  | none=>none
 | none=>none
theorem aLV [Gl] {f:FuncId} {ws:List V} {r:CR} (he:Ev P cfg f ws [] 0 0 r) (hv:(d7 fF r.v).isSome=true):eJ P cfg f ws=some r.v:=by
 unfold eJ
 rw[aBt he]
 obtain ⟨q,hq⟩:=Option.isSome_iff_exists.1 hv
 simp only[hq]
def a7 (e:oH) (dst:Option Nat) (v:V):oH:=match dst with|some d=>(d,v)::e|none=>e
def qX (a b:Tr):Bool:=
 (match a.ds with|some d=> !(b.sl.contains d)&& !(b.ds==some d)|none=>true)&&(match b.ds with|some d=> !(a.sl.contains d)|none=>true)
def z9 (o:Oper) (all:List Oper):Tr:=⟨[],[],pG o all,o.dst,false,0⟩
def kW (all:List Oper):List Oper→List (List Nat)→List Tr→Bool
 | o::r,a::ancs,tr=>(tr.zipIdx.all fun p=>a.contains p.2||qX p.1 (z9 o all))&&kW all r ancs (tr++[z9 o all])
 | [],[],_=>true
 | _,_,_=>false
def aFH (ops:Array Oper) (draw:Bool):Bool:= !draw||(sQ ops.toList&&kW ops.toList ops.toList (anc ops.toList) [])
def aLL (a b:Tr):Prop:=a.wr=[]∧b.wr=[]∧a.all=false∧b.all=false∧a.sl=b.sl∧a.ds=b.ds∧a.dc=0∧b.dc=0
def wN:List Tr→List Tr→Prop
 | [],[]=>True
 | a::r,b::l=>aLL a b∧wN r l
 | _,_=>False
theorem wN.snoc:∀ {r l:List Tr} {a b:Tr},wN r l→aLL a b→wN (r++[a]) (l++[b])
 | [],[],a,b,_,h=>⟨h,trivial⟩
 | x::r,y::l,a,b,h,h'=>⟨h.1,wN.snoc h.2 h'⟩
 | [],_::_,_,_,h,_=>h.elim
 | _::_,[],_,_,h,_=>h.elim
theorem wN.all {p q:Tr→Nat→Bool} (hpq:∀ a b i,aLL a b→p a i=true→q b i=true):∀ {r l:List Tr} {k:Nat},wN r l→((r.zipIdx k).all fun x=>p x.1 x.2)=true→((l.zipIdx k).all fun x=>q x.1 x.2)=true
 | [],[],k,_,_=>rfl
 | x::r,y::l,k,h,h'=>by
  simp only[List.zipIdx_cons,List.all_cons,Bool.and_eq_true] at h' ⊢
  exact ⟨hpq _ _ _ h.1 h'.1,wN.all hpq h.2 h'.2⟩
 | [],_::_,_,h,_=>h.elim
 | _::_,[],_,h,_=>h.elim
end
end Go.Ac
end
section
namespace Go.Ac
variable {P:Program} {cfg:Cfg} {fid:FuncId}
def iQ [Gl] (P:Program) (cfg:Cfg) (fid:FuncId) (c:Code) (s:St) (e:Ex) (s':St):Prop:=∃ K,∀ k,K≤k→cZ P cfg k fid c s=some (e,s')
theorem nE {p:Nat→Prop} {K:Nat} (h:∀ k,K≤k→p (k+1)):∃ K,∀ k,K≤k→p k:=
 ⟨K+1,fun k hk=>by
  obtain ⟨j,rfl⟩:∃ j,k=j+1:=⟨k - 1,by omega⟩
  exact h j (by omega)⟩
section
variable {s t u:St} {e:Ex}
theorem iQ.skip [Gl]:iQ P cfg fid .skip s .normal s:=nE (K:=0) fun k _=>rfl
theorem iQ.ret [Gl]:iQ P cfg fid .ret s .ret s:=nE (K:=0) fun k _=>rfl
theorem iQ.exit [Gl] {i:Nat}:iQ P cfg fid (.exit i) s (.exit i) s:=nE (K:=0) fun k _=>rfl
theorem iQ.seq [Gl] {a b:Code} (h:iQ P cfg fid a s .normal t) (h':iQ P cfg fid b t e u):iQ P cfg fid (.seq a b) s e u:=by
 obtain ⟨K,hK⟩:=h
 obtain ⟨L,hL⟩:=h'
 exact nE (K:=max K L) fun k hk=>by
  simp only[cZ]
  rw[hK k (Nat.le_trans (Nat.le_max_left _ _) hk)]
  exact hL k (Nat.le_trans (Nat.le_max_right _ _) hk)
theorem iQ.seq_out [Gl] {a b:Code} (h:iQ P cfg fid a s e t) (he:e≠ .normal):iQ P cfg fid (.seq a b) s e t:=by
 obtain ⟨K,hK⟩:=h
 exact nE (K:=K) fun k hk=>by
  simp only[cZ]
  rw[hK k hk]
  cases e <;> first|rfl|exact absurd rfl he
theorem iQ.cond_true [Gl] {q:Operand} {a b:Code} (hq:gL s.env q= .d (.bool true)) (h:iQ P cfg fid a s e t):iQ P cfg fid (.cond q a b) s e t:=by
 obtain ⟨K,hK⟩:=h
 exact nE (K:=K) fun k hk=>by simp only[cZ,hq];exact hK k hk
theorem iQ.cond_false [Gl] {q:Operand} {a b:Code} (hq:gL s.env q= .d (.bool false)) (h:iQ P cfg fid b s e t):iQ P cfg fid (.cond q a b) s e t:=by
 obtain ⟨K,hK⟩:=h
 exact nE (K:=K) fun k hk=>by simp only[cZ,hq];exact hK k hk
theorem iQ.block [Gl] {i:Nat} {b:Code} (h:iQ P cfg fid b s e t) (he:∀ j,e≠ .exit j):iQ P cfg fid (.block i b) s e t:=by
 obtain ⟨K,hK⟩:=h
 exact nE (K:=K) fun k hk=>by
  simp only[cZ]
  rw[hK k hk]
  cases e with
  | normal=>rfl
  | exit j=>exact absurd rfl (he j)
  | ret=>rfl
theorem iQ.block_exit [Gl] {i:Nat} {b:Code} (h:iQ P cfg fid b s (.exit i) t):iQ P cfg fid (.block i b) s .normal t:=by
 obtain ⟨K,hK⟩:=h
 exact nE (K:=K) fun k hk=>by
  simp only[cZ]
  rw[hK k hk]
  simp
theorem iQ.block_other [Gl] {i j:Nat} {b:Code} (h:iQ P cfg fid b s (.exit j) t) (hj:j≠i):iQ P cfg fid (.block i b) s (.exit j) t:=by
 obtain ⟨K,hK⟩:=h
 exact nE (K:=K) fun k hk=>by
  simp only[cZ]
  rw[hK k hk]
  simp[hj]
def cut (cfg:Cfg) (fid:FuncId) (s t:St):St:=if cfg.own fid then t else { t with hp:=Hp.trunc s.n t.hp,n:=s.n }
theorem aFd [Gl] {b:Code} {x:Nat×Array Oper×Nat×Nat×Code} (h:nA b=some x):∀ (k:Nat) (s:St),cZ P cfg k fid b s=none:=by
 obtain ⟨r,ops,t,d,rest⟩:=x
 obtain ⟨rfl,ty,pos,af,h0⟩:=yT h
 intro k s
 cases k with
 | zero=>rfl
 | succ k=>
  simp only[cZ]
  cases k with
  | zero=>rfl
  | succ k=>
   have hl:ops.toList=⟨some d,.next (.tmp t) false,ty,pos,af,none⟩::ops.toList.tail:=by
    cases ho:ops.toList with
    | nil=>
     have:ops=#[]:=by apply Array.ext';simpa using ho
     rw[this] at h0;simp at h0
    | cons a r=>
     have:ops.toList[0]?=some ⟨some d,.next (.tmp t) false,ty,pos,af,none⟩:=by simpa using h0
     rw[ho] at this
     simp at this
     rw[this];rfl
   have aBM:dR P cfg (fM P cfg (cZ P cfg k)) fid r ops false s=none:=by
    unfold dR
    simp only[Bool.false_eq_true,if_false]
    have:∀ all,kS P cfg fid r (fM P cfg (cZ P cfg k)) all ops.toList s=none:=fun all=>by
     rw[hl]
     simp only[kS,opW,xV,opR,step]
    rw[this]
   simp only[cZ,aBM,Option.map_none]
theorem iQ.round [Gl] {b:Code} (h:iQ P cfg fid b s .normal t) (h':iQ P cfg fid (.loop b) (cut cfg fid s t) e u):iQ P cfg fid (.loop b) s e u:=by
 obtain ⟨K,hK⟩:=h
 obtain ⟨L,hL⟩:=h'
 have hn:nA b=none:=by
  cases hb:nA b with
  | none=>rfl
  | some x=>have:=hK K (Nat.le_refl _);rw[aFd hb] at this;cases this
 exact nE (K:=max K L) fun k hk=>by
  simp only[cZ,hn]
  rw[hK k (Nat.le_trans (Nat.le_max_left _ _) hk)]
  exact hL k (Nat.le_trans (Nat.le_max_right _ _) hk)
theorem iQ.loop_out [Gl] {b:Code} (h:iQ P cfg fid b s e t) (he:e≠ .normal):iQ P cfg fid (.loop b) s e t:=by
 obtain ⟨K,hK⟩:=h
 have hn:nA b=none:=by
  cases hb:nA b with
  | none=>rfl
  | some x=>have:=hK K (Nat.le_refl _);rw[aFd hb] at this;cases this
 exact nE (K:=K) fun k hk=>by
  simp only[cZ,hn]
  rw[hK k hk]
  cases e <;> first|rfl|exact absurd rfl he
theorem iQ.region [Gl] {id:Nat} {ops:Array Oper} {draw:Bool} (h:∃ K,∀ k,K≤k→dR P cfg (oW P cfg k) fid id ops draw s=some t):iQ P cfg fid (.region id ops draw) s .normal t:=by
 obtain ⟨K,hK⟩:=h
 refine nE (K:=K) fun k hk=>?_
 have:=hK k hk
 unfold oW at this
 simp only[cZ,this];rfl
end
theorem iQ.reg [Gl] {id:Nat} {ops:Array Oper} {draw:Bool} {s t:St} (h:dR P cfg (nV P cfg) fid id ops draw s=some t):iQ P cfg fid (.region id ops draw) s .normal t:=iQ.region (Go.Ac.region_lim h)
def stH (e:oH) (hp:Hp) (n c:Nat):St:=⟨e,hp,n,c,0,[]⟩
def st (e:oH):St:=stH e [] 0 0
end Go.Ac
end
section
namespace Go.Ac
variable {P:Program} {cfg:Cfg} {fid:FuncId}
inductive Gd where
 | free
 | on (d:Nat) (want:Bool)
 | bad
structure PO where
 op:Op
 dst:Option Nat
 g:Gd
def eA (all:List Oper) (o:Oper):PO:=⟨o.op,o.dst,match o.guard with
 | none=> .free
 | some (j,want)=>match all[j]? with
  | some g=>match g.dst with|some d=> .on d want|none=> .bad
  | none=> .bad⟩
def qG (e:oH):Gd→Option Bool
 | .free=>some true
 | .on d want=>match e.get d with
  | .d (.bool b)=>some (b==want)
  | .undef=>some false
  | _=>none
 | .bad=>none
theorem aIi (all:List Oper) (e:oH) (o:Oper):qG e (eA all o).g=xV all e o:=by
 unfold eA xV
 cases o.guard with
 | none=>rfl
 | some q=>
  obtain ⟨j,want⟩:=q
  simp only
  cases all[j]? with
  | none=>rfl
  | some g=>simp only;cases g.dst <;> rfl
end Go.Ac
end
