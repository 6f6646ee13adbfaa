/- The abstract machine: what an operation does hangs on what it looks at alone. No conditions. -/
import Derived.Test.YtkgekafdhehleaaGreatAcLb
set_option linter.unusedVariables false
set_option linter.unusedSimpArgs false
section
namespace Go.Ac
variable {P:Program} {S:Nat→Prop} {m:M}
def aUZ (P:Program) (σ:Operand→Value) (o:Oper) (w:World) (x:Value) (w':World):Prop:=
 (execOp σ o).run P w= .ok (.value x) w'∨((execOp σ o).run P w= .ok .skip w'∧x=undef)
theorem aBe [Gl] {t e sz by_ len:Nat} {i j:TI} {z cs:List V} {ps:Array (Nat×Operand)} {ρ:Operand→V} {σ:Operand→Value} {fz:Bool} {n c:Nat} {qs:List (Nat×V)} {ids:List Nat} (hi:cL P t=some i) (hk:i.k= .slice e sz by_) (hj:cL P e=some j) (hz:j.zero=some z)
  (hzl:z.length=sz) (nW:z.all V.one=true) (sI:0<sz) (aYX:len*sz≤16777216) (mA:∀ x,RV S m (ρ x) (σ x)) (hR:Rel S m) (hf:mO m c 1)
  (hcp:bD m.h fz (ps.toList.map fun p=>(p.1,ρ p.2))=some (qs,ids)) (h:bO (fun j=>some (j*sz,sz)) (List.replicate len z).flatten qs=some cs):
  ∃ x m',(Instr.buildSlice t len (ps.map fun p=>(p.1,σ p.2))).run P m.w= .ok x m'.w∧
   cD S m c ⟨.osl n c 0 len sz (some len),mT m.h ids++[(n,⟨c,false,cs⟩)],ids,1,1,false⟩ x m':=by
 obtain ⟨inf,d,h1,h2,h3,_⟩:=cS hi
 rw[hk] at h3
 obtain ⟨rfl,jj,hjj,qO,_⟩:=eR h3
 obtain ⟨r1,r2⟩:=aBF (S:=S) (m:=m) mA ps.toList
 obtain ⟨m1,e1,hb⟩:=ros hR ids
 obtain ⟨r3,r4⟩:=oE (fz:=fz) hR hb hcp r1 r2 (fun i hi=>hi)
 have hw:m1.w=m.w:=hb.w
 obtain ⟨v,g1,g2,g3⟩:=qN hj hz m.w
 have hlz:v.cells.size=sz:=by rw[←hzl,g2];simp
 obtain ⟨ys,k1,k2,k3,k4⟩:=sL (S:=S) (m:=m1) (xs:=(List.replicate len v.cells.toList).flatten) h (qY g2 len) (tC nW len) r3 r4
 have hf1:mO m1 c 1:=fun id g q1 q2=>by rw[hb.iss];exact hf id g q1 q2
 have gI:cs.length=len*sz:=by
  rw[k4,mM sz _ (fun r hr=>by rw[List.eq_of_mem_replicate hr];exact hzl)];simp
 have e9:len≤maxLen:=by
  have:len*1≤len*sz:=Nat.mul_le_mul_left _ sI
  unfold maxLen;omega
 obtain ⟨m',w1,w2,w3,w4,w5,w6⟩:=aJJ (P:=P) (T:=e) (len:=len) (cap:=len) (sz:=sz) (rd:=ids) hb.rel hf1 k2 k3 gI (Nat.le_refl _) e9
 refine ⟨_,m',?_,w2,hb.evo.trans w3,w4,?_,?_⟩
 ·rw[hw] at w1
  rw[hw]
  have hk1:Instr.fill (fun i=>some (i*sz,sz)) ((Array.range (len*sz)).map (fun i=>v.cells[i % v.cells.size]!)) (ps.map fun p=>(p.1,σ p.2)).toList=some ys.toArray:=by
   rw[←hlz,m6,hlz,←k1]
   simp
  simp only[Instr.buildSlice,Sem.run_bind,run_underlying h2,Result.andThen_ok,jF hjj,qO,show ¬ (len*sz > 2 ^ 24) by omega,if_false,Sem.run_pure]
  by_cases h0:len*sz=0
  ·simp only[h0,if_true,Sem.run_bind,Sem.run_pure,Result.andThen_ok]
   have:∀ f:Nat→Value,Array.map f (Array.range 0)=#[]:=fun f=>by apply Array.ext';simp
   rw[h0,this] at hk1
   rw[this]
   simp only[hk1,Sem.run_bind,w1,Result.andThen_ok,Sem.run_pure]
  ·simp only[h0,if_false,Sem.run_bind,g1,Result.andThen_ok,Sem.run_pure,hk1,w1]
 ·rw[w5,e1,wQ]
 ·rw[w6,hb.iss]
theorem aGb [Gl] {t:TypeId} {i:TI} {z cs:List V} {fs:List (Nat×Nat×Bool)} {ps:Array (Nat×Operand)} {ρ:Operand→V} {σ:Operand→Value} {fz:Bool} {c:Nat} {qs:List (Nat×V)} {ids:List Nat} (hi:cL P t=some i) (hz:i.zero=some z)
  (nW:z.all V.one=true) (hk:i.k= .struct fs) (hcp:bD m.h fz (ps.toList.map fun p=>(p.1,ρ p.2))=some (qs,ids)) (h:bO (fun j=>(fs[j]?).map fun f=>(f.1,f.2.1)) z qs=some cs) (mA:∀ x,RV S m (ρ x) (σ x)) (hR:Rel S m):
  ∃ m',∃ ys:List Value,(Instr.build t (ps.map fun p=>(p.1,σ p.2))).run P m.w= .ok (.agg ys.toArray) m'.w∧cD S m c ⟨.agg cs,mT m.h ids,ids,0,0,false⟩ (.agg ys.toArray) m':=by
 obtain ⟨inf,d,h1,h2,h3,_⟩:=cS hi
 obtain ⟨v,g1,g2,g3⟩:=qN hi hz m.w
 obtain ⟨r1,r2⟩:=aBF (S:=S) (m:=m) mA ps.toList
 obtain ⟨m1,e1,hb⟩:=ros hR ids
 obtain ⟨r3,r4⟩:=oE (fz:=fz) hR hb hcp r1 r2 (fun i hi=>hi)
 obtain ⟨ys,k1,k2,_,_⟩:=sL (S:=S) (m:=m1) (xs:=v.cells.toList) h (by rw[g2];exact pO _) nW r3 r4
 refine ⟨m1,ys,?_,hb.rel,hb.evo,k2.agg,e1,?_⟩
 ·rw[hb.w]
  apply run_build
  have hzz:inf.zero=some v:=by simpa [h1] using g3
  simp only[Array.toArray_toList] at k1
  rw[hk] at h3
  obtain ⟨fields,rfl,hfs⟩:=sP h3
  have hp:=pU hfs
  simp only[Program.built,h1,h2,hzz,hp]
  simpa using k1
 ·rw[hb.iss];exact (jS m c).symm
theorem jU.map {ρ:Operand→V} {σ:Operand→Value} (h:∀ x,RV S m (ρ x) (σ x)) (l:List Operand):jU S m (l.map ρ) (l.map σ):=by
 refine ⟨by simp,fun j a b ha hb=>?_⟩
 rw[List.getElem?_map] at ha hb
 cases hp:l[j]? with
 | none=>simp[hp] at ha
 | some p=>simp[hp] at ha hb;subst ha;subst hb;exact h p
theorem aDM [Gl] {n c:Nat} {b:Builtin} {ts:Array TypeId} {ty:TypeId} {vs:List V} {xs:List Value} {r:Res} (h:rA P m.h n c b ts.toList vs=some r) (hR:Rel S m) (hf:mO m c r.dc) (hv:jU S m vs xs):
  ∃ x m',(∀ consts:Array Bool,(builtin b ts ty consts xs.toArray).run P m.w= .ok (.value x) m'.w)∧cD S m c r x m':=by
 unfold rA at h
 split at h
 ·rename_i t x jP
  simp only[Option.bind_eq_some_iff] at h
  obtain ⟨i,hi,h⟩:=h
  obtain ⟨v,ys,rfl,hx,nU⟩:=hv.cases
  have:ys=[]:=List.length_eq_zero_iff.1 (by have:=nU.1;simpa using this.symm)
  subst this
  obtain rfl:ts=#[t]:=by apply Array.ext';simpa using jP
  obtain ⟨z,g1,g2⟩:=aII (P:=P) (ty:=ty) (c:=c) hi h hR hx
  exact ⟨z,m,fun _=>by simp[builtin,g1],g2⟩
 ·rename_i t u s x jP
  split at h
  ·rename_i htu;subst htu
   simp only[Option.bind_eq_some_iff] at h
   obtain ⟨i,hi,h⟩:=h
   obtain ⟨v,ys,rfl,hs,nU⟩:=hv.cases
   obtain ⟨y,ys,rfl,hx,nU⟩:=nU.cases
   have:ys=[]:=List.length_eq_zero_iff.1 (by have:=nU.1;simpa using this.symm)
   subst this
   obtain rfl:ts=#[t,t]:=by apply Array.ext';simpa using jP
   obtain ⟨z,m',g1,g2⟩:=aEm (P:=P) (ty:=ty) hi h hR hf hs hx
   exact ⟨z,m',fun _=>by simp[builtin,g1],g2⟩
  ·obtain ⟨v,ys,rfl,hs,nU⟩:=hv.cases
   obtain ⟨y,ys,rfl,hx,nU⟩:=nU.cases
   have:ys=[]:=List.length_eq_zero_iff.1 (by have:=nU.1;simpa using this.symm)
   subst this
   obtain rfl:ts=#[t,u]:=by apply Array.ext';simpa using jP
   split at h
   ·rename_i i j hi hj
    split at h
    ·rename_i e sz by_ kk hk hjk
     obtain ⟨z,m',g1,g2⟩:=aCV (P:=P) (ty:=ty) hi hk hj hjk h hR hf hs hx
     exact ⟨z,m',fun _=>by simp[builtin,g1],g2⟩
    ·simp at h
   ·simp at h
 ·rename_i t x jP
  simp only[Option.bind_eq_some_iff] at h
  obtain ⟨i,hi,h⟩:=h
  obtain ⟨v,ys,rfl,hx,nU⟩:=hv.cases
  have:ys=[]:=List.length_eq_zero_iff.1 (by have:=nU.1;simpa using this.symm)
  subst this
  obtain rfl:ts=#[t]:=by apply Array.ext';simpa using jP
  obtain ⟨z,g1,g2⟩:=aJo (P:=P) (ty:=ty) (c:=c) hi h hR hx
  exact ⟨z,m,fun _=>by simp[builtin,g1],g2⟩
 ·obtain ⟨z,g1,g2⟩:=aDo (P:=P) (mx:=true) (ts:=ts) (ty:=ty) (c:=c) h hR hv
  exact ⟨z,m,fun _=>by simp only[if_true] at g1;simp[builtin,g1],g2⟩
 ·obtain ⟨z,g1,g2⟩:=aDo (P:=P) (mx:=false) (ts:=ts) (ty:=ty) (c:=c) h hR hv
  exact ⟨z,m,fun _=>by simp only[Bool.false_eq_true,if_false] at g1;simp[builtin,g1],g2⟩
 ·rename_i t u s x jP
  split at h
  ·rename_i htu;subst htu
   simp only[Option.bind_eq_some_iff] at h
   obtain ⟨i,hi,h⟩:=h
   obtain ⟨v,ys,rfl,hs,nU⟩:=hv.cases
   obtain ⟨y,ys,rfl,hx,nU⟩:=nU.cases
   have:ys=[]:=List.length_eq_zero_iff.1 (by have:=nU.1;simpa using this.symm)
   subst this
   obtain rfl:ts=#[t,t]:=by apply Array.ext';simpa using jP
   obtain ⟨z,m',g1,g2⟩:=aGS (P:=P) (ty:=ty) (c:=c) hi h hR hs hx
   exact ⟨z,m',fun _=>by simp[builtin,g1],g2⟩
  ·simp at h
 ·simp at h
theorem aID [Gl] {o:Oper} {fz fs:Bool} {n c:Nat} {ρ:Operand→V} {σ:Operand→Value} {r:Res} (h:step P fz fs ρ m.h n c o.op=some r) (hσ:∀ v,σ (.const v)=v) (mA:∀ x,RV S m (ρ x) (σ x)) (hR:Rel S m)
  (hf:mO m c r.dc):∃ x m',aUZ P σ o m.w x m'.w∧cD S m c r x m':=by
 obtain ⟨dst,op,ty,pos,after,guard⟩:=o
 cases op <;> simp only[step] at h <;> try (simp at h;done)
 case move x=>simp[ret] at h;subst h;exact ⟨σ x,m,.inl (by simp[execOp]),cD.quiet hR (mA x)⟩
 case assign x=>simp[ret] at h;subst h;exact ⟨σ x,m,.inl (by simp[execOp]),cD.quiet hR (mA x)⟩
 case pick q a b=>
  split at h
  ·rename_i hq
   simp[ret] at h;subst h
   have:=(hq▸mA q).bool_inv
   exact ⟨σ a,m,.inl (by simp[execOp,this,asBool]),cD.quiet hR (mA a)⟩
  ·rename_i hq
   simp[ret] at h;subst h
   have:=(hq▸mA q).bool_inv
   exact ⟨σ b,m,.inl (by simp[execOp,this,asBool]),cD.quiet hR (mA b)⟩
  ·simp at h
 case alloc t=>
  split at h
  ·rename_i i hi
   split at h
   ·rename_i z hz
    split at h
    ·rename_i nW
     obtain ⟨x,m',g1,g2⟩:=aGU (P:=P) hi hz nW h hR hf
     exact ⟨x,m',.inl (by simp[execOp,g1]),g2⟩
    ·simp at h
   ·simp at h
  ·simp at h
 case box t x=>
  simp only[Option.bind_eq_some_iff] at h
  obtain ⟨cs,sC,h⟩:=h
  obtain ⟨y,m',g1,g2⟩:=aKO (P:=P) (t:=t) sC h hR hf (mA x)
  exact ⟨y,m',.inl (by simp[execOp,g1]),g2⟩
 case build t ps=>
  split at h
  ·rename_i i hi
   split at h
   ·rename_i z fl hz hk
    split at h
    ·rename_i nW
     split at h
     ·simp only[Option.bind_eq_some_iff] at h
      obtain ⟨cs,sC,h⟩:=h
      simp[ret] at h;subst h
      obtain ⟨ys,g1,g2⟩:=aBU (P:=P) hi hz nW (.inl ⟨fl,hk,rfl⟩) sC mA
      exact ⟨_,m,.inl (by simp[execOp,g1]),cD.quiet hR g2.agg⟩
     ·split at h
      ·rename_i qs ids hcp
       simp only[Option.bind_eq_some_iff] at h
       obtain ⟨cs,sC,h⟩:=h
       simp only[Option.some.injEq] at h;subst h
       obtain ⟨m',ys,g1,g2⟩:=aGb (P:=P) (c:=c) hi hz nW hk hcp sC mA hR
       exact ⟨_,m',.inl (by simp[execOp,g1]),g2⟩
      ·simp at h
    ·simp at h
   ·rename_i z n' e sz ag hz hk
    split at h
    ·rename_i nW
     simp only[Option.bind_eq_some_iff] at h
     obtain ⟨cs,sC,h⟩:=h
     simp[ret] at h;subst h
     obtain ⟨ys,g1,g2⟩:=aBU (P:=P) hi hz nW (.inr ⟨_,_,_,_,hk,rfl⟩) sC mA
     exact ⟨_,m,.inl (by simp[execOp,g1]),cD.quiet hR g2.agg⟩
    ·simp at h
   ·simp at h
  ·simp at h
 case buildSlice t len ps=>
  split at h
  ·rename_i i hi
   split at h
   ·rename_i e sz by_ hk
    split at h
    ·rename_i j hj
     split at h
     ·rename_i z hz
      split at h
      ·rename_i aFn
       split at h
       ·rename_i qs ids hcp
        simp only[Option.bind_eq_some_iff] at h
        obtain ⟨cs,sC,h⟩:=h
        simp only[Option.some.injEq] at h;subst h
        obtain ⟨x,m',g1,g2⟩:=aBe (P:=P) hi hk hj hz aFn.1 aFn.2.1 aFn.2.2.1 aFn.2.2.2 mA hR hf hcp sC
        exact ⟨x,m',.inl (by simp[execOp,g1]),g2⟩
       ·simp at h
      ·simp at h
     ·simp at h
    ·simp at h
   ·simp at h
  ·simp at h
 case load t a=>
  simp only[Option.bind_eq_some_iff] at h
  obtain ⟨i,hi,h⟩:=h
  obtain ⟨x,g1,g2⟩:=aBY (P:=P) (c:=c) hi h rfl hR (mA a)
  exact ⟨x,m,.inl (by simp[execOp,g1]),g2⟩
 case store t a x=>
  simp only[Option.bind_eq_some_iff] at h
  obtain ⟨i,hi,h⟩:=h
  obtain ⟨m',g1,g2⟩:=aFr (P:=P) (c:=c) hi h hR (mA a) (mA x)
  exact ⟨undef,m',.inr ⟨by simp[execOp,g1],rfl⟩,g2⟩
 case nilCheck x=>
  obtain ⟨g1,g2⟩:=aDj (P:=P) (dst:=dst) (ty:=ty) (pos:=pos) (af:=after) (gd:=guard) (c:=c) h hR (mA x)
  exact ⟨σ x,m,.inl g1,g2⟩
 case range t x=>
  simp only[Option.bind_eq_some_iff] at h
  obtain ⟨i,hi,h⟩:=h
  split at h
  ·rename_i hk
   obtain ⟨z,m',g1,g2⟩:=aEo (P:=P) hi hk h hR hf (mA x)
   exact ⟨z,m',.inl (by simp[execOp,g1]),g2⟩
  ·obtain ⟨z,m',g1,g2⟩:=aGm (P:=P) hi h hR hf (mA x)
   exact ⟨z,m',.inl (by simp[execOp,g1]),g2⟩
 case entry x=>
  obtain ⟨z,g1,g2⟩:=aDS (P:=P) (c:=c) h hR (mA x)
  exact ⟨z,m,.inl (by simp[execOp,g1]),g2⟩
 case next x b=>
  cases b with
  | false=>simp at h
  | true=>
   obtain ⟨z,m',g1,g2⟩:=aHV (P:=P) (ty:=ty) (c:=c) h hR (mA x)
   exact ⟨z,m',.inl (by simp[execOp,g1]),g2⟩
 case makeMap t q=>
  cases q with
  | some q=>simp at h
  | none=>
   simp only at h
   split at h
   ·split at h
    ·obtain ⟨z,m',g1,g2⟩:=aCR (P:=P) (t:=t) h hR hf
     exact ⟨z,m',.inl (by simp[execOp,g1]),g2⟩
    ·simp at h
   ·simp at h
 case lookup t x k ok=>
  split at h
  ·rename_i i hi
   split at h
   ·rename_i kt et hk
    split at h
    ·rename_i ki lY
     obtain ⟨z,g1,g2⟩:=aEn (P:=P) (c:=c) hi hk lY h hR (mA x) (mA k)
     exact ⟨z,m,.inl (by simp[execOp,g1]),g2⟩
    ·simp at h
   ·simp at h
  ·simp at h
 case mapUpdate t mv k x=>
  split at h
  ·rename_i i hi
   split at h
   ·rename_i kt et hk
    simp only[Option.bind_eq_some_iff] at h
    obtain ⟨ki,lY,h⟩:=h
    obtain ⟨m',g1,g2⟩:=yQ (P:=P) (c:=c) hi hk lY h hR (mA mv) (mA k) (mA x)
    exact ⟨undef,m',.inr ⟨by simp[execOp,g1],rfl⟩,g2⟩
   ·simp at h
  ·simp at h
 case insert t mv k x=>
  split at h
  ·rename_i i hi
   split at h
   ·rename_i kt et hk
    simp only[Option.bind_eq_some_iff] at h
    obtain ⟨ki,lY,h⟩:=h
    obtain ⟨m',g1,g2⟩:=yQ (P:=P) (c:=c) hi hk lY h hR (mA mv) (mA k) (mA x)
    exact ⟨undef,m',.inr ⟨by simp[execOp,g1],rfl⟩,g2⟩
   ·simp at h
  ·simp at h
 case mapEntry t mv k=>
  split at h
  ·rename_i i hi
   split at h
   ·rename_i kt et hk
    simp only[Option.bind_eq_some_iff] at h
    obtain ⟨ki,lY,h⟩:=h
    obtain ⟨z,m',g1,g2⟩:=aFs (P:=P) (c:=c) hi hk lY h hR (mA mv) (mA k)
    exact ⟨z,m',.inl (by simp[execOp,g1]),g2⟩
   ·simp at h
  ·simp at h
 case entryStore t mv k x=>
  obtain ⟨m',g1,g2⟩:=aFM (P:=P) (t:=t) (c:=c) h hR (mA mv) (mA k) (mA x)
  exact ⟨undef,m',.inr ⟨by simp[execOp,g1],rfl⟩,g2⟩
 case binOp op t x y yt=>
  split at h
  ·simp only[Option.bind_eq_some_iff] at h
   obtain ⟨i,hi,h⟩:=h
   obtain ⟨z,g1,g2,g3⟩:=aJu (P:=P) (xo:=x) (y:=y) (b:=σ y) (c:=c) hi (fun v hv=>by rw[hv];exact hσ v) h hR (mA x)
   exact ⟨z,m,.inl (by simp[execOp,g1,g2]),g3⟩
  split at h
  ·rename_i a b ha hb
   split at h
   ·rename_i i hi
    split at h
    ·rename_i hk
     obtain ⟨_,d,_,i2,i3,_⟩:=cS hi
     rw[hk] at i3
     have:=aBb i3;subst this
     simp only[Option.bind_eq_some_iff] at h
     obtain ⟨v,hv,h⟩:=h
     simp[ret] at h;subst h
     obtain ⟨z,g1,g2,g3⟩:=aEl (S:=S) (m:=m) (P:=P) x y i2 hv
     have e1:=(ha▸mA x).bool_inv
     have e2:=(hb▸mA y).bool_inv
     exact ⟨z,m,.inl (by simp[execOp,e1,e2,g1,g2]),cD.quiet hR g3⟩
    ·simp at h
   ·simp at h
  ·rename_i as bs ha hb
   split at h
   ·rename_i e l he hl
    split at h
    ·rename_i q hq
     simp[ret] at h;subst h
     obtain ⟨z,g1,g2,g3⟩:=aDp (P:=P) (t:=t) x y he hl hq (ha▸mA x) (hb▸mA y)
     exact ⟨z,m,.inl (by simp[execOp,g1,g2]),cD.quiet hR g3⟩
    ·simp at h
   ·simp at h
  ·simp only[Option.bind_eq_some_iff] at h
   obtain ⟨v,hv,h⟩:=h
   simp[ret] at h;subst h
   obtain ⟨z,g1,g2,g3⟩:=aIr (P:=P) t x y hv (mA x) (mA y)
   exact ⟨z,m,.inl (by simp[execOp,g1,g2]),cD.quiet hR g3⟩
 case unOp op t x=>
  simp only[Option.bind_eq_some_iff] at h
  obtain ⟨v,hv,h⟩:=h
  simp[ret] at h;subst h
  obtain ⟨z,g1,g2⟩:=aLj (P:=P) hv (mA x)
  exact ⟨z,m,.inl (by simp[execOp,g1]),cD.quiet hR g2⟩
 case convert s t x=>
  split at h
  ·rename_i i j hi hj
   simp only[Option.bind_eq_some_iff] at h
   obtain ⟨v,hv,h⟩:=h
   simp[ret] at h;subst h
   obtain ⟨z,g1,g2⟩:=aHM (P:=P) hi hj hv (mA x)
   exact ⟨z,m,.inl (by simp[execOp,g1]),cD.quiet hR g2⟩
  ·simp at h
 case makeFunc fn first caps=>
  cases fn <;> simp only[] at h <;> try (simp at h;done)
  split at h
  ·rename_i f aYY
   simp[ret] at h;subst h
   have hfe:first=#[]:=by simpa using aYY
   subst hfe
   refine ⟨_,m,.inl (by simp[execOp,Instr.makeFunc];rfl),cD.quiet hR ?_⟩
   have:=jU.map (S:=S) (m:=m) mA caps.toList
   refine .fn (by simp) fun j a b ha hb=>this.2 j a b ha ?_
   simpa using hb
  ·simp at h
 case makeSlice t l q=>
  split at h
  ·rename_i i hi
   split at h
   ·rename_i e sz by_ hk
    obtain ⟨x,m',g1,g2⟩:=aHm (P:=P) hi hk h hR hf (mA l) (mA q)
    exact ⟨x,m',.inl (by simp[execOp,g1]),g2⟩
   ·simp at h
  ·simp at h
 case slice t x lo hi mx=>
  split at h
  ·simp at h
  ·rename_i cF
   simp only[Option.bind_eq_some_iff] at h
   obtain ⟨i,hti,h⟩:=h
   obtain ⟨z,g1,g2⟩:=aFX (P:=P) (c:=c) hti h hR (mA x) (RO.map mA lo) (RO.map mA hi) (RO.map mA mx) (by
    intro h1
    cases mx with
    | none=>simp at h1
    | some q=>
     cases hi with
     | none=>simp at cF
     | some p=>rfl)
   exact ⟨z,m,.inl (by simp[execOp,g1]),g2⟩
 case fieldAddr t x f=>
  simp only[Option.bind_eq_some_iff] at h
  obtain ⟨i,hi,h⟩:=h
  obtain ⟨z,g1,g2⟩:=aBl (P:=P) (c:=c) hi h hR (mA x)
  exact ⟨z,m,.inl (by simp[execOp,g1]),g2⟩
 case field t x f=>
  simp only[Option.bind_eq_some_iff] at h
  obtain ⟨i,hi,h⟩:=h
  obtain ⟨z,g1,g2⟩:=aGa (P:=P) (c:=c) hi h hR (mA x)
  exact ⟨z,m,.inl (by simp[execOp,g1]),g2⟩
 case indexAddr t x ix=>
  simp only[Option.bind_eq_some_iff] at h
  obtain ⟨i,hi,h⟩:=h
  obtain ⟨z,g1,g2⟩:=aBy (P:=P) (c:=c) hi h hR (mA x) (mA ix)
  exact ⟨z,m,.inl (by simp[execOp,g1]),g2⟩
 case index t x ix=>
  simp only[Option.bind_eq_some_iff] at h
  obtain ⟨i,hi,h⟩:=h
  obtain ⟨z,g1,g2⟩:=aGf (P:=P) (c:=c) hi h hR (mA x) (mA ix)
  exact ⟨z,m,.inl (by simp[execOp,g1]),g2⟩
 case extract t ix=>
  split at h
  ·rename_i vs ht
   simp only[Option.bind_eq_some_iff] at h
   obtain ⟨v,hv,h⟩:=h
   simp[ret] at h;subst h
   obtain ⟨xs,hxt,hxs⟩:=(ht▸mA t).tuple_vals
   obtain ⟨x,g1,g2⟩:=hxs.get hv
   exact ⟨x,m,.inl (by simp[execOp,hxt,Instr.extract,g1]),cD.quiet hR g2⟩
  ·simp at h
 case call cl=>
  obtain ⟨callee,args,ts⟩:=cl
  cases callee <;> simp only[] at h <;> try (simp at h;done)
  rename_i b
  obtain ⟨x,m',g1,g2⟩:=aDM (P:=P) (ty:=ty) h hR hf (jU.map mA args.toList)
  refine ⟨x,m',.inl ?_,g2⟩
  have:(List.map σ args.toList).toArray=args.map σ:=by apply Array.ext';simp
  rw[this] at g1
  simp[execOp,resolve,invoke,g1]
end Go.Ac
end
section
namespace Go.Ac
variable {P:Program}
def fO (l k:cA) (ids:List Nat):Prop:=∀ i∈ids,l i=k i
theorem fO.mono {l k:cA} {a b:List Nat} (h:fO l k b) (hs:∀ i∈a,i∈b):fO l k a:=fun i hi=>h i (hs i hi)
theorem dU {l k:cA} {id g:Nat} (h:l id=k id):live l id g=live k id g:=by unfold live;rw[h]
theorem aGZ {f g:V→Option (D×List Nat)}:∀ {vs:List V} {ds:List D} {ids:List Nat},iH f vs=some (ds,ids)→(∀ v d a,f v=some (d,a)→(∀ i∈a,i∈ids)→g v=some (d,a))→iH g vs=some (ds,ids)
 | [],ds,ids,h,_=>h
 | v::r,ds,ids,h,hf=>by
  simp only[iH] at h ⊢
  split at h
  ·rename_i x a xs b h1 h2
   simp at h;obtain ⟨rfl,rfl⟩:=h
   rw[hf v x a h1 (fun i hi=>by simp[hi]),aGZ h2 (fun v d a' h3 h4=>hf v d a' h3 (fun i hi=>by simp[h4 i hi]))]
  ·simp at h
theorem aOE {l k:cA}:∀ (f:Nat) {v:V} {x:D} {ids:List Nat},toD l f v=some (x,ids)→fO l k ids→toD k f v=some (x,ids):=by
 intro f
 induction f with
 | zero=>intro v x ids h ha;cases v <;> simp only[toD] at h ⊢ <;> exact h
 | succ f ih=>
  intro v x ids h ha
  cases v <;> simp only[toD] at h ⊢ <;> try exact h
  rename_i id g off len sz cap
  cases hl:live l id g with
  | none=>simp[hl] at h
  | some o=>
   simp only[hl] at h
   split at h
   ·rename_i ds r h1 h2
    simp at h;obtain ⟨rfl,rfl⟩:=h
    rw[←dU (ha id (by simp)),hl]
    simp only[h1]
    rw[aGZ h2 (fun v d a h3 h4=>ih h3 (ha.mono fun i hi=>by simp[h4 i hi]))]
   ·simp at h
theorem zL {l k:cA} {v w:V} {ids:List Nat} (h:hZ l v=some (w,ids)) (ha:fO l k ids):hZ k v=some (w,ids):=by
 have gen:∀ v,ofD (toD l xA v)=some (w,ids)→ofD (toD k xA v)=some (w,ids):=by
  intro v h
  unfold ofD at h
  split at h
  ·rename_i x r hx
   simp at h;obtain ⟨rfl,rfl⟩:=h
   rw[aOE xA hx ha];rfl
  ·simp at h
 cases v with
 | con v=>exact h
 | fn f cs=>cases cs with
  | nil=>exact h
  | cons c cs=>simp only[hZ] at h ⊢;exact gen _ h
 | _=>simp only[hZ] at h ⊢;exact gen _ h
theorem kY {f g:V→Option (V×List Nat)}:∀ {vs ws:List V} {ids:List Nat},fE f vs=some (ws,ids)→(∀ v w a,f v=some (w,a)→(∀ i∈a,i∈ids)→g v=some (w,a))→fE g vs=some (ws,ids)
 | [],ds,ids,h,_=>h
 | v::r,ds,ids,h,hf=>by
  simp only[fE] at h ⊢
  split at h
  ·rename_i x a xs b h1 h2
   simp at h;obtain ⟨rfl,rfl⟩:=h
   rw[hf v x a h1 (fun i hi=>by simp[hi]),kY h2 (fun v d a' h3 h4=>hf v d a' h3 (fun i hi=>by simp[h4 i hi]))]
  ·simp at h
theorem aLf {l k:cA} {v w:V} {ids:List Nat} (h:nR l v=some (w,ids)) (ha:fO l k ids):nR k v=some (w,ids):=by
 cases v with
 | agg cs=>
  simp only[nR] at h ⊢
  split at h
  ·rename_i xs r hx
   simp at h;obtain ⟨rfl,rfl⟩:=h
   rw[kY hx (fun v w a h1 h2=>zL h1 (ha.mono h2))]
  ·simp at h
 | _=>simp only[nR] at h ⊢;exact zL h ha
theorem aFS {l k:cA} {fz:Bool} {v w:V} {ids:List Nat} (h:cl1 l fz v=some (w,ids)) (ha:fO l k ids):cl1 k fz v=some (w,ids):=by
 cases v with
 | osl id g off len sz cap=>
  cases fz with
  | true=>simp only[cl1] at h ⊢;exact zL h ha
  | false=>exact h
 | _=>exact h
theorem aOy {l k:cA} {fz:Bool} {v w:V} {ids:List Nat} (h:iE l fz v=some (w,ids)) (ha:fO l k ids):iE k fz v=some (w,ids):=by
 cases v with
 | agg cs=>
  simp only[iE] at h ⊢
  split at h
  ·rename_i xs r hx
   simp at h;obtain ⟨rfl,rfl⟩:=h
   rw[kY hx (fun v w a h1 h2=>aFS h1 (ha.mono h2))]
  ·simp at h
 | _=>simp only[iE] at h ⊢;exact aFS h ha
theorem rK {l k:cA} {fz:Bool}:∀ {ps qs:List (Nat×V)} {ids:List Nat},bD l fz ps=some (qs,ids)→fO l k ids→bD k fz ps=some (qs,ids)
 | [],qs,ids,h,_=>h
 | (i,x)::r,qs,ids,h,ha=>by
  simp only[bD] at h ⊢
  split at h
  ·rename_i y a ys b h1 h2
   simp at h;obtain ⟨rfl,rfl⟩:=h
   rw[aOy h1 (ha.mono fun i hi=>by simp[hi]),rK h2 (ha.mono fun i hi=>by simp[hi])]
  ·simp at h
theorem aJi {l k:cA} {v w:V} {ids:List Nat} (h:pT l v=some (w,ids)) (ha:fO l k ids):pT k v=some (w,ids):=by
 unfold pT at h ⊢
 split at h
 ·exact h
 ·exact aLf h ha
theorem wM {l k:cA}:∀ {ids:List Nat},fO l k ids→mT l ids=mT k ids
 | [],_=>rfl
 | id::r,h=>by
  simp only[mT]
  rw[h id (by simp),wM (h.mono fun i hi=>by simp[hi])]
theorem oB {l k:cA} {sz n:Nat} {x:V} {vs:List V} {rd:List Nat} (h:iU l sz x=some (n,vs,rd)) (ha:fO l k rd):iU k sz x=some (n,vs,rd):=by
 unfold iU at h ⊢
 split at h <;> try exact h
 rename_i id g off len sz' cap
 split at h
 ·rename_i o hl hb
  split at h
  ·rename_i yM
   simp only[Option.some.injEq,Prod.mk.injEq] at h;obtain ⟨rfl,rfl,rfl⟩:=h
   simp only[←dU (ha id (by simp)),hl,hb,yM]
  ·simp at h
 ·simp at h
theorem aKN {l k:cA} {i:TI} {p:V} {r:Res} (h:yS l i p=some r) (ha:fO l k r.rd):yS k i p=some r:=by
 unfold yS at h ⊢
 split at h
 ·rename_i id g off
  cases hl:live l id g with
  | none=>simp[hl] at h
  | some o=>
   simp only[hl,Option.bind_eq_some_iff] at h
   obtain ⟨y,hy,hr⟩:=h
   simp[kE] at hr;subst hr
   simp only[←dU (ha id (by simp)),hl,hy];rfl
 ·exact h
 ·exact h
theorem aIK {l k:cA} {fz:Bool} {i:TI} {p x:V} {r:Res} (h:zC l fz i p x=some r) (ha:fO l k r.rd):zC k fz i p x=some r:=by
 unfold zC at h ⊢
 split at h
 ·rename_i id g off xs hcx
  split at h
  ·rename_i o ys ids hl gI
   split at h
   ·rename_i c1 c2 c3 c4
    simp only[Option.some.injEq] at h;subst h
    have ha':fO l k ids:=ha.mono fun i hi=>by simp[hi]
    simp only[hcx,←dU (ha id (by simp)),hl,kY gI (fun v w a h1 h2=>aFS h1 (ha'.mono h2)),c1,c2,c3,c4,wM ha']
   ·simp at h
  ·simp at h
 ·simp at h
theorem aGH {l k:cA} {n c:Nat} {i:TI} {s x:V} {r:Res} (h:uL l n c i s x=some r) (ha:fO l k r.rd):uL k n c i s x=some r:=by
 unfold uL at h ⊢
 split at h
 ·rename_i e sz by_ hk
  split at h
  ·rename_i m xs rx qD
   split at h
   ·rename_i rows
    split at h
    ·rename_i c1 c2 c3
     simp only[Option.some.injEq] at h;subst h
     simp only[oB qD ha,c1,c2,c3]
    ·simp at h
   ·rename_i id g off len sz' cap
    split at h
    ·rename_i o hl hb
     split at h
     ·rename_i c1 c2
      split at h
      ·rename_i q
       split at h
       ·rename_i c3 c4 c5
        simp only[Option.some.injEq] at h;subst h
        simp only[oB qD (ha.mono fun i hi=>by simp[hi]),←dU (ha id (by simp)),hl,hb,c1,c2,c3,c4,c5]
       ·rename_i c3
        simp only[Option.some.injEq] at h;subst h
        simp only[oB qD (ha.mono fun i hi=>by simp[hi]),←dU (ha id (by simp)),hl,hb,c1,c2,c3]
       ·simp at h
      ·split at h
       ·rename_i c3
        simp only[Option.some.injEq] at h;subst h
        simp only[oB qD (ha.mono fun i hi=>by simp[hi]),←dU (ha id (by simp)),hl,hb,c1,c2,c3]
       ·simp at h
     ·simp at h
    ·simp at h
   ·simp at h
  ·simp at h
 ·simp at h
theorem aJf {l k:cA} {n c sz by_:Nat} {x:V} {r:Res} (h:fH l n c sz by_ x=some r) (ha:fO l k r.rd):fH k n c sz by_ x=some r:=by
 unfold fH at h ⊢
 split at h
 ·rename_i m xs rx qD
  split at h
  ·rename_i hf
   simp only[Option.some.injEq] at h;subst h
   rw[oB qD ha]
   simp only[hf]
  ·simp at h
 ·simp at h
theorem aLo {l k:cA} {n c:Nat} {p:Nat×Nat} {vs:List V} {r:Res} (h:aBS l n c p vs=some r) (ha:fO l k r.rd):aBS k n c p vs=some r:=by
 unfold aBS at h ⊢
 split at h
 ·exact aJf h ha
 ·simp at h
theorem aLJ {l k:cA} {i:TI} {x:V} {r:Res} (h:aIg l i x=some r) (ha:fO l k r.rd):aIg k i x=some r:=by
 unfold aIg at h ⊢
 split at h <;> try exact h
 ·rename_i id g off len sz cap
  split at h
  ·rename_i e s b o hk hl
   simp[kE] at h;subst h
   simp only[hk,←dU (ha id (by simp)),hl];rfl
  ·simp at h
 ·rename_i id g
  split at h
  ·rename_i kt et o hk hl
   split at h
   ·rename_i ks vs bs c hc
    simp[kE] at h;subst h
    simp only[hk,←dU (ha id (by simp)),hl,hc];rfl
   ·simp at h
  ·simp at h
theorem aMU {l k:cA} {i:TI} {x:V} {r:Res} (h:aKQ l i x=some r) (ha:fO l k r.rd):aKQ k i x=some r:=by
 unfold aKQ at h ⊢
 split at h <;> try exact h
 rename_i id g off len sz q
 split at h
 ·rename_i e s b o hk hl
  simp[kE] at h;subst h
  simp only[hk,←dU (ha id (by simp)),hl];rfl
 ·simp at h
theorem aMJ {l k:cA} {q:TK} {y:Operand} {x:V} {b:Bool} {rd:List Nat} (h:aLt l q y x=some (b,rd)) (ha:fO l k rd):aLt k q y x=some (b,rd):=by
 unfold aLt at h ⊢
 split at h
 ·split at h <;> try exact h
  rename_i id g off
  cases hl:live l id g with
  | none=>simp[hl] at h
  | some o=>
   simp[hl] at h;obtain ⟨rfl,rfl⟩:=h
   simp only[←dU (ha id (by simp)),hl]
 ·split at h <;> try exact h
  rename_i id g
  cases hl:live l id g with
  | none=>simp[hl] at h
  | some o=>
   simp[hl] at h;obtain ⟨rfl,rfl⟩:=h
   simp only[←dU (ha id (by simp)),hl]
 ·split at h <;> try exact h
  rename_i id g off len sz cap
  cases hl:live l id g with
  | none=>simp[hl] at h
  | some o=>
   cases hb:Nat.blt 0 len with
   | false=>rw[hl,hb] at h;simp at h
   | true=>
    rw[hl,hb] at h
    simp at h;obtain ⟨rfl,rfl⟩:=h
    simp only[←dU (ha id (by simp)),hl]
 ·simp at h
theorem aMm {l k:cA} {op:BinOp} {q:TK} {y:Operand} {x:V} {r:Res} (h:aIh l op q y x=some r) (ha:fO l k r.rd):aIh k op q y x=some r:=by
 unfold aIh at h ⊢
 split at h
 ·rename_i e b rd he hn
  simp at h;subst h
  rw[he,aMJ hn ha]
 ·simp at h
theorem aGk {l k:cA} {x:V} {r:Res} (h:qR l x=some r) (ha:fO l k r.rd):qR k x=some r:=by
 unfold qR at h ⊢
 split at h <;> try exact h
 rename_i id g off
 split at h
 ·rename_i o hl
  simp[kE] at h;subst h
  simp only[←dU (ha id (by simp)),hl];rfl
 ·simp at h
theorem aLz {l k:cA} {x:V} {r:Res} (h:aEH l x=some r) (ha:fO l k r.rd):aEH k x=some r:=by
 unfold aEH at h ⊢
 split at h
 ·rename_i id g
  split at h
  ·rename_i o hl
   split at h
   ·rename_i s pos uF hc
    have c8:r.rd=[id]:=by
     split at h
     ·simp at h;subst h;rfl
     ·simp at h;subst h;rfl
    simp only[←dU (ha id (by rw[c8];simp)),hl,uF,hc]
    exact h
   ·simp at h
  ·simp at h
 ·simp at h
theorem aHi {l k:cA} {n c:Nat} {x:V} {r:Res} (h:sY l n c x=some r) (ha:fO l k r.rd):sY k n c x=some r:=by
 unfold sY at h ⊢
 split at h
 ·rename_i id g
  split at h
  ·rename_i o hl
   split at h
   ·rename_i ks vs bs clock hc
    simp only[Option.some.injEq] at h;subst h
    simp only[←dU (ha id (by simp)),hl,hc]
   ·simp at h
  ·simp at h
 ·simp at h
theorem aFA {l k:cA} {x:V} {r:Res} (h:pC l x=some r) (ha:fO l k r.rd):pC k x=some r:=by
 unfold pC at h ⊢
 split at h
 ·rename_i id g
  split at h
  ·rename_i o hl
   split at h
   ·rename_i mid mg since seen last hc
    split at h
    ·rename_i b q hb hq
     split at h
     ·rename_i ks vs bs clock hqc
      split at h
      ·rename_i j gI hj
       split at h
       ·rename_i kk v hk hv
        simp only[Option.some.injEq] at h;subst h
        simp only[←dU (ha id (by simp)),←dU (ha mid (by simp)),hl,hc,hb,hq,hqc,gI,hj,hk,hv]
       ·simp at h
      ·simp at h
     ·simp at h
    ·simp at h
   ·simp at h
  ·simp at h
 ·simp at h
theorem aHe {l k:cA} {ki:TI} {zz:Option V} {x y:V} {ok:Bool} {r:Res} (h:gU l ki zz x y ok=some r) (ha:fO l k r.rd):gU k ki zz x y ok=some r:=by
 unfold gU at h ⊢
 split at h
 ·rename_i kd z
  split at h
  ·rename_i cC
   split at h
   ·exact h
   ·rename_i id g
    split at h
    ·rename_i o hl
     split at h
     ·rename_i ks vs bs c hc
      have c8:r.rd=[id]:=by
       split at h
       ·split at h
        ·simp[kE] at h;subst h;rfl
        ·simp at h
       ·simp[kE] at h;subst h;rfl
       ·simp at h
      simp only[←dU (ha id (by rw[c8];simp)),hl,hc]
      exact h
     ·simp at h
    ·simp at h
   ·simp at h
  ·simp at h
 ·simp at h
theorem aCc {l k:cA} {ki:TI} {m y x:V} {r:Res} (h:sR l ki m y x=some r) (ha:fO l k r.rd):sR k ki m y x=some r:=by
 unfold sR at h ⊢
 split at h
 ·rename_i kd id g
  split at h
  ·rename_i o cC hl
   split at h
   ·rename_i ks vs bs c uF hc
    have c8:r.rd=[id]:=by
     split at h
     ·simp at h;subst h;rfl
     ·simp at h;subst h;rfl
     ·simp at h
    simp only[cC,←dU (ha id (by rw[c8];simp)),hl,uF,hc]
    exact h
   ·simp at h
  ·simp at h
 ·simp at h
theorem aIV {l k:cA} {ki:TI} {zz:Option V} {m y:V} {r:Res} (h:wD l ki zz m y=some r) (ha:fO l k r.rd):wD k ki zz m y=some r:=by
 unfold wD at h ⊢
 split at h
 ·rename_i kd id g z
  split at h
  ·rename_i o cC hl
   split at h
   ·rename_i ks vs bs c uF hc
    have c8:r.rd=[id]:=by
     split at h
     ·split at h
      ·simp at h;subst h;rfl
      ·simp at h
     ·simp at h;subst h;rfl
     ·simp at h
    simp only[cC,←dU (ha id (by rw[c8];simp)),hl,uF,hc]
    exact h
   ·simp at h
  ·simp at h
 ·simp at h
theorem aIY {l k:cA} {m y x:V} {r:Res} (h:wY l m y x=some r) (ha:fO l k r.rd):wY k m y x=some r:=by
 unfold wY at h ⊢
 split at h
 ·rename_i q b id g
  split at h
  ·rename_i o hl
   split at h
   ·rename_i ks vs bs c uF hc
    have c8:r.rd=[id]:=by
     split at h
     ·simp at h;subst h;rfl
     ·simp at h
    simp only[←dU (ha id (by rw[c8];simp)),hl,uF,hc]
    exact h
   ·simp at h
  ·simp at h
 ·simp at h
theorem aLn {l k:cA} {i:TI} {s x:V} {r:Res} (h:aEZ l i s x=some r) (ha:fO l k r.rd):aEZ k i s x=some r:=by
 unfold aEZ at h ⊢
 split at h
 ·rename_i e sz by_ id g off len sz' cap hk
  split at h
  ·rename_i m xs rx o qD hl hb
   split at h
   ·rename_i c1 c2
    simp only[Option.some.injEq] at h;subst h
    simp only[oB qD (ha.mono fun i hi=>by simp[hi]),←dU (ha id (by simp)),hl,hb,c1,c2]
   ·simp at h
  ·simp at h
 ·simp at h
theorem aCU {l k:cA} {i:TI} {x ix:V} {r:Res} (h:mH l i x ix=some r) (ha:fO l k r.rd):mH k i x ix=some r:=by
 unfold mH at h ⊢
 split at h <;> try exact h
 split at h <;> try exact h
 ·rename_i e sz by_ id g off len sz' cap hk
  split at h
  ·rename_i o hl hb
   simp only[Option.bind_eq_some_iff] at h
   obtain ⟨q,hq,hr⟩:=h
   simp[kE] at hr;subst hr
   simp only[←dU (ha id (by simp)),hl,hb,hq];rfl
  ·simp at h
 ·rename_i n e sz ag id g off hk
  split at h
  ·rename_i o hl
   simp only[Option.bind_eq_some_iff] at h
   obtain ⟨q,hq,hr⟩:=h
   simp[kE] at hr;subst hr
   simp only[←dU (ha id (by simp)),hl,hq];rfl
  ·simp at h
theorem aDu {l k:cA} {i:TI} {f:Nat} {x:V} {r:Res} (h:mC l i f x=some r) (ha:fO l k r.rd):mC k i f x=some r:=by
 unfold mC at h ⊢
 split at h <;> try exact h
 split at h <;> try exact h
 split at h <;> try exact h
 split at h <;> try exact h
 rename_i id g o
 split at h
 ·rename_i ob hl
  simp[kE] at h;subst h
  simp only[←dU (ha id (by simp)),hl];rfl
 ·simp at h
theorem aIL {l k:cA} {i:TI} {x:V} {lo hi mx:Option V} {r:Res} (h:rQ l i x lo hi mx=some r) (ha:fO l k r.rd):rQ k i x lo hi mx=some r:=by
 unfold rQ at h ⊢
 split at h <;> try exact h
 rename_i e sz by_ id g off len sz' cap hk
 split at h
 ·rename_i o p q hl hb e1 e2
  split at h
  ·rename_i hc
   simp only[kE,Option.some.injEq] at h;subst h
   simp only[←dU (ha id (by simp)),hl,hb,e1,e2,if_pos hc];rfl
  ·simp at h
 ·rename_i o p q m hl hb e1 e2
  split at h
  ·rename_i mm e3
   split at h
   ·rename_i hc
    simp only[kE,Option.some.injEq] at h;subst h
    simp only[←dU (ha id (by simp)),hl,hb,e1,e2,e3,if_pos hc];rfl
   ·simp at h
  ·simp at h
 ·simp at h
theorem aFt {l k:cA} {n c:Nat} {b:Builtin} {ts:List TypeId} {vs:List V} {r:Res} (h:rA P l n c b ts vs=some r) (ha:fO l k r.rd):rA P k n c b ts vs=some r:=by
 unfold rA at h ⊢
 split at h <;> try exact h
 ·simp only[Option.bind_eq_some_iff] at h ⊢
  obtain ⟨i,hi,h⟩:=h
  exact ⟨i,hi,aLJ h ha⟩
 ·split at h
  ·rename_i e
   rw[if_pos e]
   simp only[Option.bind_eq_some_iff] at h ⊢
   obtain ⟨i,hi,h⟩:=h
   exact ⟨i,hi,aGH h ha⟩
  ·rename_i e
   rw[if_neg e]
   exact h
 ·simp only[Option.bind_eq_some_iff] at h ⊢
  obtain ⟨i,hi,h⟩:=h
  exact ⟨i,hi,aMU h ha⟩
 ·split at h
  ·rename_i e
   rw[if_pos e]
   simp only[Option.bind_eq_some_iff] at h ⊢
   obtain ⟨i,hi,h⟩:=h
   exact ⟨i,hi,aLn h ha⟩
  ·simp at h
theorem aLY {fz fs:Bool} {ρ:Operand→V} {l k:cA} {n c:Nat} {op:Op} {r:Res} (h:step P fz fs ρ l n c op=some r) (ha:fO l k r.rd):step P fz fs ρ k n c op=some r:=by
 cases op <;> simp only[step] at h ⊢ <;> try exact h
 case build t ps=>
  split at h <;> try exact h
  split at h <;> try exact h
  split at h
  ·rename_i hc
   rw[if_pos hc]
   split at h
   ·exact h
   ·split at h
    ·rename_i qs ids hcp
     simp only[Option.bind_eq_some_iff] at h
     obtain ⟨cs,sC,h⟩:=h
     simp only[Option.some.injEq] at h;subst h
     have ha':fO l k ids:=ha
     rw[rK hcp ha']
     simp only[sC,Option.bind_some,wM ha']
    ·simp at h
  ·simp at h
 case buildSlice t len ps=>
  split at h <;> try exact h
  split at h <;> try exact h
  split at h <;> try exact h
  split at h <;> try exact h
  split at h
  ·rename_i hc
   rw[if_pos hc]
   split at h
   ·rename_i qs ids hcp
    simp only[Option.bind_eq_some_iff] at h
    obtain ⟨cs,sC,h⟩:=h
    simp only[Option.some.injEq] at h;subst h
    have ha':fO l k ids:=ha
    rw[rK hcp ha']
    simp only[sC,Option.bind_some,wM ha']
   ·simp at h
  ·simp at h
 case makeFunc fn first caps=>cases fn <;> exact h
 case nilCheck x=>exact aGk h ha
 case next x b=>
  cases b with
  | false=>exact h
  | true=>exact aLz h ha
 case range t x=>
  simp only[Option.bind_eq_some_iff] at h ⊢
  obtain ⟨i,hi,h⟩:=h
  refine ⟨i,hi,?_⟩
  split at h
  ·exact aHi h ha
  ·exact h
 case entry x=>exact aFA h ha
 case makeMap t q=>cases q <;> exact h
 case lookup t x y ok=>
  split at h <;> try exact h
  split at h <;> try exact h
  split at h <;> try exact h
  exact aHe h ha
 case mapUpdate t m y x=>
  split at h <;> try exact h
  split at h <;> try exact h
  simp only[Option.bind_eq_some_iff] at h ⊢
  obtain ⟨i,hi,h⟩:=h
  exact ⟨i,hi,aCc h ha⟩
 case insert t m y x=>
  split at h <;> try exact h
  split at h <;> try exact h
  simp only[Option.bind_eq_some_iff] at h ⊢
  obtain ⟨i,hi,h⟩:=h
  exact ⟨i,hi,aCc h ha⟩
 case mapEntry t m y=>
  split at h <;> try exact h
  split at h <;> try exact h
  simp only[Option.bind_eq_some_iff] at h ⊢
  obtain ⟨i,hi,h⟩:=h
  exact ⟨i,hi,aIV h ha⟩
 case entryStore t m y x=>exact aIY h ha
 case binOp op t x y yt=>
  split at h
  ·simp only[Option.bind_eq_some_iff] at h ⊢
   obtain ⟨i,hi,h⟩:=h
   exact ⟨i,hi,aMm h ha⟩
  ·exact h
 case load t a=>
  simp only[Option.bind_eq_some_iff] at h ⊢
  obtain ⟨i,hi,h⟩:=h
  exact ⟨i,hi,aKN h ha⟩
 case store t a x=>
  simp only[Option.bind_eq_some_iff] at h ⊢
  obtain ⟨i,hi,h⟩:=h
  exact ⟨i,hi,aIK h ha⟩
 case slice t x lo hi mx=>
  split at h
  ·simp at h
  ·rename_i cF
   rw[if_neg cF]
   simp only[Option.bind_eq_some_iff] at h ⊢
   obtain ⟨i,hi,h⟩:=h
   exact ⟨i,hi,aIL h ha⟩
 case fieldAddr t x f=>
  simp only[Option.bind_eq_some_iff] at h ⊢
  obtain ⟨i,hi,h⟩:=h
  exact ⟨i,hi,aDu h ha⟩
 case indexAddr t x ix=>
  simp only[Option.bind_eq_some_iff] at h ⊢
  obtain ⟨i,hi,h⟩:=h
  exact ⟨i,hi,aCU h ha⟩
 case call cl=>
  obtain ⟨callee,args,ts⟩:=cl
  cases callee <;> simp only[] at h ⊢ <;> try exact h
  exact aFt h ha
end Go.Ac
end
