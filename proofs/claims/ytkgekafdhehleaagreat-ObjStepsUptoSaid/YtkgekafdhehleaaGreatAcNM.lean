/- The abstract machine: what an operation does hangs on what it looks at alone. No conditions. -/
import Derived.Test.YtkgekafdhehleaaGreatAcLb
set_option linter.unusedVariables false
set_option linter.unusedSimpArgs false
section
namespace Go.Ac
variable {P:Program} {S:Nat→Prop} {m:M}
def aSz (P:Program) (σ:Operand→Value) (o:Oper) (w:World) (x:Value) (w':World):Prop:=
 (execOp σ o).run P w= .ok (.value x) w'∨((execOp σ o).run P w= .ok .skip w'∧x=undef)
theorem aAY [Gl] {t e sz by_ len:Nat} {i j:TI} {z cs:List V} {ps:Array (Nat×Operand)} {ρ:Operand→V} {σ:Operand→Value} {fz:Bool} {n c:Nat} {qs:List (Nat×V)} {ids:List Nat} (hi:cJ P t=some i) (hk:i.k= .slice e sz by_) (hj:cJ P e=some j) (hz:j.zero=some z)
  (hzl:z.length=sz) (nB:z.all V.one=true) (rT:0<sz) (aYk:len*sz≤16777216) (lL:∀ x,RV S m (ρ x) (σ x)) (hR:Rel S m) (hf:lY m c 1)
  (hcp:bC m.h fz (ps.toList.map fun p=>(p.1,ρ p.2))=some (qs,ids)) (h:bN (fun j=>some (j*sz,sz)) (List.replicate len z).flatten qs=some cs):
  ∃ x m',(Instr.buildSlice t len (ps.map fun p=>(p.1,σ p.2))).run P m.w= .ok x m'.w∧
   cB S m c ⟨.osl n c 0 len sz (some len),mC m.h ids++[(n,⟨c,false,cs⟩)],ids,1,1,false⟩ x m':=by
 obtain ⟨inf,d,h1,h2,h3,_⟩:=cO hi
 rw[hk] at h3
 obtain ⟨rfl,jj,hjj,qF,_⟩:=eH h3
 obtain ⟨r1,r2⟩:=aAu (S:=S) (m:=m) lL ps.toList
 obtain ⟨m1,e1,hb⟩:=ros hR ids
 obtain ⟨r3,r4⟩:=nS (fz:=fz) hR hb hcp r1 r2 (fun i hi=>hi)
 have hw:m1.w=m.w:=hb.w
 obtain ⟨v,g1,g2,g3⟩:=qC hj hz m.w
 have hlz:v.cells.size=sz:=by rw[←hzl,g2];simp
 obtain ⟨ys,k1,k2,k3,k4⟩:=sK (S:=S) (m:=m1) (xs:=(List.replicate len v.cells.toList).flatten) h (qU g2 len) (sR nB len) r3 r4
 have hf1:lY m1 c 1:=fun id g q1 q2=>by rw[hb.iss];exact hf id g q1 q2
 have gM:cs.length=len*sz:=by
  rw[k4,l0 sz _ (fun r hr=>by rw[List.eq_of_mem_replicate hr];exact hzl)];simp
 have eY:len≤maxLen:=by
  have:len*1≤len*sz:=Nat.mul_le_mul_left _ rT
  unfold maxLen;omega
 obtain ⟨m',w1,w2,w3,w4,w5,w6⟩:=aJp (P:=P) (T:=e) (len:=len) (cap:=len) (sz:=sz) (rd:=ids) hb.rel hf1 k2 k3 gM (Nat.le_refl _) eY
 refine ⟨_,m',?_,w2,hb.evo.trans w3,w4,?_,?_⟩
 ·rw[hw] at w1
  rw[hw]
  have hk1:Instr.fill (fun i=>some (i*sz,sz)) ((Array.range (len*sz)).map (fun i=>v.cells[i % v.cells.size]!)) (ps.map fun p=>(p.1,σ p.2)).toList=some ys.toArray:=by
   rw[←hlz,mQ,hlz,←k1]
   simp
  simp only[Instr.buildSlice,Sem.run_bind,run_underlying h2,Result.andThen_ok,i8 hjj,qF,show ¬ (len*sz > 2 ^ 24) by omega,if_false,Sem.run_pure]
  by_cases h0:len*sz=0
  ·simp only[h0,if_true,Sem.run_bind,Sem.run_pure,Result.andThen_ok]
   have:∀ f:Nat→Value,Array.map f (Array.range 0)=#[]:=fun f=>by apply Array.ext';simp
   rw[h0,this] at hk1
   rw[this]
   simp only[hk1,Sem.run_bind,w1,Result.andThen_ok,Sem.run_pure]
  ·simp only[h0,if_false,Sem.run_bind,g1,Result.andThen_ok,Sem.run_pure,hk1,w1]
 ·rw[w5,e1,wD]
 ·rw[w6,hb.iss]
theorem aFw [Gl] {t:TypeId} {i:TI} {z cs:List V} {fs:List (Nat×Nat×Bool)} {ps:Array (Nat×Operand)} {ρ:Operand→V} {σ:Operand→Value} {fz:Bool} {c:Nat} {qs:List (Nat×V)} {ids:List Nat} (hi:cJ P t=some i) (hz:i.zero=some z)
  (nB:z.all V.one=true) (hk:i.k= .struct fs) (hcp:bC m.h fz (ps.toList.map fun p=>(p.1,ρ p.2))=some (qs,ids)) (h:bN (fun j=>(fs[j]?).map fun f=>(f.1,f.2.1)) z qs=some cs) (lL:∀ x,RV S m (ρ x) (σ x)) (hR:Rel S m):
  ∃ m',∃ ys:List Value,(Instr.build t (ps.map fun p=>(p.1,σ p.2))).run P m.w= .ok (.agg ys.toArray) m'.w∧cB S m c ⟨.agg cs,mC m.h ids,ids,0,0,false⟩ (.agg ys.toArray) m':=by
 obtain ⟨inf,d,h1,h2,h3,_⟩:=cO hi
 obtain ⟨v,g1,g2,g3⟩:=qC hi hz m.w
 obtain ⟨r1,r2⟩:=aAu (S:=S) (m:=m) lL ps.toList
 obtain ⟨m1,e1,hb⟩:=ros hR ids
 obtain ⟨r3,r4⟩:=nS (fz:=fz) hR hb hcp r1 r2 (fun i hi=>hi)
 obtain ⟨ys,k1,k2,_,_⟩:=sK (S:=S) (m:=m1) (xs:=v.cells.toList) h (by rw[g2];exact oF _) nB r3 r4
 refine ⟨m1,ys,?_,hb.rel,hb.evo,k2.agg,e1,?_⟩
 ·rw[hb.w]
  apply run_build
  have hzz:inf.zero=some v:=by simpa [h1] using g3
  simp only[Array.toArray_toList] at k1
  rw[hk] at h3
  obtain ⟨fields,rfl,hfs⟩:=rW h3
  have hp:=pA hfs
  simp only[Program.built,h1,h2,hzz,hp]
  simpa using k1
 ·rw[hb.iss];exact (jJ m c).symm
theorem jL.map {ρ:Operand→V} {σ:Operand→Value} (h:∀ x,RV S m (ρ x) (σ x)) (l:List Operand):jL S m (l.map ρ) (l.map σ):=by
 refine ⟨by simp,fun j a b ha hb=>?_⟩
 rw[List.getElem?_map] at ha hb
 cases hp:l[j]? with
 | none=>simp[hp] at ha
 | some p=>simp[hp] at ha hb;subst ha;subst hb;exact h p
theorem aCy [Gl] {n c:Nat} {b:Builtin} {ts:Array TypeId} {ty:TypeId} {vs:List V} {xs:List Value} {r:Res} (h:rD P m.h n c b ts.toList vs=some r) (hR:Rel S m) (hf:lY m c r.dc) (hv:jL S m vs xs):
  ∃ x m',(∀ consts:Array Bool,(builtin b ts ty consts xs.toArray).run P m.w= .ok (.value x) m'.w)∧cB S m c r x m':=by
 unfold rD at h
 split at h
 ·rename_i t x pC
  simp only[Option.bind_eq_some_iff] at h
  obtain ⟨i,hi,h⟩:=h
  obtain ⟨v,ys,rfl,hx,m8⟩:=hv.cases
  have:ys=[]:=List.length_eq_zero_iff.1 (by have:=m8.1;simpa using this.symm)
  subst this
  obtain rfl:ts=#[t]:=by apply Array.ext';simpa using pC
  obtain ⟨z,g1,g2⟩:=aHz (P:=P) (ty:=ty) (c:=c) hi h hR hx
  exact ⟨z,m,fun _=>by simp[builtin,g1],g2⟩
 ·rename_i t u s x pC
  split at h
  ·rename_i htu;subst htu
   simp only[Option.bind_eq_some_iff] at h
   obtain ⟨i,hi,h⟩:=h
   obtain ⟨v,ys,rfl,hs,m8⟩:=hv.cases
   obtain ⟨y,ys,rfl,hx,m8⟩:=m8.cases
   have:ys=[]:=List.length_eq_zero_iff.1 (by have:=m8.1;simpa using this.symm)
   subst this
   obtain rfl:ts=#[t,t]:=by apply Array.ext';simpa using pC
   obtain ⟨z,m',g1,g2⟩:=aDJ (P:=P) (ty:=ty) hi h hR hf hs hx
   exact ⟨z,m',fun _=>by simp[builtin,g1],g2⟩
  ·obtain ⟨v,ys,rfl,hs,m8⟩:=hv.cases
   obtain ⟨y,ys,rfl,hx,m8⟩:=m8.cases
   have:ys=[]:=List.length_eq_zero_iff.1 (by have:=m8.1;simpa using this.symm)
   subst this
   obtain rfl:ts=#[t,u]:=by apply Array.ext';simpa using pC
   split at h
   ·rename_i i j hi hj
    split at h
    ·rename_i e sz by_ kk hk hjk
     obtain ⟨z,m',g1,g2⟩:=aDn (P:=P) (ty:=ty) hi hk hj hjk h hR hf hs hx
     exact ⟨z,m',fun _=>by simp[builtin,g1],g2⟩
    ·simp at h
   ·simp at h
 ·rename_i t x pC
  simp only[Option.bind_eq_some_iff] at h
  obtain ⟨i,hi,h⟩:=h
  obtain ⟨v,ys,rfl,hx,m8⟩:=hv.cases
  have:ys=[]:=List.length_eq_zero_iff.1 (by have:=m8.1;simpa using this.symm)
  subst this
  obtain rfl:ts=#[t]:=by apply Array.ext';simpa using pC
  obtain ⟨z,g1,g2⟩:=aHO (P:=P) (ty:=ty) (c:=c) hi h hR hx
  exact ⟨z,m,fun _=>by simp[builtin,g1],g2⟩
 ·obtain ⟨z,g1,g2⟩:=aDb (P:=P) (mx:=true) (ts:=ts) (ty:=ty) (c:=c) h hR hv
  exact ⟨z,m,fun _=>by simp only[if_true] at g1;simp[builtin,g1],g2⟩
 ·obtain ⟨z,g1,g2⟩:=aDb (P:=P) (mx:=false) (ts:=ts) (ty:=ty) (c:=c) h hR hv
  exact ⟨z,m,fun _=>by simp only[Bool.false_eq_true,if_false] at g1;simp[builtin,g1],g2⟩
 ·rename_i t u s x pC
  split at h
  ·rename_i htu;subst htu
   simp only[Option.bind_eq_some_iff] at h
   obtain ⟨i,hi,h⟩:=h
   obtain ⟨v,ys,rfl,hs,m8⟩:=hv.cases
   obtain ⟨y,ys,rfl,hx,m8⟩:=m8.cases
   have:ys=[]:=List.length_eq_zero_iff.1 (by have:=m8.1;simpa using this.symm)
   subst this
   obtain rfl:ts=#[t,t]:=by apply Array.ext';simpa using pC
   obtain ⟨z,m',g1,g2⟩:=aGX (P:=P) (ty:=ty) (c:=c) hi h hR hs hx
   exact ⟨z,m',fun _=>by simp[builtin,g1],g2⟩
  ·simp at h
 ·simp at h
theorem aHP [Gl] {o:Oper} {fz fs:Bool} {n c:Nat} {ρ:Operand→V} {σ:Operand→Value} {r:Res} (h:step P fz fs ρ m.h n c o.op=some r) (hσ:∀ v,σ (.const v)=v) (lL:∀ x,RV S m (ρ x) (σ x)) (hR:Rel S m)
  (hf:lY m c r.dc):∃ x m',aSz P σ o m.w x m'.w∧cB S m c r x m':=by
 obtain ⟨dst,op,ty,pos,after,guard⟩:=o
 cases op <;> simp only[step] at h <;> try (simp at h;done)
 case move x=>simp[ret] at h;subst h;exact ⟨σ x,m,.inl (by simp[execOp]),cB.quiet hR (lL x)⟩
 case assign x=>simp[ret] at h;subst h;exact ⟨σ x,m,.inl (by simp[execOp]),cB.quiet hR (lL x)⟩
 case pick q a b=>
  split at h
  ·rename_i hq
   simp[ret] at h;subst h
   have:=(hq▸lL q).bool_inv
   exact ⟨σ a,m,.inl (by simp[execOp,this,asBool]),cB.quiet hR (lL a)⟩
  ·rename_i hq
   simp[ret] at h;subst h
   have:=(hq▸lL q).bool_inv
   exact ⟨σ b,m,.inl (by simp[execOp,this,asBool]),cB.quiet hR (lL b)⟩
  ·simp at h
 case alloc t=>
  split at h
  ·rename_i i hi
   split at h
   ·rename_i z hz
    split at h
    ·rename_i nB
     obtain ⟨x,m',g1,g2⟩:=aGa (P:=P) hi hz nB h hR hf
     exact ⟨x,m',.inl (by simp[execOp,g1]),g2⟩
    ·simp at h
   ·simp at h
  ·simp at h
 case box t x=>
  simp only[Option.bind_eq_some_iff] at h
  obtain ⟨cs,rN,h⟩:=h
  obtain ⟨y,m',g1,g2⟩:=aKG (P:=P) (t:=t) rN h hR hf (lL x)
  exact ⟨y,m',.inl (by simp[execOp,g1]),g2⟩
 case build t ps=>
  split at h
  ·rename_i i hi
   split at h
   ·rename_i z fl hz hk
    split at h
    ·rename_i nB
     split at h
     ·simp only[Option.bind_eq_some_iff] at h
      obtain ⟨cs,rN,h⟩:=h
      simp[ret] at h;subst h
      obtain ⟨ys,g1,g2⟩:=aBG (P:=P) hi hz nB (.inl ⟨fl,hk,rfl⟩) rN lL
      exact ⟨_,m,.inl (by simp[execOp,g1]),cB.quiet hR g2.agg⟩
     ·split at h
      ·rename_i qs ids hcp
       simp only[Option.bind_eq_some_iff] at h
       obtain ⟨cs,rN,h⟩:=h
       simp only[Option.some.injEq] at h;subst h
       obtain ⟨m',ys,g1,g2⟩:=aFw (P:=P) (c:=c) hi hz nB hk hcp rN lL hR
       exact ⟨_,m',.inl (by simp[execOp,g1]),g2⟩
      ·simp at h
    ·simp at h
   ·rename_i z n' e sz ag hz hk
    split at h
    ·rename_i nB
     simp only[Option.bind_eq_some_iff] at h
     obtain ⟨cs,rN,h⟩:=h
     simp[ret] at h;subst h
     obtain ⟨ys,g1,g2⟩:=aBG (P:=P) hi hz nB (.inr ⟨_,_,_,_,hk,rfl⟩) rN lL
     exact ⟨_,m,.inl (by simp[execOp,g1]),cB.quiet hR g2.agg⟩
    ·simp at h
   ·simp at h
  ·simp at h
 case buildSlice t len ps=>
  split at h
  ·rename_i i hi
   split at h
   ·rename_i e sz by_ hk
    split at h
    ·rename_i j hj
     split at h
     ·rename_i z hz
      split at h
      ·rename_i aED
       split at h
       ·rename_i qs ids hcp
        simp only[Option.bind_eq_some_iff] at h
        obtain ⟨cs,rN,h⟩:=h
        simp only[Option.some.injEq] at h;subst h
        obtain ⟨x,m',g1,g2⟩:=aAY (P:=P) hi hk hj hz aED.1 aED.2.1 aED.2.2.1 aED.2.2.2 lL hR hf hcp rN
        exact ⟨x,m',.inl (by simp[execOp,g1]),g2⟩
       ·simp at h
      ·simp at h
     ·simp at h
    ·simp at h
   ·simp at h
  ·simp at h
 case load t a=>
  simp only[Option.bind_eq_some_iff] at h
  obtain ⟨i,hi,h⟩:=h
  obtain ⟨x,g1,g2⟩:=aBz (P:=P) (c:=c) hi h rfl hR (lL a)
  exact ⟨x,m,.inl (by simp[execOp,g1]),g2⟩
 case store t a x=>
  simp only[Option.bind_eq_some_iff] at h
  obtain ⟨i,hi,h⟩:=h
  obtain ⟨m',g1,g2⟩:=aEI (P:=P) (c:=c) hi h hR (lL a) (lL x)
  exact ⟨undef,m',.inr ⟨by simp[execOp,g1],rfl⟩,g2⟩
 case nilCheck x=>
  obtain ⟨g1,g2⟩:=aDe (P:=P) (dst:=dst) (ty:=ty) (pos:=pos) (af:=after) (gd:=guard) (c:=c) h hR (lL x)
  exact ⟨σ x,m,.inl g1,g2⟩
 case range t x=>
  simp only[Option.bind_eq_some_iff] at h
  obtain ⟨i,hi,h⟩:=h
  split at h
  ·rename_i hk
   obtain ⟨z,m',g1,g2⟩:=aDI (P:=P) hi hk h hR hf (lL x)
   exact ⟨z,m',.inl (by simp[execOp,g1]),g2⟩
  ·obtain ⟨z,m',g1,g2⟩:=aFC (P:=P) hi h hR hf (lL x)
   exact ⟨z,m',.inl (by simp[execOp,g1]),g2⟩
 case entry x=>
  obtain ⟨z,g1,g2⟩:=aCr (P:=P) (c:=c) h hR (lL x)
  exact ⟨z,m,.inl (by simp[execOp,g1]),g2⟩
 case next x b=>
  cases b with
  | false=>simp at h
  | true=>
   obtain ⟨z,m',g1,g2⟩:=aGs (P:=P) (ty:=ty) (c:=c) h hR (lL x)
   exact ⟨z,m',.inl (by simp[execOp,g1]),g2⟩
 case makeMap t q=>
  cases q with
  | some q=>simp at h
  | none=>
   simp only at h
   split at h
   ·split at h
    ·obtain ⟨z,m',g1,g2⟩:=aDy (P:=P) (t:=t) h hR hf
     exact ⟨z,m',.inl (by simp[execOp,g1]),g2⟩
    ·simp at h
   ·simp at h
 case lookup t x k ok=>
  split at h
  ·rename_i i hi
   split at h
   ·rename_i kt et hk
    split at h
    ·rename_i ki nJ
     obtain ⟨z,g1,g2⟩:=aDE (P:=P) (c:=c) hi hk nJ h hR (lL x) (lL k)
     exact ⟨z,m,.inl (by simp[execOp,g1]),g2⟩
    ·simp at h
   ·simp at h
  ·simp at h
 case mapUpdate t mv k x=>
  split at h
  ·rename_i i hi
   split at h
   ·rename_i kt et hk
    simp only[Option.bind_eq_some_iff] at h
    obtain ⟨ki,nJ,h⟩:=h
    obtain ⟨m',g1,g2⟩:=xQ (P:=P) (c:=c) hi hk nJ h hR (lL mv) (lL k) (lL x)
    exact ⟨undef,m',.inr ⟨by simp[execOp,g1],rfl⟩,g2⟩
   ·simp at h
  ·simp at h
 case insert t mv k x=>
  split at h
  ·rename_i i hi
   split at h
   ·rename_i kt et hk
    simp only[Option.bind_eq_some_iff] at h
    obtain ⟨ki,nJ,h⟩:=h
    obtain ⟨m',g1,g2⟩:=xQ (P:=P) (c:=c) hi hk nJ h hR (lL mv) (lL k) (lL x)
    exact ⟨undef,m',.inr ⟨by simp[execOp,g1],rfl⟩,g2⟩
   ·simp at h
  ·simp at h
 case mapEntry t mv k=>
  split at h
  ·rename_i i hi
   split at h
   ·rename_i kt et hk
    simp only[Option.bind_eq_some_iff] at h
    obtain ⟨ki,nJ,h⟩:=h
    obtain ⟨z,m',g1,g2⟩:=aFb (P:=P) (c:=c) hi hk nJ h hR (lL mv) (lL k)
    exact ⟨z,m',.inl (by simp[execOp,g1]),g2⟩
   ·simp at h
  ·simp at h
 case entryStore t mv k x=>
  obtain ⟨m',g1,g2⟩:=aFy (P:=P) (t:=t) (c:=c) h hR (lL mv) (lL k) (lL x)
  exact ⟨undef,m',.inr ⟨by simp[execOp,g1],rfl⟩,g2⟩
 case binOp op t x y yt=>
  split at h
  ·simp only[Option.bind_eq_some_iff] at h
   obtain ⟨i,hi,h⟩:=h
   obtain ⟨z,g1,g2,g3⟩:=aIu (P:=P) (xo:=x) (y:=y) (b:=σ y) (c:=c) hi (fun v hv=>by rw[hv];exact hσ v) h hR (lL x)
   exact ⟨z,m,.inl (by simp[execOp,g1,g2]),g3⟩
  split at h
  ·rename_i a b ha hb
   split at h
   ·rename_i i hi
    split at h
    ·rename_i hk
     obtain ⟨_,d,_,i2,i3,_⟩:=cO hi
     rw[hk] at i3
     have:=aAF i3;subst this
     simp only[Option.bind_eq_some_iff] at h
     obtain ⟨v,hv,h⟩:=h
     simp[ret] at h;subst h
     obtain ⟨z,g1,g2,g3⟩:=aDF (S:=S) (m:=m) (P:=P) x y i2 hv
     have e1:=(ha▸lL x).bool_inv
     have e2:=(hb▸lL y).bool_inv
     exact ⟨z,m,.inl (by simp[execOp,e1,e2,g1,g2]),cB.quiet hR g3⟩
    ·simp at h
   ·simp at h
  ·rename_i as bs ha hb
   split at h
   ·rename_i e l he hl
    split at h
    ·rename_i q hq
     simp[ret] at h;subst h
     obtain ⟨z,g1,g2,g3⟩:=aDr (P:=P) (t:=t) x y he hl hq (ha▸lL x) (hb▸lL y)
     exact ⟨z,m,.inl (by simp[execOp,g1,g2]),cB.quiet hR g3⟩
    ·simp at h
   ·simp at h
  ·simp only[Option.bind_eq_some_iff] at h
   obtain ⟨v,hv,h⟩:=h
   simp[ret] at h;subst h
   obtain ⟨z,g1,g2,g3⟩:=aHL (P:=P) t x y hv (lL x) (lL y)
   exact ⟨z,m,.inl (by simp[execOp,g1,g2]),cB.quiet hR g3⟩
 case unOp op t x=>
  simp only[Option.bind_eq_some_iff] at h
  obtain ⟨v,hv,h⟩:=h
  simp[ret] at h;subst h
  obtain ⟨z,g1,g2⟩:=aJW (P:=P) hv (lL x)
  exact ⟨z,m,.inl (by simp[execOp,g1]),cB.quiet hR g2⟩
 case convert s t x=>
  split at h
  ·rename_i i j hi hj
   simp only[Option.bind_eq_some_iff] at h
   obtain ⟨v,hv,h⟩:=h
   simp[ret] at h;subst h
   obtain ⟨z,g1,g2⟩:=aGJ (P:=P) hi hj hv (lL x)
   exact ⟨z,m,.inl (by simp[execOp,g1]),cB.quiet hR g2⟩
  ·simp at h
 case makeFunc fn first caps=>
  cases fn <;> simp only[] at h <;> try (simp at h;done)
  split at h
  ·rename_i f aYl
   simp[ret] at h;subst h
   have hfe:first=#[]:=by simpa using aYl
   subst hfe
   refine ⟨_,m,.inl (by simp[execOp,Instr.makeFunc];rfl),cB.quiet hR ?_⟩
   have:=jL.map (S:=S) (m:=m) lL caps.toList
   refine .fn (by simp) fun j a b ha hb=>this.2 j a b ha ?_
   simpa using hb
  ·simp at h
 case makeSlice t l q=>
  split at h
  ·rename_i i hi
   split at h
   ·rename_i e sz by_ hk
    obtain ⟨x,m',g1,g2⟩:=aHd (P:=P) hi hk h hR hf (lL l) (lL q)
    exact ⟨x,m',.inl (by simp[execOp,g1]),g2⟩
   ·simp at h
  ·simp at h
 case slice t x lo hi mx=>
  split at h
  ·simp at h
  ·rename_i cD
   simp only[Option.bind_eq_some_iff] at h
   obtain ⟨i,hti,h⟩:=h
   obtain ⟨z,g1,g2⟩:=aEX (P:=P) (c:=c) hti h hR (lL x) (RO.map lL lo) (RO.map lL hi) (RO.map lL mx) (by
    intro h1
    cases mx with
    | none=>simp at h1
    | some q=>
     cases hi with
     | none=>simp at cD
     | some p=>rfl)
   exact ⟨z,m,.inl (by simp[execOp,g1]),g2⟩
 case fieldAddr t x f=>
  simp only[Option.bind_eq_some_iff] at h
  obtain ⟨i,hi,h⟩:=h
  obtain ⟨z,g1,g2⟩:=aAW (P:=P) (c:=c) hi h hR (lL x)
  exact ⟨z,m,.inl (by simp[execOp,g1]),g2⟩
 case field t x f=>
  simp only[Option.bind_eq_some_iff] at h
  obtain ⟨i,hi,h⟩:=h
  obtain ⟨z,g1,g2⟩:=aFm (P:=P) (c:=c) hi h hR (lL x)
  exact ⟨z,m,.inl (by simp[execOp,g1]),g2⟩
 case indexAddr t x ix=>
  simp only[Option.bind_eq_some_iff] at h
  obtain ⟨i,hi,h⟩:=h
  obtain ⟨z,g1,g2⟩:=aAy (P:=P) (c:=c) hi h hR (lL x) (lL ix)
  exact ⟨z,m,.inl (by simp[execOp,g1]),g2⟩
 case index t x ix=>
  simp only[Option.bind_eq_some_iff] at h
  obtain ⟨i,hi,h⟩:=h
  obtain ⟨z,g1,g2⟩:=aFj (P:=P) (c:=c) hi h hR (lL x) (lL ix)
  exact ⟨z,m,.inl (by simp[execOp,g1]),g2⟩
 case extract t ix=>
  split at h
  ·rename_i vs ht
   simp only[Option.bind_eq_some_iff] at h
   obtain ⟨v,hv,h⟩:=h
   simp[ret] at h;subst h
   obtain ⟨xs,hxt,hxs⟩:=(ht▸lL t).tuple_vals
   obtain ⟨x,g1,g2⟩:=hxs.get hv
   exact ⟨x,m,.inl (by simp[execOp,hxt,Instr.extract,g1]),cB.quiet hR g2⟩
  ·simp at h
 case call cl=>
  obtain ⟨callee,args,ts⟩:=cl
  cases callee <;> simp only[] at h <;> try (simp at h;done)
  rename_i b
  obtain ⟨x,m',g1,g2⟩:=aCy (P:=P) (ty:=ty) h hR hf (jL.map lL args.toList)
  refine ⟨x,m',.inl ?_,g2⟩
  have:(List.map σ args.toList).toArray=args.map σ:=by apply Array.ext';simp
  rw[this] at g1
  simp[execOp,resolve,invoke,g1]
end Go.Ac
end
section
namespace Go.Ac
variable {P:Program}
def fK (l k:cA) (ids:List Nat):Prop:=∀ i∈ids,l i=k i
theorem fK.mono {l k:cA} {a b:List Nat} (h:fK l k b) (hs:∀ i∈a,i∈b):fK l k a:=fun i hi=>h i (hs i hi)
theorem dQ {l k:cA} {id g:Nat} (h:l id=k id):live l id g=live k id g:=by unfold live;rw[h]
theorem aGI {f g:V→Option (D×List Nat)}:∀ {vs:List V} {ds:List D} {ids:List Nat},g9 f vs=some (ds,ids)→(∀ v d a,f v=some (d,a)→(∀ i∈a,i∈ids)→g v=some (d,a))→g9 g vs=some (ds,ids)
 | [],ds,ids,h,_=>h
 | v::r,ds,ids,h,hf=>by
  simp only[g9] at h ⊢
  split at h
  ·rename_i x a xs b h1 h2
   simp at h;obtain ⟨rfl,rfl⟩:=h
   rw[hf v x a h1 (fun i hi=>by simp[hi]),aGI h2 (fun v d a' h3 h4=>hf v d a' h3 (fun i hi=>by simp[h4 i hi]))]
  ·simp at h
theorem aNr {l k:cA}:∀ (f:Nat) {v:V} {x:D} {ids:List Nat},yQ l f v=some (x,ids)→fK l k ids→yQ k f v=some (x,ids):=by
 intro f
 induction f with
 | zero=>intro v x ids h ha;cases v <;> simp only[yQ] at h ⊢ <;> exact h
 | succ f ih=>
  intro v x ids h ha
  cases v <;> simp only[yQ] at h ⊢ <;> try exact h
  rename_i id g off len sz cap
  cases hl:live l id g with
  | none=>simp[hl] at h
  | some o=>
   simp only[hl] at h
   split at h
   ·rename_i ds r h1 h2
    simp at h;obtain ⟨rfl,rfl⟩:=h
    rw[←dQ (ha id (by simp)),hl]
    simp only[h1]
    rw[aGI h2 (fun v d a h3 h4=>ih h3 (ha.mono fun i hi=>by simp[h4 i hi]))]
   ·simp at h
theorem yM {l k:cA} {v w:V} {ids:List Nat} (h:gW l v=some (w,ids)) (ha:fK l k ids):gW k v=some (w,ids):=by
 have gen:∀ v,ofD (yQ l qY v)=some (w,ids)→ofD (yQ k qY v)=some (w,ids):=by
  intro v h
  unfold ofD at h
  split at h
  ·rename_i x r hx
   simp at h;obtain ⟨rfl,rfl⟩:=h
   rw[aNr qY hx ha];rfl
  ·simp at h
 cases v with
 | con v=>exact h
 | fn f cs=>cases cs with
  | nil=>exact h
  | cons c cs=>simp only[gW] at h ⊢;exact gen _ h
 | _=>simp only[gW] at h ⊢;exact gen _ h
theorem kA {f g:V→Option (V×List Nat)}:∀ {vs ws:List V} {ids:List Nat},fA f vs=some (ws,ids)→(∀ v w a,f v=some (w,a)→(∀ i∈a,i∈ids)→g v=some (w,a))→fA g vs=some (ws,ids)
 | [],ds,ids,h,_=>h
 | v::r,ds,ids,h,hf=>by
  simp only[fA] at h ⊢
  split at h
  ·rename_i x a xs b h1 h2
   simp at h;obtain ⟨rfl,rfl⟩:=h
   rw[hf v x a h1 (fun i hi=>by simp[hi]),kA h2 (fun v d a' h3 h4=>hf v d a' h3 (fun i hi=>by simp[h4 i hi]))]
  ·simp at h
theorem aKB {l k:cA} {v w:V} {ids:List Nat} (h:mT l v=some (w,ids)) (ha:fK l k ids):mT k v=some (w,ids):=by
 cases v with
 | agg cs=>
  simp only[mT] at h ⊢
  split at h
  ·rename_i xs r hx
   simp at h;obtain ⟨rfl,rfl⟩:=h
   rw[kA hx (fun v w a h1 h2=>yM h1 (ha.mono h2))]
  ·simp at h
 | _=>simp only[mT] at h ⊢;exact yM h ha
theorem aEY {l k:cA} {fz:Bool} {v w:V} {ids:List Nat} (h:cl1 l fz v=some (w,ids)) (ha:fK l k ids):cl1 k fz v=some (w,ids):=by
 cases v with
 | osl id g off len sz cap=>
  cases fz with
  | true=>simp only[cl1] at h ⊢;exact yM h ha
  | false=>exact h
 | _=>exact h
theorem aOq {l k:cA} {fz:Bool} {v w:V} {ids:List Nat} (h:iE l fz v=some (w,ids)) (ha:fK l k ids):iE k fz v=some (w,ids):=by
 cases v with
 | agg cs=>
  simp only[iE] at h ⊢
  split at h
  ·rename_i xs r hx
   simp at h;obtain ⟨rfl,rfl⟩:=h
   rw[kA hx (fun v w a h1 h2=>aEY h1 (ha.mono h2))]
  ·simp at h
 | _=>simp only[iE] at h ⊢;exact aEY h ha
theorem rH {l k:cA} {fz:Bool}:∀ {ps qs:List (Nat×V)} {ids:List Nat},bC l fz ps=some (qs,ids)→fK l k ids→bC k fz ps=some (qs,ids)
 | [],qs,ids,h,_=>h
 | (i,x)::r,qs,ids,h,ha=>by
  simp only[bC] at h ⊢
  split at h
  ·rename_i y a ys b h1 h2
   simp at h;obtain ⟨rfl,rfl⟩:=h
   rw[aOq h1 (ha.mono fun i hi=>by simp[hi]),rH h2 (ha.mono fun i hi=>by simp[hi])]
  ·simp at h
theorem aIh {l k:cA} {v w:V} {ids:List Nat} (h:o9 l v=some (w,ids)) (ha:fK l k ids):o9 k v=some (w,ids):=by
 unfold o9 at h ⊢
 split at h
 ·exact h
 ·exact aKB h ha
theorem vQ {l k:cA}:∀ {ids:List Nat},fK l k ids→mC l ids=mC k ids
 | [],_=>rfl
 | id::r,h=>by
  simp only[mC]
  rw[h id (by simp),vQ (h.mono fun i hi=>by simp[hi])]
theorem nR {l k:cA} {sz n:Nat} {x:V} {vs:List V} {rd:List Nat} (h:iM l sz x=some (n,vs,rd)) (ha:fK l k rd):iM k sz x=some (n,vs,rd):=by
 unfold iM at h ⊢
 split at h <;> try exact h
 rename_i id g off len sz' cap
 split at h
 ·rename_i o hl hb
  split at h
  ·rename_i hle
   simp only[Option.some.injEq,Prod.mk.injEq] at h;obtain ⟨rfl,rfl,rfl⟩:=h
   simp only[←dQ (ha id (by simp)),hl,hb,hle]
  ·simp at h
 ·simp at h
theorem aKd {l k:cA} {i:TI} {p:V} {r:Res} (h:xR l i p=some r) (ha:fK l k r.rd):xR k i p=some r:=by
 unfold xR at h ⊢
 split at h
 ·rename_i id g off
  cases hl:live l id g with
  | none=>simp[hl] at h
  | some o=>
   simp only[hl,Option.bind_eq_some_iff] at h
   obtain ⟨y,hy,hr⟩:=h
   simp[jS] at hr;subst hr
   simp only[←dQ (ha id (by simp)),hl,hy];rfl
 ·exact h
 ·exact h
theorem aIt {l k:cA} {fz:Bool} {i:TI} {p x:V} {r:Res} (h:yO l fz i p x=some r) (ha:fK l k r.rd):yO k fz i p x=some r:=by
 unfold yO at h ⊢
 split at h
 ·rename_i id g off xs hcx
  split at h
  ·rename_i o ys ids hl gM
   split at h
   ·rename_i c1 c2 c3 c4
    simp only[Option.some.injEq] at h;subst h
    have ha':fK l k ids:=ha.mono fun i hi=>by simp[hi]
    simp only[hcx,←dQ (ha id (by simp)),hl,kA gM (fun v w a h1 h2=>aEY h1 (ha'.mono h2)),c1,c2,c3,c4,vQ ha']
   ·simp at h
  ·simp at h
 ·simp at h
theorem aGl {l k:cA} {n c:Nat} {i:TI} {s x:V} {r:Res} (h:uG l n c i s x=some r) (ha:fK l k r.rd):uG k n c i s x=some r:=by
 unfold uG at h ⊢
 split at h
 ·rename_i e sz by_ hk
  split at h
  ·rename_i m xs rx pK
   split at h
   ·rename_i rows
    split at h
    ·rename_i c1 c2 c3
     simp only[Option.some.injEq] at h;subst h
     simp only[nR pK ha,c1,c2,c3]
    ·simp at h
   ·rename_i id g off len sz' cap
    split at h
    ·rename_i o hl hb
     split at h
     ·rename_i c1 c2
      split at h
      ·rename_i q
       split at h
       ·rename_i c3 c4 c5
        simp only[Option.some.injEq] at h;subst h
        simp only[nR pK (ha.mono fun i hi=>by simp[hi]),←dQ (ha id (by simp)),hl,hb,c1,c2,c3,c4,c5]
       ·rename_i c3
        simp only[Option.some.injEq] at h;subst h
        simp only[nR pK (ha.mono fun i hi=>by simp[hi]),←dQ (ha id (by simp)),hl,hb,c1,c2,c3]
       ·simp at h
      ·split at h
       ·rename_i c3
        simp only[Option.some.injEq] at h;subst h
        simp only[nR pK (ha.mono fun i hi=>by simp[hi]),←dQ (ha id (by simp)),hl,hb,c1,c2,c3]
       ·simp at h
     ·simp at h
    ·simp at h
   ·simp at h
  ·simp at h
 ·simp at h
theorem aIf {l k:cA} {n c sz by_:Nat} {x:V} {r:Res} (h:fD l n c sz by_ x=some r) (ha:fK l k r.rd):fD k n c sz by_ x=some r:=by
 unfold fD at h ⊢
 split at h
 ·rename_i m xs rx pK
  split at h
  ·rename_i hf
   simp only[Option.some.injEq] at h;subst h
   rw[nR pK ha]
   simp only[hf]
  ·simp at h
 ·simp at h
theorem aKk {l k:cA} {n c:Nat} {p:Nat×Nat} {vs:List V} {r:Res} (h:aBK l n c p vs=some r) (ha:fK l k r.rd):aBK k n c p vs=some r:=by
 unfold aBK at h ⊢
 split at h
 ·exact aIf h ha
 ·simp at h
theorem aLn {l k:cA} {i:TI} {x:V} {r:Res} (h:aHA l i x=some r) (ha:fK l k r.rd):aHA k i x=some r:=by
 unfold aHA at h ⊢
 split at h <;> try exact h
 ·rename_i id g off len sz cap
  split at h
  ·rename_i e s b o hk hl
   simp[jS] at h;subst h
   simp only[hk,←dQ (ha id (by simp)),hl];rfl
  ·simp at h
 ·rename_i id g
  split at h
  ·rename_i kt et o hk hl
   split at h
   ·rename_i ks vs bs c hc
    simp[jS] at h;subst h
    simp only[hk,←dQ (ha id (by simp)),hl,hc];rfl
   ·simp at h
  ·simp at h
theorem aLH {l k:cA} {i:TI} {x:V} {r:Res} (h:aKa l i x=some r) (ha:fK l k r.rd):aKa k i x=some r:=by
 unfold aKa at h ⊢
 split at h <;> try exact h
 rename_i id g off len sz q
 split at h
 ·rename_i e s b o hk hl
  simp[jS] at h;subst h
  simp only[hk,←dQ (ha id (by simp)),hl];rfl
 ·simp at h
theorem aLG {l k:cA} {q:TK} {y:Operand} {x:V} {b:Bool} {rd:List Nat} (h:aKR l q y x=some (b,rd)) (ha:fK l k rd):aKR k q y x=some (b,rd):=by
 unfold aKR at h ⊢
 split at h
 ·split at h <;> try exact h
  rename_i id g off
  cases hl:live l id g with
  | none=>simp[hl] at h
  | some o=>
   simp[hl] at h;obtain ⟨rfl,rfl⟩:=h
   simp only[←dQ (ha id (by simp)),hl]
 ·split at h <;> try exact h
  rename_i id g
  cases hl:live l id g with
  | none=>simp[hl] at h
  | some o=>
   simp[hl] at h;obtain ⟨rfl,rfl⟩:=h
   simp only[←dQ (ha id (by simp)),hl]
 ·split at h <;> try exact h
  rename_i id g off len sz cap
  cases hl:live l id g with
  | none=>simp[hl] at h
  | some o=>
   cases hb:Nat.blt 0 len with
   | false=>rw[hl,hb] at h;simp at h
   | true=>
    rw[hl,hb] at h
    simp at h;obtain ⟨rfl,rfl⟩:=h
    simp only[←dQ (ha id (by simp)),hl]
 ·simp at h
theorem aLa {l k:cA} {op:BinOp} {q:TK} {y:Operand} {x:V} {r:Res} (h:aHw l op q y x=some r) (ha:fK l k r.rd):aHw k op q y x=some r:=by
 unfold aHw at h ⊢
 split at h
 ·rename_i e b rd he hn
  simp at h;subst h
  rw[he,aLG hn ha]
 ·simp at h
theorem aFt {l k:cA} {x:V} {r:Res} (h:rA l x=some r) (ha:fK l k r.rd):rA k x=some r:=by
 unfold rA at h ⊢
 split at h <;> try exact h
 rename_i id g off
 split at h
 ·rename_i o hl
  simp[jS] at h;subst h
  simp only[←dQ (ha id (by simp)),hl];rfl
 ·simp at h
theorem aKU {l k:cA} {x:V} {r:Res} (h:aEC l x=some r) (ha:fK l k r.rd):aEC k x=some r:=by
 unfold aEC at h ⊢
 split at h
 ·rename_i id g
  split at h
  ·rename_i o hl
   split at h
   ·rename_i s pos tT hc
    have cY:r.rd=[id]:=by
     split at h
     ·simp at h;subst h;rfl
     ·simp at h;subst h;rfl
    simp only[←dQ (ha id (by rw[cY];simp)),hl,tT,hc]
    exact h
   ·simp at h
  ·simp at h
 ·simp at h
theorem aGW {l k:cA} {n c:Nat} {x:V} {r:Res} (h:rY l n c x=some r) (ha:fK l k r.rd):rY k n c x=some r:=by
 unfold rY at h ⊢
 split at h
 ·rename_i id g
  split at h
  ·rename_i o hl
   split at h
   ·rename_i ks vs bs clock hc
    simp only[Option.some.injEq] at h;subst h
    simp only[←dQ (ha id (by simp)),hl,hc]
   ·simp at h
  ·simp at h
 ·simp at h
theorem aFF {l k:cA} {x:V} {r:Res} (h:oL l x=some r) (ha:fK l k r.rd):oL k x=some r:=by
 unfold oL at h ⊢
 split at h
 ·rename_i id g
  split at h
  ·rename_i o hl
   split at h
   ·rename_i mid mg since seen last hc
    split at h
    ·rename_i b q hb hq
     split at h
     ·rename_i ks vs bs clock hqc
      split at h
      ·rename_i j gM hj
       split at h
       ·rename_i kk v hk hv
        simp only[Option.some.injEq] at h;subst h
        simp only[←dQ (ha id (by simp)),←dQ (ha mid (by simp)),hl,hc,hb,hq,hqc,gM,hj,hk,hv]
       ·simp at h
      ·simp at h
     ·simp at h
    ·simp at h
   ·simp at h
  ·simp at h
 ·simp at h
theorem aGi {l k:cA} {ki:TI} {zz:Option V} {x y:V} {ok:Bool} {r:Res} (h:iH l ki zz x y ok=some r) (ha:fK l k r.rd):iH k ki zz x y ok=some r:=by
 unfold iH at h ⊢
 split at h
 ·rename_i kd z
  split at h
  ·rename_i cE
   split at h
   ·exact h
   ·rename_i id g
    split at h
    ·rename_i o hl
     split at h
     ·rename_i ks vs bs c hc
      have cY:r.rd=[id]:=by
       split at h
       ·split at h
        ·simp[jS] at h;subst h;rfl
        ·simp at h
       ·simp[jS] at h;subst h;rfl
       ·simp at h
      simp only[←dQ (ha id (by rw[cY];simp)),hl,hc]
      exact h
     ·simp at h
    ·simp at h
   ·simp at h
  ·simp at h
 ·simp at h
theorem aBE {l k:cA} {ki:TI} {m y x:V} {r:Res} (h:sI l ki m y x=some r) (ha:fK l k r.rd):sI k ki m y x=some r:=by
 unfold sI at h ⊢
 split at h
 ·rename_i kd id g
  split at h
  ·rename_i o cE hl
   split at h
   ·rename_i ks vs bs c tT hc
    have cY:r.rd=[id]:=by
     split at h
     ·simp at h;subst h;rfl
     ·simp at h;subst h;rfl
     ·simp at h
    simp only[cE,←dQ (ha id (by rw[cY];simp)),hl,tT,hc]
    exact h
   ·simp at h
  ·simp at h
 ·simp at h
theorem aHG {l k:cA} {ki:TI} {zz:Option V} {m y:V} {r:Res} (h:vK l ki zz m y=some r) (ha:fK l k r.rd):vK k ki zz m y=some r:=by
 unfold vK at h ⊢
 split at h
 ·rename_i kd id g z
  split at h
  ·rename_i o cE hl
   split at h
   ·rename_i ks vs bs c tT hc
    have cY:r.rd=[id]:=by
     split at h
     ·split at h
      ·simp at h;subst h;rfl
      ·simp at h
     ·simp at h;subst h;rfl
     ·simp at h
    simp only[cE,←dQ (ha id (by rw[cY];simp)),hl,tT,hc]
    exact h
   ·simp at h
  ·simp at h
 ·simp at h
theorem aIi {l k:cA} {m y x:V} {r:Res} (h:wH l m y x=some r) (ha:fK l k r.rd):wH k m y x=some r:=by
 unfold wH at h ⊢
 split at h
 ·rename_i q b id g
  split at h
  ·rename_i o hl
   split at h
   ·rename_i ks vs bs c tT hc
    have cY:r.rd=[id]:=by
     split at h
     ·simp at h;subst h;rfl
     ·simp at h
    simp only[←dQ (ha id (by rw[cY];simp)),hl,tT,hc]
    exact h
   ·simp at h
  ·simp at h
 ·simp at h
theorem aKF {l k:cA} {i:TI} {s x:V} {r:Res} (h:aEt l i s x=some r) (ha:fK l k r.rd):aEt k i s x=some r:=by
 unfold aEt at h ⊢
 split at h
 ·rename_i e sz by_ id g off len sz' cap hk
  split at h
  ·rename_i m xs rx o pK hl hb
   split at h
   ·rename_i c1 c2
    simp only[Option.some.injEq] at h;subst h
    simp only[nR pK (ha.mono fun i hi=>by simp[hi]),←dQ (ha id (by simp)),hl,hb,c1,c2]
   ·simp at h
  ·simp at h
 ·simp at h
theorem aCG {l k:cA} {i:TI} {x ix:V} {r:Res} (h:lQ l i x ix=some r) (ha:fK l k r.rd):lQ k i x ix=some r:=by
 unfold lQ at h ⊢
 split at h <;> try exact h
 split at h <;> try exact h
 ·rename_i e sz by_ id g off len sz' cap hk
  split at h
  ·rename_i o hl hb
   simp only[Option.bind_eq_some_iff] at h
   obtain ⟨q,hq,hr⟩:=h
   simp[jS] at hr;subst hr
   simp only[←dQ (ha id (by simp)),hl,hb,hq];rfl
  ·simp at h
 ·rename_i n e sz ag id g off hk
  split at h
  ·rename_i o hl
   simp only[Option.bind_eq_some_iff] at h
   obtain ⟨q,hq,hr⟩:=h
   simp[jS] at hr;subst hr
   simp only[←dQ (ha id (by simp)),hl,hq];rfl
  ·simp at h
theorem aCz {l k:cA} {i:TI} {f:Nat} {x:V} {r:Res} (h:lP l i f x=some r) (ha:fK l k r.rd):lP k i f x=some r:=by
 unfold lP at h ⊢
 split at h <;> try exact h
 split at h <;> try exact h
 split at h <;> try exact h
 split at h <;> try exact h
 rename_i id g o
 split at h
 ·rename_i ob hl
  simp[jS] at h;subst h
  simp only[←dQ (ha id (by simp)),hl];rfl
 ·simp at h
theorem aIP {l k:cA} {i:TI} {x:V} {lo hi mx:Option V} {r:Res} (h:wB l i x lo hi mx=some r) (ha:fK l k r.rd):wB k i x lo hi mx=some r:=by
 unfold wB at h ⊢
 split at h <;> try exact h
 rename_i e sz by_ id g off len sz' cap hk
 split at h
 ·rename_i o p q hl hb e1 e2
  split at h
  ·rename_i hc
   simp only[jS,Option.some.injEq] at h;subst h
   simp only[←dQ (ha id (by simp)),hl,hb,e1,e2,if_pos hc];rfl
  ·simp at h
 ·rename_i o p q m hl hb e1 e2
  split at h
  ·rename_i mm e3
   split at h
   ·rename_i hc
    simp only[jS,Option.some.injEq] at h;subst h
    simp only[←dQ (ha id (by simp)),hl,hb,e1,e2,e3,if_pos hc];rfl
   ·simp at h
  ·simp at h
 ·simp at h
theorem aEG {l k:cA} {n c:Nat} {b:Builtin} {ts:List TypeId} {vs:List V} {r:Res} (h:rD P l n c b ts vs=some r) (ha:fK l k r.rd):rD P k n c b ts vs=some r:=by
 unfold rD at h ⊢
 split at h <;> try exact h
 ·simp only[Option.bind_eq_some_iff] at h ⊢
  obtain ⟨i,hi,h⟩:=h
  exact ⟨i,hi,aLn h ha⟩
 ·split at h
  ·rename_i e
   rw[if_pos e]
   simp only[Option.bind_eq_some_iff] at h ⊢
   obtain ⟨i,hi,h⟩:=h
   exact ⟨i,hi,aGl h ha⟩
  ·rename_i e
   rw[if_neg e]
   exact h
 ·simp only[Option.bind_eq_some_iff] at h ⊢
  obtain ⟨i,hi,h⟩:=h
  exact ⟨i,hi,aLH h ha⟩
 ·split at h
  ·rename_i e
   rw[if_pos e]
   simp only[Option.bind_eq_some_iff] at h ⊢
   obtain ⟨i,hi,h⟩:=h
   exact ⟨i,hi,aKF h ha⟩
  ·simp at h
theorem aMe {fz fs:Bool} {ρ:Operand→V} {l k:cA} {n c:Nat} {op:Op} {r:Res} (h:step P fz fs ρ l n c op=some r) (ha:fK l k r.rd):step P fz fs ρ k n c op=some r:=by
 cases op <;> simp only[step] at h ⊢ <;> try exact h
 case build t ps=>
  split at h <;> try exact h
  split at h <;> try exact h
  split at h
  ·rename_i hc
   rw[if_pos hc]
   split at h
   ·exact h
   ·split at h
    ·rename_i qs ids hcp
     simp only[Option.bind_eq_some_iff] at h
     obtain ⟨cs,rN,h⟩:=h
     simp only[Option.some.injEq] at h;subst h
     have ha':fK l k ids:=ha
     rw[rH hcp ha']
     simp only[rN,Option.bind_some,vQ ha']
    ·simp at h
  ·simp at h
 case buildSlice t len ps=>
  split at h <;> try exact h
  split at h <;> try exact h
  split at h <;> try exact h
  split at h <;> try exact h
  split at h
  ·rename_i hc
   rw[if_pos hc]
   split at h
   ·rename_i qs ids hcp
    simp only[Option.bind_eq_some_iff] at h
    obtain ⟨cs,rN,h⟩:=h
    simp only[Option.some.injEq] at h;subst h
    have ha':fK l k ids:=ha
    rw[rH hcp ha']
    simp only[rN,Option.bind_some,vQ ha']
   ·simp at h
  ·simp at h
 case makeFunc fn first caps=>cases fn <;> exact h
 case nilCheck x=>exact aFt h ha
 case next x b=>
  cases b with
  | false=>exact h
  | true=>exact aKU h ha
 case range t x=>
  simp only[Option.bind_eq_some_iff] at h ⊢
  obtain ⟨i,hi,h⟩:=h
  refine ⟨i,hi,?_⟩
  split at h
  ·exact aGW h ha
  ·exact h
 case entry x=>exact aFF h ha
 case makeMap t q=>cases q <;> exact h
 case lookup t x y ok=>
  split at h <;> try exact h
  split at h <;> try exact h
  split at h <;> try exact h
  exact aGi h ha
 case mapUpdate t m y x=>
  split at h <;> try exact h
  split at h <;> try exact h
  simp only[Option.bind_eq_some_iff] at h ⊢
  obtain ⟨i,hi,h⟩:=h
  exact ⟨i,hi,aBE h ha⟩
 case insert t m y x=>
  split at h <;> try exact h
  split at h <;> try exact h
  simp only[Option.bind_eq_some_iff] at h ⊢
  obtain ⟨i,hi,h⟩:=h
  exact ⟨i,hi,aBE h ha⟩
 case mapEntry t m y=>
  split at h <;> try exact h
  split at h <;> try exact h
  simp only[Option.bind_eq_some_iff] at h ⊢
  obtain ⟨i,hi,h⟩:=h
  exact ⟨i,hi,aHG h ha⟩
 case entryStore t m y x=>exact aIi h ha
 case binOp op t x y yt=>
  split at h
  ·simp only[Option.bind_eq_some_iff] at h ⊢
   obtain ⟨i,hi,h⟩:=h
   exact ⟨i,hi,aLa h ha⟩
  ·exact h
 case load t a=>
  simp only[Option.bind_eq_some_iff] at h ⊢
  obtain ⟨i,hi,h⟩:=h
  exact ⟨i,hi,aKd h ha⟩
 case store t a x=>
  simp only[Option.bind_eq_some_iff] at h ⊢
  obtain ⟨i,hi,h⟩:=h
  exact ⟨i,hi,aIt h ha⟩
 case slice t x lo hi mx=>
  split at h
  ·simp at h
  ·rename_i cD
   rw[if_neg cD]
   simp only[Option.bind_eq_some_iff] at h ⊢
   obtain ⟨i,hi,h⟩:=h
   exact ⟨i,hi,aIP h ha⟩
 case fieldAddr t x f=>
  simp only[Option.bind_eq_some_iff] at h ⊢
  obtain ⟨i,hi,h⟩:=h
  exact ⟨i,hi,aCz h ha⟩
 case indexAddr t x ix=>
  simp only[Option.bind_eq_some_iff] at h ⊢
  obtain ⟨i,hi,h⟩:=h
  exact ⟨i,hi,aCG h ha⟩
 case call cl=>
  obtain ⟨callee,args,ts⟩:=cl
  cases callee <;> simp only[] at h ⊢ <;> try exact h
  exact aEG h ha
end Go.Ac
end
