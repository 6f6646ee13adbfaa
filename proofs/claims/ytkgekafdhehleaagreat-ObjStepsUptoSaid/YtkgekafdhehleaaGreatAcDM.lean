/- The abstract machine: each operation does in the model what the abstract machine says. No conditions. -/
import Derived.Test.YtkgekafdhehleaaGreatAcB
import Derived.Laws.Tables
import Derived.Laws.Slices
set_option linter.unusedVariables false
set_option linter.unusedSimpArgs false
section
namespace Go.Ac
def upd {α:Type} (f:Nat→α) (k:Nat) (v:α):Nat→α:=fun i=>if i=k then v else f i
@[simp] theorem bV {α:Type} (f:Nat→α) (k:Nat) (v:α):upd f k v k=v:=by simp[upd]
theorem b7 {α:Type} (f:Nat→α) {k j:Nat} (v:α) (h:j≠k):upd f k v j=f j:=by simp[upd,h]
def qT (h:Nat→Option Ob):List (Nat×Ob)→Nat→Option Ob
 | []=>h
 | (k,o)::r=>qT (upd h k (some o)) r
theorem qS {a b:Nat} (h:a≠b):Nat.beq a b=false:=by
 cases hb:Nat.beq a b with
 | false=>rfl
 | true=>exact absurd (Nat.eq_of_beq_eq_true hb) h
theorem eX (h:Hp) (k:Nat) (o:Ob):(Hp.set h k o).get=upd h.get k (some o):=by
 funext i
 induction h with
 | nil=>
  simp only[Hp.set,Hp.get,upd]
  by_cases hi:i=k
  ·subst hi;simp
  ·have:Nat.beq k i=false:=qS (Ne.symm hi)
   simp[this,hi]
 | cons p r ih=>
  obtain ⟨j,q⟩:=p
  simp only[Hp.set]
  cases hjk:Nat.beq j k with
  | true=>
   have aQV:j=k:=Nat.eq_of_beq_eq_true hjk
   subst aQV
   simp only[Hp.get,upd]
   by_cases hi:i=j
   ·subst hi;simp
   ·have:Nat.beq j i=false:=qS (Ne.symm hi)
    simp[this,hi]
  | false=>
   simp only[Hp.get]
   rw[ih]
   have aQV:j≠k:=fun h=>by subst h;simp at hjk
   cases hji:Nat.beq j i with
   | true=>
    have aYb:j=i:=Nat.eq_of_beq_eq_true hji
    subst aYb
    simp[upd,aQV]
   | false=>simp[upd,hji]
theorem l9 (wr:List (Nat×Ob)):∀ h:Hp,(Hp.sets h wr).get=qT h.get wr:=by
 induction wr with
 | nil=>intro h;rfl
 | cons p r ih=>intro h;obtain ⟨k,o⟩:=p;simp only[Hp.sets,qT];rw[ih,eX]
def jL (S:Nat→Prop) (m:M) (vs:List V) (xs:List Value):Prop:=
 vs.length=xs.length∧∀ (j:Nat) (v:V) (x:Value),vs[j]?=some v→xs[j]?=some x→RV S m v x
theorem jL.nil {S:Nat→Prop} {m:M}:jL S m [] []:=⟨rfl,fun _ _ _ h=>by simp at h⟩
theorem jL.cons {S:Nat→Prop} {m:M} {v:V} {x:Value} {vs:List V} {xs:List Value} (h:RV S m v x) (hs:jL S m vs xs):jL S m (v::vs) (x::xs):=by
 refine ⟨by simp[hs.1],fun j a b ha hb=>?_⟩
 cases j with
 | zero=>simp at ha hb;subst ha;subst hb;exact h
 | succ j=>simp at ha hb;exact hs.2 j a b ha hb
theorem jL.head {S:Nat→Prop} {m:M} {v:V} {x:Value} {vs:List V} {xs:List Value} (h:jL S m (v::vs) (x::xs)):RV S m v x:=h.2 0 v x rfl rfl
theorem jL.tail {S:Nat→Prop} {m:M} {v:V} {x:Value} {vs:List V} {xs:List Value} (h:jL S m (v::vs) (x::xs)):jL S m vs xs:=
 ⟨by have:=h.1;simpa using this,fun j a b ha hb=>h.2 (j+1) a b (by simpa using ha) (by simpa using hb)⟩
theorem jL.cases {S:Nat→Prop} {m:M} {v:V} {vs:List V} {ys:List Value} (h:jL S m (v::vs) ys):∃ x xs,ys=x::xs∧RV S m v x∧jL S m vs xs:=by
 cases ys with
 | nil=>have:=h.1;simp at this
 | cons x xs=>exact ⟨x,xs,rfl,h.head,h.tail⟩
theorem jL.take {S:Nat→Prop} {m:M} {vs:List V} {xs:List Value} (h:jL S m vs xs) (n:Nat):jL S m (vs.take n) (xs.take n):=by
 refine ⟨by simp[h.1],fun j a b ha hb=>?_⟩
 rw[List.getElem?_take] at ha hb
 by_cases hj:j<n
 ·simp[hj] at ha hb;exact h.2 j a b ha hb
 ·simp[hj] at ha
theorem jL.drop {S:Nat→Prop} {m:M} {vs:List V} {xs:List Value} (h:jL S m vs xs) (n:Nat):jL S m (vs.drop n) (xs.drop n):=by
 refine ⟨by simp[h.1],fun j a b ha hb=>?_⟩
 rw[List.getElem?_drop] at ha hb
 exact h.2 _ a b ha hb
theorem jL.append {S:Nat→Prop} {m:M} {vs us:List V} {xs ys:List Value} (h:jL S m vs xs) (k:jL S m us ys):jL S m (vs++us) (xs++ys):=by
 refine ⟨by simp[h.1,k.1],fun j a b ha hb=>?_⟩
 rw[List.getElem?_append] at ha hb
 by_cases hj:j<vs.length
 ·rw[if_pos hj] at ha;rw[if_pos (h.1▸hj)] at hb;exact h.2 j a b ha hb
 ·rw[if_neg hj] at ha;rw[if_neg (h.1▸hj)] at hb;rw[h.1] at ha;exact k.2 _ a b ha hb
theorem jL.mono {S:Nat→Prop} {m m':M} {vs:List V} {xs:List Value} (h:jL S m vs xs) (e:Evo S m m'):jL S m' vs xs:=
 ⟨h.1,fun j a b ha hb=>(h.2 j a b ha hb).mono e⟩
theorem jL.get {S:Nat→Prop} {m:M} {vs:List V} {xs:List Value} (h:jL S m vs xs) {j:Nat} {v:V} (hv:vs[j]?=some v):∃ x,xs[j]?=some x∧RV S m v x:=by
 have hj:j<xs.length:=by
  rw[←h.1];exact (List.getElem?_eq_some_iff.1 hv).1
 exact ⟨xs[j],by simp[hj],h.2 j v _ hv (by simp[hj])⟩
theorem jL.map_d {S:Nat→Prop} {m:M} {ds:List D} {xs:List Value} (hl:ds.length=xs.length)
  (h:∀ (j:Nat) (d:D) (x:Value),ds[j]?=some d→xs[j]?=some x→RD m.w (m.av S) d x):jL S m (ds.map .d) xs:=by
 refine ⟨by simp[hl],fun j v x hv hx=>?_⟩
 rw[List.getElem?_map] at hv
 cases hd:ds[j]? with
 | none=>simp[hd] at hv
 | some d=>simp[hd] at hv;subst hv;exact .d (h j d x hd hx)
theorem jL.ones {S:Nat→Prop} {m:M} {vs:List V} {xs:List Value} (h:jL S m vs xs) (ho:vs.all V.one=true):∀ x∈xs,x.oneCell'=true:=by
 intro x hx
 obtain ⟨j,hj⟩:=List.mem_iff_getElem?.1 hx
 have fB:j<vs.length:=by rw[h.1];exact (List.getElem?_eq_some_iff.1 hj).1
 have hv:vs[j]?=some vs[j]:=by simp[fB]
 exact (h.2 j _ x hv hj).one (List.all_eq_true.1 ho _ (List.getElem_mem fB))
theorem jK (b o n:Nat):(⟨b,o,none⟩:Addr).add n=⟨b,o+n,none⟩:=by
 unfold Addr.add;split
 ·rename_i h;subst h;simp
 ·rfl
theorem aGz {w:World} {b:Nat} {cs:Array Value} {T:TypeId} {fz:Nat×Nat} (h:w.heap[b]?=some (Obj.cells cs T fz)) (j:Nat):
  w.cell? ⟨b,j,none⟩=cs[j]?:=by simp[World.cell?,h]
theorem Rel.cellsAt [Gl] {S:Nat→Prop} {m:M} (hR:Rel S m) {id:Nat} {o:Ob} {b base:Nat} (hk:i9 o.cells=0) (ho:m.h id=some o) (ha:m.at_ id=some (b,base)):¬ S b∧lK S m o.cells b base:=by
 have:=hR.obj id o b base ho ha
 rwa [vT hk] at this
theorem oU.some {S:Nat→Prop} {m:M} {l:List V} {b base:Nat} (h:oU S m l b base):∃ ob,m.w.heap[b]?=some ob:=by
 unfold oU at h
 split at h
 ·obtain ⟨_,t,h1,_⟩:=h;exact ⟨_,h1⟩
 ·obtain ⟨_,es,h1,_⟩:=h;exact ⟨_,h1⟩
 ·obtain ⟨_,bm,h1,_⟩:=h;exact ⟨_,h1⟩
 ·obtain ⟨cs,T,fz,h1,_⟩:=h;exact ⟨_,h1⟩
theorem oU.kind_at {S:Nat→Prop} {m:M} {l:List V} {b base:Nat} (h:oU S m l b base) (hc:∃ cs T fz,m.w.heap[b]?=Option.some (Obj.cells cs T fz)):i9 l=0:=by
 obtain ⟨cs,T,fz,hc⟩:=hc
 unfold oU at h
 split at h
 ·obtain ⟨_,t,h1,_⟩:=h;rw[hc] at h1;injection h1 with h1;cases h1
 ·obtain ⟨_,es,h1,_⟩:=h;rw[hc] at h1;injection h1 with h1;cases h1
 ·obtain ⟨_,bm,h1,_⟩:=h;rw[hc] at h1;injection h1 with h1;cases h1
 ·exact lK.kind h
theorem MapAt.mono {S:Nat→Prop} {m m':M} {ks:List D} {vs:List V} {bs:List Nat} {es:Array MapEntry} (h:MapAt S m ks vs bs es) (e:Evo S m m'):MapAt S m' ks vs bs es:=
 ⟨h.lk,h.lv,h.lb,fun j k x hk hx=>(h.key j k x hk hx).mono e.keep,fun j v x hv hx=>(h.val j v x hv hx).mono e,h.born⟩
theorem oU.mono {S:Nat→Prop} {m m':M} {l:List V} {b base:Nat} (h:oU S m l b base) (e:Evo S m m') (dC:m'.w.heap[b]?=m.w.heap[b]?):oU S m' l b base:=by
 have h0:=h
 unfold oU at h
 split at h
 ·obtain ⟨h1,t,h2,h3⟩:=h;exact ⟨h1,t,by rw[dC];exact h2,h3⟩
 ·obtain ⟨h1,es,h2,h3⟩:=h;exact ⟨h1,es,by rw[dC];exact h2,h3.mono e⟩
 ·obtain ⟨h1,bm,h2,h3⟩:=h;exact ⟨h1,bm,by rw[dC];exact h2,h3.mono e⟩
 ·rw[vT (lK.kind h)]
  obtain ⟨cs,T,fz,h2,h3,h4,h5⟩:=h
  refine ⟨cs,T,fz,by rw[dC];exact h2,h3,h4,fun j v hv=>?_⟩
  obtain ⟨h6,x,h7,h8⟩:=h5 j v hv
  exact ⟨h6,x,h7,h8.mono e⟩
theorem Rel.vals [Gl] {S:Nat→Prop} {m:M} (hR:Rel S m) {id:Nat} {o:Ob} {b base:Nat} (ho:m.h id=some o) (ha:m.at_ id=some (b,base)) (hk:i9 o.cells=0):
  ∃ xs,jL S m o.cells xs∧o.cells.all V.one=true∧∀ (j:Nat) (x:Value),xs[j]?=some x→m.w.cell? ⟨b,base+j,none⟩=some x:=by
 obtain ⟨_,cs,T,fz,dC,_,gB,hc⟩:=hR.cellsAt hk ho ha
 refine ⟨(cs.toList.drop base).take o.cells.length,⟨?_,fun j v x hv hx=>?_⟩,?_,fun j x hx=>?_⟩
 ·simp;omega
 ·obtain ⟨_,y,hy,hRV⟩:=hc j v hv
  rw[List.getElem?_take] at hx
  split at hx
  ·rw[List.getElem?_drop] at hx;simp[hy] at hx;subst hx;exact hRV
  ·simp at hx
 ·rw[List.all_eq_true]
  intro v hv
  obtain ⟨j,hj⟩:=List.mem_iff_getElem?.1 hv
  exact (hc j v hj).1
 ·rw[List.getElem?_take] at hx
  split at hx
  ·rw[List.getElem?_drop] at hx;rw[aGz dC];simpa using hx
  ·simp at hx
theorem l7 {look:cA} {id g:Nat} {o:Ob} (h:live look id g=some o):look id=some o∧o.gen=g:=by
 unfold live at h
 cases hl:look id with
 | none=>simp[hl] at h
 | some p=>
  simp only[hl] at h
  cases hb:Nat.beq p.gen g with
  | false=>simp[hb] at h
  | true=>simp[hb] at h;subst h;exact ⟨rfl,Nat.eq_of_beq_eq_true hb⟩
theorem RV.ptr_live {S:Nat→Prop} {m:M} {id g off:Nat} {v:Value} {o:Ob} (h:RV S m (.ptr id g off) v) (hl:live m.h id g=some o):
  m.h id=some o∧o.gen=g∧∃ b base,m.at_ id=some (b,base)∧v= .pointer (some ⟨b,base+off,none⟩):=by
 obtain ⟨h1,h2⟩:=l7 hl
 cases h with
 | ptr _ _ h=>exact ⟨h1,h2,(h o h1 h2).2⟩
theorem RV.ptr_kind {S:Nat→Prop} {m:M} {id g off:Nat} {v:Value} {o:Ob} (h:RV S m (.ptr id g off) v) (hl:live m.h id g=some o):i9 o.cells=0:=by
 obtain ⟨h1,h2⟩:=l7 hl
 cases h with
 | ptr _ _ h=>exact (h o h1 h2).1
theorem RV.osl_kind {S:Nat→Prop} {m:M} {id g off len sz:Nat} {cap:Option Nat} {v:Value} {o:Ob} (h:RV S m (.osl id g off len sz cap) v) (hl:live m.h id g=some o):i9 o.cells=0:=by
 obtain ⟨h1,h2⟩:=l7 hl
 cases h with
 | osl _ _ h=>exact (h o h1 h2).1
theorem RV.it_live {S:Nat→Prop} {m:M} {id g:Nat} {v:Value} {o:Ob} (h:RV S m (.it id g) v) (hl:live m.h id g=some o):
  m.h id=some o∧o.gen=g∧i9 o.cells=1∧∃ b,m.at_ id=some (b,0)∧v= .pointer (some ⟨b,0,none⟩):=by
 obtain ⟨h1,h2⟩:=l7 hl
 cases h with
 | it _ _ h=>exact ⟨h1,h2,h o h1 h2⟩
theorem RV.mp_live {S:Nat→Prop} {m:M} {id g:Nat} {v:Value} {o:Ob} (h:RV S m (.mp id g) v) (hl:live m.h id g=some o):
  m.h id=some o∧o.gen=g∧i9 o.cells=2∧∃ b,m.at_ id=some (b,0)∧v= .map (some b):=by
 obtain ⟨h1,h2⟩:=l7 hl
 cases h with
 | mp _ _ h=>exact ⟨h1,h2,h o h1 h2⟩
theorem RV.osl_live {S:Nat→Prop} {m:M} {id g off len sz:Nat} {cap:Option Nat} {v:Value} {o:Ob} (h:RV S m (.osl id g off len sz cap) v) (hl:live m.h id g=some o):
  m.h id=some o∧o.gen=g∧gR m o id off len sz cap v:=by
 obtain ⟨h1,h2⟩:=l7 hl
 cases h with
 | osl _ _ h=>exact ⟨h1,h2,(h o h1 h2).2⟩
def cB [Gl] (S:Nat→Prop) (m:M) (c:Nat) (r:Res) (x:Value) (m':M):Prop:=
 Rel S m'∧Evo S m m'∧RV S m' r.v x∧m'.h=qT m.h r.wr∧m'.iss=(fun id g=>m.iss id g∨(c≤g∧g<c+r.dc))
def lY (m:M) (c dc:Nat):Prop:=∀ id g,c≤g→g<c+dc→¬ m.iss id g
theorem jJ (m:M) (c:Nat):(fun id g=>m.iss id g∨(c≤g∧g<c+0))=m.iss:=by
 funext id g;apply propext;constructor
 ·rintro (h|h)
  ·exact h
  ·omega
 ·exact .inl
theorem cB.quiet [Gl] {S:Nat→Prop} {m:M} {c:Nat} {v:V} {rd:List Nat} {x:Value} {al:Bool} (hR:Rel S m) (hv:RV S m v x):cB S m c ⟨v,[],rd,0,0,al⟩ x m:=
 ⟨hR,.refl S m,hv,rfl,(jJ m c).symm⟩
theorem Rel.other [Gl] {S:Nat→Prop} {m m':M} (hR:Rel S m) (e:Evo S m m') {id:Nat} {o:Ob} {b base:Nat} (ho:m.h id=some o) (ha:m.at_ id=some (b,base))
  (dC:m'.w.heap[b]?=m.w.heap[b]?):
  ¬ S b∧oU S m' o.cells b base:=
 ⟨(hR.obj id o b base ho ha).1,(hR.obj id o b base ho ha).2.mono e dC⟩
theorem iJ {w:World} {b:Nat} {o:Obj} (h:w.heap[b]?=some o):b<w.heap.size:=(Array.getElem?_eq_some_iff.1 h).1
theorem tJ [Gl] {S:Nat→Prop} {m:M} (hR:Rel S m) {id:Nat} {o o':Ob} {b base base' dc c:Nat} {cs cs':Array Value} {T:TypeId} {fz:Nat×Nat} {w':World}
  (ho:m.h id=some o) (ha:m.at_ id=some (b,base)) (tT:o.ro=false) (hk:i9 o.cells=0) (dC:m.w.heap[b]?=some (Obj.cells cs T fz))
  (hw:w'.heap=(m.w.setRow b cs').heap) (gB:cs'.size=cs.size) (hb:base'+o'.cells.length≤cs'.size)
  (hg:(o'.gen=o.gen∧base'=base∧o.cells.length≤o'.cells.length∧dc=0)∨(¬ m.iss id o'.gen∧o'.gen=c∧dc=1))
  (hc:∀ (j:Nat) (v:V),o'.cells[j]?=some v→v.one=true∧∃ x,cs'[base'+j]?=some x∧RV S m v x) (pJ:w'.os=m.w.os∧w'.output=m.w.output:=by exact ⟨rfl,rfl⟩):
  ∃ m':M,m'.w=w'∧m'.h=upd m.h id (some o')∧m'.at_=upd m.at_ id (some (b,base'))∧m'.iss=(fun i g=>m.iss i g∨(c≤g∧g<c+dc))∧Rel S m'∧Evo S m m':=by
 obtain ⟨hS,cs0,T0,fz0,sO,hfz,aZi,hc0⟩:=hR.cellsAt hk ho ha
 have hk':i9 o'.cells=0:=oI fun j v hv=>(hc j v hv).1
 rw[dC] at sO
 obtain ⟨rfl,rfl,rfl⟩:cs=cs0∧T=T0∧fz=fz0:=by simpa using sO
 let m':M:={ at_:=upd m.at_ id (some (b,base')),h:=upd m.h id (some o'),iss:=fun i g=>m.iss i g∨(c≤g∧g<c+dc),w:=w' }
 have dU:w'.heap[b]?=some (Obj.cells cs' T fz):=by rw[hw];exact setRow_heap m.w b cs cs' T fz dC
 have g7:∀ k,k≠b→w'.heap[k]?=m.w.heap[k]?:=fun k hk=>by rw[hw];exact setRow_other m.w b k cs' hk
 have aMQ:w'.heap.size=m.w.heap.size:=by rw[hw];simp
 have hav:m.av S b:= .inr ⟨id,o,base,ho,tT,ha⟩
 have aQW:∀ k,m'.av S k→m.av S k:=by
  rintro k (h|⟨i,q,x,h1,h2,h3⟩)
  ·exact .inl h
  ·by_cases hi:i=id
   ·subst hi
    simp only[m',bV,Option.some.injEq,Prod.mk.injEq] at h1 h3
    exact h3.1▸hav
   ·simp only[m',b7 _ _ hi] at h1 h3
    exact .inr ⟨i,q,x,h1,h2,h3⟩
 have e:Evo S m m':={
  rest:=⟨pJ.1,pJ.2,fun a=>by
   show w'.frozen? a=m.w.frozen? a
   by_cases kL:a.block=b
   ·simp[World.frozen?,kL,dU,dC]
   ·simp[World.frozen?,g7 _ kL]⟩
  iss:=fun i g h=> .inl h
  size:=by show m.w.heap.size≤w'.heap.size;omega
  shape:=fun k ks T1 f1 hk=>by
   by_cases hkb:k=b
   ·subst hkb
    rw[dC] at hk
    obtain ⟨rfl,rfl,rfl⟩:cs=ks∧T=T1∧fz=f1:=by injection hk with h;injection h with h1 h2 h3;exact ⟨h1,h2,h3⟩
    exact ⟨cs',fz,dU,gB⟩
   ·exact ⟨ks,f1,by show w'.heap[k]?=_;rw[g7 k hkb];exact hk,rfl⟩
  keepS:=fun k _ hs=>g7 k (fun h=>hS (h▸hs))
  keep:=fun k _ hn=>⟨fun h=>hn (aQW k h),g7 k (fun h=>hn (h▸hav))⟩
  live:=fun i q hq hi=>by
   by_cases cY:i=id
   ·subst cY
    simp only[m',bV,Option.some.injEq] at hq
    subst hq
    rcases hg with ⟨g1,g2,g3,_⟩|⟨g1,_⟩
    ·exact ⟨o,ho,g1.symm,by simp[m',ha,g2],g3,by rw[hk,hk']⟩
    ·exact absurd hi g1
   ·simp only[m',b7 _ _ cY] at hq ⊢
    exact ⟨q,hq,rfl,trivial,Nat.le_refl _,rfl⟩
  old:=fun i q k x h1 h2 hk=>by
   by_cases cY:i=id
   ·subst cY
    simp only[m',bV,Option.some.injEq,Prod.mk.injEq] at h2
    exact ⟨o,base,ho,by rw[ha,h2.1]⟩
   ·simp only[m',b7 _ _ cY] at h1 h2
    exact ⟨q,x,h1,h2⟩ }
 refine ⟨m',rfl,rfl,rfl,rfl,⟨fun g=>(hR.glob g).mono e,?_,?_,?_,?_,?_⟩,e⟩
 ·intro i q hq
  by_cases cY:i=id
  ·subst cY
   simp only[m',bV,Option.some.injEq] at hq
   subst hq
   rcases hg with ⟨g1,_⟩|⟨_,g2,g3⟩
   ·exact .inl (g1▸hR.iss i o ho)
   ·exact .inr ⟨by omega,by omega⟩
  ·simp only[m',b7 _ _ cY] at hq
   exact .inl (hR.iss i q hq)
 ·intro i q hq hn
  by_cases cY:i=id
  ·subst cY;simp[m'] at hn
  ·simp only[m',b7 _ _ cY] at hq hn
   exact hR.none_ i q hq hn
 ·intro i q k x hq hk
  by_cases cY:i=id
  ·subst cY
   simp only[m',bV,Option.some.injEq,Prod.mk.injEq] at hq hk
   obtain ⟨rfl,rfl⟩:=hk
   subst hq
   refine ⟨hS,lK.row ⟨cs',T,fz,dU,hfz,hb,fun j v hv=>?_⟩⟩
   obtain ⟨h1,x,h2,h3⟩:=hc j v hv
   exact ⟨h1,x,h2,h3.mono e⟩
  ·simp only[m',b7 _ _ cY] at hq hk
   refine hR.other e hq hk (g7 k fun h=>cY ?_)
   subst h
   exact hR.inj i id q o k x base hq ho hk ha
 ·intro i j oi oj k x y hi hj hx hy
  by_cases h1:i=id
  ·by_cases h2:j=id
   ·rw[h1,h2]
   ·subst h1
    simp only[m',bV,b7 _ _ h2,Option.some.injEq,Prod.mk.injEq] at hi hj hx hy
    exact hR.inj i j o oj b base y ho hj ha (hx.1▸hy)
  ·by_cases h2:j=id
   ·subst h2
    simp only[m',bV,b7 _ _ h1,Option.some.injEq,Prod.mk.injEq] at hi hj hx hy
    exact hR.inj i j oi o b x base hi ho (hy.1▸hx) ha
   ·simp only[m',b7 _ _ h1,b7 _ _ h2] at hi hj hx hy
    exact hR.inj i j oi oj k x y hi hj hx hy
 ·intro k hk
  have:=hR.sub k hk
  show k<w'.heap.size
  omega
theorem aAw [Gl] {S:Nat→Prop} {m:M} (hR:Rel S m) {id:Nat} {o':Ob} {dc c:Nat} {cs':Array Value} {T:TypeId} {w':World}
  (hw:w'.heap=m.w.heap.push (Obj.cells cs' T (0,0))) (hb:o'.cells.length≤cs'.size)
  (hg:¬ m.iss id o'.gen) (hgc:o'.gen=c) (hdc:dc=1)
  (hc:∀ (j:Nat) (v:V),o'.cells[j]?=some v→v.one=true∧∃ x,cs'[j]?=some x∧RV S m v x) (pJ:w'.os=m.w.os∧w'.output=m.w.output:=by exact ⟨rfl,rfl⟩):
  ∃ m':M,m'.w=w'∧m'.h=upd m.h id (some o')∧m'.at_=upd m.at_ id (some (m.w.heap.size,0))∧m'.iss=(fun i g=>m.iss i g∨(c≤g∧g<c+dc))∧Rel S m'∧Evo S m m':=by
 let m':M:={ at_:=upd m.at_ id (some (m.w.heap.size,0)),h:=upd m.h id (some o'),iss:=fun i g=>m.iss i g∨(c≤g∧g<c+dc),w:=w' }
 have aBS:w'.heap[m.w.heap.size]?=some (Obj.cells cs' T (0,0)):=by rw[hw];simp
 have g7:∀ k,k<m.w.heap.size→w'.heap[k]?=m.w.heap[k]?:=fun k hk=>by rw[hw,Array.getElem?_push_lt hk];simp[hk]
 have aMQ:w'.heap.size=m.w.heap.size+1:=by rw[hw];simp
 have e:Evo S m m':={
  rest:=⟨pJ.1,pJ.2,fun a=>by
   show w'.frozen? a=m.w.frozen? a
   by_cases kL:a.block<m.w.heap.size
   ·simp[World.frozen?,g7 _ kL]
   ·have h0:m.w.heap[a.block]?=none:=by simp;omega
    by_cases vA:a.block=m.w.heap.size
    ·have h1:w'.heap[a.block]?=some (Obj.cells cs' T (0,0)):=by rw[vA];exact aBS
     simp[World.frozen?,h0,h1]
    ·have h1:w'.heap[a.block]?=none:=by simp;omega
     simp[World.frozen?,h0,h1]⟩
  iss:=fun i g h=> .inl h
  size:=by show m.w.heap.size≤w'.heap.size;omega
  shape:=fun k ks T1 f1 hk=>⟨ks,f1,by show w'.heap[k]?=_;rw[g7 k (iJ hk)];exact hk,rfl⟩
  keepS:=fun k hk _=>g7 k hk
  keep:=fun k hk hn=>by
   refine ⟨?_,g7 k hk⟩
   rintro (h|⟨i,q,x,h1,h2,h3⟩)
   ·exact hn (.inl h)
   ·by_cases hi:i=id
    ·subst hi
     simp only[m',bV,Option.some.injEq,Prod.mk.injEq] at h1 h3
     omega
    ·simp only[m',b7 _ _ hi] at h1 h3
     exact hn (.inr ⟨i,q,x,h1,h2,h3⟩)
  live:=fun i q hq hi=>by
   by_cases cY:i=id
   ·subst cY
    simp only[m',bV,Option.some.injEq] at hq
    subst hq
    exact absurd hi hg
   ·simp only[m',b7 _ _ cY] at hq ⊢
    exact ⟨q,hq,rfl,trivial,Nat.le_refl _,rfl⟩
  old:=fun i q k x h1 h2 hk=>by
   by_cases cY:i=id
   ·subst cY
    simp only[m',bV,Option.some.injEq,Prod.mk.injEq] at h2
    omega
   ·simp only[m',b7 _ _ cY] at h1 h2
    exact ⟨q,x,h1,h2⟩ }
 refine ⟨m',rfl,rfl,rfl,rfl,⟨fun g=>(hR.glob g).mono e,?_,?_,?_,?_,?_⟩,e⟩
 ·intro i q hq
  by_cases cY:i=id
  ·subst cY
   simp only[m',bV,Option.some.injEq] at hq
   subst hq
   exact .inr ⟨by omega,by omega⟩
  ·simp only[m',b7 _ _ cY] at hq
   exact .inl (hR.iss i q hq)
 ·intro i q hq hn
  by_cases cY:i=id
  ·subst cY;simp[m'] at hn
  ·simp only[m',b7 _ _ cY] at hq hn
   exact hR.none_ i q hq hn
 ·intro i q k x hq hk
  by_cases cY:i=id
  ·subst cY
   simp only[m',bV,Option.some.injEq,Prod.mk.injEq] at hq hk
   obtain ⟨rfl,rfl⟩:=hk
   subst hq
   refine ⟨fun h=>?_,lK.row ⟨cs',T,(0,0),aBS,Nat.le_refl _,by omega,fun j v hv=>?_⟩⟩
   ·have:=hR.sub _ h;omega
   ·obtain ⟨h1,x,h2,h3⟩:=hc j v hv
    exact ⟨h1,x,by simpa using h2,h3.mono e⟩
  ·simp only[m',b7 _ _ cY] at hq hk
   obtain ⟨ob0,sO⟩:=(hR.obj i q k x hq hk).2.some
   exact hR.other e hq hk (g7 k (iJ sO))
 ·intro i j oi oj k x y hi hj hx hy
  by_cases h1:i=id
  ·by_cases h2:j=id
   ·rw[h1,h2]
   ·subst h1
    simp only[m',bV,b7 _ _ h2,Option.some.injEq,Prod.mk.injEq] at hi hj hx hy
    obtain ⟨ob0,sO⟩:=(hR.obj j oj k y hj hy).2.some
    have:=iJ sO
    omega
  ·by_cases h2:j=id
   ·subst h2
    simp only[m',bV,b7 _ _ h1,Option.some.injEq,Prod.mk.injEq] at hi hj hx hy
    obtain ⟨ob0,sO⟩:=(hR.obj i oi k x hi hx).2.some
    have:=iJ sO
    omega
   ·simp only[m',b7 _ _ h1,b7 _ _ h2] at hi hj hx hy
    exact hR.inj i j oi oj k x y hi hj hx hy
 ·intro k hk
  have:=hR.sub k hk
  show k<w'.heap.size
  omega
theorem tE [Gl] {S:Nat→Prop} {m:M} (hR:Rel S m) {id:Nat} {o':Ob} {dc c:Nat} (aIQ:o'.cells=[]) (hg:¬ m.iss id o'.gen) (hgc:o'.gen=c) (hdc:dc=1):
  ∃ m':M,m'.w=m.w∧m'.h=upd m.h id (some o')∧m'.at_=upd m.at_ id none∧m'.iss=(fun i g=>m.iss i g∨(c≤g∧g<c+dc))∧Rel S m'∧Evo S m m':=by
 let m':M:={ at_:=upd m.at_ id none,h:=upd m.h id (some o'),iss:=fun i g=>m.iss i g∨(c≤g∧g<c+dc),w:=m.w }
 have e:Evo S m m':={
  rest:=⟨rfl,rfl,fun _=>rfl⟩
  iss:=fun i g h=> .inl h
  size:=Nat.le_refl _
  shape:=fun k ks T1 f1 hk=>⟨ks,f1,hk,rfl⟩
  keepS:=fun k hk _=>rfl
  keep:=fun k hk hn=>by
   refine ⟨?_,rfl⟩
   rintro (h|⟨i,q,x,h1,h2,h3⟩)
   ·exact hn (.inl h)
   ·by_cases hi:i=id
    ·subst hi;simp[m'] at h3
    ·simp only[m',b7 _ _ hi] at h1 h3
     exact hn (.inr ⟨i,q,x,h1,h2,h3⟩)
  live:=fun i q hq hi=>by
   by_cases cY:i=id
   ·subst cY
    simp only[m',bV,Option.some.injEq] at hq
    subst hq
    exact absurd hi hg
   ·simp only[m',b7 _ _ cY] at hq ⊢
    exact ⟨q,hq,rfl,trivial,Nat.le_refl _,rfl⟩
  old:=fun i q k x h1 h2 hk=>by
   by_cases cY:i=id
   ·subst cY;simp[m'] at h2
   ·simp only[m',b7 _ _ cY] at h1 h2
    exact ⟨q,x,h1,h2⟩ }
 refine ⟨m',rfl,rfl,rfl,rfl,⟨fun g=>(hR.glob g).mono e,?_,?_,?_,?_,?_⟩,e⟩
 ·intro i q hq
  by_cases cY:i=id
  ·subst cY
   simp only[m',bV,Option.some.injEq] at hq
   subst hq
   exact .inr ⟨by omega,by omega⟩
  ·simp only[m',b7 _ _ cY] at hq
   exact .inl (hR.iss i q hq)
 ·intro i q hq hn
  by_cases cY:i=id
  ·subst cY
   simp only[m',bV,Option.some.injEq] at hq
   subst hq;exact aIQ
  ·simp only[m',b7 _ _ cY] at hq hn
   exact hR.none_ i q hq hn
 ·intro i q k x hq hk
  by_cases cY:i=id
  ·subst cY;simp[m'] at hk
  ·simp only[m',b7 _ _ cY] at hq hk
   exact hR.other e hq hk rfl
 ·intro i j oi oj k x y hi hj hx hy
  by_cases h1:i=id
  ·subst h1;simp[m'] at hx
  ·by_cases h2:j=id
   ·subst h2;simp[m'] at hy
   ·simp only[m',b7 _ _ h1,b7 _ _ h2] at hi hj hx hy
    exact hR.inj i j oi oj k x y hi hj hx hy
 ·exact hR.sub
theorem aPs [Gl] {S:Nat→Prop} {m:M} (hR:Rel S m) {id:Nat} {o:Ob} (ho:m.h id=some o):
  ∃ m':M,m'.w=m.w∧m'.h=upd m.h id (some { o with ro:=true })∧m'.at_=m.at_∧m'.iss=m.iss∧Rel S m'∧Evo S m m':=by
 let m':M:={ at_:=m.at_,h:=upd m.h id (some { o with ro:=true }),iss:=m.iss,w:=m.w }
 have wJ:∀ i q,m'.h i=some q→∃ p,m.h i=some p∧p.gen=q.gen∧p.cells=q.cells∧(q.ro=false→p.ro=false):=by
  intro i q hq
  by_cases cY:i=id
  ·subst cY
   simp only[m',bV,Option.some.injEq] at hq
   subst hq
   exact ⟨o,ho,rfl,rfl,fun h=>by simp at h⟩
  ·simp only[m',b7 _ _ cY] at hq
   exact ⟨q,hq,rfl,rfl,fun h=>h⟩
 have e:Evo S m m':={
  rest:=⟨rfl,rfl,fun _=>rfl⟩
  iss:=fun i g h=>h
  size:=Nat.le_refl _
  shape:=fun k ks T1 f1 hk=>⟨ks,f1,hk,rfl⟩
  keepS:=fun k hk _=>rfl
  keep:=fun k hk hn=>by
   refine ⟨?_,rfl⟩
   rintro (h|⟨i,q,x,h1,h2,h3⟩)
   ·exact hn (.inl h)
   ·obtain ⟨p,p1,p2,p3,p4⟩:=wJ i q h1
    exact hn (.inr ⟨i,p,x,p1,p4 h2,h3⟩)
  live:=fun i q hq hi=>by
   obtain ⟨p,p1,p2,p3,p4⟩:=wJ i q hq
   exact ⟨p,p1,p2,rfl,by rw[p3];exact Nat.le_refl _,by rw[p3]⟩
  old:=fun i q k x h1 h2 hk=>by
   obtain ⟨p,p1,_⟩:=wJ i q h1
   exact ⟨p,x,p1,h2⟩ }
 refine ⟨m',rfl,rfl,rfl,rfl,⟨fun g=>(hR.glob g).mono e,?_,?_,?_,?_,?_⟩,e⟩
 ·intro i q hq
  obtain ⟨p,p1,p2,p3,p4⟩:=wJ i q hq
  exact p2▸hR.iss i p p1
 ·intro i q hq hn
  obtain ⟨p,p1,p2,p3,p4⟩:=wJ i q hq
  exact p3▸hR.none_ i p p1 hn
 ·intro i q k x hq hk
  obtain ⟨p,p1,p2,p3,p4⟩:=wJ i q hq
  have:=hR.other e p1 hk rfl
  rw[p3] at this
  exact this
 ·intro i j oi oj k x y hi hj hx hy
  obtain ⟨p,p1,_⟩:=wJ i oi hi
  obtain ⟨q,q1,_⟩:=wJ j oj hj
  exact hR.inj i j p q k x y p1 q1 hx hy
 ·exact hR.sub
def _root_.Go.Obj.other:Obj→Prop
 | .cells ..=>False
 | _=>True
theorem t7 {w:World} {a:Addr} {ob:Obj} (h:w.heap[a.block]?=some ob) (ho:ob.other):w.frozen? a=false:=by
 unfold World.frozen?
 rw[h]
 cases ob <;> first|rfl|exact absurd ho (by simp[Obj.other])
theorem aDj [Gl] {S:Nat→Prop} {m:M} (hR:Rel S m) {id:Nat} {o':Ob} {c:Nat} {ob:Obj} {w':World}
  (hw:w'.heap=m.w.heap.push ob) (pB:ob.other) (hg:¬ m.iss id o'.gen) (hgc:o'.gen=c)
  (dC:∀ m':M,Evo S m m'→m'.w.heap[m.w.heap.size]?=some ob→oU S m' o'.cells m.w.heap.size 0)
  (pJ:w'.os=m.w.os∧w'.output=m.w.output:=by exact ⟨rfl,rfl⟩):
  ∃ m':M,m'.w=w'∧m'.h=upd m.h id (some o')∧m'.at_=upd m.at_ id (some (m.w.heap.size,0))∧m'.iss=(fun i g=>m.iss i g∨(c≤g∧g<c+1))∧Rel S m'∧Evo S m m':=by
 let m':M:={ at_:=upd m.at_ id (some (m.w.heap.size,0)),h:=upd m.h id (some o'),iss:=fun i g=>m.iss i g∨(c≤g∧g<c+1),w:=w' }
 have aBS:w'.heap[m.w.heap.size]?=some ob:=by rw[hw];simp
 have g7:∀ k,k<m.w.heap.size→w'.heap[k]?=m.w.heap[k]?:=fun k hk=>by rw[hw,Array.getElem?_push_lt hk];simp[hk]
 have aMQ:w'.heap.size=m.w.heap.size+1:=by rw[hw];simp
 have e:Evo S m m':={
  rest:=⟨pJ.1,pJ.2,fun a=>by
   show w'.frozen? a=m.w.frozen? a
   by_cases kL:a.block<m.w.heap.size
   ·simp[World.frozen?,g7 _ kL]
   ·have h0:m.w.heap[a.block]?=none:=by simp;omega
    have h00:m.w.frozen? a=false:=by simp[World.frozen?,h0]
    by_cases vA:a.block=m.w.heap.size
    ·rw[h00,t7 (ob:=ob) (by rw[vA];exact aBS) pB]
    ·have h1:w'.heap[a.block]?=none:=by simp;omega
     simp[World.frozen?,h0,h1]⟩
  iss:=fun i g h=> .inl h
  size:=by show m.w.heap.size≤w'.heap.size;omega
  shape:=fun k ks T1 f1 hk=>⟨ks,f1,by show w'.heap[k]?=_;rw[g7 k (iJ hk)];exact hk,rfl⟩
  keepS:=fun k hk _=>g7 k hk
  keep:=fun k hk hn=>by
   refine ⟨?_,g7 k hk⟩
   rintro (h|⟨i,q,x,h1,h2,h3⟩)
   ·exact hn (.inl h)
   ·by_cases hi:i=id
    ·subst hi
     simp only[m',bV,Option.some.injEq,Prod.mk.injEq] at h1 h3
     omega
    ·simp only[m',b7 _ _ hi] at h1 h3
     exact hn (.inr ⟨i,q,x,h1,h2,h3⟩)
  live:=fun i q hq hi=>by
   by_cases cY:i=id
   ·subst cY
    simp only[m',bV,Option.some.injEq] at hq
    subst hq
    exact absurd hi hg
   ·simp only[m',b7 _ _ cY] at hq ⊢
    exact ⟨q,hq,rfl,trivial,Nat.le_refl _,rfl⟩
  old:=fun i q k x h1 h2 hk=>by
   by_cases cY:i=id
   ·subst cY
    simp only[m',bV,Option.some.injEq,Prod.mk.injEq] at h2
    omega
   ·simp only[m',b7 _ _ cY] at h1 h2
    exact ⟨q,x,h1,h2⟩ }
 refine ⟨m',rfl,rfl,rfl,rfl,⟨fun g=>(hR.glob g).mono e,?_,?_,?_,?_,?_⟩,e⟩
 ·intro i q hq
  by_cases cY:i=id
  ·subst cY
   simp only[m',bV,Option.some.injEq] at hq
   subst hq
   exact .inr ⟨by omega,by omega⟩
  ·simp only[m',b7 _ _ cY] at hq
   exact .inl (hR.iss i q hq)
 ·intro i q hq hn
  by_cases cY:i=id
  ·subst cY;simp[m'] at hn
  ·simp only[m',b7 _ _ cY] at hq hn
   exact hR.none_ i q hq hn
 ·intro i q k x hq hk
  by_cases cY:i=id
  ·subst cY
   simp only[m',bV,Option.some.injEq,Prod.mk.injEq] at hq hk
   obtain ⟨rfl,rfl⟩:=hk
   subst hq
   refine ⟨fun h=>?_,dC m' e aBS⟩
   have:=hR.sub _ h;omega
  ·simp only[m',b7 _ _ cY] at hq hk
   obtain ⟨ob0,sO⟩:=(hR.obj i q k x hq hk).2.some
   exact hR.other e hq hk (g7 k (iJ sO))
 ·intro i j oi oj k x y hi hj hx hy
  by_cases h1:i=id
  ·by_cases h2:j=id
   ·rw[h1,h2]
   ·subst h1
    simp only[m',bV,b7 _ _ h2,Option.some.injEq,Prod.mk.injEq] at hi hj hx hy
    obtain ⟨ob0,sO⟩:=(hR.obj j oj k y hj hy).2.some
    have:=iJ sO
    omega
  ·by_cases h2:j=id
   ·subst h2
    simp only[m',bV,b7 _ _ h1,Option.some.injEq,Prod.mk.injEq] at hi hj hx hy
    obtain ⟨ob0,sO⟩:=(hR.obj i oi k x hi hx).2.some
    have:=iJ sO
    omega
   ·simp only[m',b7 _ _ h1,b7 _ _ h2] at hi hj hx hy
    exact hR.inj i j oi oj k x y hi hj hx hy
 ·intro k hk
  have:=hR.sub k hk
  show k<w'.heap.size
  omega
theorem rG [Gl] {S:Nat→Prop} {m:M} (hR:Rel S m) {id:Nat} {o o':Ob} {b c:Nat} {ob ob':Obj} {w':World}
  (ho:m.h id=some o) (ha:m.at_ id=some (b,0)) (tT:o.ro=false) (oW:m.w.heap[b]?=some ob) (pB:ob.other) (mG:ob'.other)
  (hw:w'.heap=m.w.heap.setIfInBounds b ob') (hg:o'.gen=o.gen) (hk:i9 o'.cells=i9 o.cells) (eY:o.cells.length≤o'.cells.length)
  (dC:∀ m':M,Evo S m m'→m'.w.heap[b]?=some ob'→oU S m' o'.cells b 0)
  (pJ:w'.os=m.w.os∧w'.output=m.w.output:=by exact ⟨rfl,rfl⟩):
  ∃ m':M,m'.w=w'∧m'.h=upd m.h id (some o')∧m'.at_=m.at_∧m'.iss=m.iss∧Rel S m'∧Evo S m m':=by
 have hS:=(hR.obj id o b 0 ho ha).1
 have fB:=iJ oW
 let m':M:={ at_:=m.at_,h:=upd m.h id (some o'),iss:=m.iss,w:=w' }
 have dU:w'.heap[b]?=some ob':=by rw[hw];simp[fB]
 have g7:∀ k,k≠b→w'.heap[k]?=m.w.heap[k]?:=fun k hk=>by rw[hw,Array.getElem?_setIfInBounds];rw[if_neg (fun h=>hk h.symm)]
 have aMQ:w'.heap.size=m.w.heap.size:=by rw[hw];simp
 have hav:m.av S b:= .inr ⟨id,o,0,ho,tT,ha⟩
 have aQW:∀ k,m'.av S k→m.av S k:=by
  rintro k (h|⟨i,q,x,h1,h2,h3⟩)
  ·exact .inl h
  ·by_cases hi:i=id
   ·subst hi
    have h4:m.at_ i=some (k,x):=h3
    rw[ha] at h4
    simp only[Option.some.injEq,Prod.mk.injEq] at h4
    exact h4.1▸hav
   ·simp only[m',b7 _ _ hi] at h1 h3
    exact .inr ⟨i,q,x,h1,h2,h3⟩
 have e:Evo S m m':={
  rest:=⟨pJ.1,pJ.2,fun a=>by
   show w'.frozen? a=m.w.frozen? a
   by_cases kL:a.block=b
   ·rw[t7 (ob:=ob') (by rw[kL];exact dU) mG,t7 (ob:=ob) (by rw[kL];exact oW) pB]
   ·simp[World.frozen?,g7 _ kL]⟩
  iss:=fun i g h=>h
  size:=by show m.w.heap.size≤w'.heap.size;omega
  shape:=fun k ks T1 f1 hk=>by
   by_cases hkb:k=b
   ·subst hkb
    rw[oW] at hk
    injection hk with hk
    subst hk
    exact absurd pB (by simp[Obj.other])
   ·exact ⟨ks,f1,by show w'.heap[k]?=_;rw[g7 k hkb];exact hk,rfl⟩
  keepS:=fun k _ hs=>g7 k (fun h=>hS (h▸hs))
  keep:=fun k _ hn=>⟨fun h=>hn (aQW k h),g7 k (fun h=>hn (h▸hav))⟩
  live:=fun i q hq hi=>by
   by_cases cY:i=id
   ·subst cY
    simp only[m',bV,Option.some.injEq] at hq
    subst hq
    exact ⟨o,ho,hg.symm,rfl,eY,hk⟩
   ·simp only[m',b7 _ _ cY] at hq ⊢
    exact ⟨q,hq,rfl,trivial,Nat.le_refl _,rfl⟩
  old:=fun i q k x h1 h2 hk=>by
   by_cases cY:i=id
   ·subst cY;exact ⟨o,x,ho,h2⟩
   ·simp only[m',b7 _ _ cY] at h1 h2
    exact ⟨q,x,h1,h2⟩ }
 refine ⟨m',rfl,rfl,rfl,rfl,⟨fun g=>(hR.glob g).mono e,?_,?_,?_,?_,?_⟩,e⟩
 ·intro i q hq
  by_cases cY:i=id
  ·subst cY
   simp only[m',bV,Option.some.injEq] at hq
   subst hq
   exact hg▸hR.iss i o ho
  ·simp only[m',b7 _ _ cY] at hq
   exact hR.iss i q hq
 ·intro i q hq hn
  by_cases cY:i=id
  ·subst cY
   have h4:m.at_ i=none:=hn
   rw[ha] at h4;cases h4
  ·simp only[m',b7 _ _ cY] at hq hn
   exact hR.none_ i q hq hn
 ·intro i q k x hq xJ
  by_cases cY:i=id
  ·subst cY
   have h4:m.at_ i=some (k,x):=xJ
   rw[ha] at h4
   simp only[Option.some.injEq,Prod.mk.injEq] at h4
   obtain ⟨rfl,rfl⟩:=h4
   simp only[m',bV,Option.some.injEq] at hq
   subst hq
   exact ⟨hS,dC m' e dU⟩
  ·simp only[m',b7 _ _ cY] at hq xJ
   refine hR.other e hq xJ (g7 k fun h=>cY ?_)
   subst h
   exact hR.inj i id q o k x 0 hq ho xJ ha
 ·intro i j oi oj k x y hi hj hx hy
  have look:∀ {i oi},m'.h i=some oi→∃ o2,m.h i=some o2:=fun {i oi} h=>by
   by_cases cY:i=id
   ·subst cY;exact ⟨o,ho⟩
   ·simp only[m',b7 _ _ cY] at h;exact ⟨oi,h⟩
  obtain ⟨o2,h2⟩:=look hi
  obtain ⟨o3,h3⟩:=look hj
  exact hR.inj i j o2 o3 k x y h2 h3 hx hy
 ·intro k hk
  have:=hR.sub k hk
  show k<w'.heap.size
  omega
end Go.Ac
end
section
namespace Go.Ac
variable {P:Program} {S:Nat→Prop} {m:M}
theorem cO {t:TypeId} {i:TI} (h:cJ P t=some i):∃ inf d,P.info? t=some inf∧P.underlying t=some d∧rR P d=some i.k∧i.size=inf.size∧i.bytes=inf.bytes∧
  i.zero=inf.zero.map (fun v=>v.cells.toList.map m7):=by
 unfold cJ at h
 cases hi:P.info? t with
 | none=>simp[hi] at h
 | some inf=>
  cases hu:P.underlying t with
  | none=>simp[hi,hu] at h
  | some d=>
   simp only[hi,hu,Option.map_eq_some_iff] at h
   obtain ⟨k,hk,rfl⟩:=h
   exact ⟨inf,d,rfl,rfl,hk,rfl,rfl,rfl⟩
theorem eH {d:TypeDesc} {e sz by_:Nat} (h:rR P d=some (.slice e sz by_)):d= .slice e∧∃ j,P.info? e=some j∧j.size=sz∧(1≤by_→j.bytes=by_∧∃ z,j.zero=some z∧z.cells.size=sz):=by
 cases d <;> simp only[rR] at h <;> try (simp at h;done)
 case slice e'=>
  simp only[Option.map_eq_some_iff] at h
  obtain ⟨j,hj,hk⟩:=h
  injection hk with h1 h2 h3
  subst h1;subst h2
  refine ⟨rfl,j,hj,rfl,fun hb=>?_⟩
  cases hz:j.zero with
  | none=>simp[hz] at h3;omega
  | some z=>
   simp only[hz] at h3
   split at h3
   ·rename_i hs;exact ⟨h3,z,rfl,hs⟩
   ·omega
 case array n e'=>
  split at h <;> simp at h
theorem oN {d:TypeDesc} (h:rR P d=some .str):d= .string:=by
 cases d <;> simp only[rR] at h <;> try (simp at h;done)
 case string=>rfl
 case array n e'=>split at h <;> simp at h
theorem aAF {d:TypeDesc} (h:rR P d=some .bool):d= .bool:=by
 cases d <;> simp only[rR] at h <;> try (simp at h;done)
 case bool=>rfl
 case array n e'=>split at h <;> simp at h
theorem zG {d:TypeDesc} {k:IntKind} (h:rR P d=some (.int k)):d= .int k:=by
 cases d <;> simp only[rR] at h <;> try (simp at h;done)
 case int k'=>simp at h;rw[h]
 case array n e'=>split at h <;> simp at h
theorem aMk {d:TypeDesc} (h:rR P d=some .ptr):∃ e,d= .pointer e:=by
 unfold rR at h
 split at h <;> first
  | (simp at h;done)
  | exact ⟨_,rfl⟩
  | (split at h <;> simp at h;done)
theorem qG {d:TypeDesc} {k e:Nat} (h:rR P d=some (.map k e)):d= .map k e:=by
 unfold rR at h
 split at h <;> first
  | (simp at h;done)
  | (simp at h;obtain ⟨rfl,rfl⟩:=h;rfl)
  | (split at h <;> simp at h;done)
theorem rW {d:TypeDesc} {l:List (Nat×Nat×Bool)} (h:rR P d=some (.struct l)):∃ fs,d= .struct fs∧mK P fs.toList=some l:=by
 cases d <;> simp only[rR] at h <;> try (simp at h;done)
 case struct fs=>
  simp only[Option.map_eq_some_iff] at h
  obtain ⟨j,hj,hk⟩:=h
  injection hk with h1
  subst h1
  exact ⟨fs,rfl,hj⟩
 case array n e'=>split at h <;> simp at h
theorem uI {d:TypeDesc} {n e sz:Nat} {ag:Bool} (h:rR P d=some (.array n e sz ag)):d= .array n e∧∃ j u,P.info? e=some j∧P.underlying e=some u∧j.size=sz∧aDH P e=ag:=by
 cases d <;> simp only[rR] at h <;> try (simp at h;done)
 case array n' e'=>
  split at h
  ·rename_i j u hj hu
   simp at h
   obtain ⟨rfl,rfl,h1,h2⟩:=h
   exact ⟨rfl,j,u,hj,hu,h1,h2⟩
  ·simp at h
theorem tZ:∀ {fs:List Field} {l:List (Nat×Nat×Bool)},mK P fs=some l→∀ {f:Nat} {off size:Nat} {ag:Bool},l[f]?=some (off,size,ag)→
  ∃ fd j u,fs[f]?=some fd∧P.info? fd.type=some j∧P.underlying fd.type=some u∧fd.offset=off∧j.size=size∧aDH P fd.type=ag
 | [],l,h,f,off,size,ag,hl=>by simp[mK] at h;subst h;simp at hl
 | fd::fs,l,h,f,off,size,ag,hl=>by
  simp only[mK] at h
  split at h
  ·rename_i j u l' hj hu hl'
   simp at h
   subst h
   cases f with
   | zero=>simp at hl;obtain ⟨h1,h2,h3⟩:=hl;exact ⟨fd,j,u,rfl,hj,hu,h1,h2,h3⟩
   | succ f=>simp at hl;obtain ⟨fd',j',u',h1,h2⟩:=tZ hl' hl;exact ⟨fd',j',u',by simpa using h1,h2⟩
  ·simp at h
theorem wU {t:TypeId} {d:TypeDesc} (h:P.underlying t=some d) (w:World):(isAgg t).run P w= .ok (aDH P t) w:=by
 unfold isAgg aDH
 simp only[Sem.run_bind,run_underlying h,Result.andThen_ok,h]
 cases d <;> rfl
theorem aQU {t:TypeId} {i:TI} (h:cJ P t=some i):i.agg=aDH P t:=by
 obtain ⟨inf,d,h1,h2,h3,_⟩:=cO h
 unfold TI.agg aDH
 rw[h2]
 cases d <;> simp only[rR] at h3 <;> try (simp at h3;rw[←h3];done)
 case slice e=>simp only[Option.map_eq_some_iff] at h3;obtain ⟨j,_,h4⟩:=h3;rw[←h4]
 case struct fs=>simp only[Option.map_eq_some_iff] at h3;obtain ⟨j,_,h4⟩:=h3;rw[←h4]
 case array n e=>split at h3 <;> simp at h3;rw[←h3]
theorem i8 {t:TypeId} {inf:TypeInfo} (h:P.info? t=some inf) (w:World):(sizeOf t).run P w= .ok inf.size w:=by
 simp[sizeOf,typeInfo,h]
theorem aCH (v:Value):RV S m (m7 v) v:=by
 unfold m7
 split
 ·exact .d (.bool _)
 ·exact .d (.int _ _)
 ·exact .d (.str _ _ rfl)
 ·exact .full (rows:=[]) (.empty none 0 (Nat.zero_le _))
 ·exact .con _
theorem oF (vs:List Value):jL S m (vs.map m7) vs:=by
 refine ⟨by simp,fun j v x hv hx=>?_⟩
 rw[List.getElem?_map,hx] at hv
 simp at hv;subst hv
 exact aCH x
theorem aDY (v:Value):RV S m (aCB v) v:=by
 unfold aCB
 split
 ·rename_i cs
  exact .agg (by simp) fun j x y hx hy=>(oF cs.toList).2 j x y hx (by simpa using hy)
 ·exact aCH v
theorem jL.agg {cs:List V} {xs:List Value} (h:jL S m cs xs):RV S m (.agg cs) (.agg xs.toArray):=
 .agg (by simp[h.1]) fun j x y hx hy=>h.2 j x y hx (by simpa using hy)
theorem RV.agg_vals {cs:List V} {v:Value} (h:RV S m (.agg cs) v):∃ xs:List Value,v= .agg xs.toArray∧jL S m cs xs:=by
 cases h with
 | agg hl h=>rename_i vs;exact ⟨vs.toList,by simp,by simp[hl],fun j x y hx hy=>h j x y hx (by simpa using hy)⟩
theorem RV.tuple_vals {cs:List V} {v:Value} (h:RV S m (.tuple cs) v):∃ xs:List Value,v= .tuple xs.toArray∧jL S m cs xs:=by
 cases h with
 | tuple hl h=>rename_i vs;exact ⟨vs.toList,by simp,by simp[hl],fun j x y hx hy=>h j x y hx (by simpa using hy)⟩
theorem vN {x:V} {xs:List V} {v:Value} (h:vM x=some xs) (hv:RV S m x v):∃ ys:List Value,v.cells=ys.toArray∧jL S m xs ys∧xs.all V.one=true:=by
 have vc:∀ v:Value,v.oneCell'=true→v.cells=#[v]:=by intro v hv;cases v <;> first|rfl|simp[Value.oneCell'] at hv
 cases x
 case agg cs=>
  simp only[vM] at h
  split at h
  ·rename_i gL
   simp at h;subst h
   obtain ⟨ys,rfl,m8⟩:=hv.agg_vals
   exact ⟨ys,rfl,m8,gL⟩
  ·simp at h
 all_goals
  simp only[vM] at h
  split at h
  ·rename_i h1
   simp only[Option.some.injEq] at h;subst h
   exact ⟨[v],by simp[vc v (hv.one h1)],.cons hv .nil,by simp only[List.all_cons,List.all_nil,Bool.and_true];exact h1⟩
  ·simp at h
theorem aCW {i:TI} {cs:List V} {v:V} {xs:List Value} {b o:Nat} {t:TypeId} {w:World} (hi:cJ P t=some i) (h:aHe i cs=some v) (hv:jL S m cs xs)
  (hc:∀ (j:Nat) (x:Value),xs[j]?=some x→w.cell? ⟨b,o+j,none⟩=some x):
  ∃ x,(loadVar t ⟨b,o,none⟩).run P w= .ok x w∧RV S m v x:=by
 obtain ⟨inf,d,h1,h2,h3,h4,_⟩:=cO hi
 have ha:=aQU hi
 unfold aHe at h
 cases d8:i.agg with
 | true=>
  simp only[d8] at h
  split at h
  ·rename_i hb
   have eY:=Nat.eq_of_beq_eq_true hb
   simp at h;subst h
   have hl:(xs.take i.size).length=inf.size:=by
    have:=(hv.take i.size).1
    omega
   refine ⟨.agg (xs.take i.size).toArray,?_,(hv.take i.size).agg⟩
   have hld:=run_loadCells_list (P:=P) w ⟨b,o,none⟩ (xs.take i.size) (fun j x hx=>by
    rw[jK]
    rw[List.getElem?_take] at hx
    split at hx
    ·exact hc j x hx
    ·simp at hx)
   rw[hl] at hld
   simp[loadVar,wU h2,←ha,d8,i8 h1,hld]
  ·simp at h
 | false=>
  simp only[d8] at h
  cases cs with
  | nil=>simp at h
  | cons c cs=>
   simp at h;subst h
   obtain ⟨x,ys,rfl,hx,_⟩:=hv.cases
   refine ⟨x,?_,hx⟩
   have h0:=hc 0 x rfl
   simp only[Nat.add_zero] at h0
   simp[loadVar,wU h2,←ha,d8,h0]
theorem aBz [Gl] {look:cA} {i:TI} {t:TypeId} {p:V} {v:Value} {r:Res} {c:Nat} (hi:cJ P t=some i) (h:xR look i p=some r) (hl:look=m.h) (hR:Rel S m) (hv:RV S m p v):
  ∃ x,(Instr.loadAt t v).run P m.w= .ok x m.w∧cB S m c r x m:=by
 unfold xR at h
 split at h
 ·rename_i id g off
  cases vB:live look id g with
  | none=>simp[vB] at h
  | some o=>
   simp only[vB,Option.bind_eq_some_iff] at h
   obtain ⟨y,hy,hr⟩:=h
   simp[jS] at hr;subst hr
   obtain ⟨ho,_,b,base,iP,rfl⟩:=hv.ptr_live (hl▸vB)
   obtain ⟨xs,hxs,_,hc⟩:=hR.vals ho iP (hv.ptr_kind (hl▸vB))
   obtain ⟨x,jA,nH⟩:=aCW (w:=m.w) (b:=b) (o:=base+off) hi hy (hxs.drop off) (fun j x hx=>by
    rw[List.getElem?_drop] at hx
    have:=hc _ x hx
    rwa [←Nat.add_assoc] at this)
   refine ⟨x,?_,cB.quiet hR nH⟩
   simp[Instr.loadAt,Instr.sureAddr,jA]
 ·rename_i ds
  simp only[Option.bind_eq_some_iff] at h
  obtain ⟨y,hy,hr⟩:=h
  simp[ret] at hr;subst hr
  cases hv with
  | vref f hf hr=>
   rename_i b off
   obtain ⟨x,jA,nH⟩:=aCW (S:=S) (m:=m) (w:=m.w) (b:=b) (o:=off) (xs:=(List.range ds.length).map f) hi hy
    (jL.map_d (by simp) (fun j d x hd hx=>by
     have hj:j<ds.length:=(List.getElem?_eq_some_iff.1 hd).1
     simp[hj] at hx
     subst hx
     exact hr j d hd))
    (fun j x hx=>by
     have hj:j<ds.length:=by
      have:=(List.getElem?_eq_some_iff.1 hx).1
      simpa using this
     simp[hj] at hx
     subst hx
     exact (hf j ds[j] (by simp[hj])).2)
   refine ⟨x,?_,cB.quiet hR nH⟩
   simp[Instr.loadAt,Instr.sureAddr,jA]
 ·simp at h
def jR (cs:Array Value) (o:Nat) (xs:List Value):Array Value:=(cs.toList.take o++xs++cs.toList.drop (o+xs.length)).toArray
theorem oP {cs:Array Value} {o:Nat} {xs:List Value} (h:o+xs.length≤cs.size):(jR cs o xs).size=cs.size:=by
 simp[jR];omega
theorem fX {cs:Array Value} {o:Nat} {xs:List Value} (h:o+xs.length≤cs.size) (j:Nat):
  (jR cs o xs)[j]?=if j<o then cs[j]? else if j<o+xs.length then xs[j - o]? else cs[j]?:=by
 simp only[jR,List.getElem?_toArray,List.append_assoc]
 rw[List.getElem?_append]
 have hl:(List.take o cs.toList).length=o:=by simp;omega
 rw[hl]
 split
 ·simp[*]
 ·rw[List.getElem?_append]
  split
  ·rename_i h1 h2;rw[if_pos (by omega)]
  ·rename_i h1 h2
   rw[if_neg (by omega),List.getElem?_drop]
   rw[show o+xs.length+(j - o - xs.length)=j by omega];simp
theorem gX (b o:Nat) (T:TypeId) (fz:Nat×Nat) (hfz:fz.2≤fz.1):∀ (xs:List Value) (i:Nat) (cs:Array Value) (w:World),w.heap[b]?=some (Obj.cells cs T fz)→o+i+xs.length≤cs.size→
  (∀ v∈xs,v.oneCell'=true)→(storeCells ⟨b,o,none⟩ xs i).run P w= .ok () (w.setRow b (jR cs (o+i) xs))
 | [],i,cs,w,hg,hl,_=>by
  have:jR cs (o+i) []=cs:=by simp[jR]
  rw[this]
  have fB:b<w.heap.size:=(Array.getElem?_eq_some_iff.1 hg).1
  have hv:w.heap[b]= .cells cs T fz:=(Array.getElem?_eq_some_iff.1 hg).2
  simp only[storeCells]
  show Result.ok () w=_
  congr 1
  unfold World.setRow
  cases w with
  | mk heap tape drawn os output=>
   congr 1
   apply Array.ext
   ·simp
   ·intro k h1 h2
    simp only[Array.getElem_modify]
    split
    ·rename_i hk;subst hk;simp at hv;simp[hv]
    ·rfl
 | v::rest,i,cs,w,hg,hl,h1=>by
  have hi:o+i<cs.size:=by simp at hl;omega
  have aAl:w.cell? ⟨b,o+i,none⟩=some cs[o+i]:=by simp[World.cell?,hg,hi]
  have aYc:w.frozen? ⟨b,o+i,none⟩=false:=by simp[World.frozen?,hg];omega
  have hst:(store ((⟨b,o,none⟩:Addr).add i) v).run P w= .ok () (w.setRow b (cs.setIfInBounds (o+i) v)):=by
   rw[jK,run_store P w _ v _ (h1 v (by simp)),aAl]
   simp[aYc,setCell_eq_setRow w b (o+i) cs T fz v hg]
  have ih:=gX b o T fz hfz rest (i+1) (cs.setIfInBounds (o+i) v) (w.setRow b (cs.setIfInBounds (o+i) v)) (setRow_heap w b cs _ T fz hg) (by simp at hl ⊢;omega) (fun x hx=>h1 x (by simp[hx]))
  simp only[storeCells,Sem.run_bind,hst,Result.andThen_ok,ih,setRow_setRow]
  congr 2
  apply Array.ext_getElem?
  intro k
  have e1:o+(i+1)+rest.length≤(cs.setIfInBounds (o+i) v).size:=by simp at hl ⊢;omega
  have e2:o+i+(v::rest).length≤cs.size:=hl
  rw[fX e1,fX e2]
  simp only[List.length_cons,Array.getElem?_setIfInBounds]
  by_cases hk:k<o+i
  ·simp[hk,show k<o+(i+1) by omega,show ¬ (o+i=k) by omega]
  ·by_cases xJ:k=o+i
   ·subst xJ
    simp[hi,show ¬ (o+i<o+i) by omega,show o+i<o+(i+1) by omega]
   ·simp only[hk,if_false,show ¬ (k<o+(i+1)) by omega,show ¬ (o+i=k) by omega]
    by_cases hk3:k<o+i+(rest.length+1)
    ·rw[if_pos (by omega),if_pos hk3,show k - (o+i)=(k - (o+(i+1)))+1 by omega];simp
    ·rw[if_neg (by omega),if_neg hk3]
end Go.Ac
end
