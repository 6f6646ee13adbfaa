/- The abstract machine: each operation does in the model what the abstract machine says. No conditions. -/
import Derived.Test.YtkgekafdhehleaaGreatAcB
import Derived.Laws.Tables
import Derived.Laws.Slices
set_option linter.unusedVariables false
set_option linter.unusedSimpArgs false
section
namespace Go.Ac
def upd {α:Type} (f:Nat→α) (k:Nat) (v:α):Nat→α:=fun i=>if i=k then v else f i
@[simp] theorem bY {α:Type} (f:Nat→α) (k:Nat) (v:α):upd f k v k=v:=by simp[upd]
theorem b9 {α:Type} (f:Nat→α) {k j:Nat} (v:α) (h:j≠k):upd f k v j=f j:=by simp[upd,h]
def qU (h:Nat→Option Ob):List (Nat×Ob)→Nat→Option Ob
 | []=>h
 | (k,o)::r=>qU (upd h k (some o)) r
theorem rR {a b:Nat} (h:a≠b):Nat.beq a b=false:=by
 cases hb:Nat.beq a b with
 | false=>rfl
 | true=>exact absurd (Nat.eq_of_beq_eq_true hb) h
theorem fB (h:Hp) (k:Nat) (o:Ob):(Hp.set h k o).get=upd h.get k (some o):=by
 funext i
 induction h with
 | nil=>
  simp only[Hp.set,Hp.get,upd]
  by_cases hi:i=k
  ·subst hi;simp
  ·have:Nat.beq k i=false:=rR (Ne.symm hi)
   simp[this,hi]
 | cons p r ih=>
  obtain ⟨j,q⟩:=p
  simp only[Hp.set]
  cases hjk:Nat.beq j k with
  | true=>
   have aRJ:j=k:=Nat.eq_of_beq_eq_true hjk
   subst aRJ
   simp only[Hp.get,upd]
   by_cases hi:i=j
   ·subst hi;simp
   ·have:Nat.beq j i=false:=rR (Ne.symm hi)
    simp[this,hi]
  | false=>
   simp only[Hp.get]
   rw[ih]
   have aRJ:j≠k:=fun h=>by subst h;simp at hjk
   cases hji:Nat.beq j i with
   | true=>
    have aYO:j=i:=Nat.eq_of_beq_eq_true hji
    subst aYO
    simp[upd,aRJ]
   | false=>simp[upd,hji]
theorem mP (wr:List (Nat×Ob)):∀ h:Hp,(Hp.sets h wr).get=qU h.get wr:=by
 induction wr with
 | nil=>intro h;rfl
 | cons p r ih=>intro h;obtain ⟨k,o⟩:=p;simp only[Hp.sets,qU];rw[ih,fB]
def jU (S:Nat→Prop) (m:M) (vs:List V) (xs:List Value):Prop:=
 vs.length=xs.length∧∀ (j:Nat) (v:V) (x:Value),vs[j]?=some v→xs[j]?=some x→RV S m v x
theorem jU.nil {S:Nat→Prop} {m:M}:jU S m [] []:=⟨rfl,fun _ _ _ h=>by simp at h⟩
theorem jU.cons {S:Nat→Prop} {m:M} {v:V} {x:Value} {vs:List V} {xs:List Value} (h:RV S m v x) (hs:jU S m vs xs):jU S m (v::vs) (x::xs):=by
 refine ⟨by simp[hs.1],fun j a b ha hb=>?_⟩
 cases j with
 | zero=>simp at ha hb;subst ha;subst hb;exact h
 | succ j=>simp at ha hb;exact hs.2 j a b ha hb
theorem jU.head {S:Nat→Prop} {m:M} {v:V} {x:Value} {vs:List V} {xs:List Value} (h:jU S m (v::vs) (x::xs)):RV S m v x:=h.2 0 v x rfl rfl
theorem jU.tail {S:Nat→Prop} {m:M} {v:V} {x:Value} {vs:List V} {xs:List Value} (h:jU S m (v::vs) (x::xs)):jU S m vs xs:=
 ⟨by have:=h.1;simpa using this,fun j a b ha hb=>h.2 (j+1) a b (by simpa using ha) (by simpa using hb)⟩
theorem jU.cases {S:Nat→Prop} {m:M} {v:V} {vs:List V} {ys:List Value} (h:jU S m (v::vs) ys):∃ x xs,ys=x::xs∧RV S m v x∧jU S m vs xs:=by
 cases ys with
 | nil=>have:=h.1;simp at this
 | cons x xs=>exact ⟨x,xs,rfl,h.head,h.tail⟩
theorem jU.take {S:Nat→Prop} {m:M} {vs:List V} {xs:List Value} (h:jU S m vs xs) (n:Nat):jU S m (vs.take n) (xs.take n):=by
 refine ⟨by simp[h.1],fun j a b ha hb=>?_⟩
 rw[List.getElem?_take] at ha hb
 by_cases hj:j<n
 ·simp[hj] at ha hb;exact h.2 j a b ha hb
 ·simp[hj] at ha
theorem jU.drop {S:Nat→Prop} {m:M} {vs:List V} {xs:List Value} (h:jU S m vs xs) (n:Nat):jU S m (vs.drop n) (xs.drop n):=by
 refine ⟨by simp[h.1],fun j a b ha hb=>?_⟩
 rw[List.getElem?_drop] at ha hb
 exact h.2 _ a b ha hb
theorem jU.append {S:Nat→Prop} {m:M} {vs us:List V} {xs ys:List Value} (h:jU S m vs xs) (k:jU S m us ys):jU S m (vs++us) (xs++ys):=by
 refine ⟨by simp[h.1,k.1],fun j a b ha hb=>?_⟩
 rw[List.getElem?_append] at ha hb
 by_cases hj:j<vs.length
 ·rw[if_pos hj] at ha;rw[if_pos (h.1▸hj)] at hb;exact h.2 j a b ha hb
 ·rw[if_neg hj] at ha;rw[if_neg (h.1▸hj)] at hb;rw[h.1] at ha;exact k.2 _ a b ha hb
theorem jU.mono {S:Nat→Prop} {m m':M} {vs:List V} {xs:List Value} (h:jU S m vs xs) (e:Evo S m m'):jU S m' vs xs:=
 ⟨h.1,fun j a b ha hb=>(h.2 j a b ha hb).mono e⟩
theorem jU.get {S:Nat→Prop} {m:M} {vs:List V} {xs:List Value} (h:jU S m vs xs) {j:Nat} {v:V} (hv:vs[j]?=some v):∃ x,xs[j]?=some x∧RV S m v x:=by
 have hj:j<xs.length:=by
  rw[←h.1];exact (List.getElem?_eq_some_iff.1 hv).1
 exact ⟨xs[j],by simp[hj],h.2 j v _ hv (by simp[hj])⟩
theorem jU.map_d {S:Nat→Prop} {m:M} {ds:List D} {xs:List Value} (hl:ds.length=xs.length)
  (h:∀ (j:Nat) (d:D) (x:Value),ds[j]?=some d→xs[j]?=some x→RD m.w (m.av S) d x):jU S m (ds.map .d) xs:=by
 refine ⟨by simp[hl],fun j v x hv hx=>?_⟩
 rw[List.getElem?_map] at hv
 cases hd:ds[j]? with
 | none=>simp[hd] at hv
 | some d=>simp[hd] at hv;subst hv;exact .d (h j d x hd hx)
theorem jU.ones {S:Nat→Prop} {m:M} {vs:List V} {xs:List Value} (h:jU S m vs xs) (ho:vs.all V.one=true):∀ x∈xs,x.oneCell'=true:=by
 intro x hx
 obtain ⟨j,hj⟩:=List.mem_iff_getElem?.1 hx
 have eU:j<vs.length:=by rw[h.1];exact (List.getElem?_eq_some_iff.1 hj).1
 have hv:vs[j]?=some vs[j]:=by simp[eU]
 exact (h.2 j _ x hv hj).one (List.all_eq_true.1 ho _ (List.getElem_mem eU))
theorem jV (b o n:Nat):(⟨b,o,none⟩:Addr).add n=⟨b,o+n,none⟩:=by
 unfold Addr.add;split
 ·rename_i h;subst h;simp
 ·rfl
theorem aGK {w:World} {b:Nat} {cs:Array Value} {T:TypeId} {fz:Nat×Nat} (h:w.heap[b]?=some (Obj.cells cs T fz)) (j:Nat):
  w.cell? ⟨b,j,none⟩=cs[j]?:=by simp[World.cell?,h]
theorem Rel.cellsAt [Gl] {S:Nat→Prop} {m:M} (hR:Rel S m) {id:Nat} {o:Ob} {b base:Nat} (hk:jH o.cells=0) (ho:m.h id=some o) (ha:m.at_ id=some (b,base)):¬ S b∧l8 S m o.cells b base:=by
 have:=hR.obj id o b base ho ha
 rwa [wP hk] at this
theorem pA.some {S:Nat→Prop} {m:M} {l:List V} {b base:Nat} (h:pA S m l b base):∃ ob,m.w.heap[b]?=some ob:=by
 unfold pA at h
 split at h
 ·obtain ⟨_,t,h1,_⟩:=h;exact ⟨_,h1⟩
 ·obtain ⟨_,es,h1,_⟩:=h;exact ⟨_,h1⟩
 ·obtain ⟨_,bm,h1,_⟩:=h;exact ⟨_,h1⟩
 ·obtain ⟨cs,T,fz,h1,_⟩:=h;exact ⟨_,h1⟩
theorem pA.kind_at {S:Nat→Prop} {m:M} {l:List V} {b base:Nat} (h:pA S m l b base) (hc:∃ cs T fz,m.w.heap[b]?=Option.some (Obj.cells cs T fz)):jH l=0:=by
 obtain ⟨cs,T,fz,hc⟩:=hc
 unfold pA at h
 split at h
 ·obtain ⟨_,t,h1,_⟩:=h;rw[hc] at h1;injection h1 with h1;cases h1
 ·obtain ⟨_,es,h1,_⟩:=h;rw[hc] at h1;injection h1 with h1;cases h1
 ·obtain ⟨_,bm,h1,_⟩:=h;rw[hc] at h1;injection h1 with h1;cases h1
 ·exact l8.kind h
theorem MapAt.mono {S:Nat→Prop} {m m':M} {ks:List D} {vs:List V} {bs:List Nat} {es:Array MapEntry} (h:MapAt S m ks vs bs es) (e:Evo S m m'):MapAt S m' ks vs bs es:=
 ⟨h.lk,h.lv,h.lb,fun j k x hk hx=>(h.key j k x hk hx).mono e.keep,fun j v x hv hx=>(h.val j v x hv hx).mono e,h.born⟩
theorem pA.mono {S:Nat→Prop} {m m':M} {l:List V} {b base:Nat} (h:pA S m l b base) (e:Evo S m m') (dK:m'.w.heap[b]?=m.w.heap[b]?):pA S m' l b base:=by
 have h0:=h
 unfold pA at h
 split at h
 ·obtain ⟨h1,t,h2,h3⟩:=h;exact ⟨h1,t,by rw[dK];exact h2,h3⟩
 ·obtain ⟨h1,es,h2,h3⟩:=h;exact ⟨h1,es,by rw[dK];exact h2,h3.mono e⟩
 ·obtain ⟨h1,bm,h2,h3⟩:=h;exact ⟨h1,bm,by rw[dK];exact h2,h3.mono e⟩
 ·rw[wP (l8.kind h)]
  obtain ⟨cs,T,fz,h2,h3,h4,h5⟩:=h
  refine ⟨cs,T,fz,by rw[dK];exact h2,h3,h4,fun j v hv=>?_⟩
  obtain ⟨h6,x,h7,h8⟩:=h5 j v hv
  exact ⟨h6,x,h7,h8.mono e⟩
theorem Rel.vals [Gl] {S:Nat→Prop} {m:M} (hR:Rel S m) {id:Nat} {o:Ob} {b base:Nat} (ho:m.h id=some o) (ha:m.at_ id=some (b,base)) (hk:jH o.cells=0):
  ∃ xs,jU S m o.cells xs∧o.cells.all V.one=true∧∀ (j:Nat) (x:Value),xs[j]?=some x→m.w.cell? ⟨b,base+j,none⟩=some x:=by
 obtain ⟨_,cs,T,fz,dK,_,gK,hc⟩:=hR.cellsAt hk ho ha
 refine ⟨(cs.toList.drop base).take o.cells.length,⟨?_,fun j v x hv hx=>?_⟩,?_,fun j x hx=>?_⟩
 ·simp;omega
 ·obtain ⟨_,y,hy,hRV⟩:=hc j v hv
  rw[List.getElem?_take] at hx
  split at hx
  ·rw[List.getElem?_drop] at hx;simp[hy] at hx;subst hx;exact hRV
  ·simp at hx
 ·rw[List.all_eq_true]
  intro v hv
  obtain ⟨j,hj⟩:=List.mem_iff_getElem?.1 hv
  exact (hc j v hj).1
 ·rw[List.getElem?_take] at hx
  split at hx
  ·rw[List.getElem?_drop] at hx;rw[aGK dK];simpa using hx
  ·simp at hx
theorem mR {look:cA} {id g:Nat} {o:Ob} (h:live look id g=some o):look id=some o∧o.gen=g:=by
 unfold live at h
 cases hl:look id with
 | none=>simp[hl] at h
 | some p=>
  simp only[hl] at h
  cases hb:Nat.beq p.gen g with
  | false=>simp[hb] at h
  | true=>simp[hb] at h;subst h;exact ⟨rfl,Nat.eq_of_beq_eq_true hb⟩
theorem RV.ptr_live {S:Nat→Prop} {m:M} {id g off:Nat} {v:Value} {o:Ob} (h:RV S m (.ptr id g off) v) (hl:live m.h id g=some o):
  m.h id=some o∧o.gen=g∧∃ b base,m.at_ id=some (b,base)∧v= .pointer (some ⟨b,base+off,none⟩):=by
 obtain ⟨h1,h2⟩:=mR hl
 cases h with
 | ptr _ _ h=>exact ⟨h1,h2,(h o h1 h2).2⟩
theorem RV.ptr_kind {S:Nat→Prop} {m:M} {id g off:Nat} {v:Value} {o:Ob} (h:RV S m (.ptr id g off) v) (hl:live m.h id g=some o):jH o.cells=0:=by
 obtain ⟨h1,h2⟩:=mR hl
 cases h with
 | ptr _ _ h=>exact (h o h1 h2).1
theorem RV.osl_kind {S:Nat→Prop} {m:M} {id g off len sz:Nat} {cap:Option Nat} {v:Value} {o:Ob} (h:RV S m (.osl id g off len sz cap) v) (hl:live m.h id g=some o):jH o.cells=0:=by
 obtain ⟨h1,h2⟩:=mR hl
 cases h with
 | osl _ _ h=>exact (h o h1 h2).1
theorem RV.it_live {S:Nat→Prop} {m:M} {id g:Nat} {v:Value} {o:Ob} (h:RV S m (.it id g) v) (hl:live m.h id g=some o):
  m.h id=some o∧o.gen=g∧jH o.cells=1∧∃ b,m.at_ id=some (b,0)∧v= .pointer (some ⟨b,0,none⟩):=by
 obtain ⟨h1,h2⟩:=mR hl
 cases h with
 | it _ _ h=>exact ⟨h1,h2,h o h1 h2⟩
theorem RV.mp_live {S:Nat→Prop} {m:M} {id g:Nat} {v:Value} {o:Ob} (h:RV S m (.mp id g) v) (hl:live m.h id g=some o):
  m.h id=some o∧o.gen=g∧jH o.cells=2∧∃ b,m.at_ id=some (b,0)∧v= .map (some b):=by
 obtain ⟨h1,h2⟩:=mR hl
 cases h with
 | mp _ _ h=>exact ⟨h1,h2,h o h1 h2⟩
theorem RV.osl_live {S:Nat→Prop} {m:M} {id g off len sz:Nat} {cap:Option Nat} {v:Value} {o:Ob} (h:RV S m (.osl id g off len sz cap) v) (hl:live m.h id g=some o):
  m.h id=some o∧o.gen=g∧iA m o id off len sz cap v:=by
 obtain ⟨h1,h2⟩:=mR hl
 cases h with
 | osl _ _ h=>exact ⟨h1,h2,(h o h1 h2).2⟩
def cD [Gl] (S:Nat→Prop) (m:M) (c:Nat) (r:Res) (x:Value) (m':M):Prop:=
 Rel S m'∧Evo S m m'∧RV S m' r.v x∧m'.h=qU m.h r.wr∧m'.iss=(fun id g=>m.iss id g∨(c≤g∧g<c+r.dc))
def mO (m:M) (c dc:Nat):Prop:=∀ id g,c≤g→g<c+dc→¬ m.iss id g
theorem jS (m:M) (c:Nat):(fun id g=>m.iss id g∨(c≤g∧g<c+0))=m.iss:=by
 funext id g;apply propext;constructor
 ·rintro (h|h)
  ·exact h
  ·omega
 ·exact .inl
theorem cD.quiet [Gl] {S:Nat→Prop} {m:M} {c:Nat} {v:V} {rd:List Nat} {x:Value} {al:Bool} (hR:Rel S m) (hv:RV S m v x):cD S m c ⟨v,[],rd,0,0,al⟩ x m:=
 ⟨hR,.refl S m,hv,rfl,(jS m c).symm⟩
theorem Rel.other [Gl] {S:Nat→Prop} {m m':M} (hR:Rel S m) (e:Evo S m m') {id:Nat} {o:Ob} {b base:Nat} (ho:m.h id=some o) (ha:m.at_ id=some (b,base))
  (dK:m'.w.heap[b]?=m.w.heap[b]?):
  ¬ S b∧pA S m' o.cells b base:=
 ⟨(hR.obj id o b base ho ha).1,(hR.obj id o b base ho ha).2.mono e dK⟩
theorem iS {w:World} {b:Nat} {o:Obj} (h:w.heap[b]?=some o):b<w.heap.size:=(Array.getElem?_eq_some_iff.1 h).1
theorem t9 [Gl] {S:Nat→Prop} {m:M} (hR:Rel S m) {id:Nat} {o o':Ob} {b base base' dc c:Nat} {cs cs':Array Value} {T:TypeId} {fz:Nat×Nat} {w':World}
  (ho:m.h id=some o) (ha:m.at_ id=some (b,base)) (uF:o.ro=false) (hk:jH o.cells=0) (dK:m.w.heap[b]?=some (Obj.cells cs T fz))
  (hw:w'.heap=(m.w.setRow b cs').heap) (gK:cs'.size=cs.size) (hb:base'+o'.cells.length≤cs'.size)
  (hg:(o'.gen=o.gen∧base'=base∧o.cells.length≤o'.cells.length∧dc=0)∨(¬ m.iss id o'.gen∧o'.gen=c∧dc=1))
  (hc:∀ (j:Nat) (v:V),o'.cells[j]?=some v→v.one=true∧∃ x,cs'[base'+j]?=some x∧RV S m v x) (qC:w'.os=m.w.os∧w'.output=m.w.output:=by exact ⟨rfl,rfl⟩):
  ∃ m':M,m'.w=w'∧m'.h=upd m.h id (some o')∧m'.at_=upd m.at_ id (some (b,base'))∧m'.iss=(fun i g=>m.iss i g∨(c≤g∧g<c+dc))∧Rel S m'∧Evo S m m':=by
 obtain ⟨hS,cs0,T0,fz0,tA,hfz,bAc,hc0⟩:=hR.cellsAt hk ho ha
 have hk':jH o'.cells=0:=oX fun j v hv=>(hc j v hv).1
 rw[dK] at tA
 obtain ⟨rfl,rfl,rfl⟩:cs=cs0∧T=T0∧fz=fz0:=by simpa using tA
 let m':M:={ at_:=upd m.at_ id (some (b,base')),h:=upd m.h id (some o'),iss:=fun i g=>m.iss i g∨(c≤g∧g<c+dc),w:=w' }
 have dD:w'.heap[b]?=some (Obj.cells cs' T fz):=by rw[hw];exact setRow_heap m.w b cs cs' T fz dK
 have iD:∀ k,k≠b→w'.heap[k]?=m.w.heap[k]?:=fun k hk=>by rw[hw];exact setRow_other m.w b k cs' hk
 have aNF:w'.heap.size=m.w.heap.size:=by rw[hw];simp
 have hav:m.av S b:= .inr ⟨id,o,base,ho,uF,ha⟩
 have aRK:∀ k,m'.av S k→m.av S k:=by
  rintro k (h|⟨i,q,x,h1,h2,h3⟩)
  ·exact .inl h
  ·by_cases hi:i=id
   ·subst hi
    simp only[m',bY,Option.some.injEq,Prod.mk.injEq] at h1 h3
    exact h3.1▸hav
   ·simp only[m',b9 _ _ hi] at h1 h3
    exact .inr ⟨i,q,x,h1,h2,h3⟩
 have e:Evo S m m':={
  rest:=⟨qC.1,qC.2,fun a=>by
   show w'.frozen? a=m.w.frozen? a
   by_cases lC:a.block=b
   ·simp[World.frozen?,lC,dD,dK]
   ·simp[World.frozen?,iD _ lC]⟩
  iss:=fun i g h=> .inl h
  size:=by show m.w.heap.size≤w'.heap.size;omega
  shape:=fun k ks T1 f1 hk=>by
   by_cases hkb:k=b
   ·subst hkb
    rw[dK] at hk
    obtain ⟨rfl,rfl,rfl⟩:cs=ks∧T=T1∧fz=f1:=by injection hk with h;injection h with h1 h2 h3;exact ⟨h1,h2,h3⟩
    exact ⟨cs',fz,dD,gK⟩
   ·exact ⟨ks,f1,by show w'.heap[k]?=_;rw[iD k hkb];exact hk,rfl⟩
  keepS:=fun k _ hs=>iD k (fun h=>hS (h▸hs))
  keep:=fun k _ hn=>⟨fun h=>hn (aRK k h),iD k (fun h=>hn (h▸hav))⟩
  live:=fun i q hq hi=>by
   by_cases c8:i=id
   ·subst c8
    simp only[m',bY,Option.some.injEq] at hq
    subst hq
    rcases hg with ⟨g1,g2,g3,_⟩|⟨g1,_⟩
    ·exact ⟨o,ho,g1.symm,by simp[m',ha,g2],g3,by rw[hk,hk']⟩
    ·exact absurd hi g1
   ·simp only[m',b9 _ _ c8] at hq ⊢
    exact ⟨q,hq,rfl,trivial,Nat.le_refl _,rfl⟩
  old:=fun i q k x h1 h2 hk=>by
   by_cases c8:i=id
   ·subst c8
    simp only[m',bY,Option.some.injEq,Prod.mk.injEq] at h2
    exact ⟨o,base,ho,by rw[ha,h2.1]⟩
   ·simp only[m',b9 _ _ c8] at h1 h2
    exact ⟨q,x,h1,h2⟩ }
 refine ⟨m',rfl,rfl,rfl,rfl,⟨fun g=>(hR.glob g).mono e,?_,?_,?_,?_,?_⟩,e⟩
 ·intro i q hq
  by_cases c8:i=id
  ·subst c8
   simp only[m',bY,Option.some.injEq] at hq
   subst hq
   rcases hg with ⟨g1,_⟩|⟨_,g2,g3⟩
   ·exact .inl (g1▸hR.iss i o ho)
   ·exact .inr ⟨by omega,by omega⟩
  ·simp only[m',b9 _ _ c8] at hq
   exact .inl (hR.iss i q hq)
 ·intro i q hq hn
  by_cases c8:i=id
  ·subst c8;simp[m'] at hn
  ·simp only[m',b9 _ _ c8] at hq hn
   exact hR.none_ i q hq hn
 ·intro i q k x hq hk
  by_cases c8:i=id
  ·subst c8
   simp only[m',bY,Option.some.injEq,Prod.mk.injEq] at hq hk
   obtain ⟨rfl,rfl⟩:=hk
   subst hq
   refine ⟨hS,l8.row ⟨cs',T,fz,dD,hfz,hb,fun j v hv=>?_⟩⟩
   obtain ⟨h1,x,h2,h3⟩:=hc j v hv
   exact ⟨h1,x,h2,h3.mono e⟩
  ·simp only[m',b9 _ _ c8] at hq hk
   refine hR.other e hq hk (iD k fun h=>c8 ?_)
   subst h
   exact hR.inj i id q o k x base hq ho hk ha
 ·intro i j oi oj k x y hi hj hx hy
  by_cases h1:i=id
  ·by_cases h2:j=id
   ·rw[h1,h2]
   ·subst h1
    simp only[m',bY,b9 _ _ h2,Option.some.injEq,Prod.mk.injEq] at hi hj hx hy
    exact hR.inj i j o oj b base y ho hj ha (hx.1▸hy)
  ·by_cases h2:j=id
   ·subst h2
    simp only[m',bY,b9 _ _ h1,Option.some.injEq,Prod.mk.injEq] at hi hj hx hy
    exact hR.inj i j oi o b x base hi ho (hy.1▸hx) ha
   ·simp only[m',b9 _ _ h1,b9 _ _ h2] at hi hj hx hy
    exact hR.inj i j oi oj k x y hi hj hx hy
 ·intro k hk
  have:=hR.sub k hk
  show k<w'.heap.size
  omega
theorem aBI [Gl] {S:Nat→Prop} {m:M} (hR:Rel S m) {id:Nat} {o':Ob} {dc c:Nat} {cs':Array Value} {T:TypeId} {w':World}
  (hw:w'.heap=m.w.heap.push (Obj.cells cs' T (0,0))) (hb:o'.cells.length≤cs'.size)
  (hg:¬ m.iss id o'.gen) (hgc:o'.gen=c) (hdc:dc=1)
  (hc:∀ (j:Nat) (v:V),o'.cells[j]?=some v→v.one=true∧∃ x,cs'[j]?=some x∧RV S m v x) (qC:w'.os=m.w.os∧w'.output=m.w.output:=by exact ⟨rfl,rfl⟩):
  ∃ m':M,m'.w=w'∧m'.h=upd m.h id (some o')∧m'.at_=upd m.at_ id (some (m.w.heap.size,0))∧m'.iss=(fun i g=>m.iss i g∨(c≤g∧g<c+dc))∧Rel S m'∧Evo S m m':=by
 let m':M:={ at_:=upd m.at_ id (some (m.w.heap.size,0)),h:=upd m.h id (some o'),iss:=fun i g=>m.iss i g∨(c≤g∧g<c+dc),w:=w' }
 have aCs:w'.heap[m.w.heap.size]?=some (Obj.cells cs' T (0,0)):=by rw[hw];simp
 have iD:∀ k,k<m.w.heap.size→w'.heap[k]?=m.w.heap[k]?:=fun k hk=>by rw[hw,Array.getElem?_push_lt hk];simp[hk]
 have aNF:w'.heap.size=m.w.heap.size+1:=by rw[hw];simp
 have e:Evo S m m':={
  rest:=⟨qC.1,qC.2,fun a=>by
   show w'.frozen? a=m.w.frozen? a
   by_cases lC:a.block<m.w.heap.size
   ·simp[World.frozen?,iD _ lC]
   ·have h0:m.w.heap[a.block]?=none:=by simp;omega
    by_cases vS:a.block=m.w.heap.size
    ·have h1:w'.heap[a.block]?=some (Obj.cells cs' T (0,0)):=by rw[vS];exact aCs
     simp[World.frozen?,h0,h1]
    ·have h1:w'.heap[a.block]?=none:=by simp;omega
     simp[World.frozen?,h0,h1]⟩
  iss:=fun i g h=> .inl h
  size:=by show m.w.heap.size≤w'.heap.size;omega
  shape:=fun k ks T1 f1 hk=>⟨ks,f1,by show w'.heap[k]?=_;rw[iD k (iS hk)];exact hk,rfl⟩
  keepS:=fun k hk _=>iD k hk
  keep:=fun k hk hn=>by
   refine ⟨?_,iD k hk⟩
   rintro (h|⟨i,q,x,h1,h2,h3⟩)
   ·exact hn (.inl h)
   ·by_cases hi:i=id
    ·subst hi
     simp only[m',bY,Option.some.injEq,Prod.mk.injEq] at h1 h3
     omega
    ·simp only[m',b9 _ _ hi] at h1 h3
     exact hn (.inr ⟨i,q,x,h1,h2,h3⟩)
  live:=fun i q hq hi=>by
   by_cases c8:i=id
   ·subst c8
    simp only[m',bY,Option.some.injEq] at hq
    subst hq
    exact absurd hi hg
   ·simp only[m',b9 _ _ c8] at hq ⊢
    exact ⟨q,hq,rfl,trivial,Nat.le_refl _,rfl⟩
  old:=fun i q k x h1 h2 hk=>by
   by_cases c8:i=id
   ·subst c8
    simp only[m',bY,Option.some.injEq,Prod.mk.injEq] at h2
    omega
   ·simp only[m',b9 _ _ c8] at h1 h2
    exact ⟨q,x,h1,h2⟩ }
 refine ⟨m',rfl,rfl,rfl,rfl,⟨fun g=>(hR.glob g).mono e,?_,?_,?_,?_,?_⟩,e⟩
 ·intro i q hq
  by_cases c8:i=id
  ·subst c8
   simp only[m',bY,Option.some.injEq] at hq
   subst hq
   exact .inr ⟨by omega,by omega⟩
  ·simp only[m',b9 _ _ c8] at hq
   exact .inl (hR.iss i q hq)
 ·intro i q hq hn
  by_cases c8:i=id
  ·subst c8;simp[m'] at hn
  ·simp only[m',b9 _ _ c8] at hq hn
   exact hR.none_ i q hq hn
 ·intro i q k x hq hk
  by_cases c8:i=id
  ·subst c8
   simp only[m',bY,Option.some.injEq,Prod.mk.injEq] at hq hk
   obtain ⟨rfl,rfl⟩:=hk
   subst hq
   refine ⟨fun h=>?_,l8.row ⟨cs',T,(0,0),aCs,Nat.le_refl _,by omega,fun j v hv=>?_⟩⟩
   ·have:=hR.sub _ h;omega
   ·obtain ⟨h1,x,h2,h3⟩:=hc j v hv
    exact ⟨h1,x,by simpa using h2,h3.mono e⟩
  ·simp only[m',b9 _ _ c8] at hq hk
   obtain ⟨ob0,tA⟩:=(hR.obj i q k x hq hk).2.some
   exact hR.other e hq hk (iD k (iS tA))
 ·intro i j oi oj k x y hi hj hx hy
  by_cases h1:i=id
  ·by_cases h2:j=id
   ·rw[h1,h2]
   ·subst h1
    simp only[m',bY,b9 _ _ h2,Option.some.injEq,Prod.mk.injEq] at hi hj hx hy
    obtain ⟨ob0,tA⟩:=(hR.obj j oj k y hj hy).2.some
    have:=iS tA
    omega
  ·by_cases h2:j=id
   ·subst h2
    simp only[m',bY,b9 _ _ h1,Option.some.injEq,Prod.mk.injEq] at hi hj hx hy
    obtain ⟨ob0,tA⟩:=(hR.obj i oi k x hi hx).2.some
    have:=iS tA
    omega
   ·simp only[m',b9 _ _ h1,b9 _ _ h2] at hi hj hx hy
    exact hR.inj i j oi oj k x y hi hj hx hy
 ·intro k hk
  have:=hR.sub k hk
  show k<w'.heap.size
  omega
theorem tP [Gl] {S:Nat→Prop} {m:M} (hR:Rel S m) {id:Nat} {o':Ob} {dc c:Nat} (aJy:o'.cells=[]) (hg:¬ m.iss id o'.gen) (hgc:o'.gen=c) (hdc:dc=1):
  ∃ m':M,m'.w=m.w∧m'.h=upd m.h id (some o')∧m'.at_=upd m.at_ id none∧m'.iss=(fun i g=>m.iss i g∨(c≤g∧g<c+dc))∧Rel S m'∧Evo S m m':=by
 let m':M:={ at_:=upd m.at_ id none,h:=upd m.h id (some o'),iss:=fun i g=>m.iss i g∨(c≤g∧g<c+dc),w:=m.w }
 have e:Evo S m m':={
  rest:=⟨rfl,rfl,fun _=>rfl⟩
  iss:=fun i g h=> .inl h
  size:=Nat.le_refl _
  shape:=fun k ks T1 f1 hk=>⟨ks,f1,hk,rfl⟩
  keepS:=fun k hk _=>rfl
  keep:=fun k hk hn=>by
   refine ⟨?_,rfl⟩
   rintro (h|⟨i,q,x,h1,h2,h3⟩)
   ·exact hn (.inl h)
   ·by_cases hi:i=id
    ·subst hi;simp[m'] at h3
    ·simp only[m',b9 _ _ hi] at h1 h3
     exact hn (.inr ⟨i,q,x,h1,h2,h3⟩)
  live:=fun i q hq hi=>by
   by_cases c8:i=id
   ·subst c8
    simp only[m',bY,Option.some.injEq] at hq
    subst hq
    exact absurd hi hg
   ·simp only[m',b9 _ _ c8] at hq ⊢
    exact ⟨q,hq,rfl,trivial,Nat.le_refl _,rfl⟩
  old:=fun i q k x h1 h2 hk=>by
   by_cases c8:i=id
   ·subst c8;simp[m'] at h2
   ·simp only[m',b9 _ _ c8] at h1 h2
    exact ⟨q,x,h1,h2⟩ }
 refine ⟨m',rfl,rfl,rfl,rfl,⟨fun g=>(hR.glob g).mono e,?_,?_,?_,?_,?_⟩,e⟩
 ·intro i q hq
  by_cases c8:i=id
  ·subst c8
   simp only[m',bY,Option.some.injEq] at hq
   subst hq
   exact .inr ⟨by omega,by omega⟩
  ·simp only[m',b9 _ _ c8] at hq
   exact .inl (hR.iss i q hq)
 ·intro i q hq hn
  by_cases c8:i=id
  ·subst c8
   simp only[m',bY,Option.some.injEq] at hq
   subst hq;exact aJy
  ·simp only[m',b9 _ _ c8] at hq hn
   exact hR.none_ i q hq hn
 ·intro i q k x hq hk
  by_cases c8:i=id
  ·subst c8;simp[m'] at hk
  ·simp only[m',b9 _ _ c8] at hq hk
   exact hR.other e hq hk rfl
 ·intro i j oi oj k x y hi hj hx hy
  by_cases h1:i=id
  ·subst h1;simp[m'] at hx
  ·by_cases h2:j=id
   ·subst h2;simp[m'] at hy
   ·simp only[m',b9 _ _ h1,b9 _ _ h2] at hi hj hx hy
    exact hR.inj i j oi oj k x y hi hj hx hy
 ·exact hR.sub
theorem aQd [Gl] {S:Nat→Prop} {m:M} (hR:Rel S m) {id:Nat} {o:Ob} (ho:m.h id=some o):
  ∃ m':M,m'.w=m.w∧m'.h=upd m.h id (some { o with ro:=true })∧m'.at_=m.at_∧m'.iss=m.iss∧Rel S m'∧Evo S m m':=by
 let m':M:={ at_:=m.at_,h:=upd m.h id (some { o with ro:=true }),iss:=m.iss,w:=m.w }
 have tG:∀ i q,m'.h i=some q→∃ p,m.h i=some p∧p.gen=q.gen∧p.cells=q.cells∧(q.ro=false→p.ro=false):=by
  intro i q hq
  by_cases c8:i=id
  ·subst c8
   simp only[m',bY,Option.some.injEq] at hq
   subst hq
   exact ⟨o,ho,rfl,rfl,fun h=>by simp at h⟩
  ·simp only[m',b9 _ _ c8] at hq
   exact ⟨q,hq,rfl,rfl,fun h=>h⟩
 have e:Evo S m m':={
  rest:=⟨rfl,rfl,fun _=>rfl⟩
  iss:=fun i g h=>h
  size:=Nat.le_refl _
  shape:=fun k ks T1 f1 hk=>⟨ks,f1,hk,rfl⟩
  keepS:=fun k hk _=>rfl
  keep:=fun k hk hn=>by
   refine ⟨?_,rfl⟩
   rintro (h|⟨i,q,x,h1,h2,h3⟩)
   ·exact hn (.inl h)
   ·obtain ⟨p,p1,p2,p3,p4⟩:=tG i q h1
    exact hn (.inr ⟨i,p,x,p1,p4 h2,h3⟩)
  live:=fun i q hq hi=>by
   obtain ⟨p,p1,p2,p3,p4⟩:=tG i q hq
   exact ⟨p,p1,p2,rfl,by rw[p3];exact Nat.le_refl _,by rw[p3]⟩
  old:=fun i q k x h1 h2 hk=>by
   obtain ⟨p,p1,_⟩:=tG i q h1
   exact ⟨p,x,p1,h2⟩ }
 refine ⟨m',rfl,rfl,rfl,rfl,⟨fun g=>(hR.glob g).mono e,?_,?_,?_,?_,?_⟩,e⟩
 ·intro i q hq
  obtain ⟨p,p1,p2,p3,p4⟩:=tG i q hq
  exact p2▸hR.iss i p p1
 ·intro i q hq hn
  obtain ⟨p,p1,p2,p3,p4⟩:=tG i q hq
  exact p3▸hR.none_ i p p1 hn
 ·intro i q k x hq hk
  obtain ⟨p,p1,p2,p3,p4⟩:=tG i q hq
  have:=hR.other e p1 hk rfl
  rw[p3] at this
  exact this
 ·intro i j oi oj k x y hi hj hx hy
  obtain ⟨p,p1,_⟩:=tG i oi hi
  obtain ⟨q,q1,_⟩:=tG j oj hj
  exact hR.inj i j p q k x y p1 q1 hx hy
 ·exact hR.sub
def _root_.Go.Obj.other:Obj→Prop
 | .cells ..=>False
 | _=>True
theorem uU {w:World} {a:Addr} {ob:Obj} (h:w.heap[a.block]?=some ob) (ho:ob.other):w.frozen? a=false:=by
 unfold World.frozen?
 rw[h]
 cases ob <;> first|rfl|exact absurd ho (by simp[Obj.other])
theorem aDa [Gl] {S:Nat→Prop} {m:M} (hR:Rel S m) {id:Nat} {o':Ob} {c:Nat} {ob:Obj} {w':World}
  (hw:w'.heap=m.w.heap.push ob) (kD:ob.other) (hg:¬ m.iss id o'.gen) (hgc:o'.gen=c)
  (dK:∀ m':M,Evo S m m'→m'.w.heap[m.w.heap.size]?=some ob→pA S m' o'.cells m.w.heap.size 0)
  (qC:w'.os=m.w.os∧w'.output=m.w.output:=by exact ⟨rfl,rfl⟩):
  ∃ m':M,m'.w=w'∧m'.h=upd m.h id (some o')∧m'.at_=upd m.at_ id (some (m.w.heap.size,0))∧m'.iss=(fun i g=>m.iss i g∨(c≤g∧g<c+1))∧Rel S m'∧Evo S m m':=by
 let m':M:={ at_:=upd m.at_ id (some (m.w.heap.size,0)),h:=upd m.h id (some o'),iss:=fun i g=>m.iss i g∨(c≤g∧g<c+1),w:=w' }
 have aCs:w'.heap[m.w.heap.size]?=some ob:=by rw[hw];simp
 have iD:∀ k,k<m.w.heap.size→w'.heap[k]?=m.w.heap[k]?:=fun k hk=>by rw[hw,Array.getElem?_push_lt hk];simp[hk]
 have aNF:w'.heap.size=m.w.heap.size+1:=by rw[hw];simp
 have e:Evo S m m':={
  rest:=⟨qC.1,qC.2,fun a=>by
   show w'.frozen? a=m.w.frozen? a
   by_cases lC:a.block<m.w.heap.size
   ·simp[World.frozen?,iD _ lC]
   ·have h0:m.w.heap[a.block]?=none:=by simp;omega
    have h00:m.w.frozen? a=false:=by simp[World.frozen?,h0]
    by_cases vS:a.block=m.w.heap.size
    ·rw[h00,uU (ob:=ob) (by rw[vS];exact aCs) kD]
    ·have h1:w'.heap[a.block]?=none:=by simp;omega
     simp[World.frozen?,h0,h1]⟩
  iss:=fun i g h=> .inl h
  size:=by show m.w.heap.size≤w'.heap.size;omega
  shape:=fun k ks T1 f1 hk=>⟨ks,f1,by show w'.heap[k]?=_;rw[iD k (iS hk)];exact hk,rfl⟩
  keepS:=fun k hk _=>iD k hk
  keep:=fun k hk hn=>by
   refine ⟨?_,iD k hk⟩
   rintro (h|⟨i,q,x,h1,h2,h3⟩)
   ·exact hn (.inl h)
   ·by_cases hi:i=id
    ·subst hi
     simp only[m',bY,Option.some.injEq,Prod.mk.injEq] at h1 h3
     omega
    ·simp only[m',b9 _ _ hi] at h1 h3
     exact hn (.inr ⟨i,q,x,h1,h2,h3⟩)
  live:=fun i q hq hi=>by
   by_cases c8:i=id
   ·subst c8
    simp only[m',bY,Option.some.injEq] at hq
    subst hq
    exact absurd hi hg
   ·simp only[m',b9 _ _ c8] at hq ⊢
    exact ⟨q,hq,rfl,trivial,Nat.le_refl _,rfl⟩
  old:=fun i q k x h1 h2 hk=>by
   by_cases c8:i=id
   ·subst c8
    simp only[m',bY,Option.some.injEq,Prod.mk.injEq] at h2
    omega
   ·simp only[m',b9 _ _ c8] at h1 h2
    exact ⟨q,x,h1,h2⟩ }
 refine ⟨m',rfl,rfl,rfl,rfl,⟨fun g=>(hR.glob g).mono e,?_,?_,?_,?_,?_⟩,e⟩
 ·intro i q hq
  by_cases c8:i=id
  ·subst c8
   simp only[m',bY,Option.some.injEq] at hq
   subst hq
   exact .inr ⟨by omega,by omega⟩
  ·simp only[m',b9 _ _ c8] at hq
   exact .inl (hR.iss i q hq)
 ·intro i q hq hn
  by_cases c8:i=id
  ·subst c8;simp[m'] at hn
  ·simp only[m',b9 _ _ c8] at hq hn
   exact hR.none_ i q hq hn
 ·intro i q k x hq hk
  by_cases c8:i=id
  ·subst c8
   simp only[m',bY,Option.some.injEq,Prod.mk.injEq] at hq hk
   obtain ⟨rfl,rfl⟩:=hk
   subst hq
   refine ⟨fun h=>?_,dK m' e aCs⟩
   have:=hR.sub _ h;omega
  ·simp only[m',b9 _ _ c8] at hq hk
   obtain ⟨ob0,tA⟩:=(hR.obj i q k x hq hk).2.some
   exact hR.other e hq hk (iD k (iS tA))
 ·intro i j oi oj k x y hi hj hx hy
  by_cases h1:i=id
  ·by_cases h2:j=id
   ·rw[h1,h2]
   ·subst h1
    simp only[m',bY,b9 _ _ h2,Option.some.injEq,Prod.mk.injEq] at hi hj hx hy
    obtain ⟨ob0,tA⟩:=(hR.obj j oj k y hj hy).2.some
    have:=iS tA
    omega
  ·by_cases h2:j=id
   ·subst h2
    simp only[m',bY,b9 _ _ h1,Option.some.injEq,Prod.mk.injEq] at hi hj hx hy
    obtain ⟨ob0,tA⟩:=(hR.obj i oi k x hi hx).2.some
    have:=iS tA
    omega
   ·simp only[m',b9 _ _ h1,b9 _ _ h2] at hi hj hx hy
    exact hR.inj i j oi oj k x y hi hj hx hy
 ·intro k hk
  have:=hR.sub k hk
  show k<w'.heap.size
  omega
theorem rP [Gl] {S:Nat→Prop} {m:M} (hR:Rel S m) {id:Nat} {o o':Ob} {b c:Nat} {ob ob':Obj} {w':World}
  (ho:m.h id=some o) (ha:m.at_ id=some (b,0)) (uF:o.ro=false) (pQ:m.w.heap[b]?=some ob) (kD:ob.other) (fN:ob'.other)
  (hw:w'.heap=m.w.heap.setIfInBounds b ob') (hg:o'.gen=o.gen) (hk:jH o'.cells=jH o.cells) (e9:o.cells.length≤o'.cells.length)
  (dK:∀ m':M,Evo S m m'→m'.w.heap[b]?=some ob'→pA S m' o'.cells b 0)
  (qC:w'.os=m.w.os∧w'.output=m.w.output:=by exact ⟨rfl,rfl⟩):
  ∃ m':M,m'.w=w'∧m'.h=upd m.h id (some o')∧m'.at_=m.at_∧m'.iss=m.iss∧Rel S m'∧Evo S m m':=by
 have hS:=(hR.obj id o b 0 ho ha).1
 have eU:=iS pQ
 let m':M:={ at_:=m.at_,h:=upd m.h id (some o'),iss:=m.iss,w:=w' }
 have dD:w'.heap[b]?=some ob':=by rw[hw];simp[eU]
 have iD:∀ k,k≠b→w'.heap[k]?=m.w.heap[k]?:=fun k hk=>by rw[hw,Array.getElem?_setIfInBounds];rw[if_neg (fun h=>hk h.symm)]
 have aNF:w'.heap.size=m.w.heap.size:=by rw[hw];simp
 have hav:m.av S b:= .inr ⟨id,o,0,ho,uF,ha⟩
 have aRK:∀ k,m'.av S k→m.av S k:=by
  rintro k (h|⟨i,q,x,h1,h2,h3⟩)
  ·exact .inl h
  ·by_cases hi:i=id
   ·subst hi
    have h4:m.at_ i=some (k,x):=h3
    rw[ha] at h4
    simp only[Option.some.injEq,Prod.mk.injEq] at h4
    exact h4.1▸hav
   ·simp only[m',b9 _ _ hi] at h1 h3
    exact .inr ⟨i,q,x,h1,h2,h3⟩
 have e:Evo S m m':={
  rest:=⟨qC.1,qC.2,fun a=>by
   show w'.frozen? a=m.w.frozen? a
   by_cases lC:a.block=b
   ·rw[uU (ob:=ob') (by rw[lC];exact dD) fN,uU (ob:=ob) (by rw[lC];exact pQ) kD]
   ·simp[World.frozen?,iD _ lC]⟩
  iss:=fun i g h=>h
  size:=by show m.w.heap.size≤w'.heap.size;omega
  shape:=fun k ks T1 f1 hk=>by
   by_cases hkb:k=b
   ·subst hkb
    rw[pQ] at hk
    injection hk with hk
    subst hk
    exact absurd kD (by simp[Obj.other])
   ·exact ⟨ks,f1,by show w'.heap[k]?=_;rw[iD k hkb];exact hk,rfl⟩
  keepS:=fun k _ hs=>iD k (fun h=>hS (h▸hs))
  keep:=fun k _ hn=>⟨fun h=>hn (aRK k h),iD k (fun h=>hn (h▸hav))⟩
  live:=fun i q hq hi=>by
   by_cases c8:i=id
   ·subst c8
    simp only[m',bY,Option.some.injEq] at hq
    subst hq
    exact ⟨o,ho,hg.symm,rfl,e9,hk⟩
   ·simp only[m',b9 _ _ c8] at hq ⊢
    exact ⟨q,hq,rfl,trivial,Nat.le_refl _,rfl⟩
  old:=fun i q k x h1 h2 hk=>by
   by_cases c8:i=id
   ·subst c8;exact ⟨o,x,ho,h2⟩
   ·simp only[m',b9 _ _ c8] at h1 h2
    exact ⟨q,x,h1,h2⟩ }
 refine ⟨m',rfl,rfl,rfl,rfl,⟨fun g=>(hR.glob g).mono e,?_,?_,?_,?_,?_⟩,e⟩
 ·intro i q hq
  by_cases c8:i=id
  ·subst c8
   simp only[m',bY,Option.some.injEq] at hq
   subst hq
   exact hg▸hR.iss i o ho
  ·simp only[m',b9 _ _ c8] at hq
   exact hR.iss i q hq
 ·intro i q hq hn
  by_cases c8:i=id
  ·subst c8
   have h4:m.at_ i=none:=hn
   rw[ha] at h4;cases h4
  ·simp only[m',b9 _ _ c8] at hq hn
   exact hR.none_ i q hq hn
 ·intro i q k x hq yE
  by_cases c8:i=id
  ·subst c8
   have h4:m.at_ i=some (k,x):=yE
   rw[ha] at h4
   simp only[Option.some.injEq,Prod.mk.injEq] at h4
   obtain ⟨rfl,rfl⟩:=h4
   simp only[m',bY,Option.some.injEq] at hq
   subst hq
   exact ⟨hS,dK m' e dD⟩
  ·simp only[m',b9 _ _ c8] at hq yE
   refine hR.other e hq yE (iD k fun h=>c8 ?_)
   subst h
   exact hR.inj i id q o k x 0 hq ho yE ha
 ·intro i j oi oj k x y hi hj hx hy
  have look:∀ {i oi},m'.h i=some oi→∃ o2,m.h i=some o2:=fun {i oi} h=>by
   by_cases c8:i=id
   ·subst c8;exact ⟨o,ho⟩
   ·simp only[m',b9 _ _ c8] at h;exact ⟨oi,h⟩
  obtain ⟨o2,h2⟩:=look hi
  obtain ⟨o3,h3⟩:=look hj
  exact hR.inj i j o2 o3 k x y h2 h3 hx hy
 ·intro k hk
  have:=hR.sub k hk
  show k<w'.heap.size
  omega
end Go.Ac
end
section
namespace Go.Ac
variable {P:Program} {S:Nat→Prop} {m:M}
theorem cS {t:TypeId} {i:TI} (h:cL P t=some i):∃ inf d,P.info? t=some inf∧P.underlying t=some d∧sF P d=some i.k∧i.size=inf.size∧i.bytes=inf.bytes∧
  i.zero=inf.zero.map (fun v=>v.cells.toList.map nC):=by
 unfold cL at h
 cases hi:P.info? t with
 | none=>simp[hi] at h
 | some inf=>
  cases hu:P.underlying t with
  | none=>simp[hi,hu] at h
  | some d=>
   simp only[hi,hu,Option.map_eq_some_iff] at h
   obtain ⟨k,hk,rfl⟩:=h
   exact ⟨inf,d,rfl,rfl,hk,rfl,rfl,rfl⟩
theorem eR {d:TypeDesc} {e sz by_:Nat} (h:sF P d=some (.slice e sz by_)):d= .slice e∧∃ j,P.info? e=some j∧j.size=sz∧(1≤by_→j.bytes=by_∧∃ z,j.zero=some z∧z.cells.size=sz):=by
 cases d <;> simp only[sF] at h <;> try (simp at h;done)
 case slice e'=>
  simp only[Option.map_eq_some_iff] at h
  obtain ⟨j,hj,hk⟩:=h
  injection hk with h1 h2 h3
  subst h1;subst h2
  refine ⟨rfl,j,hj,rfl,fun hb=>?_⟩
  cases hz:j.zero with
  | none=>simp[hz] at h3;omega
  | some z=>
   simp only[hz] at h3
   split at h3
   ·rename_i hs;exact ⟨h3,z,rfl,hs⟩
   ·omega
 case array n e'=>
  split at h <;> simp at h
theorem pB {d:TypeDesc} (h:sF P d=some .str):d= .string:=by
 cases d <;> simp only[sF] at h <;> try (simp at h;done)
 case string=>rfl
 case array n e'=>split at h <;> simp at h
theorem aBb {d:TypeDesc} (h:sF P d=some .bool):d= .bool:=by
 cases d <;> simp only[sF] at h <;> try (simp at h;done)
 case bool=>rfl
 case array n e'=>split at h <;> simp at h
theorem zY {d:TypeDesc} {k:IntKind} (h:sF P d=some (.int k)):d= .int k:=by
 cases d <;> simp only[sF] at h <;> try (simp at h;done)
 case int k'=>simp at h;rw[h]
 case array n e'=>split at h <;> simp at h
theorem aNr {d:TypeDesc} (h:sF P d=some .ptr):∃ e,d= .pointer e:=by
 unfold sF at h
 split at h <;> first
  | (simp at h;done)
  | exact ⟨_,rfl⟩
  | (split at h <;> simp at h;done)
theorem rU {d:TypeDesc} {k e:Nat} (h:sF P d=some (.map k e)):d= .map k e:=by
 unfold sF at h
 split at h <;> first
  | (simp at h;done)
  | (simp at h;obtain ⟨rfl,rfl⟩:=h;rfl)
  | (split at h <;> simp at h;done)
theorem sP {d:TypeDesc} {l:List (Nat×Nat×Bool)} (h:sF P d=some (.struct l)):∃ fs,d= .struct fs∧mZ P fs.toList=some l:=by
 cases d <;> simp only[sF] at h <;> try (simp at h;done)
 case struct fs=>
  simp only[Option.map_eq_some_iff] at h
  obtain ⟨j,hj,hk⟩:=h
  injection hk with h1
  subst h1
  exact ⟨fs,rfl,hj⟩
 case array n e'=>split at h <;> simp at h
theorem uT {d:TypeDesc} {n e sz:Nat} {ag:Bool} (h:sF P d=some (.array n e sz ag)):d= .array n e∧∃ j u,P.info? e=some j∧P.underlying e=some u∧j.size=sz∧aEk P e=ag:=by
 cases d <;> simp only[sF] at h <;> try (simp at h;done)
 case array n' e'=>
  split at h
  ·rename_i j u hj hu
   simp at h
   obtain ⟨rfl,rfl,h1,h2⟩:=h
   exact ⟨rfl,j,u,hj,hu,h1,h2⟩
  ·simp at h
theorem uP:∀ {fs:List Field} {l:List (Nat×Nat×Bool)},mZ P fs=some l→∀ {f:Nat} {off size:Nat} {ag:Bool},l[f]?=some (off,size,ag)→
  ∃ fd j u,fs[f]?=some fd∧P.info? fd.type=some j∧P.underlying fd.type=some u∧fd.offset=off∧j.size=size∧aEk P fd.type=ag
 | [],l,h,f,off,size,ag,hl=>by simp[mZ] at h;subst h;simp at hl
 | fd::fs,l,h,f,off,size,ag,hl=>by
  simp only[mZ] at h
  split at h
  ·rename_i j u l' hj hu hl'
   simp at h
   subst h
   cases f with
   | zero=>simp at hl;obtain ⟨h1,h2,h3⟩:=hl;exact ⟨fd,j,u,rfl,hj,hu,h1,h2,h3⟩
   | succ f=>simp at hl;obtain ⟨fd',j',u',h1,h2⟩:=uP hl' hl;exact ⟨fd',j',u',by simpa using h1,h2⟩
  ·simp at h
theorem xK {t:TypeId} {d:TypeDesc} (h:P.underlying t=some d) (w:World):(isAgg t).run P w= .ok (aEk P t) w:=by
 unfold isAgg aEk
 simp only[Sem.run_bind,run_underlying h,Result.andThen_ok,h]
 cases d <;> rfl
theorem aRe {t:TypeId} {i:TI} (h:cL P t=some i):i.agg=aEk P t:=by
 obtain ⟨inf,d,h1,h2,h3,_⟩:=cS h
 unfold TI.agg aEk
 rw[h2]
 cases d <;> simp only[sF] at h3 <;> try (simp at h3;rw[←h3];done)
 case slice e=>simp only[Option.map_eq_some_iff] at h3;obtain ⟨j,_,h4⟩:=h3;rw[←h4]
 case struct fs=>simp only[Option.map_eq_some_iff] at h3;obtain ⟨j,_,h4⟩:=h3;rw[←h4]
 case array n e=>split at h3 <;> simp at h3;rw[←h3]
theorem jF {t:TypeId} {inf:TypeInfo} (h:P.info? t=some inf) (w:World):(sizeOf t).run P w= .ok inf.size w:=by
 simp[sizeOf,typeInfo,h]
theorem aDw (v:Value):RV S m (nC v) v:=by
 unfold nC
 split
 ·exact .d (.bool _)
 ·exact .d (.int _ _)
 ·exact .d (.str _ _ rfl)
 ·exact .full (rows:=[]) (.empty none 0 (Nat.zero_le _))
 ·exact .con _
theorem pO (vs:List Value):jU S m (vs.map nC) vs:=by
 refine ⟨by simp,fun j v x hv hx=>?_⟩
 rw[List.getElem?_map,hx] at hv
 simp at hv;subst hv
 exact aDw x
theorem aES (v:Value):RV S m (aDI v) v:=by
 unfold aDI
 split
 ·rename_i cs
  exact .agg (by simp) fun j x y hx hy=>(pO cs.toList).2 j x y hx (by simpa using hy)
 ·exact aDw v
theorem jU.agg {cs:List V} {xs:List Value} (h:jU S m cs xs):RV S m (.agg cs) (.agg xs.toArray):=
 .agg (by simp[h.1]) fun j x y hx hy=>h.2 j x y hx (by simpa using hy)
theorem RV.agg_vals {cs:List V} {v:Value} (h:RV S m (.agg cs) v):∃ xs:List Value,v= .agg xs.toArray∧jU S m cs xs:=by
 cases h with
 | agg hl h=>rename_i vs;exact ⟨vs.toList,by simp,by simp[hl],fun j x y hx hy=>h j x y hx (by simpa using hy)⟩
theorem RV.tuple_vals {cs:List V} {v:Value} (h:RV S m (.tuple cs) v):∃ xs:List Value,v= .tuple xs.toArray∧jU S m cs xs:=by
 cases h with
 | tuple hl h=>rename_i vs;exact ⟨vs.toList,by simp,by simp[hl],fun j x y hx hy=>h j x y hx (by simpa using hy)⟩
theorem wX {x:V} {xs:List V} {v:Value} (h:xD x=some xs) (hv:RV S m x v):∃ ys:List Value,v.cells=ys.toArray∧jU S m xs ys∧xs.all V.one=true:=by
 have vc:∀ v:Value,v.oneCell'=true→v.cells=#[v]:=by intro v hv;cases v <;> first|rfl|simp[Value.oneCell'] at hv
 cases x
 case agg cs=>
  simp only[xD] at h
  split at h
  ·rename_i gW
   simp at h;subst h
   obtain ⟨ys,rfl,nU⟩:=hv.agg_vals
   exact ⟨ys,rfl,nU,gW⟩
  ·simp at h
 all_goals
  simp only[xD] at h
  split at h
  ·rename_i h1
   simp only[Option.some.injEq] at h;subst h
   exact ⟨[v],by simp[vc v (hv.one h1)],.cons hv .nil,by simp only[List.all_cons,List.all_nil,Bool.and_true];exact h1⟩
  ·simp at h
theorem aDs {i:TI} {cs:List V} {v:V} {xs:List Value} {b o:Nat} {t:TypeId} {w:World} (hi:cL P t=some i) (h:aGP i cs=some v) (hv:jU S m cs xs)
  (hc:∀ (j:Nat) (x:Value),xs[j]?=some x→w.cell? ⟨b,o+j,none⟩=some x):
  ∃ x,(loadVar t ⟨b,o,none⟩).run P w= .ok x w∧RV S m v x:=by
 obtain ⟨inf,d,h1,h2,h3,h4,_⟩:=cS hi
 have ha:=aRe hi
 unfold aGP at h
 cases dW:i.agg with
 | true=>
  simp only[dW] at h
  split at h
  ·rename_i hb
   have e9:=Nat.eq_of_beq_eq_true hb
   simp at h;subst h
   have hl:(xs.take i.size).length=inf.size:=by
    have:=(hv.take i.size).1
    omega
   refine ⟨.agg (xs.take i.size).toArray,?_,(hv.take i.size).agg⟩
   have hld:=run_loadCells_list (P:=P) w ⟨b,o,none⟩ (xs.take i.size) (fun j x hx=>by
    rw[jV]
    rw[List.getElem?_take] at hx
    split at hx
    ·exact hc j x hx
    ·simp at hx)
   rw[hl] at hld
   simp[loadVar,xK h2,←ha,dW,jF h1,hld]
  ·simp at h
 | false=>
  simp only[dW] at h
  cases cs with
  | nil=>simp at h
  | cons c cs=>
   simp at h;subst h
   obtain ⟨x,ys,rfl,hx,_⟩:=hv.cases
   refine ⟨x,?_,hx⟩
   have h0:=hc 0 x rfl
   simp only[Nat.add_zero] at h0
   simp[loadVar,xK h2,←ha,dW,h0]
theorem aBY [Gl] {look:cA} {i:TI} {t:TypeId} {p:V} {v:Value} {r:Res} {c:Nat} (hi:cL P t=some i) (h:yS look i p=some r) (hl:look=m.h) (hR:Rel S m) (hv:RV S m p v):
  ∃ x,(Instr.loadAt t v).run P m.w= .ok x m.w∧cD S m c r x m:=by
 unfold yS at h
 split at h
 ·rename_i id g off
  cases vT:live look id g with
  | none=>simp[vT] at h
  | some o=>
   simp only[vT,Option.bind_eq_some_iff] at h
   obtain ⟨y,hy,hr⟩:=h
   simp[kE] at hr;subst hr
   obtain ⟨ho,_,b,base,i6,rfl⟩:=hv.ptr_live (hl▸vT)
   obtain ⟨xs,hxs,_,hc⟩:=hR.vals ho i6 (hv.ptr_kind (hl▸vT))
   obtain ⟨x,jI,n8⟩:=aDs (w:=m.w) (b:=b) (o:=base+off) hi hy (hxs.drop off) (fun j x hx=>by
    rw[List.getElem?_drop] at hx
    have:=hc _ x hx
    rwa [←Nat.add_assoc] at this)
   refine ⟨x,?_,cD.quiet hR n8⟩
   simp[Instr.loadAt,Instr.sureAddr,jI]
 ·rename_i ds
  simp only[Option.bind_eq_some_iff] at h
  obtain ⟨y,hy,hr⟩:=h
  simp[ret] at hr;subst hr
  cases hv with
  | vref f hf hr=>
   rename_i b off
   obtain ⟨x,jI,n8⟩:=aDs (S:=S) (m:=m) (w:=m.w) (b:=b) (o:=off) (xs:=(List.range ds.length).map f) hi hy
    (jU.map_d (by simp) (fun j d x hd hx=>by
     have hj:j<ds.length:=(List.getElem?_eq_some_iff.1 hd).1
     simp[hj] at hx
     subst hx
     exact hr j d hd))
    (fun j x hx=>by
     have hj:j<ds.length:=by
      have:=(List.getElem?_eq_some_iff.1 hx).1
      simpa using this
     simp[hj] at hx
     subst hx
     exact (hf j ds[j] (by simp[hj])).2)
   refine ⟨x,?_,cD.quiet hR n8⟩
   simp[Instr.loadAt,Instr.sureAddr,jI]
 ·simp at h
def kF (cs:Array Value) (o:Nat) (xs:List Value):Array Value:=(cs.toList.take o++xs++cs.toList.drop (o+xs.length)).toArray
theorem pM {cs:Array Value} {o:Nat} {xs:List Value} (h:o+xs.length≤cs.size):(kF cs o xs).size=cs.size:=by
 simp[kF];omega
theorem f8 {cs:Array Value} {o:Nat} {xs:List Value} (h:o+xs.length≤cs.size) (j:Nat):
  (kF cs o xs)[j]?=if j<o then cs[j]? else if j<o+xs.length then xs[j - o]? else cs[j]?:=by
 simp only[kF,List.getElem?_toArray,List.append_assoc]
 rw[List.getElem?_append]
 have hl:(List.take o cs.toList).length=o:=by simp;omega
 rw[hl]
 split
 ·simp[*]
 ·rw[List.getElem?_append]
  split
  ·rename_i h1 h2;rw[if_pos (by omega)]
  ·rename_i h1 h2
   rw[if_neg (by omega),List.getElem?_drop]
   rw[show o+xs.length+(j - o - xs.length)=j by omega];simp
theorem hH (b o:Nat) (T:TypeId) (fz:Nat×Nat) (hfz:fz.2≤fz.1):∀ (xs:List Value) (i:Nat) (cs:Array Value) (w:World),w.heap[b]?=some (Obj.cells cs T fz)→o+i+xs.length≤cs.size→
  (∀ v∈xs,v.oneCell'=true)→(storeCells ⟨b,o,none⟩ xs i).run P w= .ok () (w.setRow b (kF cs (o+i) xs))
 | [],i,cs,w,hg,hl,_=>by
  have:kF cs (o+i) []=cs:=by simp[kF]
  rw[this]
  have eU:b<w.heap.size:=(Array.getElem?_eq_some_iff.1 hg).1
  have hv:w.heap[b]= .cells cs T fz:=(Array.getElem?_eq_some_iff.1 hg).2
  simp only[storeCells]
  show Result.ok () w=_
  congr 1
  unfold World.setRow
  cases w with
  | mk heap tape drawn os output=>
   congr 1
   apply Array.ext
   ·simp
   ·intro k h1 h2
    simp only[Array.getElem_modify]
    split
    ·rename_i hk;subst hk;simp at hv;simp[hv]
    ·rfl
 | v::rest,i,cs,w,hg,hl,h1=>by
  have hi:o+i<cs.size:=by simp at hl;omega
  have aAN:w.cell? ⟨b,o+i,none⟩=some cs[o+i]:=by simp[World.cell?,hg,hi]
  have aYP:w.frozen? ⟨b,o+i,none⟩=false:=by simp[World.frozen?,hg];omega
  have hst:(store ((⟨b,o,none⟩:Addr).add i) v).run P w= .ok () (w.setRow b (cs.setIfInBounds (o+i) v)):=by
   rw[jV,run_store P w _ v _ (h1 v (by simp)),aAN]
   simp[aYP,setCell_eq_setRow w b (o+i) cs T fz v hg]
  have ih:=hH b o T fz hfz rest (i+1) (cs.setIfInBounds (o+i) v) (w.setRow b (cs.setIfInBounds (o+i) v)) (setRow_heap w b cs _ T fz hg) (by simp at hl ⊢;omega) (fun x hx=>h1 x (by simp[hx]))
  simp only[storeCells,Sem.run_bind,hst,Result.andThen_ok,ih,setRow_setRow]
  congr 2
  apply Array.ext_getElem?
  intro k
  have e1:o+(i+1)+rest.length≤(cs.setIfInBounds (o+i) v).size:=by simp at hl ⊢;omega
  have e2:o+i+(v::rest).length≤cs.size:=hl
  rw[f8 e1,f8 e2]
  simp only[List.length_cons,Array.getElem?_setIfInBounds]
  by_cases hk:k<o+i
  ·simp[hk,show k<o+(i+1) by omega,show ¬ (o+i=k) by omega]
  ·by_cases yE:k=o+i
   ·subst yE
    simp[hi,show ¬ (o+i<o+i) by omega,show o+i<o+(i+1) by omega]
   ·simp only[hk,if_false,show ¬ (k<o+(i+1)) by omega,show ¬ (o+i=k) by omega]
    by_cases hk3:k<o+i+(rest.length+1)
    ·rw[if_pos (by omega),if_pos hk3,show k - (o+i)=(k - (o+(i+1)))+1 by omega];simp
    ·rw[if_neg (by omega),if_neg hk3]
end Go.Ac
end
