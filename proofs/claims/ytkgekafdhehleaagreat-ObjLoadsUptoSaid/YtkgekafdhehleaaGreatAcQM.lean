/- The abstract machine: a region, in the order of the text or in any order that its edges allow. No conditions. -/
import Derived.Test.YtkgekafdhehleaaGreatAcNM
set_option linter.unusedVariables false
set_option linter.unusedSimpArgs false
section
namespace Go.Ac
variable {P:Program}
def aTv [Gl] (S:Nat→Prop) (m:M) (r:CR) (x:Value) (m':M):Prop:=
 Rel S m'∧Evo S m m'∧RV S m' r.v x∧m'.h=r.hp.get∧m'.iss=fun _ g=>g<r.c
def zB (hp:Hp) (n:Nat):Prop:=∀ id,n≤id→hp.get id=none
structure LogOK (hp:Hp) (n c:Nat) (r:CR):Prop where
 le_n:n≤r.n
 le_c:c≤r.c
 top:zB r.hp r.n
 same:∀ id,id<n→id∉r.wl→r.hp.get id=hp.get id
 stay:∀ id,id<n→r.hp.get id=none→hp.get id=none
structure CallOK [Gl] (P:Program) (call:jB):Prop where
 log:∀ {f:FuncId} {vs:List V} {hp:Hp} {n c:Nat} {r:CR},call f vs hp n c=some r→zB hp n→LogOK hp n c r
 ok:∀ {f:FuncId} {vs:List V} {hp:Hp} {n c:Nat} {r:CR},call f vs hp n c=some r→zB hp n→∀ {S:Nat→Prop} {m:M} {xs:List Value},m.h=hp.get→(m.iss=fun _ g=>g<c)→Rel S m→jU S m vs xs→
  Calls P f xs.toArray m.w (fun e w'=>∃ x m',e= .returned x∧m'.w=w'∧aTv S m r x m')
def V.shut1:V→Bool
 | .d _|.con _|.full _|.fn _ []=>true
 | _=>false
def V.shut2:V→Bool
 | .agg cs=>cs.all V.shut1
 | v=>v.shut1
def V.shut:V→Bool
 | .tuple cs=>cs.all V.shut2
 | v=>v.shut2
theorem aIB:∀ (f:Nat) {v:V} {x:D} {r:List Nat},toD fF f v=some (x,r)→v.shut1=true
 | 0,v,x,r,h=>by cases v <;> simp_all [toD,V.shut1]
 | f+1,v,x,r,h=>by
  cases v <;> simp_all [toD,V.shut1]
  simp[live,fF] at h
theorem tE {v w:V} {r:List Nat} (h:hZ fF v=some (w,r)):v.shut1=true:=by
 have gen:∀ v,ofD (toD fF xA v)=some (w,r)→v.shut1=true:=by
  intro v h
  unfold ofD at h
  split at h
  ·rename_i x r hx;exact aIB _ hx
  ·simp at h
 cases v with
 | con v=>rfl
 | fn f cs=>cases cs with
  | nil=>rfl
  | cons c cs=>simp only[hZ] at h;exact gen _ h
 | _=>simp only[hZ] at h;exact gen _ h
theorem wL {f:V→Option (V×List Nat)} {p:V→Bool} (hf:∀ v w r,f v=some (w,r)→p v=true):∀ {vs ws:List V} {r:List Nat},fE f vs=some (ws,r)→vs.all p=true
 | [],_,_,_=>rfl
 | v::l,ws,r,h=>by
  simp only[fE] at h
  split at h
  ·rename_i x a xs b h1 h2
   simp[hf _ _ _ h1]
   simpa using wL hf h2
  ·simp at h
theorem aAv {v w:V} {r:List Nat} (h:nR fF v=some (w,r)):v.shut2=true:=by
 cases v with
 | agg cs=>
  simp only[nR] at h
  split at h
  ·rename_i xs r hx
   simp only[V.shut2]
   exact wL (fun v w r h=>tE h) hx
  ·simp at h
 | _=>simp only[nR] at h;simpa only [V.shut2] using tE h
theorem aEp {v w:V} {r:List Nat} (h:d7 fF v=some (w,r)):v.shut=true:=by
 cases v with
 | tuple cs=>
  simp only[d7] at h
  split at h
  ·rename_i xs r hx
   simp only[V.shut]
   exact wL (fun v w r h=>aAv h) hx
  ·simp at h
 | _=>simp only[d7] at h;simpa only [V.shut] using aAv h
theorem aKM {look:cA}:∀ (f:Nat) {v:V},v.shut1=true→toD look f v=toD fF f v
 | 0,v,h=>by cases v <;> simp_all [toD,V.shut1]
 | f+1,v,h=>by cases v <;> simp_all [toD,V.shut1]
theorem sX {look:cA} {v w:V} {r:List Nat} (h:hZ fF v=some (w,r)):hZ look v=some (w,r):=by
 have hs:=tE h
 cases v with
 | con v=>exact h
 | fn f cs=>cases cs with
  | nil=>exact h
  | cons c cs=>simp[V.shut1] at hs
 | _=>simp only[hZ] at h ⊢;rw[aKM _ hs];exact h
theorem aBE {look:cA} {v w:V} {r:List Nat} (h:nR fF v=some (w,r)):nR look v=some (w,r):=by
 cases v with
 | agg cs=>
  simp only[nR] at h ⊢
  split at h
  ·rename_i xs r hx
   rw[kY hx (fun v w a g1 _=>sX g1)];exact h
  ·simp at h
 | _=>simp only[nR] at h ⊢;exact sX h
theorem aBZ {look:cA} {v w:V} {r:List Nat} (h:hZ look v=some (w,r)):w.shut1=true:=by
 unfold hZ at h
 split at h
 ·simp at h;obtain ⟨rfl,rfl⟩:=h;rfl
 ·simp at h;obtain ⟨rfl,rfl⟩:=h;rfl
 ·unfold ofD at h
  split at h
  ·simp at h;obtain ⟨rfl,rfl⟩:=h;rfl
  ·simp at h
theorem uK {f:V→Option (V×List Nat)} {p:V→Bool} (hf:∀ v w r,f v=some (w,r)→p w=true):∀ {vs ws:List V} {r:List Nat},fE f vs=some (ws,r)→ws.all p=true
 | [],ws,_,h=>by simp[fE] at h;obtain ⟨rfl,rfl⟩:=h;rfl
 | v::l,ws,r,h=>by
  simp only[fE] at h
  split at h
  ·rename_i x a xs b h1 h2
   simp at h;obtain ⟨rfl,rfl⟩:=h
   simp[hf _ _ _ h1]
   simpa using uK hf h2
  ·simp at h
theorem V.shut2_of1 {v:V} (h:v.shut1=true):v.shut2=true:=by cases v <;> first|exact h|(simp[V.shut1] at h)
theorem aIT {look:cA} {v w:V} {r:List Nat} (h:nR look v=some (w,r)):w.shut2=true:=by
 unfold nR at h
 split at h
 ·split at h
  ·rename_i xs r hx
   simp at h;obtain ⟨rfl,rfl⟩:=h
   exact uK (fun v w r h=>aBZ h) hx
  ·simp at h
 ·exact V.shut2_of1 (aBZ h)
theorem zT {look:cA} {v w:V} {r:List Nat} (h:pT fF v=some (w,r)):pT look v=some (w,r):=by
 unfold pT at h ⊢
 split at h
 ·exact h
 ·exact aBE h
theorem aHU {look:cA} {v w:V} {r:List Nat} (h:pT look v=some (w,r)):w.shut2=true:=by
 unfold pT at h
 split at h
 ·simp at h;obtain ⟨rfl,rfl⟩:=h;rfl
 ·exact aIT h
section
variable {S S':Nat→Prop} {m m':M}
theorem RV.shut1 (k:∀ x y,RD m.w (m.av S) x y→RD m'.w (m'.av S') x y) {v:V} {y:Value} (hs:v.shut1=true) (h:RV S m v y):RV S' m' v y:=by
 cases h with
 | d h=>exact .d (k _ _ h)
 | con=>exact .con _
 | full h=>exact .full (k _ _ h)
 | @fn f caps vs hl h=>
  cases caps with
  | nil=>exact .fn hl (fun j x y hx=>by simp at hx)
  | cons c cs=>simp[V.shut1] at hs
 | _=>simp[V.shut1] at hs
theorem RV.shut2 (k:∀ x y,RD m.w (m.av S) x y→RD m'.w (m'.av S') x y) {v:V} {y:Value} (hs:v.shut2=true) (h:RV S m v y):RV S' m' v y:=by
 cases v with
 | agg cs=>
  cases h with
  | agg hl h=>
   simp only[V.shut2,List.all_eq_true] at hs
   exact .agg hl fun j x y hx hy=>(h j x y hx hy).shut1 k (hs x (List.mem_of_getElem? hx))
 | _=>exact RV.shut1 k hs h
theorem RV.shut (k:∀ x y,RD m.w (m.av S) x y→RD m'.w (m'.av S') x y) {v:V} {y:Value} (hs:v.shut=true) (h:RV S m v y):RV S' m' v y:=by
 cases v with
 | tuple cs=>
  cases h with
  | tuple hl h=>
   simp only[V.shut,List.all_eq_true] at hs
   exact .tuple hl fun j x y hx hy=>(h j x y hx hy).shut2 k (hs x (List.mem_of_getElem? hx))
 | _=>exact RV.shut2 k hs h
theorem RD.flat {w w':World} {av av':Nat→Prop} {x:D} {y:Value} (hx:x.flat=true) (h:RD w av x y):RD w' av' x y:=by
 cases h with
 | bool b=>exact .bool b
 | int k n=>exact .int k n
 | str s l h=>exact .str s l h
 | _=>simp[D.flat] at hx
theorem RV.flat1 {v:V} {y:Value} (hs:v.flat1=true) (h:RV S m v y):RV S' m' v y:=by
 cases h with
 | d h=>exact .d (h.flat hs)
 | con=>exact .con _
 | _=>simp[V.flat1] at hs
theorem RV.flat2 {v:V} {y:Value} (hs:v.flat2=true) (h:RV S m v y):RV S' m' v y:=by
 cases v with
 | agg cs=>
  cases h with
  | agg hl h=>
   simp only[V.flat2,List.all_eq_true] at hs
   exact .agg hl fun j x y hx hy=>(h j x y hx hy).flat1 (hs x (List.mem_of_getElem? hx))
 | _=>exact RV.flat1 hs h
theorem RV.flat {v:V} {y:Value} (hs:v.flat=true) (h:RV S m v y):RV S' m' v y:=by
 cases v with
 | tuple cs=>
  cases h with
  | tuple hl h=>
   simp only[V.flat,List.all_eq_true] at hs
   exact .tuple hl fun j x y hx hy=>(h j x y hx hy).flat2 (hs x (List.mem_of_getElem? hx))
 | _=>exact RV.flat2 hs h
theorem Rel.grown [Gl] (hR:Rel S m) {w':World} (gK:m.w.heap.size≤w'.heap.size) (dK:∀ b,b<m.w.heap.size→w'.heap[b]?=m.w.heap[b]?) (qC:w'.os=m.w.os∧w'.output=m.w.output∧∀ a,w'.frozen? a=m.w.frozen? a):
  Rel S { m with w:=w' }∧Evo S m { m with w:=w' }:=by
 have e:Evo S m { m with w:=w' }:={
  rest:=qC
  iss:=fun _ _ h=>h
  size:=gK
  shape:=fun b cs T fz h=>⟨cs,fz,by rw[dK b (iS h)];exact h,rfl⟩
  keepS:=fun b h _=>dK b h
  keep:=fun b h hn=>⟨hn,dK b h⟩
  live:=fun id o h _=>⟨o,h,rfl,rfl,Nat.le_refl _,rfl⟩
  old:=fun id o b x h1 h2 _=>⟨o,x,h1,h2⟩ }
 refine ⟨⟨fun g=>(hR.glob g).mono e,hR.iss,hR.none_,fun id o b base ho ha=>?_,hR.inj,fun b hb=>Nat.lt_of_lt_of_le (hR.sub b hb) gK⟩,e⟩
 obtain ⟨ob0,hr⟩:=(hR.obj id o b base ho ha).2.some
 exact hR.other e ho ha (dK b (iS hr))
theorem Rel.less [Gl] (hR:Rel S m) {h':Nat→Option Ob} (hh:∀ id o,h' id=some o→m.h id=some o):
  Rel S { m with h:=h' }∧Evo S m { m with h:=h' }:=by
 have e:Evo S m { m with h:=h' }:={
  rest:=⟨rfl,rfl,fun _=>rfl⟩
  iss:=fun _ _ h=>h
  size:=Nat.le_refl _
  shape:=fun b cs T fz h=>⟨cs,fz,h,rfl⟩
  keepS:=fun b h _=>rfl
  keep:=fun b h hn=>⟨fun hx=>hn (by
   rcases hx with hx|⟨id,o,x,h1,h2,h3⟩
   ·exact .inl hx
   ·exact .inr ⟨id,o,x,hh _ _ h1,h2,h3⟩),rfl⟩
  live:=fun id o h _=>⟨o,hh _ _ h,rfl,rfl,Nat.le_refl _,rfl⟩
  old:=fun id o b x h1 h2 _=>⟨o,x,hh _ _ h1,h2⟩ }
 refine ⟨⟨fun g=>(hR.glob g).mono e,fun id o h=>hR.iss id o (hh _ _ h),fun id o h=>hR.none_ id o (hh _ _ h),fun id o b base ho ha=>?_,fun i j oi oj b x y hi hj=>hR.inj i j oi oj b x y (hh _ _ hi) (hh _ _ hj),hR.sub⟩,e⟩
 exact hR.other e (hh _ _ ho) ha rfl
end
theorem aDW {F:Nat→Option Ob}:∀ {l:List (Nat×Ob)},(∀ p∈l,F p.1=some p.2)→∀ (h:Nat→Option Ob) (id:Nat),qU h l id=if id∈l.map (·.1) then F id else h id
 | [],_,h,id=>by simp[qU]
 | (k,o)::r,hF,h,id=>by
  simp only[qU]
  rw[aDW (fun p hp=>hF p (by simp[hp]))]
  have hk:=hF (k,o) (by simp)
  by_cases hm:id∈r.map (·.1)
  ·rw[if_pos hm,if_pos (by simp only[List.map_cons,List.mem_cons];exact .inr hm)]
  ·rw[if_neg hm]
   by_cases c8:id=k
   ·subst c8;simp[upd];exact hk.symm
   ·rw[b9 _ _ c8,if_neg (by simp only[List.map_cons,List.mem_cons,not_or];exact ⟨c8,hm⟩)]
theorem nG {look:cA}:∀ {l:List Nat} {p:Nat×Ob},p∈kL look l↔p.1∈l∧look p.1=some p.2
 | [],p=>by simp[kL]
 | id::r,p=>by
  simp only[kL]
  cases h:look id with
  | none=>
   simp only[nG,List.mem_cons]
   constructor
   ·rintro ⟨h1,h2⟩;exact ⟨.inr h1,h2⟩
   ·rintro ⟨h1|h1,h2⟩
    ·rw[h1,h] at h2;cases h2
    ·exact ⟨h1,h2⟩
  | some o=>
   simp only[List.mem_cons,nG]
   constructor
   ·rintro (rfl|⟨h1,h2⟩)
    ·exact ⟨.inl rfl,h⟩
    ·exact ⟨.inr h1,h2⟩
   ·rintro ⟨h1|h1,h2⟩
    ·left;obtain ⟨a,b⟩:=p;simp only at h1 h2;subst h1;rw[h] at h2;cases h2;rfl
    ·exact .inr ⟨h1,h2⟩
theorem aBa {look:cA} {l:List Nat} {id:Nat}:id∈(kL look l).map (·.1)↔id∈l∧∃ o,look id=some o:=by
 simp only[List.mem_map]
 constructor
 ·rintro ⟨p,hp,rfl⟩;obtain ⟨h1,h2⟩:=nG.1 hp;exact ⟨h1,p.2,h2⟩
 ·rintro ⟨h1,o,h2⟩;exact ⟨(id,o),nG.2 ⟨h1,h2⟩,rfl⟩
theorem aET {look:cA} (h:Nat→Option Ob) (l:List Nat) (id:Nat):qU h (kL look l) id=if id∈l∧(look id).isSome=true then look id else h id:=by
 rw[aDW (F:=look) (fun p hp=>(nG.1 hp).2)]
 by_cases hc:id∈l∧(look id).isSome=true
 ·rw[if_pos hc,if_pos (aBa.2 ⟨hc.1,Option.isSome_iff_exists.1 hc.2⟩)]
 ·rw[if_neg hc,if_neg (fun h=>hc ⟨(aBa.1 h).1,Option.isSome_iff_exists.2 (aBa.1 h).2⟩)]
theorem kV (n c:Nat):∀ l:List V,dQ n c l=l.map (cX n c)
 | []=>by simp[dQ]
 | v::r=>by simp[dQ,kV n c r]
def iK (n c:Nat) (o:Ob):Ob:=⟨o.gen+c,o.ro,dQ n c o.cells⟩
def aAY (n c:Nat) (h0 h1:Nat→Option Ob):Nat→Option Ob:=fun id=>
 if n≤id∧(h0 (id - n)).isSome=true then (h0 (id - n)).map (iK n c) else h1 id
theorem aHC {n c N:Nat} {hp:Hp} (ht:zB hp N) (h:Nat→Option Ob):qU h (iI n c (kL hp.get (List.range N)))=aAY n c hp.get h:=by
 funext id
 rw[aDW (F:=fun id=>if n≤id then (hp.get (id - n)).map (iK n c) else none)]
 ·unfold aAY
  have aVX:id∈(iI n c (kL hp.get (List.range N))).map (·.1)↔n≤id∧(hp.get (id - n)).isSome=true:=by
   simp only[iI,List.map_map,List.mem_map,Function.comp]
   constructor
   ·rintro ⟨p,bB,rfl⟩
    obtain ⟨h1,h2⟩:=nG.1 bB
    simp[h2]
   ·rintro ⟨h1,h2⟩
    obtain ⟨o,ho⟩:=Option.isSome_iff_exists.1 h2
    refine ⟨(id - n,o),nG.2 ⟨?_,ho⟩,by simp;omega⟩
    rw[List.mem_range]
    rcases Nat.lt_or_ge (id - n) N with h|h
    ·exact h
    ·rw[ht _ h] at ho;cases ho
  by_cases hc:n≤id∧(hp.get (id - n)).isSome=true
  ·rw[if_pos hc,if_pos (aVX.2 hc),if_pos hc.1]
  ·rw[if_neg hc,if_neg (fun h=>hc (aVX.1 h))]
 ·intro p bB
  simp only[iI,List.mem_map] at bB
  obtain ⟨q,hq,rfl⟩:=bB
  obtain ⟨h1,h2⟩:=nG.1 hq
  simp[h2,iK]
theorem sN (n c:Nat) (o:Ob):jH (iK n c o).cells=jH o.cells:=by
 unfold iK
 rw[kV]
 cases h:o.cells with
 | nil=>rfl
 | cons a r=>
  cases r with
  | nil=>cases a <;> rfl
  | cons b s=>cases a <;> rfl
section
variable {S:Nat→Prop} {m:M}
def gQ (n c k:Nat) (m1 m0:M):M where
 at_:=fun id=>if n≤id∧(m0.h (id - n)).isSome=true then m0.at_ (id - n) else m1.at_ id
 h:=aAY n c m0.h m1.h
 iss:=fun id g=>m1.iss id g∨(c≤g∧g<c+k)
 w:=m0.w
structure Apart [Gl] (S:Nat→Prop) (m1 m0:M) (k:Nat):Prop where
 rel:Rel (m1.av S) m0
 iss:m0.iss=fun _ g=>g<k
 size:m1.w.heap.size≤m0.w.heap.size
 row:∀ b,b<m1.w.heap.size→m0.w.heap[b]?=m1.w.heap[b]?
 new:∀ id o b x,m0.h id=some o→m0.at_ id=some (b,x)→m1.w.heap.size≤b
 rest:m0.w.os=m1.w.os∧m0.w.output=m1.w.output∧∀ a,m0.w.frozen? a=m1.w.frozen? a
theorem Rel.av_lt [Gl] (hR:Rel S m) {b:Nat} (h:m.av S b):b<m.w.heap.size:=by
 rcases h with h|⟨id,o,x,h1,h2,h3⟩
 ·exact hR.sub b h
 ·obtain ⟨ob0,hr⟩:=(hR.obj id o b x h1 h3).2.some
  exact iS hr
theorem iY {n c:Nat} {h0 h1:Nat→Option Ob} {id:Nat} {o:Ob} (h:aAY n c h0 h1 id=some o):
  (n≤id∧∃ o0,h0 (id - n)=some o0∧o=iK n c o0)∨(¬ (n≤id∧(h0 (id - n)).isSome=true)∧h1 id=some o):=by
 unfold aAY at h
 split at h
 ·rename_i hc
  obtain ⟨o0,ho⟩:=Option.isSome_iff_exists.1 hc.2
  rw[ho] at h;simp at h
  exact .inl ⟨hc.1,o0,ho,h.symm⟩
 ·rename_i hc;exact .inr ⟨hc,h⟩
theorem zD {n c k:Nat} {m1 m0:M} {b:Nat} (h:(gQ n c k m1 m0).av S b):m0.av (m1.av S) b:=by
 rcases h with h|⟨id,o,x,h1,h2,h3⟩
 ·exact .inl (.inl h)
 ·rcases iY h1 with ⟨hn,o0,ho,rfl⟩|⟨hn,ho⟩
  ·simp only[gQ] at h3
   rw[if_pos ⟨hn,by simp[ho]⟩] at h3
   exact .inr ⟨id - n,o0,x,ho,h2,h3⟩
  ·simp only[gQ] at h3
   rw[if_neg hn] at h3
   exact .inl (.inr ⟨id,o,x,ho,h2,h3⟩)
theorem RV.shift [Gl] {n c k:Nat} {m1 m0:M} (h1:Rel S m1) (ha:Apart S m1 m0 k) (hf:∀ id g,c≤g→g<c+k→¬ m1.iss id g) {v:V} {y:Value} (h:RV (m1.av S) m0 v y):
  RV S (gQ n c k m1 m0) (cX n c v) y:=by
 have kd:∀ x y,RD m0.w (m0.av (m1.av S)) x y→RD (gQ n c k m1 m0).w ((gQ n c k m1 m0).av S) x y:=
  fun x y h=>h.mono fun b _ hb=>⟨fun hx=>hb (zD hx),rfl⟩
 have lists:∀ {cs:List V} {vs:Array Value},cs.length=vs.size→(∀ (j:Nat) (x:V) (y:Value),cs[j]?=some x→vs[j]?=some y→RV S (gQ n c k m1 m0) (cX n c x) y)→
   (dQ n c cs).length=vs.size∧∀ (j:Nat) (x:V) (y:Value),(dQ n c cs)[j]?=some x→vs[j]?=some y→RV S (gQ n c k m1 m0) x y:=by
  intro cs vs hl ih
  rw[kV]
  refine ⟨by simpa using hl,fun j x y hx hy=>?_⟩
  rw[List.getElem?_map] at hx
  cases hc:cs[j]? with
  | none=>simp[hc] at hx
  | some z=>simp[hc] at hx;subst hx;exact ih j z y hc hy
 have obj:∀ (id g:Nat),m0.iss id g→∀ o,(gQ n c k m1 m0).h (id+n)=some o→o.gen=g+c→∃ o0,m0.h id=some o0∧o=iK n c o0∧o0.gen=g∧(gQ n c k m1 m0).at_ (id+n)=m0.at_ id:=by
  intro id g hi o ho hg
  rcases iY ho with ⟨hn,o0,h0,rfl⟩|⟨hn,h0⟩
  ·rw[Nat.add_sub_cancel] at h0
   refine ⟨o0,h0,rfl,by simp only[iK] at hg;omega,?_⟩
   simp[gQ,h0]
  ·have:=h1.iss _ _ h0
   rw[ha.iss] at hi
   exact absurd this (by rw[hg];exact hf _ _ (by omega) (by omega))
 induction h with
 | any v=>simp only[cX];exact .any v
 | undef=>simp only[cX];exact .undef
 | d h=>simp only[cX];exact .d (kd _ _ h)
 | con v=>simp only[cX];exact .con v
 | full h=>simp only[cX];exact .full (kd _ _ h)
 | agg hl h ih=>simp only[cX];exact .agg (lists hl ih).1 (lists hl ih).2
 | @ptr id g off v g1 g2 g3=>
  simp only[cX]
  refine .ptr (.inr ?_) g2 fun o ho hg=>?_
  ·rw[ha.iss] at g1;omega
  ·obtain ⟨o0,q1,rfl,q2,q3⟩:=obj id g g1 o ho hg
   obtain ⟨q6,b,base,q4,q5⟩:=g3 o0 q1 q2
   exact ⟨(sN n c o0).trans q6,b,base,q3.trans q4,q5⟩
 | @it id g v g1 g2 g3=>
  simp only[cX]
  refine .it (.inr ?_) g2 fun o ho hg=>?_
  ·rw[ha.iss] at g1;omega
  ·obtain ⟨o0,q1,rfl,q2,q3⟩:=obj id g g1 o ho hg
   obtain ⟨q6,b,q4,q5⟩:=g3 o0 q1 q2
   exact ⟨(sN n c o0).trans q6,b,q3.trans q4,q5⟩
 | @mp id g v g1 g2 g3=>
  simp only[cX]
  refine .mp (.inr ?_) g2 fun o ho hg=>?_
  ·rw[ha.iss] at g1;omega
  ·obtain ⟨o0,q1,rfl,q2,q3⟩:=obj id g g1 o ho hg
   obtain ⟨q6,b,q4,q5⟩:=g3 o0 q1 q2
   exact ⟨(sN n c o0).trans q6,b,q3.trans q4,q5⟩
 | @osl id g off len sz cap v g1 g2 g3=>
  simp only[cX]
  refine .osl (.inr ?_) g2 fun o ho hg=>?_
  ·rw[ha.iss] at g1;omega
  ·obtain ⟨o0,q1,rfl,q2,q3⟩:=obj id g g1 o ho hg
   obtain ⟨q6,this⟩:=g3 o0 q1 q2
   refine ⟨(sN n c o0).trans q6,?_⟩
   unfold iA at this ⊢
   rw[q3]
   have hl:(iK n c o0).cells.length=o0.cells.length:=by simp[iK,kV]
   rw[hl]
   exact this
 | vref f hf' hr=>
  simp only[cX]
  exact .vref f (fun j d hj=>⟨fun hx=>(hf' j d hj).1 (zD hx),(hf' j d hj).2⟩) (fun j d hj=>kd _ _ (hr j d hj))
 | fn hl h ih=>simp only[cX];exact .fn (lists hl ih).1 (lists hl ih).2
 | tuple hl h ih=>simp only[cX];exact .tuple (lists hl ih).1 (lists hl ih).2
theorem aIj (n c:Nat) (v:V):(cX n c v).one=v.one:=by cases v <;> simp[cX,V.one]
theorem aJc [Gl] {n c k:Nat} {m1 m0:M} (h1:Rel S m1) (ha:Apart S m1 m0 k) (hf:∀ id g,c≤g→g<c+k→¬ m1.iss id g):
  Rel S (gQ n c k m1 m0)∧Evo S m1 (gQ n c k m1 m0):=by
 have at1:∀ {id:Nat},¬ (n≤id∧(m0.h (id - n)).isSome=true)→(gQ n c k m1 m0).at_ id=m1.at_ id:=fun h=>by simp only[gQ];rw[if_neg h]
 have at0:∀ {id:Nat} {o0:Ob},n≤id→m0.h (id - n)=some o0→(gQ n c k m1 m0).at_ id=m0.at_ (id - n):=fun hn ho=>by simp only[gQ];rw[if_pos ⟨hn,by simp[ho]⟩]
 have lt1:∀ {id:Nat} {o:Ob} {b x:Nat},m1.h id=some o→m1.at_ id=some (b,x)→b<m1.w.heap.size:=fun ho hx=>by
  obtain ⟨ob0,hr⟩:=(h1.obj _ _ _ _ ho hx).2.some
  exact iS hr
 have e:Evo S m1 (gQ n c k m1 m0):={
  rest:=ha.rest
  iss:=fun id g h=> .inl h
  size:=ha.size
  shape:=fun b cs T fz h=>⟨cs,fz,by show m0.w.heap[b]?=_;rw[ha.row b (iS h)];exact h,rfl⟩
  keepS:=fun b h _=>ha.row b h
  keep:=fun b hb hn=>⟨fun hx=>by
   rcases hx with hx|⟨id,o,x,g1,g2,g3⟩
   ·exact hn (.inl hx)
   ·rcases iY g1 with ⟨q1,o0,q2,rfl⟩|⟨q1,q2⟩
    ·rw[at0 q1 q2] at g3
     have:=ha.new _ _ _ _ q2 g3
     omega
    ·rw[at1 q1] at g3
     exact hn (.inr ⟨id,o,x,q2,g2,g3⟩),ha.row b hb⟩
  live:=fun id o' ho hg=>by
   rcases iY ho with ⟨q1,o0,q2,rfl⟩|⟨q1,q2⟩
   ·have:=ha.rel.iss _ _ q2
    rw[ha.iss] at this
    exact absurd hg (hf _ _ (by simp[iK]) (by simp[iK];omega))
   ·exact ⟨o',q2,rfl,at1 q1,Nat.le_refl _,rfl⟩
  old:=fun id o b x ho hx hb=>by
   rcases iY ho with ⟨q1,o0,q2,rfl⟩|⟨q1,q2⟩
   ·rw[at0 q1 q2] at hx
    have:=ha.new _ _ _ _ q2 hx
    omega
   ·rw[at1 q1] at hx;exact ⟨o,x,q2,hx⟩ }
 refine ⟨⟨fun g=>(h1.glob g).mono e,fun id o ho=>?_,fun id o ho hx=>?_,fun id o b base ho hx=>?_,fun i j oi oj b x y hi hj hx hy=>?_,fun b hb=>Nat.lt_of_lt_of_le (h1.sub b hb) ha.size⟩,e⟩
 ·rcases iY ho with ⟨q1,o0,q2,rfl⟩|⟨q1,q2⟩
  ·have:=ha.rel.iss _ _ q2
   rw[ha.iss] at this
   exact .inr (by simp[iK];omega)
  ·exact .inl (h1.iss _ _ q2)
 ·rcases iY ho with ⟨q1,o0,q2,rfl⟩|⟨q1,q2⟩
  ·rw[at0 q1 q2] at hx
   have:=ha.rel.none_ _ _ q2 hx
   simp[iK,this,dQ]
  ·rw[at1 q1] at hx;exact h1.none_ _ _ q2 hx
 ·rcases iY ho with ⟨q1,o0,q2,rfl⟩|⟨q1,q2⟩
  ·rw[at0 q1 q2] at hx
   obtain ⟨g1,gr⟩:=ha.rel.obj _ _ _ _ q2 hx
   refine ⟨fun hS=>g1 (.inl hS),?_⟩
   have gr0:=gr
   unfold pA at gr
   split at gr
   ·rename_i s pos sC
    have:(iK n c o0).cells=[.itc s pos]:=by simp[iK,sC,dQ,cX]
    rw[this];exact gr
   ·rename_i ks vs bs clock sC
    have:(iK n c o0).cells=[.mpc ks (dQ n c vs) bs clock]:=by simp[iK,sC,dQ,cX]
    rw[this]
    obtain ⟨gb,es,ge,gm⟩:=gr
    refine ⟨gb,es,ge,gm.lk,by rw[kV];simpa using gm.lv,gm.lb,fun j k x hk hx=>(gm.key j k x hk hx).mono fun b _ hb=>⟨fun hx=>hb (zD hx),rfl⟩,fun j v x hv hx=>?_,gm.born⟩
    rw[kV,List.getElem?_map] at hv
    cases hc:vs[j]? with
    | none=>simp[hc] at hv
    | some u=>simp[hc] at hv;subst hv;exact (gm.val j u x hc hx).shift h1 ha hf
   ·rename_i mid mg since seen last sC
    have:(iK n c o0).cells=[.itm (mid+n) (mg+c) since seen last]:=by simp[iK,sC,dQ,cX]
    rw[this]
    obtain ⟨gb,bm,ge,gm⟩:=gr
    exact ⟨gb,bm,ge,gm.shift h1 ha hf⟩
   obtain ⟨cs,T,fz,g2,g3,g4,g5⟩:=gr
   refine l8.row ⟨cs,T,fz,g2,g3,by simpa [iK,kV] using g4,fun j v hv=>?_⟩
   simp only[iK,kV,List.getElem?_map] at hv
   cases hc:o0.cells[j]? with
   | none=>simp[hc] at hv
   | some u=>
    simp[hc] at hv;subst hv
    obtain ⟨t1,z,t2,t3⟩:=g5 j u hc
    exact ⟨(aIj n c u).trans t1,z,t2,t3.shift h1 ha hf⟩
  ·rw[at1 q1] at hx
   exact h1.other e q2 hx (ha.row b (lt1 q2 hx))
 ·rcases iY hi with ⟨p1,o0,p2,rfl⟩|⟨p1,p2⟩ <;> rcases iY hj with ⟨q1,o1,q2,rfl⟩|⟨q1,q2⟩
  ·rw[at0 p1 p2] at hx;rw[at0 q1 q2] at hy
   have:=ha.rel.inj _ _ _ _ b x y p2 q2 hx hy
   omega
  ·rw[at0 p1 p2] at hx;rw[at1 q1] at hy
   have h3:=ha.new _ _ _ _ p2 hx
   have h4:=lt1 q2 hy
   omega
  ·rw[at1 p1] at hx;rw[at0 q1 q2] at hy
   have h3:=ha.new _ _ _ _ q2 hy
   have h4:=lt1 p2 hx
   omega
  ·rw[at1 p1] at hx;rw[at1 q1] at hy
   exact h1.inj _ _ _ _ b x y p2 q2 hx hy
def s7 (w:World):M:=⟨fun _=>none,fun _=>none,fun _ g=>g<0,w⟩
theorem aAl {T:Nat→Prop} {w:World} {b:Nat}:(s7 w).av T b↔T b:=by
 constructor
 ·rintro (h|⟨id,o,x,h1,_⟩)
  ·exact h
  ·simp[s7] at h1
 ·exact .inl
theorem aJx [Gl] {S:Nat→Prop} {m:M} (hR:Rel S m) (g:Nat):RV (m.av S) (s7 m.w) (Gl.gv g) (.pointer (some ⟨g,0,none⟩)):=by
 have h:=hR.glob g
 rcases Gl.ok g with hg|⟨ds,hg⟩
 ·rw[hg];exact .any _
 ·rw[hg] at h ⊢
  cases h with
  | vref f h1 h2=>
   refine .vref f (fun j d hd=>⟨fun hb=>(h1 j d hd).1 (aAl.1 hb),(h1 j d hd).2⟩) fun j d hd=>?_
   exact (h2 j d hd).mono fun b _ hb=>⟨fun hx=>hb (aAl.1 hx),rfl⟩
theorem aLa [Gl] {T:Nat→Prop} {w:World} (hgl:∀ g,RV T (s7 w) (Gl.gv g) (.pointer (some ⟨g,0,none⟩))) (h:∀ b,T b→b<w.heap.size):Rel T (s7 w):=
 ⟨hgl,fun id o h=>by simp[s7] at h,fun id o h=>by simp[s7] at h,fun id o b base h=>by simp[s7] at h,fun i j oi oj b x y h=>by simp[s7] at h,h⟩
theorem aND [Gl] {m1 m0:M} {k:Nat} (h1:Rel S m1) (h2:Rel (m1.av S) m0) (h3:Evo (m1.av S) (s7 m1.w) m0) (h4:m0.iss=fun _ g=>g<k):Apart S m1 m0 k:=by
 refine ⟨h2,h4,h3.size,fun b hb=>?_,fun id o b x ho hx=>?_,h3.rest⟩
 ·by_cases hS:m1.av S b
  ·exact h3.keepS b hb hS
  ·exact (h3.keep b hb (fun h=>hS (aAl.1 h))).2
 ·rcases Nat.lt_or_ge b m1.w.heap.size with h|h
  ·obtain ⟨o0,y,g1,_⟩:=h3.old id o b x ho hx h
   simp[s7] at g1
  ·exact h
theorem aHg [Gl] {cfg:Cfg} {call:jB} (hc:CallOK P call) {hp:Hp} {n c:Nat} {f:FuncId} {vs:List V} {xs:List Value} {r:Res} (h:kH cfg call hp n c f vs=some r) (ht:zB hp n)
  (dW:fO hp.get m.h r.rd) (gW:r.all=true→m.h=hp.get∧m.iss=fun _ g=>g<c) (hf:mO m c r.dc) (hR:Rel S m) (hv:jU S m vs xs):
  Calls P f xs.toArray m.w (fun e w'=>∃ x m',e= .returned x∧m'.w=w'∧cD S m c r x m'):=by
 unfold kH at h
 split at h
 ·rename_i ws ids gI
  split at h
  ·rename_i r0 hr0
   -- the arguments,closed
   have aGA:r.rd=ids:=by
    split at h <;> (simp only[Option.some.injEq] at h;subst h;rfl)
   rw[aGA] at dW
   have uF:mT hp.get ids=mT m.h ids:=wM dW
   have aPi:lK m.h vs=some (ws,ids):=by
    by_cases vX:cfg.thr f=true
    ·rw[if_pos vX] at gI
     exact kY gI fun v w a g1 g2=>zT g1
    ·rw[if_neg vX] at gI
     exact kY gI fun v w a g1 g2=>aJi g1 (dW.mono g2)
   obtain ⟨m1,e1,hb⟩:=ros hR ids
   have hws:jU S m1 ws xs:=kA (fun g1 g2 g3=>aGr hR g1 g2 hb g3) aPi hv (fun i hi=>hi)
   have hsh:ws.all V.shut2=true:=uK (fun v w r h=>aHU h) aPi
   have aYZ:jU (m1.av S) (s7 m1.w) ws xs:=by
    refine ⟨hws.1,fun j a b ha bP=>(hws.2 j a b ha bP).shut2 (fun x y g=>?_) (List.all_eq_true.1 hsh a (List.mem_of_getElem? ha))⟩
    exact g.mono fun b _ hn=>⟨fun hx=>hn (aAl.1 hx),rfl⟩
   have aAP:=hc.ok hr0 (fun _ _=>rfl) (S:=m1.av S) (m:=s7 m1.w) rfl rfl (aLa (aJx hb.rel) fun b bP=>hb.rel.av_lt bP) aYZ
   rw[show (s7 m1.w).w=m.w from hb.w] at aAP
   refine Calls.mono aAP ?_
   rintro e w' ⟨x,m0,rfl,rfl,k1,k2,k3,k4,k5⟩
   have ha:=aND hb.rel k1 k2 k5
   split at h
   ·rename_i q hq
    simp only[Option.some.injEq] at h;subst h
    cases hfl:r0.v.flat with
    | true=>
     obtain ⟨g1,g2⟩:=hR.grown (w':=m0.w) (by rw[←hb.w];exact ha.size) (fun b bP=>by rw[←hb.w] at bP ⊢;exact ha.row b bP) (by rw[←hb.w];exact ha.rest)
     exact ⟨x,{ m with w:=m0.w },rfl,rfl,g1,g2,k3.flat hfl,by simp[hfl,qU],(jS m c).symm⟩
    | false=>
     obtain ⟨g1,g2⟩:=hb.rel.grown ha.size ha.row ha.rest
     refine ⟨x,{ m1 with w:=m0.w },rfl,rfl,g1,hb.evo.trans g2,k3.shut (fun x y g=>?_) (aEp hq),?_,?_⟩
     ·exact g.mono fun b _ hn=>⟨fun hx=>hn (.inl hx),rfl⟩
     ·simp only[hfl];rw[uF];exact e1
     ·simp only[hb.iss];exact (jS m c).symm
   ·simp only[Option.some.injEq] at h;subst h
    have hf1:∀ id g,c≤g→g<c+r0.c→¬ m1.iss id g:=fun id g q1 q2=>by rw[hb.iss];exact hf id g q1 q2
    obtain ⟨g1,g2⟩:=aJc (n:=n) hb.rel ha hf1
    refine ⟨x,gQ n c r0.c m1 m0,rfl,rfl,g1,hb.evo.trans g2,k3.shift hb.rel ha hf1,?_,?_⟩
    ·show aAY n c m0.h m1.h=_
     rw[wQ,uF,←e1,aHC (hc.log hr0 (fun _ _=>rfl)).top,k4]
    ·show (fun id g=>m1.iss id g∨_)=_
     rw[hb.iss]
  ·simp at h
 ·rename_i gI
  split at h
  ·rename_i r0 hr0
   simp only[Option.some.injEq] at h;subst h
   obtain ⟨hh,hi⟩:=gW rfl
   obtain ⟨l1,l2,l3,l4,l5⟩:=hc.log hr0 ht
   refine Calls.mono (hc.ok hr0 ht hh hi hR hv) ?_
   rintro e w' ⟨x,m',rfl,rfl,k1,k2,k3,k4,k5⟩
   refine ⟨x,m',rfl,rfl,k1,k2,k3,?_,?_⟩
   ·rw[k4]
    funext id
    rw[aET,hh]
    by_cases hm:id∈r0.wl++(List.range (r0.n - n)).map (n+·)
    ·cases hg:r0.hp.get id with
     | some o=>simp[hm]
     | none=>
      simp
      rcases Nat.lt_or_ge id n with eU|hge
      ·exact (l5 id eU hg).symm
      ·exact (ht id hge).symm
    ·rw[if_neg (fun h=>hm h.1)]
     simp only[List.mem_append,List.mem_map,List.mem_range,not_or,not_exists,not_and] at hm
     rcases Nat.lt_or_ge id n with eU|hge
     ·exact l4 id eU hm.1
     ·rw[ht id hge]
      refine l3 id ?_
      rcases Nat.lt_or_ge id r0.n with h1|h1
      ·exact absurd (show n+(id - n)=id by omega) (hm.2 (id - n) (by omega))
      ·exact h1
   ·rw[k5,hi]
    funext id g
    apply propext
    show g<r0.c↔g<c∨(c≤g∧g<c+(r0.c - c))
    omega
  ·simp at h
end
end Go.Ac
end
section
namespace Go.Ac
variable {P:Program}
theorem aIZ {fz fs:Bool} {ρ ρ':Operand→V} {look:cA} {n c:Nat} {op:Op} (h:∀ x∈op.operands,ρ x=ρ' x):step P fz fs ρ look n c op=step P fz fs ρ' look n c op:=by
 have pairs:∀ ps:Array (Nat×Operand),(∀ x∈(ps.toList.map (·.2)).toArray,ρ x=ρ' x)→(ps.toList.map fun p=>(p.1,ρ p.2))=ps.toList.map fun p=>(p.1,ρ' p.2):=fun ps hp=>
  List.map_congr_left fun p hm=>by rw[hp p.2 (by simp only[List.mem_toArray];exact List.mem_map_of_mem hm)]
 cases op <;> simp only[Op.operands] at h <;> simp only[step]
 case build t ps=>rw[pairs ps h]
 case buildSlice t n ps=>rw[pairs ps h]
 case makeFunc fn first caps=>
  cases fn <;> try rfl
  simp only[step]
  rw[List.map_congr_left (f:=ρ) (g:=ρ') (l:=caps.toList) fun x hx=>h x (by simp at hx ⊢;exact .inr hx)]
 case call cl=>
  obtain ⟨callee,args,ts⟩:=cl
  cases callee <;> try rfl
  simp only[step]
  rw[List.map_congr_left (f:=ρ) (g:=ρ') (l:=args.toList) fun x hx=>h x (by simp[Call.operands] at hx ⊢;exact hx)]
 case makeMap t q=>cases q <;> rfl
 case next x b=>cases b <;> simp_all
 case slice t x lo hi mx=>cases lo <;> cases hi <;> cases mx <;> simp_all
 all_goals (first|rfl|(simp_all;done))
def aGT (S:Nat→Prop) (m:M) (e:oH) (a:Act) (ts:List Nat):Prop:=∀ t∈ts,RV S m (e.get t) (a.tmps.getD t undef)
section
variable {S:Nat→Prop} {m:M}
theorem aCh {o:Oper} {all:List Oper} {t:Nat} (h:Operand.tmp t∈o.op.operands):t∈pG o all:=
 List.mem_append_left _ (List.mem_filterMap.2 ⟨.tmp t,by simpa using h,rfl⟩)
theorem aDH [Gl] {e:oH} {a:Act} {ts:List Nat} (hR:Rel S m) (he:aGT S m e a ts) {x:Operand} (hx:∀ t,x= .tmp t→t∈ts):RV S m (gL e x) (a.eval x):=by
 cases x with
 | tmp t=>exact he t (hx t rfl)
 | const v=>exact aES v
 | global g=>exact hR.glob g
 | func f=>exact .fn rfl (fun j x y hx=>by simp at hx)
theorem aDL (b:Bool):undef≠Value.bool b:=by unfold undef;intro h;cases h
theorem yU {ops:Array Oper} {o:Oper} {e:oH} {a:Act} {b:Bool} (h:xV ops.toList e o=some b) (he:aGT S m e a (pG o ops.toList)):
  Region.wanted o (yielded ops a.tmps)=b:=by
 unfold xV at h
 unfold Region.wanted
 cases hg:o.guard with
 | none=>simp[hg] at h;subst h;rfl
 | some gw=>
  obtain ⟨j,want⟩:=gw
  simp only[hg,Array.getElem?_toList] at h
  cases hj:ops[j]? with
  | none=>simp[hj] at h
  | some g=>
   simp only[hj] at h
   cases hd:g.dst with
   | none=>simp[hd] at h
   | some d=>
    simp only[hd] at h
    have yY:d∈pG o ops.toList:=List.mem_append_right _ (by simp[hg,hj,hd])
    have hr:=he d yY
    have hy:yielded ops a.tmps j=match a.tmps[d]? with|some (.bool b)=>some b|_=>none:=by simp[yielded,hj,hd];rfl
    simp only[hy]
    split at h
    ·rename_i q hq
     simp at h;subst h
     rw[hq] at hr
     cases hr with
     | d hr=>
      cases htd:a.tmps[d]? with
      | none=>
       have:a.tmps.getD d undef=undef:=by simp[htd]
       rw[this] at hr
       generalize hu:undef=u at hr
       cases hr
       exact absurd hu (aDL _)
      | some v=>
       have:a.tmps.getD d undef=v:=by simp[htd]
       rw[this] at hr
       cases hr
       simp
    ·rename_i hq
     simp at h;subst h
     rw[hq] at hr
     cases htd:a.tmps[d]? with
     | none=>simp
     | some v=>
      have:a.tmps.getD d undef=v:=by simp[htd]
      rw[this] at hr
      cases hr
      simp[undef]
    ·simp at h
def aCK (P:Program):Prop:=∀ (f:FuncId) (fn:Func),P.funcs[f]?=some fn→fn.body.isSome=true→(fn.name== "runtime.NumGoroutine")=false
theorem aGd (hN:aCK P) {f:FuncId} {fn:Func} {args:Array Value} {w:World} (hf:P.funcs[f]?=some fn) (hb:fn.body.isSome=true):(callFunc f args).run P w= .ok (.enter f args) w:=by
 have h1:=hN f fn hf hb
 have h2:fn.body.isNone=false:=by cases hbb:fn.body <;> simp_all
 unfold callFunc
 simp only[program,bind,Sem.bind,Sem.run,hf,h1,h2]
 simp[pure,Sem.run]
theorem aNq (hN:aCK P) {σ:Operand→Value} {dst:Option Tmp} {fo:Operand} {args:Array Operand} {ts:Array TypeId} {ty:TypeId} {pos:String} {af:Array Edge} {gd:Option (Nat×Bool)} {f:FuncId} {caps:Array Value} {fn:Func} {w:World}
  (hσ:σ fo= .func (.func f) #[] caps) (hf:P.funcs[f]?=some fn) (hb:fn.body.isSome=true):
  (execOp σ ⟨dst,.call ⟨.value fo,args,ts⟩,ty,pos,af,gd⟩).run P w= .ok (.enter f (args.map σ++caps)) w:=by
 simp only[execOp,resolve,hσ,Deferred.ofValue,invoke,Sem.run_bind,Sem.run_pure,Result.andThen_ok]
 rw[show (#[]:Array Value)++args.map σ=args.map σ by simp]
 exact aGd hN hf hb
end
def zA (P:Program) (call:jB):Prop:=∀ {f:FuncId} {vs:List V} {hp:Hp} {n c:Nat} {r:CR},call f vs hp n c=some r→∃ fn,P.funcs[f]?=some fn∧fn.body.isSome=true
def aMP [Gl] (P:Program) (cfg:Cfg):Prop:=∀ (f:FuncId) (p:Nat×Nat),cfg.prim f=some p→(∃ fn,P.funcs[f]?=some fn∧fn.body.isSome=true)∧
 ∀ {S:Nat→Prop} {m:M} {n c:Nat} {vs:List V} {xs:List Value} {r:Res},aBS m.h n c p vs=some r→Rel S m→mO m c r.dc→jU S m vs xs→
  Calls P f xs.toArray m.w (fun e w'=>∃ x m',e= .returned x∧m'.w=w'∧cD S m c r x m')
structure Pre [Gl] (P:Program) (cfg:Cfg):Prop where
 nc:aCK P
 prim:aMP P cfg
theorem aIt {cfg:Cfg} {call:jB} (hB:zA P call) {hp:Hp} {n c:Nat} {f:FuncId} {vs:List V} {r:Res} (h:kH cfg call hp n c f vs=some r):∃ fn,P.funcs[f]?=some fn∧fn.body.isSome=true:=by
 unfold kH at h
 split at h <;> (split at h <;> first|(rename_i r0 hr0;exact hB hr0)|(simp at h;done))
section
variable {S:Nat→Prop} {m:M}
theorem aKJ [Gl] {cfg:Cfg} (hN:Pre P cfg) {fid rid:Nat} {call:jB} (hc:CallOK P call) (hB:zA P call) {ops:Array Oper} {o:Oper} {s:St} {r:Res} {i:Nat} {a:Act}
  (hi:ops[i]?=some o) (h:opW P cfg fid rid call ops.toList o s=some r) (ht:zB s.hp s.n) (dW:fO s.hp.get m.h r.rd)
  (gW:r.all=true→m.h=s.hp.get∧m.iss=fun _ g=>g<s.c) (hf:mO m s.c r.dc) (hR:Rel S m) (he:aGT S m s.env a (pG o ops.toList))
  {Q:Exit→Act→World→Prop} {K:Act→World→Prop} (hK:∀ x m',cD S m s.c r x m'→K (a.put o.dst x) m'.w):wpOp P ops Q i K a m.w:=by
 unfold wpOp
 simp only[hi]
 unfold opW at h
 split at h
 ·rename_i hw
  rw[if_pos (yU hw he)]
  refine .inl ?_
  split at h
  ·rename_i q hq
   split at h
   ·simp only[Option.some.injEq] at h;subst h
    unfold Oper.wp
    unfold opR at hq
    split at hq
    ·rename_i fo args ts ho
     split at hq
     ·rename_i f caps mJ
      have aPK:∀ x∈o.op.operands,RV S m (gL s.env x) (a.eval x):=fun x hx=>aDH hR he fun t ht=>by subst ht;exact aCh hx
      have hfv:RV S m (gL s.env fo) (a.eval fo):=aPK fo (by rw[ho];simp[Op.operands,Call.operands])
      rw[mJ] at hfv
      have oV:∃ fn,P.funcs[f]?=some fn∧fn.body.isSome=true:=by
       split at hq
       ·rename_i p hp;exact (hN.prim f p hp).1
       ·exact aIt hB hq
      obtain ⟨fn,hfn,aKE⟩:=oV
      generalize hv:a.eval fo=v at hfv
      cases hfv with
      | @fn _ _ cs hl sC=>
       have lR:(execOp a.eval o).run P m.w= .ok (.enter f (args.map a.eval++cs)) m.w:=by
        obtain ⟨dst,op,ty,pos,af,gd⟩:=o
        simp only at ho;subst ho
        exact aNq hN.nc hv hfn aKE
       rw[lR,Oper.upon_enter]
       have hvs:jU S m (args.toList.map (gL s.env)++caps) (args.toList.map a.eval++cs.toList):=by
        refine jU.append ?_ ⟨by simpa using hl,fun j x y hx hy=>sC j x y hx (by simpa using hy)⟩
        refine ⟨by simp,fun j x y hx hy=>?_⟩
        rw[List.getElem?_map] at hx hy
        cases hj:args.toList[j]? with
        | none=>simp[hj] at hx
        | some z=>
         simp[hj] at hx hy;subst hx;subst hy
         exact aPK z (by rw[ho];simp only[Op.operands,Call.operands];simp;exact .inr (by simpa using List.mem_of_getElem? hj))
       have:Calls P f (args.toList.map a.eval++cs.toList).toArray m.w (fun e w'=>∃ x m',e= .returned x∧m'.w=w'∧cD S m s.c q x m'):=by
        split at hq
        ·rename_i p hp;exact (hN.prim f p hp).2 (aLo hq dW) hR hf hvs
        ·exact aHg hc hq ht dW gW hf hR hvs
       rw[show (args.toList.map a.eval++cs.toList).toArray=args.map a.eval++cs by apply Array.ext';simp] at this
       refine Calls.mono this ?_
       rintro e w' ⟨x,m',rfl,rfl,hA⟩
       exact hK x m' hA
     ·simp at hq
    ·rename_i cF
     classical
     let ρ:Operand→V:=fun x=>if x∈o.op.operands then gL s.env x else .any
     have hst:step P (cfg.fz fid rid).1 (cfg.fz fid rid).2 ρ m.h s.n s.c o.op=some q:=by
      rw[←aLY hq dW]
      exact aIZ fun x hx=>by simp[ρ,hx]
     have mA:∀ x,RV S m (ρ x) (a.eval x):=fun x=>by
      by_cases hx:x∈o.op.operands
      ·simp only[ρ,if_pos hx];exact aDH hR he fun t ht=>by subst ht;exact aCh hx
      ·simp only[ρ,if_neg hx];exact .any _
     obtain ⟨x,m',hg,hA⟩:=aID hst (fun _=>rfl) mA hR hf
     rcases hg with hg|⟨hg,rfl⟩
     ·rw[hg,Oper.upon_value];exact hK x m' hA
     ·rw[hg,Oper.upon_skip];exact hK _ m' hA
   ·simp at h
  ·simp at h
 ·rename_i hw
  simp only[Option.some.injEq] at h;subst h
  rw[if_neg (by rw[yU hw he];simp)]
  exact hK undef m (cD.quiet hR .undef)
 ·simp at h
end
end Go.Ac
end
section
namespace Go.Ac
variable {P:Program}
def fx {β:Type} (F:Nat→(Nat→β)→Nat→β) (X:Nat→Bool) (f0:Nat→β):Nat→Nat→β
 | 0=>f0
 | k+1=>match X k with|true=>F k (fx F X f0 k)|false=>fx F X f0 k
structure Acts {β:Type} (F:Nat→(Nat→β)→Nat→β) (K:Nat→List Nat):Prop where
 loc:∀ (i:Nat) (f g:Nat→β) (id:Nat),f id=g id→F i f id=F i g id
 out:∀ (i:Nat) (f:Nat→β) (id:Nat),id∉K i→F i f id=f id
section
variable {β:Type} {F:Nat→(Nat→β)→Nat→β} {K:Nat→List Nat} {f0:Nat→β}
theorem aAm {X Y:Nat→Bool}:∀ {k:Nat},(∀ i,i<k→X i=Y i)→fx F X f0 k=fx F Y f0 k
 | 0,_=>rfl
 | k+1,h=>by
  simp only[fx]
  rw[h k (by omega),aAm (k:=k) fun i hi=>h i (by omega)]
theorem Acts.comm (A:Acts F K) {i j:Nat} (h:∀ id∈K i,id∉K j) (f:Nat→β):F i (F j f)=F j (F i f):=by
 funext id
 by_cases hi:id∈K i
 ·have hj:=h id hi
  rw[A.out j _ id hj]
  exact A.loc i _ _ id (A.out j _ id hj)
 ·rw[A.out i _ id hi]
  exact (A.loc j _ _ id (A.out i _ id hi)).symm
theorem aJt (A:Acts F K) {X:Nat→Bool} {j:Nat} (hX:X j=false):∀ {k:Nat},j<k→(∀ i,j<i→i<k→X i=true→∀ id∈K i,id∉K j)→fx F (upd X j true) f0 k=F j (fx F X f0 k)
 | k+1,hj,hd=>by
  simp only[fx]
  by_cases hkj:k=j
  ·subst hkj
   rw[bY,hX]
   simp only
   rw[aAm (F:=F) (f0:=f0) (X:=upd X k true) (Y:=X) fun i hi=>b9 _ _ (by omega)]
  ·rw[b9 _ _ hkj,aJt A hX (k:=k) (by omega) fun i h1 h2=>hd i h1 (by omega)]
   cases hk:X k with
   | false=>rfl
   | true=>exact A.comm (hd k (by omega) (by omega) hk) _
theorem aGi (A:Acts F K) {X:Nat→Bool} {id:Nat} {j:Nat} (h1:∀ i,i<j→X i=false→id∉K i):∀ {k:Nat},j≤k→(∀ i,j≤i→i<k→X i=true→id∉K i)→fx F X f0 k id=fx F (fun _=>true) f0 j id
 | k,hk,h2=>by
  have low:∀ n,n≤j→fx F X f0 n id=fx F (fun _=>true) f0 n id:=by
   intro n
   induction n with
   | zero=>intro _;rfl
   | succ n ih=>
    intro hn
    simp only[fx]
    cases hx:X n with
    | true=>exact A.loc _ _ _ _ (ih (by omega))
    | false=>rw[A.out _ _ _ (h1 n (by omega) hx)];exact ih (by omega)
  have aPj:∀ n,j+n≤k→fx F X f0 (j+n) id=fx F X f0 j id:=by
   intro n
   induction n with
   | zero=>intro _;rfl
   | succ n ih=>
    intro hn
    show fx F X f0 (j+n+1) id=_
    simp only[fx]
    cases hx:X (j+n) with
    | true=>exact (A.out _ _ _ (h2 (j+n) (by omega) (by omega) hx)).trans (ih (by omega))
    | false=>exact ih (by omega)
  have:=aPj (k - j) (by omega)
  rw[show j+(k - j)=k by omega] at this
  rw[this]
  exact low j (Nat.le_refl _)
end
theorem aGL:∀ (l:List (Nat×Ob)) (f g:Nat→Option Ob) (id:Nat),f id=g id→qU f l id=qU g l id
 | [],f,g,id,h=>h
 | (k,o)::r,f,g,id,h=>aGL r _ _ id (by simp only[upd,h])
theorem z5:∀ (l:List (Nat×Ob)) (f:Nat→Option Ob) (id:Nat),id∉l.map (·.1)→qU f l id=f id
 | [],f,id,_=>rfl
 | (k,o)::r,f,id,h=>by
  simp only[List.map_cons,List.mem_cons,not_or] at h
  simp only[qU]
  rw[z5 r _ id h.2,b9 _ _ h.1]
def aPc (dst:Option Nat) (v:V) (f:Nat→V):Nat→V:=match dst with|some d=>upd f d v|none=>f
theorem m7 (d:Nat) (v:V) (e:oH):oH.get ((d,v)::e)=upd e.get d v:=by
 funext t
 simp only[oH.get,upd]
 by_cases h:t=d
 ·subst h;simp
 ·rw[rR (Ne.symm h)];simp[h]
structure Log (s s':St):Prop where
 n0:s'.n0=s.n0
 n:s.n≤s'.n
 c:s.c≤s'.c
 top:s.n0≤s.n→zB s.hp s.n→zB s'.hp s'.n
 wl:s.n0≤s.n→∀ id,id<s.n0→id∉s'.wl→id∉s.wl∧s'.hp.get id=s.hp.get id
 stay:s.n0≤s.n→∀ id,id<s.n0→s'.hp.get id=none→s.hp.get id=none
theorem Log.refl (s:St):Log s s:=⟨rfl,Nat.le_refl _,Nat.le_refl _,fun _ h=>h,fun _ _ _ h=>⟨h,rfl⟩,fun _ _ _ h=>h⟩
theorem Log.trans {a b c:St} (h:Log a b) (k:Log b c):Log a c:=by
 have hb:a.n0≤a.n→b.n0≤b.n:=fun h0=>by rw[h.n0];exact Nat.le_trans h0 h.n
 refine ⟨k.n0.trans h.n0,Nat.le_trans h.n k.n,Nat.le_trans h.c k.c,fun h0 ht=>k.top (hb h0) (h.top h0 ht),fun h0 id c8 hw=>?_,fun h0 id c8 hn=>?_⟩
 ·obtain ⟨h1,h2⟩:=k.wl (hb h0) id (by rw[h.n0];exact c8) hw
  obtain ⟨h3,h4⟩:=h.wl h0 id c8 h1
  exact ⟨h3,h2.trans h4⟩
 ·exact h.stay h0 id c8 (k.stay (hb h0) id (by rw[h.n0];exact c8) hn)
theorem qV {n0 id:Nat}:∀ {wr:List (Nat×Ob)} {wl:List Nat},id∉a9 n0 wl wr→id∉wl∧(id<n0→id∉wr.map (·.1))
 | [],wl,h=>⟨h,fun _=>by simp⟩
 | (k,o)::r,wl,h=>by
  simp only[a9] at h
  split at h
  ·rename_i hk
   split at h
   ·rename_i ha
    obtain ⟨h1,h2⟩:=qV h
    refine ⟨h1,fun eU=>?_⟩
    simp only[List.map_cons,List.mem_cons,not_or]
    refine ⟨fun he=>?_,h2 eU⟩
    obtain ⟨x,jI,n8⟩:=List.any_eq_true.1 ha
    have:=Nat.eq_of_beq_eq_true n8
    subst this;subst he
    exact h1 jI
   ·obtain ⟨h1,h2⟩:=qV h
    simp only[List.mem_cons,not_or] at h1
    exact ⟨h1.2,fun eU=>by simp only[List.map_cons,List.mem_cons,not_or];exact ⟨h1.1,h2 eU⟩⟩
  ·rename_i hk
   obtain ⟨h1,h2⟩:=qV h
   refine ⟨h1,fun eU=>?_⟩
   simp only[List.map_cons,List.mem_cons,not_or]
   refine ⟨fun he=>?_,h2 eU⟩
   subst he
   rw[show Nat.blt id n0=true by simp[Nat.blt_eq,eU]] at hk;simp at hk
theorem aFh:∀ (l:List (Nat×Ob)) (f:Nat→Option Ob) (id:Nat),qU f l id=none→f id=none
 | [],f,id,h=>h
 | (k,o)::r,f,id,h=>by
  simp only[qU] at h
  have:=aFh r _ id h
  by_cases hk:id=k
  ·subst hk;simp[upd] at this
  ·rwa [b9 _ _ hk] at this
theorem Log.put {s:St} {dst:Option Nat} {q:Res} (h:q.wr.all (fun p=>Nat.blt p.1 (s.n+q.dn))=true):Log s (s.put dst q):=by
 refine ⟨rfl,Nat.le_add_right _ _,Nat.le_add_right _ _,fun h0 ht id c8=>?_,fun h0 id c8 hw=>?_,fun h0 id c8 hn=>?_⟩
 ·show (s.hp.sets q.wr).get id=none
  rw[mP,z5]
  ·exact ht id (by have:s.n+q.dn≤id:=c8;omega)
  ·intro hm
   obtain ⟨p,hp,rfl⟩:=List.mem_map.1 hm
   have:=List.all_eq_true.1 h p hp
   rw[Nat.blt_eq] at this
   have:s.n+q.dn≤p.1:=c8
   omega
 ·obtain ⟨h1,h2⟩:=qV hw
  refine ⟨h1,?_⟩
  show (s.hp.sets q.wr).get id=_
  rw[mP,z5 _ _ _ (h2 c8)]
 ·have:(s.hp.sets q.wr).get id=none:=hn
  rw[mP] at this
  exact aFh _ _ _ this
section
variable {cfg:Cfg} {fid rid:Nat} {call:jB} {all:List Oper}
structure Trace [Gl] (P:Program) (cfg:Cfg) (fid rid:Nat) (call:jB) (all l:List Oper) (σ:Nat→St) (ρ:Nat→Res):Prop where
 step:∀ (i:Nat) (o:Oper),l[i]?=some o→opW P cfg fid rid call all o (σ i)=some (ρ i)∧σ (i+1)=(σ i).put o.dst (ρ i)
theorem uJ [Gl]:∀ {l:List Oper} {s s':St},kS P cfg fid rid call all l s=some s'→∃ σ ρ,σ 0=s∧σ l.length=s'∧Trace P cfg fid rid call all l σ ρ
 | [],s,s',h=>⟨fun _=>s,fun _=>aNp,rfl,by simpa [kS] using h,⟨fun i o ho=>by simp at ho⟩⟩
 | o::r,s,s',h=>by
  simp only[kS] at h
  split at h
  ·rename_i q hq
   obtain ⟨σ,ρ,h1,h2,h3⟩:=uJ h
   refine ⟨fun i=>match i with|0=>s|i+1=>σ i,fun i=>match i with|0=>q|i+1=>ρ i,rfl,h2,⟨fun i p hp=>?_⟩⟩
   cases i with
   | zero=>simp at hp;subst hp;exact ⟨hq,h1⟩
   | succ i=>simp at hp;exact h3.step i p hp
  ·simp at h
theorem Trace.tail [Gl] {o:Oper} {r:List Oper} {σ:Nat→St} {ρ:Nat→Res} (t:Trace P cfg fid rid call all (o::r) σ ρ):Trace P cfg fid rid call all r (fun i=>σ (i+1)) (fun i=>ρ (i+1)):=
 ⟨fun i p hp=>t.step (i+1) p (by simpa using hp)⟩
theorem xB [Gl]:∀ {l:List Oper} {ancs:List (List Nat)} {tr:List Tr} {s:St} {σ:Nat→St} {ρ:Nat→Res},iB P cfg fid rid call all l ancs tr s=true→σ 0=s→Trace P cfg fid rid call all l σ ρ→
  ∀ (j:Nat) (o:Oper),l[j]?=some o→∃ a,ancs[j]?=some a∧(∀ (k:Nat) (t:Tr),tr[k]?=some t→a.contains k=true∨rN t (aEe o all (ρ j))=true)∧
   ∀ (i:Nat) (p:Oper),i<j→l[i]?=some p→a.contains (tr.length+i)=true∨rN (aEe p all (ρ i)) (aEe o all (ρ j))=true
 | [],ancs,tr,s,σ,ρ,_,_,_,j,o,ho=>by simp at ho
 | p::r,[],tr,s,σ,ρ,h,_,_,j,o,ho=>by simp[iB] at h
 | p::r,a::ancs,tr,s,σ,ρ,h,h0,ht,j,o,ho=>by
  simp only[iB] at h
  obtain ⟨t1,t2⟩:=ht.step 0 p rfl
  rw[h0] at t1
  rw[t1] at h
  simp only[Bool.and_eq_true] at h
  cases j with
  | zero=>
   simp at ho;subst ho
   refine ⟨a,rfl,fun k t hk=>?_,fun i q hi=>by omega⟩
   have:=List.all_eq_true.1 h.1 (t,k) (by rw[List.mem_zipIdx_iff_getElem?];exact hk)
   simpa using this
  | succ j=>
   simp at ho
   rw[h0] at t2
   obtain ⟨b,h1,h2,h3⟩:=xB h.2 (σ:=fun i=>σ (i+1)) (ρ:=fun i=>ρ (i+1)) t2 ht.tail j o ho
   refine ⟨b,by simpa using h1,fun k t hk=>h2 k t ?_,fun i q hi hq=>?_⟩
   ·rw[List.getElem?_append_left (List.getElem?_eq_some_iff.1 hk).1];exact hk
   ·cases i with
    | zero=>simp at hq;subst hq;exact h2 tr.length _ (by simp)
    | succ i=>
     simp at hq
     have:=h3 i q (by omega) hq
     simp only[List.length_append,List.length_cons,List.length_nil] at this
     rwa [show tr.length+(0+1)+i=tr.length+(i+1) by omega] at this
end
theorem aNl {X:Nat→Bool} (all:List Oper) (hX:∀ (i:Nat) (o:Oper),all[i]?=some o→X i=true→∀ e∈o.after.toList,Region.binds .any e=true→X e.on=true):
  (anc all).length=all.length∧∀ (j:Nat) (o:Oper) (a:List Nat),all[j]?=some o→(anc all)[j]?=some a→(∀ e∈o.after.toList,Region.binds .any e=true→X e.on=true)→∀ i∈a,X i=true:=by
 have key:∀ (r:List Oper) (acc:List (List Nat)) (d:List Oper),d++r=all→acc.length=d.length→
   (∀ (j:Nat) (o:Oper) (a:List Nat),all[j]?=some o→acc[j]?=some a→(∀ e∈o.after.toList,Region.binds .any e=true→X e.on=true)→∀ i∈a,X i=true)→
   let res:=r.foldl (fun acc o=>acc++[o.after.toList.foldl (fun s e=>if Region.binds .any e then e.on::(acc.getD e.on []++s) else s) []]) acc
   res.length=all.length∧∀ (j:Nat) (o:Oper) (a:List Nat),all[j]?=some o→res[j]?=some a→(∀ e∈o.after.toList,Region.binds .any e=true→X e.on=true)→∀ i∈a,X i=true:=by
  intro r
  induction r with
  | nil=>intro acc d hd hl h;simp only[List.append_nil] at hd;subst hd;exact ⟨hl,h⟩
  | cons p r ih=>
   intro acc d hd hl h
   simp only[List.foldl_cons]
   refine ih _ (d++[p]) (by simp[hd]) (by simp[hl]) fun j o a ho ha hb=>?_
   rw[List.getElem?_append] at ha
   split at ha
   ·exact h j o a ho ha hb
   ·rename_i hj
    have hj':j=acc.length:=by
     have:=(List.getElem?_eq_some_iff.1 ha).1
     simp at this;omega
    subst hj'
    simp only[Nat.sub_self,List.getElem?_cons_zero,Option.some.injEq] at ha;subst ha
    have hop:o=p:=by
     rw[←hd,hl] at ho
     simpa using ho.symm
    subst hop
    -- the inner sum
    have inner:∀ (l:List Edge) (s:List Nat),(∀ e∈l,Region.binds .any e=true→X e.on=true)→(∀ i∈s,X i=true)→
      ∀ i∈l.foldl (fun s e=>if Region.binds .any e then e.on::(acc.getD e.on []++s) else s) s,X i=true:=by
     intro l
     induction l with
     | nil=>intro s _ hs;exact hs
     | cons e l ihl=>
      intro s hl' hs
      simp only[List.foldl_cons]
      refine ihl _ (fun e' he'=>hl' e' (by simp[he'])) ?_
      split
      ·rename_i hbe
       have hXe:=hl' e (by simp) hbe
       intro i hi
       simp only[List.mem_cons,List.mem_append] at hi
       rcases hi with rfl|hi|hi
       ·exact hXe
       ·cases hg:acc[e.on]? with
        | none=>simp[hg] at hi
        | some b=>
         simp[hg] at hi
         have eU:e.on<all.length:=by
          have:=(List.getElem?_eq_some_iff.1 hg).1
          rw[←hd];simp;omega
         exact h e.on all[e.on] b (by simp[eU]) hg (hX e.on _ (by simp[eU]) hXe) i hi
       ·exact hs i hi
      ·exact hs
    exact inner _ [] hb (fun i hi=>by simp at hi)
 exact key all [] [] rfl rfl (fun j o a _ ha=>by simp at ha)
end Go.Ac
end
