/- The abstract machine: a region, in the order of the text or in any order that its edges allow. No conditions. -/
import Derived.Test.YtkgekafdhehleaaGreatAcNM
set_option linter.unusedVariables false
set_option linter.unusedSimpArgs false
section
namespace Go.Ac
variable {P:Program}
def aRE [Gl] (S:Nat→Prop) (m:M) (r:CR) (x:Value) (m':M):Prop:=
 Rel S m'∧Evo S m m'∧RV S m' r.v x∧m'.h=r.hp.get∧m'.iss=fun _ g=>g<r.c
def yJ (hp:Hp) (n:Nat):Prop:=∀ id,n≤id→hp.get id=none
structure LogOK (hp:Hp) (n c:Nat) (r:CR):Prop where
 le_n:n≤r.n
 le_c:c≤r.c
 top:yJ r.hp r.n
 same:∀ id,id<n→id∉r.wl→r.hp.get id=hp.get id
 stay:∀ id,id<n→r.hp.get id=none→hp.get id=none
structure CallOK [Gl] (P:Program) (call:iX):Prop where
 log:∀ {f:FuncId} {vs:List V} {hp:Hp} {n c:Nat} {r:CR},call f vs hp n c=some r→yJ hp n→LogOK hp n c r
 ok:∀ {f:FuncId} {vs:List V} {hp:Hp} {n c:Nat} {r:CR},call f vs hp n c=some r→yJ hp n→∀ {S:Nat→Prop} {m:M} {xs:List Value},m.h=hp.get→(m.iss=fun _ g=>g<c)→Rel S m→jL S m vs xs→
  Calls P f xs.toArray m.w (fun e w'=>∃ x m',e= .returned x∧m'.w=w'∧aRE S m r x m')
def V.shut1:V→Bool
 | .d _|.con _|.full _|.fn _ []=>true
 | _=>false
def V.shut2:V→Bool
 | .agg cs=>cs.all V.shut1
 | v=>v.shut1
def V.shut:V→Bool
 | .tuple cs=>cs.all V.shut2
 | v=>v.shut2
theorem aIv:∀ (f:Nat) {v:V} {x:D} {r:List Nat},yQ eW f v=some (x,r)→v.shut1=true
 | 0,v,x,r,h=>by cases v <;> simp_all [yQ,V.shut1]
 | f+1,v,x,r,h=>by
  cases v <;> simp_all [yQ,V.shut1]
  simp[live,eW] at h
theorem sP {v w:V} {r:List Nat} (h:gW eW v=some (w,r)):v.shut1=true:=by
 have gen:∀ v,ofD (yQ eW qY v)=some (w,r)→v.shut1=true:=by
  intro v h
  unfold ofD at h
  split at h
  ·rename_i x r hx;exact aIv _ hx
  ·simp at h
 cases v with
 | con v=>rfl
 | fn f cs=>cases cs with
  | nil=>rfl
  | cons c cs=>simp only[gW] at h;exact gen _ h
 | _=>simp only[gW] at h;exact gen _ h
theorem vX {f:V→Option (V×List Nat)} {p:V→Bool} (hf:∀ v w r,f v=some (w,r)→p v=true):∀ {vs ws:List V} {r:List Nat},fA f vs=some (ws,r)→vs.all p=true
 | [],_,_,_=>rfl
 | v::l,ws,r,h=>by
  simp only[fA] at h
  split at h
  ·rename_i x a xs b h1 h2
   simp[hf _ _ _ h1]
   simpa using vX hf h2
  ·simp at h
theorem zN {v w:V} {r:List Nat} (h:mT eW v=some (w,r)):v.shut2=true:=by
 cases v with
 | agg cs=>
  simp only[mT] at h
  split at h
  ·rename_i xs r hx
   simp only[V.shut2]
   exact vX (fun v w r h=>sP h) hx
  ·simp at h
 | _=>simp only[mT] at h;simpa only [V.shut2] using sP h
theorem aDD {v w:V} {r:List Nat} (h:dZ eW v=some (w,r)):v.shut=true:=by
 cases v with
 | tuple cs=>
  simp only[dZ] at h
  split at h
  ·rename_i xs r hx
   simp only[V.shut]
   exact vX (fun v w r h=>zN h) hx
  ·simp at h
 | _=>simp only[dZ] at h;simpa only [V.shut] using zN h
theorem aKg {look:cA}:∀ (f:Nat) {v:V},v.shut1=true→yQ look f v=yQ eW f v
 | 0,v,h=>by cases v <;> simp_all [yQ,V.shut1]
 | f+1,v,h=>by cases v <;> simp_all [yQ,V.shut1]
theorem sM {look:cA} {v w:V} {r:List Nat} (h:gW eW v=some (w,r)):gW look v=some (w,r):=by
 have hs:=sP h
 cases v with
 | con v=>exact h
 | fn f cs=>cases cs with
  | nil=>exact h
  | cons c cs=>simp[V.shut1] at hs
 | _=>simp only[gW] at h ⊢;rw[aKg _ hs];exact h
theorem aBb {look:cA} {v w:V} {r:List Nat} (h:mT eW v=some (w,r)):mT look v=some (w,r):=by
 cases v with
 | agg cs=>
  simp only[mT] at h ⊢
  split at h
  ·rename_i xs r hx
   rw[kA hx (fun v w a g1 _=>sM g1)];exact h
  ·simp at h
 | _=>simp only[mT] at h ⊢;exact sM h
theorem aBy {look:cA} {v w:V} {r:List Nat} (h:gW look v=some (w,r)):w.shut1=true:=by
 unfold gW at h
 split at h
 ·simp at h;obtain ⟨rfl,rfl⟩:=h;rfl
 ·simp at h;obtain ⟨rfl,rfl⟩:=h;rfl
 ·unfold ofD at h
  split at h
  ·simp at h;obtain ⟨rfl,rfl⟩:=h;rfl
  ·simp at h
theorem t9 {f:V→Option (V×List Nat)} {p:V→Bool} (hf:∀ v w r,f v=some (w,r)→p w=true):∀ {vs ws:List V} {r:List Nat},fA f vs=some (ws,r)→ws.all p=true
 | [],ws,_,h=>by simp[fA] at h;obtain ⟨rfl,rfl⟩:=h;rfl
 | v::l,ws,r,h=>by
  simp only[fA] at h
  split at h
  ·rename_i x a xs b h1 h2
   simp at h;obtain ⟨rfl,rfl⟩:=h
   simp[hf _ _ _ h1]
   simpa using t9 hf h2
  ·simp at h
theorem V.shut2_of1 {v:V} (h:v.shut1=true):v.shut2=true:=by cases v <;> first|exact h|(simp[V.shut1] at h)
theorem aHV {look:cA} {v w:V} {r:List Nat} (h:mT look v=some (w,r)):w.shut2=true:=by
 unfold mT at h
 split at h
 ·split at h
  ·rename_i xs r hx
   simp at h;obtain ⟨rfl,rfl⟩:=h
   exact t9 (fun v w r h=>aBy h) hx
  ·simp at h
 ·exact V.shut2_of1 (aBy h)
theorem yX {look:cA} {v w:V} {r:List Nat} (h:o9 eW v=some (w,r)):o9 look v=some (w,r):=by
 unfold o9 at h ⊢
 split at h
 ·exact h
 ·exact aBb h
theorem aGZ {look:cA} {v w:V} {r:List Nat} (h:o9 look v=some (w,r)):w.shut2=true:=by
 unfold o9 at h
 split at h
 ·simp at h;obtain ⟨rfl,rfl⟩:=h;rfl
 ·exact aHV h
section
variable {S S':Nat→Prop} {m m':M}
theorem RV.shut1 (k:∀ x y,RD m.w (m.av S) x y→RD m'.w (m'.av S') x y) {v:V} {y:Value} (hs:v.shut1=true) (h:RV S m v y):RV S' m' v y:=by
 cases h with
 | d h=>exact .d (k _ _ h)
 | con=>exact .con _
 | full h=>exact .full (k _ _ h)
 | @fn f caps vs hl h=>
  cases caps with
  | nil=>exact .fn hl (fun j x y hx=>by simp at hx)
  | cons c cs=>simp[V.shut1] at hs
 | _=>simp[V.shut1] at hs
theorem RV.shut2 (k:∀ x y,RD m.w (m.av S) x y→RD m'.w (m'.av S') x y) {v:V} {y:Value} (hs:v.shut2=true) (h:RV S m v y):RV S' m' v y:=by
 cases v with
 | agg cs=>
  cases h with
  | agg hl h=>
   simp only[V.shut2,List.all_eq_true] at hs
   exact .agg hl fun j x y hx hy=>(h j x y hx hy).shut1 k (hs x (List.mem_of_getElem? hx))
 | _=>exact RV.shut1 k hs h
theorem RV.shut (k:∀ x y,RD m.w (m.av S) x y→RD m'.w (m'.av S') x y) {v:V} {y:Value} (hs:v.shut=true) (h:RV S m v y):RV S' m' v y:=by
 cases v with
 | tuple cs=>
  cases h with
  | tuple hl h=>
   simp only[V.shut,List.all_eq_true] at hs
   exact .tuple hl fun j x y hx hy=>(h j x y hx hy).shut2 k (hs x (List.mem_of_getElem? hx))
 | _=>exact RV.shut2 k hs h
theorem RD.flat {w w':World} {av av':Nat→Prop} {x:D} {y:Value} (hx:x.flat=true) (h:RD w av x y):RD w' av' x y:=by
 cases h with
 | bool b=>exact .bool b
 | int k n=>exact .int k n
 | str s l h=>exact .str s l h
 | _=>simp[D.flat] at hx
theorem RV.flat1 {v:V} {y:Value} (hs:v.flat1=true) (h:RV S m v y):RV S' m' v y:=by
 cases h with
 | d h=>exact .d (h.flat hs)
 | con=>exact .con _
 | _=>simp[V.flat1] at hs
theorem RV.flat2 {v:V} {y:Value} (hs:v.flat2=true) (h:RV S m v y):RV S' m' v y:=by
 cases v with
 | agg cs=>
  cases h with
  | agg hl h=>
   simp only[V.flat2,List.all_eq_true] at hs
   exact .agg hl fun j x y hx hy=>(h j x y hx hy).flat1 (hs x (List.mem_of_getElem? hx))
 | _=>exact RV.flat1 hs h
theorem RV.flat {v:V} {y:Value} (hs:v.flat=true) (h:RV S m v y):RV S' m' v y:=by
 cases v with
 | tuple cs=>
  cases h with
  | tuple hl h=>
   simp only[V.flat,List.all_eq_true] at hs
   exact .tuple hl fun j x y hx hy=>(h j x y hx hy).flat2 (hs x (List.mem_of_getElem? hx))
 | _=>exact RV.flat2 hs h
theorem Rel.grown [Gl] (hR:Rel S m) {w':World} (gB:m.w.heap.size≤w'.heap.size) (dC:∀ b,b<m.w.heap.size→w'.heap[b]?=m.w.heap[b]?) (pJ:w'.os=m.w.os∧w'.output=m.w.output∧∀ a,w'.frozen? a=m.w.frozen? a):
  Rel S { m with w:=w' }∧Evo S m { m with w:=w' }:=by
 have e:Evo S m { m with w:=w' }:={
  rest:=pJ
  iss:=fun _ _ h=>h
  size:=gB
  shape:=fun b cs T fz h=>⟨cs,fz,by rw[dC b (iJ h)];exact h,rfl⟩
  keepS:=fun b h _=>dC b h
  keep:=fun b h hn=>⟨hn,dC b h⟩
  live:=fun id o h _=>⟨o,h,rfl,rfl,Nat.le_refl _,rfl⟩
  old:=fun id o b x h1 h2 _=>⟨o,x,h1,h2⟩ }
 refine ⟨⟨fun g=>(hR.glob g).mono e,hR.iss,hR.none_,fun id o b base ho ha=>?_,hR.inj,fun b hb=>Nat.lt_of_lt_of_le (hR.sub b hb) gB⟩,e⟩
 obtain ⟨ob0,hr⟩:=(hR.obj id o b base ho ha).2.some
 exact hR.other e ho ha (dC b (iJ hr))
theorem Rel.less [Gl] (hR:Rel S m) {h':Nat→Option Ob} (hh:∀ id o,h' id=some o→m.h id=some o):
  Rel S { m with h:=h' }∧Evo S m { m with h:=h' }:=by
 have e:Evo S m { m with h:=h' }:={
  rest:=⟨rfl,rfl,fun _=>rfl⟩
  iss:=fun _ _ h=>h
  size:=Nat.le_refl _
  shape:=fun b cs T fz h=>⟨cs,fz,h,rfl⟩
  keepS:=fun b h _=>rfl
  keep:=fun b h hn=>⟨fun hx=>hn (by
   rcases hx with hx|⟨id,o,x,h1,h2,h3⟩
   ·exact .inl hx
   ·exact .inr ⟨id,o,x,hh _ _ h1,h2,h3⟩),rfl⟩
  live:=fun id o h _=>⟨o,hh _ _ h,rfl,rfl,Nat.le_refl _,rfl⟩
  old:=fun id o b x h1 h2 _=>⟨o,x,hh _ _ h1,h2⟩ }
 refine ⟨⟨fun g=>(hR.glob g).mono e,fun id o h=>hR.iss id o (hh _ _ h),fun id o h=>hR.none_ id o (hh _ _ h),fun id o b base ho ha=>?_,fun i j oi oj b x y hi hj=>hR.inj i j oi oj b x y (hh _ _ hi) (hh _ _ hj),hR.sub⟩,e⟩
 exact hR.other e (hh _ _ ho) ha rfl
end
theorem aCK {F:Nat→Option Ob}:∀ {l:List (Nat×Ob)},(∀ p∈l,F p.1=some p.2)→∀ (h:Nat→Option Ob) (id:Nat),qT h l id=if id∈l.map (·.1) then F id else h id
 | [],_,h,id=>by simp[qT]
 | (k,o)::r,hF,h,id=>by
  simp only[qT]
  rw[aCK (fun p hp=>hF p (by simp[hp]))]
  have hk:=hF (k,o) (by simp)
  by_cases hm:id∈r.map (·.1)
  ·rw[if_pos hm,if_pos (by simp only[List.map_cons,List.mem_cons];exact .inr hm)]
  ·rw[if_neg hm]
   by_cases cY:id=k
   ·subst cY;simp[upd];exact hk.symm
   ·rw[b7 _ _ cY,if_neg (by simp only[List.map_cons,List.mem_cons,not_or];exact ⟨cY,hm⟩)]
theorem m5 {look:cA}:∀ {l:List Nat} {p:Nat×Ob},p∈jZ look l↔p.1∈l∧look p.1=some p.2
 | [],p=>by simp[jZ]
 | id::r,p=>by
  simp only[jZ]
  cases h:look id with
  | none=>
   simp only[m5,List.mem_cons]
   constructor
   ·rintro ⟨h1,h2⟩;exact ⟨.inr h1,h2⟩
   ·rintro ⟨h1|h1,h2⟩
    ·rw[h1,h] at h2;cases h2
    ·exact ⟨h1,h2⟩
  | some o=>
   simp only[List.mem_cons,m5]
   constructor
   ·rintro (rfl|⟨h1,h2⟩)
    ·exact ⟨.inl rfl,h⟩
    ·exact ⟨.inr h1,h2⟩
   ·rintro ⟨h1|h1,h2⟩
    ·left;obtain ⟨a,b⟩:=p;simp only at h1 h2;subst h1;rw[h] at h2;cases h2;rfl
    ·exact .inr ⟨h1,h2⟩
theorem aAv {look:cA} {l:List Nat} {id:Nat}:id∈(jZ look l).map (·.1)↔id∈l∧∃ o,look id=some o:=by
 simp only[List.mem_map]
 constructor
 ·rintro ⟨p,hp,rfl⟩;obtain ⟨h1,h2⟩:=m5.1 hp;exact ⟨h1,p.2,h2⟩
 ·rintro ⟨h1,o,h2⟩;exact ⟨(id,o),m5.2 ⟨h1,h2⟩,rfl⟩
theorem aEk {look:cA} (h:Nat→Option Ob) (l:List Nat) (id:Nat):qT h (jZ look l) id=if id∈l∧(look id).isSome=true then look id else h id:=by
 rw[aCK (F:=look) (fun p hp=>(m5.1 hp).2)]
 by_cases hc:id∈l∧(look id).isSome=true
 ·rw[if_pos hc,if_pos (aAv.2 ⟨hc.1,Option.isSome_iff_exists.1 hc.2⟩)]
 ·rw[if_neg hc,if_neg (fun h=>hc ⟨(aAv.1 h).1,Option.isSome_iff_exists.2 (aAv.1 h).2⟩)]
theorem kK (n c:Nat):∀ l:List V,dO n c l=l.map (cS n c)
 | []=>by simp[dO]
 | v::r=>by simp[dO,kK n c r]
def hJ (n c:Nat) (o:Ob):Ob:=⟨o.gen+c,o.ro,dO n c o.cells⟩
def aAV (n c:Nat) (h0 h1:Nat→Option Ob):Nat→Option Ob:=fun id=>
 if n≤id∧(h0 (id - n)).isSome=true then (h0 (id - n)).map (hJ n c) else h1 id
theorem aGA {n c N:Nat} {hp:Hp} (ht:yJ hp N) (h:Nat→Option Ob):qT h (hZ n c (jZ hp.get (List.range N)))=aAV n c hp.get h:=by
 funext id
 rw[aCK (F:=fun id=>if n≤id then (hp.get (id - n)).map (hJ n c) else none)]
 ·unfold aAV
  have aVo:id∈(hZ n c (jZ hp.get (List.range N))).map (·.1)↔n≤id∧(hp.get (id - n)).isSome=true:=by
   simp only[hZ,List.map_map,List.mem_map,Function.comp]
   constructor
   ·rintro ⟨p,bD,rfl⟩
    obtain ⟨h1,h2⟩:=m5.1 bD
    simp[h2]
   ·rintro ⟨h1,h2⟩
    obtain ⟨o,ho⟩:=Option.isSome_iff_exists.1 h2
    refine ⟨(id - n,o),m5.2 ⟨?_,ho⟩,by simp;omega⟩
    rw[List.mem_range]
    rcases Nat.lt_or_ge (id - n) N with h|h
    ·exact h
    ·rw[ht _ h] at ho;cases ho
  by_cases hc:n≤id∧(hp.get (id - n)).isSome=true
  ·rw[if_pos hc,if_pos (aVo.2 hc),if_pos hc.1]
  ·rw[if_neg hc,if_neg (fun h=>hc (aVo.1 h))]
 ·intro p bD
  simp only[hZ,List.mem_map] at bD
  obtain ⟨q,hq,rfl⟩:=bD
  obtain ⟨h1,h2⟩:=m5.1 hq
  simp[h2,hJ]
theorem sE (n c:Nat) (o:Ob):i9 (hJ n c o).cells=i9 o.cells:=by
 unfold hJ
 rw[kK]
 cases h:o.cells with
 | nil=>rfl
 | cons a r=>
  cases r with
  | nil=>cases a <;> rfl
  | cons b s=>cases a <;> rfl
section
variable {S:Nat→Prop} {m:M}
def gI (n c k:Nat) (m1 m0:M):M where
 at_:=fun id=>if n≤id∧(m0.h (id - n)).isSome=true then m0.at_ (id - n) else m1.at_ id
 h:=aAV n c m0.h m1.h
 iss:=fun id g=>m1.iss id g∨(c≤g∧g<c+k)
 w:=m0.w
structure Apart [Gl] (S:Nat→Prop) (m1 m0:M) (k:Nat):Prop where
 rel:Rel (m1.av S) m0
 iss:m0.iss=fun _ g=>g<k
 size:m1.w.heap.size≤m0.w.heap.size
 row:∀ b,b<m1.w.heap.size→m0.w.heap[b]?=m1.w.heap[b]?
 new:∀ id o b x,m0.h id=some o→m0.at_ id=some (b,x)→m1.w.heap.size≤b
 rest:m0.w.os=m1.w.os∧m0.w.output=m1.w.output∧∀ a,m0.w.frozen? a=m1.w.frozen? a
theorem Rel.av_lt [Gl] (hR:Rel S m) {b:Nat} (h:m.av S b):b<m.w.heap.size:=by
 rcases h with h|⟨id,o,x,h1,h2,h3⟩
 ·exact hR.sub b h
 ·obtain ⟨ob0,hr⟩:=(hR.obj id o b x h1 h3).2.some
  exact iJ hr
theorem iN {n c:Nat} {h0 h1:Nat→Option Ob} {id:Nat} {o:Ob} (h:aAV n c h0 h1 id=some o):
  (n≤id∧∃ o0,h0 (id - n)=some o0∧o=hJ n c o0)∨(¬ (n≤id∧(h0 (id - n)).isSome=true)∧h1 id=some o):=by
 unfold aAV at h
 split at h
 ·rename_i hc
  obtain ⟨o0,ho⟩:=Option.isSome_iff_exists.1 hc.2
  rw[ho] at h;simp at h
  exact .inl ⟨hc.1,o0,ho,h.symm⟩
 ·rename_i hc;exact .inr ⟨hc,h⟩
theorem yC {n c k:Nat} {m1 m0:M} {b:Nat} (h:(gI n c k m1 m0).av S b):m0.av (m1.av S) b:=by
 rcases h with h|⟨id,o,x,h1,h2,h3⟩
 ·exact .inl (.inl h)
 ·rcases iN h1 with ⟨hn,o0,ho,rfl⟩|⟨hn,ho⟩
  ·simp only[gI] at h3
   rw[if_pos ⟨hn,by simp[ho]⟩] at h3
   exact .inr ⟨id - n,o0,x,ho,h2,h3⟩
  ·simp only[gI] at h3
   rw[if_neg hn] at h3
   exact .inl (.inr ⟨id,o,x,ho,h2,h3⟩)
theorem RV.shift [Gl] {n c k:Nat} {m1 m0:M} (h1:Rel S m1) (ha:Apart S m1 m0 k) (hf:∀ id g,c≤g→g<c+k→¬ m1.iss id g) {v:V} {y:Value} (h:RV (m1.av S) m0 v y):
  RV S (gI n c k m1 m0) (cS n c v) y:=by
 have kd:∀ x y,RD m0.w (m0.av (m1.av S)) x y→RD (gI n c k m1 m0).w ((gI n c k m1 m0).av S) x y:=
  fun x y h=>h.mono fun b _ hb=>⟨fun hx=>hb (yC hx),rfl⟩
 have lists:∀ {cs:List V} {vs:Array Value},cs.length=vs.size→(∀ (j:Nat) (x:V) (y:Value),cs[j]?=some x→vs[j]?=some y→RV S (gI n c k m1 m0) (cS n c x) y)→
   (dO n c cs).length=vs.size∧∀ (j:Nat) (x:V) (y:Value),(dO n c cs)[j]?=some x→vs[j]?=some y→RV S (gI n c k m1 m0) x y:=by
  intro cs vs hl ih
  rw[kK]
  refine ⟨by simpa using hl,fun j x y hx hy=>?_⟩
  rw[List.getElem?_map] at hx
  cases hc:cs[j]? with
  | none=>simp[hc] at hx
  | some z=>simp[hc] at hx;subst hx;exact ih j z y hc hy
 have obj:∀ (id g:Nat),m0.iss id g→∀ o,(gI n c k m1 m0).h (id+n)=some o→o.gen=g+c→∃ o0,m0.h id=some o0∧o=hJ n c o0∧o0.gen=g∧(gI n c k m1 m0).at_ (id+n)=m0.at_ id:=by
  intro id g hi o ho hg
  rcases iN ho with ⟨hn,o0,h0,rfl⟩|⟨hn,h0⟩
  ·rw[Nat.add_sub_cancel] at h0
   refine ⟨o0,h0,rfl,by simp only[hJ] at hg;omega,?_⟩
   simp[gI,h0]
  ·have:=h1.iss _ _ h0
   rw[ha.iss] at hi
   exact absurd this (by rw[hg];exact hf _ _ (by omega) (by omega))
 induction h with
 | any v=>simp only[cS];exact .any v
 | undef=>simp only[cS];exact .undef
 | d h=>simp only[cS];exact .d (kd _ _ h)
 | con v=>simp only[cS];exact .con v
 | full h=>simp only[cS];exact .full (kd _ _ h)
 | agg hl h ih=>simp only[cS];exact .agg (lists hl ih).1 (lists hl ih).2
 | @ptr id g off v g1 g2 g3=>
  simp only[cS]
  refine .ptr (.inr ?_) g2 fun o ho hg=>?_
  ·rw[ha.iss] at g1;omega
  ·obtain ⟨o0,q1,rfl,q2,q3⟩:=obj id g g1 o ho hg
   obtain ⟨q6,b,base,q4,q5⟩:=g3 o0 q1 q2
   exact ⟨(sE n c o0).trans q6,b,base,q3.trans q4,q5⟩
 | @it id g v g1 g2 g3=>
  simp only[cS]
  refine .it (.inr ?_) g2 fun o ho hg=>?_
  ·rw[ha.iss] at g1;omega
  ·obtain ⟨o0,q1,rfl,q2,q3⟩:=obj id g g1 o ho hg
   obtain ⟨q6,b,q4,q5⟩:=g3 o0 q1 q2
   exact ⟨(sE n c o0).trans q6,b,q3.trans q4,q5⟩
 | @mp id g v g1 g2 g3=>
  simp only[cS]
  refine .mp (.inr ?_) g2 fun o ho hg=>?_
  ·rw[ha.iss] at g1;omega
  ·obtain ⟨o0,q1,rfl,q2,q3⟩:=obj id g g1 o ho hg
   obtain ⟨q6,b,q4,q5⟩:=g3 o0 q1 q2
   exact ⟨(sE n c o0).trans q6,b,q3.trans q4,q5⟩
 | @osl id g off len sz cap v g1 g2 g3=>
  simp only[cS]
  refine .osl (.inr ?_) g2 fun o ho hg=>?_
  ·rw[ha.iss] at g1;omega
  ·obtain ⟨o0,q1,rfl,q2,q3⟩:=obj id g g1 o ho hg
   obtain ⟨q6,this⟩:=g3 o0 q1 q2
   refine ⟨(sE n c o0).trans q6,?_⟩
   unfold gR at this ⊢
   rw[q3]
   have hl:(hJ n c o0).cells.length=o0.cells.length:=by simp[hJ,kK]
   rw[hl]
   exact this
 | vref f hf' hr=>
  simp only[cS]
  exact .vref f (fun j d hj=>⟨fun hx=>(hf' j d hj).1 (yC hx),(hf' j d hj).2⟩) (fun j d hj=>kd _ _ (hr j d hj))
 | fn hl h ih=>simp only[cS];exact .fn (lists hl ih).1 (lists hl ih).2
 | tuple hl h ih=>simp only[cS];exact .tuple (lists hl ih).1 (lists hl ih).2
theorem aHB (n c:Nat) (v:V):(cS n c v).one=v.one:=by cases v <;> simp[cS,V.one]
theorem aIF [Gl] {n c k:Nat} {m1 m0:M} (h1:Rel S m1) (ha:Apart S m1 m0 k) (hf:∀ id g,c≤g→g<c+k→¬ m1.iss id g):
  Rel S (gI n c k m1 m0)∧Evo S m1 (gI n c k m1 m0):=by
 have at1:∀ {id:Nat},¬ (n≤id∧(m0.h (id - n)).isSome=true)→(gI n c k m1 m0).at_ id=m1.at_ id:=fun h=>by simp only[gI];rw[if_neg h]
 have at0:∀ {id:Nat} {o0:Ob},n≤id→m0.h (id - n)=some o0→(gI n c k m1 m0).at_ id=m0.at_ (id - n):=fun hn ho=>by simp only[gI];rw[if_pos ⟨hn,by simp[ho]⟩]
 have lt1:∀ {id:Nat} {o:Ob} {b x:Nat},m1.h id=some o→m1.at_ id=some (b,x)→b<m1.w.heap.size:=fun ho hx=>by
  obtain ⟨ob0,hr⟩:=(h1.obj _ _ _ _ ho hx).2.some
  exact iJ hr
 have e:Evo S m1 (gI n c k m1 m0):={
  rest:=ha.rest
  iss:=fun id g h=> .inl h
  size:=ha.size
  shape:=fun b cs T fz h=>⟨cs,fz,by show m0.w.heap[b]?=_;rw[ha.row b (iJ h)];exact h,rfl⟩
  keepS:=fun b h _=>ha.row b h
  keep:=fun b hb hn=>⟨fun hx=>by
   rcases hx with hx|⟨id,o,x,g1,g2,g3⟩
   ·exact hn (.inl hx)
   ·rcases iN g1 with ⟨q1,o0,q2,rfl⟩|⟨q1,q2⟩
    ·rw[at0 q1 q2] at g3
     have:=ha.new _ _ _ _ q2 g3
     omega
    ·rw[at1 q1] at g3
     exact hn (.inr ⟨id,o,x,q2,g2,g3⟩),ha.row b hb⟩
  live:=fun id o' ho hg=>by
   rcases iN ho with ⟨q1,o0,q2,rfl⟩|⟨q1,q2⟩
   ·have:=ha.rel.iss _ _ q2
    rw[ha.iss] at this
    exact absurd hg (hf _ _ (by simp[hJ]) (by simp[hJ];omega))
   ·exact ⟨o',q2,rfl,at1 q1,Nat.le_refl _,rfl⟩
  old:=fun id o b x ho hx hb=>by
   rcases iN ho with ⟨q1,o0,q2,rfl⟩|⟨q1,q2⟩
   ·rw[at0 q1 q2] at hx
    have:=ha.new _ _ _ _ q2 hx
    omega
   ·rw[at1 q1] at hx;exact ⟨o,x,q2,hx⟩ }
 refine ⟨⟨fun g=>(h1.glob g).mono e,fun id o ho=>?_,fun id o ho hx=>?_,fun id o b base ho hx=>?_,fun i j oi oj b x y hi hj hx hy=>?_,fun b hb=>Nat.lt_of_lt_of_le (h1.sub b hb) ha.size⟩,e⟩
 ·rcases iN ho with ⟨q1,o0,q2,rfl⟩|⟨q1,q2⟩
  ·have:=ha.rel.iss _ _ q2
   rw[ha.iss] at this
   exact .inr (by simp[hJ];omega)
  ·exact .inl (h1.iss _ _ q2)
 ·rcases iN ho with ⟨q1,o0,q2,rfl⟩|⟨q1,q2⟩
  ·rw[at0 q1 q2] at hx
   have:=ha.rel.none_ _ _ q2 hx
   simp[hJ,this,dO]
  ·rw[at1 q1] at hx;exact h1.none_ _ _ q2 hx
 ·rcases iN ho with ⟨q1,o0,q2,rfl⟩|⟨q1,q2⟩
  ·rw[at0 q1 q2] at hx
   obtain ⟨g1,gr⟩:=ha.rel.obj _ _ _ _ q2 hx
   refine ⟨fun hS=>g1 (.inl hS),?_⟩
   have gr0:=gr
   unfold oU at gr
   split at gr
   ·rename_i s pos rN
    have:(hJ n c o0).cells=[.itc s pos]:=by simp[hJ,rN,dO,cS]
    rw[this];exact gr
   ·rename_i ks vs bs clock rN
    have:(hJ n c o0).cells=[.mpc ks (dO n c vs) bs clock]:=by simp[hJ,rN,dO,cS]
    rw[this]
    obtain ⟨gb,es,ge,gm⟩:=gr
    refine ⟨gb,es,ge,gm.lk,by rw[kK];simpa using gm.lv,gm.lb,fun j k x hk hx=>(gm.key j k x hk hx).mono fun b _ hb=>⟨fun hx=>hb (yC hx),rfl⟩,fun j v x hv hx=>?_,gm.born⟩
    rw[kK,List.getElem?_map] at hv
    cases hc:vs[j]? with
    | none=>simp[hc] at hv
    | some u=>simp[hc] at hv;subst hv;exact (gm.val j u x hc hx).shift h1 ha hf
   ·rename_i mid mg since seen last rN
    have:(hJ n c o0).cells=[.itm (mid+n) (mg+c) since seen last]:=by simp[hJ,rN,dO,cS]
    rw[this]
    obtain ⟨gb,bm,ge,gm⟩:=gr
    exact ⟨gb,bm,ge,gm.shift h1 ha hf⟩
   obtain ⟨cs,T,fz,g2,g3,g4,g5⟩:=gr
   refine lK.row ⟨cs,T,fz,g2,g3,by simpa [hJ,kK] using g4,fun j v hv=>?_⟩
   simp only[hJ,kK,List.getElem?_map] at hv
   cases hc:o0.cells[j]? with
   | none=>simp[hc] at hv
   | some u=>
    simp[hc] at hv;subst hv
    obtain ⟨t1,z,t2,t3⟩:=g5 j u hc
    exact ⟨(aHB n c u).trans t1,z,t2,t3.shift h1 ha hf⟩
  ·rw[at1 q1] at hx
   exact h1.other e q2 hx (ha.row b (lt1 q2 hx))
 ·rcases iN hi with ⟨p1,o0,p2,rfl⟩|⟨p1,p2⟩ <;> rcases iN hj with ⟨q1,o1,q2,rfl⟩|⟨q1,q2⟩
  ·rw[at0 p1 p2] at hx;rw[at0 q1 q2] at hy
   have:=ha.rel.inj _ _ _ _ b x y p2 q2 hx hy
   omega
  ·rw[at0 p1 p2] at hx;rw[at1 q1] at hy
   have h3:=ha.new _ _ _ _ p2 hx
   have h4:=lt1 q2 hy
   omega
  ·rw[at1 p1] at hx;rw[at0 q1 q2] at hy
   have h3:=ha.new _ _ _ _ q2 hy
   have h4:=lt1 p2 hx
   omega
  ·rw[at1 p1] at hx;rw[at1 q1] at hy
   exact h1.inj _ _ _ _ b x y p2 q2 hx hy
def sA (w:World):M:=⟨fun _=>none,fun _=>none,fun _ g=>g<0,w⟩
theorem zY {T:Nat→Prop} {w:World} {b:Nat}:(sA w).av T b↔T b:=by
 constructor
 ·rintro (h|⟨id,o,x,h1,_⟩)
  ·exact h
  ·simp[sA] at h1
 ·exact .inl
theorem aIb [Gl] {S:Nat→Prop} {m:M} (hR:Rel S m) (g:Nat):RV (m.av S) (sA m.w) (Gl.gv g) (.pointer (some ⟨g,0,none⟩)):=by
 have h:=hR.glob g
 rcases Gl.ok g with hg|⟨ds,hg⟩
 ·rw[hg];exact .any _
 ·rw[hg] at h ⊢
  cases h with
  | vref f h1 h2=>
   refine .vref f (fun j d hd=>⟨fun hb=>(h1 j d hd).1 (zY.1 hb),(h1 j d hd).2⟩) fun j d hd=>?_
   exact (h2 j d hd).mono fun b _ hb=>⟨fun hx=>hb (zY.1 hx),rfl⟩
theorem aKL [Gl] {T:Nat→Prop} {w:World} (hgl:∀ g,RV T (sA w) (Gl.gv g) (.pointer (some ⟨g,0,none⟩))) (h:∀ b,T b→b<w.heap.size):Rel T (sA w):=
 ⟨hgl,fun id o h=>by simp[sA] at h,fun id o h=>by simp[sA] at h,fun id o b base h=>by simp[sA] at h,fun i j oi oj b x y h=>by simp[sA] at h,h⟩
theorem aMs [Gl] {m1 m0:M} {k:Nat} (h1:Rel S m1) (h2:Rel (m1.av S) m0) (h3:Evo (m1.av S) (sA m1.w) m0) (h4:m0.iss=fun _ g=>g<k):Apart S m1 m0 k:=by
 refine ⟨h2,h4,h3.size,fun b hb=>?_,fun id o b x ho hx=>?_,h3.rest⟩
 ·by_cases hS:m1.av S b
  ·exact h3.keepS b hb hS
  ·exact (h3.keep b hb (fun h=>hS (zY.1 h))).2
 ·rcases Nat.lt_or_ge b m1.w.heap.size with h|h
  ·obtain ⟨o0,y,g1,_⟩:=h3.old id o b x ho hx h
   simp[sA] at g1
  ·exact h
theorem aGG [Gl] {cfg:Cfg} {call:iX} (hc:CallOK P call) {hp:Hp} {n c:Nat} {f:FuncId} {vs:List V} {xs:List Value} {r:Res} (h:jW cfg call hp n c f vs=some r) (ht:yJ hp n)
  (d8:fK hp.get m.h r.rd) (gL:r.all=true→m.h=hp.get∧m.iss=fun _ g=>g<c) (hf:lY m c r.dc) (hR:Rel S m) (hv:jL S m vs xs):
  Calls P f xs.toArray m.w (fun e w'=>∃ x m',e= .returned x∧m'.w=w'∧cB S m c r x m'):=by
 unfold jW at h
 split at h
 ·rename_i ws ids gM
  split at h
  ·rename_i r0 hr0
   -- the arguments,closed
   have aFR:r.rd=ids:=by
    split at h <;> (simp only[Option.some.injEq] at h;subst h;rfl)
   rw[aFR] at d8
   have tT:mC hp.get ids=mC m.h ids:=vQ d8
   have aOu:kS m.h vs=some (ws,ids):=by
    by_cases vE:cfg.thr f=true
    ·rw[if_pos vE] at gM
     exact kA gM fun v w a g1 g2=>yX g1
    ·rw[if_neg vE] at gM
     exact kA gM fun v w a g1 g2=>aIh g1 (d8.mono g2)
   obtain ⟨m1,e1,hb⟩:=ros hR ids
   have hws:jL S m1 ws xs:=jO (fun g1 g2 g3=>aFB hR g1 g2 hb g3) aOu hv (fun i hi=>hi)
   have hsh:ws.all V.shut2=true:=t9 (fun v w r h=>aGZ h) aOu
   have aYm:jL (m1.av S) (sA m1.w) ws xs:=by
    refine ⟨hws.1,fun j a b ha bR=>(hws.2 j a b ha bR).shut2 (fun x y g=>?_) (List.all_eq_true.1 hsh a (List.mem_of_getElem? ha))⟩
    exact g.mono fun b _ hn=>⟨fun hx=>hn (zY.1 hx),rfl⟩
   have aAn:=hc.ok hr0 (fun _ _=>rfl) (S:=m1.av S) (m:=sA m1.w) rfl rfl (aKL (aIb hb.rel) fun b bR=>hb.rel.av_lt bR) aYm
   rw[show (sA m1.w).w=m.w from hb.w] at aAn
   refine Calls.mono aAn ?_
   rintro e w' ⟨x,m0,rfl,rfl,k1,k2,k3,k4,k5⟩
   have ha:=aMs hb.rel k1 k2 k5
   split at h
   ·rename_i q hq
    simp only[Option.some.injEq] at h;subst h
    cases hfl:r0.v.flat with
    | true=>
     obtain ⟨g1,g2⟩:=hR.grown (w':=m0.w) (by rw[←hb.w];exact ha.size) (fun b bR=>by rw[←hb.w] at bR ⊢;exact ha.row b bR) (by rw[←hb.w];exact ha.rest)
     exact ⟨x,{ m with w:=m0.w },rfl,rfl,g1,g2,k3.flat hfl,by simp[hfl,qT],(jJ m c).symm⟩
    | false=>
     obtain ⟨g1,g2⟩:=hb.rel.grown ha.size ha.row ha.rest
     refine ⟨x,{ m1 with w:=m0.w },rfl,rfl,g1,hb.evo.trans g2,k3.shut (fun x y g=>?_) (aDD hq),?_,?_⟩
     ·exact g.mono fun b _ hn=>⟨fun hx=>hn (.inl hx),rfl⟩
     ·simp only[hfl];rw[tT];exact e1
     ·simp only[hb.iss];exact (jJ m c).symm
   ·simp only[Option.some.injEq] at h;subst h
    have hf1:∀ id g,c≤g→g<c+r0.c→¬ m1.iss id g:=fun id g q1 q2=>by rw[hb.iss];exact hf id g q1 q2
    obtain ⟨g1,g2⟩:=aIF (n:=n) hb.rel ha hf1
    refine ⟨x,gI n c r0.c m1 m0,rfl,rfl,g1,hb.evo.trans g2,k3.shift hb.rel ha hf1,?_,?_⟩
    ·show aAV n c m0.h m1.h=_
     rw[wD,tT,←e1,aGA (hc.log hr0 (fun _ _=>rfl)).top,k4]
    ·show (fun id g=>m1.iss id g∨_)=_
     rw[hb.iss]
  ·simp at h
 ·rename_i gM
  split at h
  ·rename_i r0 hr0
   simp only[Option.some.injEq] at h;subst h
   obtain ⟨hh,hi⟩:=gL rfl
   obtain ⟨l1,l2,l3,l4,l5⟩:=hc.log hr0 ht
   refine Calls.mono (hc.ok hr0 ht hh hi hR hv) ?_
   rintro e w' ⟨x,m',rfl,rfl,k1,k2,k3,k4,k5⟩
   refine ⟨x,m',rfl,rfl,k1,k2,k3,?_,?_⟩
   ·rw[k4]
    funext id
    rw[aEk,hh]
    by_cases hm:id∈r0.wl++(List.range (r0.n - n)).map (n+·)
    ·cases hg:r0.hp.get id with
     | some o=>simp[hm]
     | none=>
      simp
      rcases Nat.lt_or_ge id n with fB|hge
      ·exact (l5 id fB hg).symm
      ·exact (ht id hge).symm
    ·rw[if_neg (fun h=>hm h.1)]
     simp only[List.mem_append,List.mem_map,List.mem_range,not_or,not_exists,not_and] at hm
     rcases Nat.lt_or_ge id n with fB|hge
     ·exact l4 id fB hm.1
     ·rw[ht id hge]
      refine l3 id ?_
      rcases Nat.lt_or_ge id r0.n with h1|h1
      ·exact absurd (show n+(id - n)=id by omega) (hm.2 (id - n) (by omega))
      ·exact h1
   ·rw[k5,hi]
    funext id g
    apply propext
    show g<r0.c↔g<c∨(c≤g∧g<c+(r0.c - c))
    omega
  ·simp at h
end
end Go.Ac
end
section
namespace Go.Ac
variable {P:Program}
theorem aHE {fz fs:Bool} {ρ ρ':Operand→V} {look:cA} {n c:Nat} {op:Op} (h:∀ x∈op.operands,ρ x=ρ' x):step P fz fs ρ look n c op=step P fz fs ρ' look n c op:=by
 have pairs:∀ ps:Array (Nat×Operand),(∀ x∈(ps.toList.map (·.2)).toArray,ρ x=ρ' x)→(ps.toList.map fun p=>(p.1,ρ p.2))=ps.toList.map fun p=>(p.1,ρ' p.2):=fun ps hp=>
  List.map_congr_left fun p hm=>by rw[hp p.2 (by simp only[List.mem_toArray];exact List.mem_map_of_mem hm)]
 cases op <;> simp only[Op.operands] at h <;> simp only[step]
 case build t ps=>rw[pairs ps h]
 case buildSlice t n ps=>rw[pairs ps h]
 case makeFunc fn first caps=>
  cases fn <;> try rfl
  simp only[step]
  rw[List.map_congr_left (f:=ρ) (g:=ρ') (l:=caps.toList) fun x hx=>h x (by simp at hx ⊢;exact .inr hx)]
 case call cl=>
  obtain ⟨callee,args,ts⟩:=cl
  cases callee <;> try rfl
  simp only[step]
  rw[List.map_congr_left (f:=ρ) (g:=ρ') (l:=args.toList) fun x hx=>h x (by simp[Call.operands] at hx ⊢;exact hx)]
 case makeMap t q=>cases q <;> rfl
 case next x b=>cases b <;> simp_all
 case slice t x lo hi mx=>cases lo <;> cases hi <;> cases mx <;> simp_all
 all_goals (first|rfl|(simp_all;done))
def aGy (S:Nat→Prop) (m:M) (e:nZ) (a:Act) (ts:List Nat):Prop:=∀ t∈ts,RV S m (e.get t) (a.tmps.getD t undef)
section
variable {S:Nat→Prop} {m:M}
theorem aBp {o:Oper} {all:List Oper} {t:Nat} (h:Operand.tmp t∈o.op.operands):t∈oH o all:=
 List.mem_append_left _ (List.mem_filterMap.2 ⟨.tmp t,by simpa using h,rfl⟩)
theorem aCq [Gl] {e:nZ} {a:Act} {ts:List Nat} (hR:Rel S m) (he:aGy S m e a ts) {x:Operand} (hx:∀ t,x= .tmp t→t∈ts):RV S m (gC e x) (a.eval x):=by
 cases x with
 | tmp t=>exact he t (hx t rfl)
 | const v=>exact aDY v
 | global g=>exact hR.glob g
 | func f=>exact .fn rfl (fun j x y hx=>by simp at hx)
theorem aCE (b:Bool):undef≠Value.bool b:=by unfold undef;intro h;cases h
theorem xV {ops:Array Oper} {o:Oper} {e:nZ} {a:Act} {b:Bool} (h:w8 ops.toList e o=some b) (he:aGy S m e a (oH o ops.toList)):
  Region.wanted o (yielded ops a.tmps)=b:=by
 unfold w8 at h
 unfold Region.wanted
 cases hg:o.guard with
 | none=>simp[hg] at h;subst h;rfl
 | some gw=>
  obtain ⟨j,want⟩:=gw
  simp only[hg,Array.getElem?_toList] at h
  cases hj:ops[j]? with
  | none=>simp[hj] at h
  | some g=>
   simp only[hj] at h
   cases hd:g.dst with
   | none=>simp[hd] at h
   | some d=>
    simp only[hd] at h
    have hsl:d∈oH o ops.toList:=List.mem_append_right _ (by simp[hg,hj,hd])
    have hr:=he d hsl
    have hy:yielded ops a.tmps j=match a.tmps[d]? with|some (.bool b)=>some b|_=>none:=by simp[yielded,hj,hd];rfl
    simp only[hy]
    split at h
    ·rename_i q hq
     simp at h;subst h
     rw[hq] at hr
     cases hr with
     | d hr=>
      cases htd:a.tmps[d]? with
      | none=>
       have:a.tmps.getD d undef=undef:=by simp[htd]
       rw[this] at hr
       generalize hu:undef=u at hr
       cases hr
       exact absurd hu (aCE _)
      | some v=>
       have:a.tmps.getD d undef=v:=by simp[htd]
       rw[this] at hr
       cases hr
       simp
    ·rename_i hq
     simp at h;subst h
     rw[hq] at hr
     cases htd:a.tmps[d]? with
     | none=>simp
     | some v=>
      have:a.tmps.getD d undef=v:=by simp[htd]
      rw[this] at hr
      cases hr
      simp[undef]
    ·simp at h
def aCh (P:Program):Prop:=∀ (f:FuncId) (fn:Func),P.funcs[f]?=some fn→fn.body.isSome=true→(fn.name== "runtime.NumGoroutine")=false
theorem aFs (hN:aCh P) {f:FuncId} {fn:Func} {args:Array Value} {w:World} (hf:P.funcs[f]?=some fn) (hb:fn.body.isSome=true):(callFunc f args).run P w= .ok (.enter f args) w:=by
 have h1:=hN f fn hf hb
 have h2:fn.body.isNone=false:=by cases hbb:fn.body <;> simp_all
 unfold callFunc
 simp only[program,bind,Sem.bind,Sem.run,hf,h1,h2]
 simp[pure,Sem.run]
theorem aMP (hN:aCh P) {σ:Operand→Value} {dst:Option Tmp} {fo:Operand} {args:Array Operand} {ts:Array TypeId} {ty:TypeId} {pos:String} {af:Array Edge} {gd:Option (Nat×Bool)} {f:FuncId} {caps:Array Value} {fn:Func} {w:World}
  (hσ:σ fo= .func (.func f) #[] caps) (hf:P.funcs[f]?=some fn) (hb:fn.body.isSome=true):
  (execOp σ ⟨dst,.call ⟨.value fo,args,ts⟩,ty,pos,af,gd⟩).run P w= .ok (.enter f (args.map σ++caps)) w:=by
 simp only[execOp,resolve,hσ,Deferred.ofValue,invoke,Sem.run_bind,Sem.run_pure,Result.andThen_ok]
 rw[show (#[]:Array Value)++args.map σ=args.map σ by simp]
 exact aFs hN hf hb
end
def yG (P:Program) (call:iX):Prop:=∀ {f:FuncId} {vs:List V} {hp:Hp} {n c:Nat} {r:CR},call f vs hp n c=some r→∃ fn,P.funcs[f]?=some fn∧fn.body.isSome=true
def aMp [Gl] (P:Program) (cfg:Cfg):Prop:=∀ (f:FuncId) (p:Nat×Nat),cfg.prim f=some p→(∃ fn,P.funcs[f]?=some fn∧fn.body.isSome=true)∧
 ∀ {S:Nat→Prop} {m:M} {n c:Nat} {vs:List V} {xs:List Value} {r:Res},aBK m.h n c p vs=some r→Rel S m→lY m c r.dc→jL S m vs xs→
  Calls P f xs.toArray m.w (fun e w'=>∃ x m',e= .returned x∧m'.w=w'∧cB S m c r x m')
structure Pre [Gl] (P:Program) (cfg:Cfg):Prop where
 nc:aCh P
 prim:aMp P cfg
theorem aII {cfg:Cfg} {call:iX} (hB:yG P call) {hp:Hp} {n c:Nat} {f:FuncId} {vs:List V} {r:Res} (h:jW cfg call hp n c f vs=some r):∃ fn,P.funcs[f]?=some fn∧fn.body.isSome=true:=by
 unfold jW at h
 split at h <;> (split at h <;> first|(rename_i r0 hr0;exact hB hr0)|(simp at h;done))
section
variable {S:Nat→Prop} {m:M}
theorem aJZ [Gl] {cfg:Cfg} (hN:Pre P cfg) {fid rid:Nat} {call:iX} (hc:CallOK P call) (hB:yG P call) {ops:Array Oper} {o:Oper} {s:St} {r:Res} {i:Nat} {a:Act}
  (hi:ops[i]?=some o) (h:opW P cfg fid rid call ops.toList o s=some r) (ht:yJ s.hp s.n) (d8:fK s.hp.get m.h r.rd)
  (gL:r.all=true→m.h=s.hp.get∧m.iss=fun _ g=>g<s.c) (hf:lY m s.c r.dc) (hR:Rel S m) (he:aGy S m s.env a (oH o ops.toList))
  {Q:Exit→Act→World→Prop} {K:Act→World→Prop} (hK:∀ x m',cB S m s.c r x m'→K (a.put o.dst x) m'.w):wpOp P ops Q i K a m.w:=by
 unfold wpOp
 simp only[hi]
 unfold opW at h
 split at h
 ·rename_i hw
  rw[if_pos (xV hw he)]
  refine .inl ?_
  split at h
  ·rename_i q hq
   split at h
   ·simp only[Option.some.injEq] at h;subst h
    unfold Oper.wp
    unfold opR at hq
    split at hq
    ·rename_i fo args ts ho
     split at hq
     ·rename_i f caps lU
      have aOY:∀ x∈o.op.operands,RV S m (gC s.env x) (a.eval x):=fun x hx=>aCq hR he fun t ht=>by subst ht;exact aBp hx
      have hfv:RV S m (gC s.env fo) (a.eval fo):=aOY fo (by rw[ho];simp[Op.operands,Call.operands])
      rw[lU] at hfv
      have oE:∃ fn,P.funcs[f]?=some fn∧fn.body.isSome=true:=by
       split at hq
       ·rename_i p hp;exact (hN.prim f p hp).1
       ·exact aII hB hq
      obtain ⟨fn,hfn,aJT⟩:=oE
      generalize hv:a.eval fo=v at hfv
      cases hfv with
      | @fn _ _ cs hl rN=>
       have kX:(execOp a.eval o).run P m.w= .ok (.enter f (args.map a.eval++cs)) m.w:=by
        obtain ⟨dst,op,ty,pos,af,gd⟩:=o
        simp only at ho;subst ho
        exact aMP hN.nc hv hfn aJT
       rw[kX,Oper.upon_enter]
       have hvs:jL S m (args.toList.map (gC s.env)++caps) (args.toList.map a.eval++cs.toList):=by
        refine jL.append ?_ ⟨by simpa using hl,fun j x y hx hy=>rN j x y hx (by simpa using hy)⟩
        refine ⟨by simp,fun j x y hx hy=>?_⟩
        rw[List.getElem?_map] at hx hy
        cases hj:args.toList[j]? with
        | none=>simp[hj] at hx
        | some z=>
         simp[hj] at hx hy;subst hx;subst hy
         exact aOY z (by rw[ho];simp only[Op.operands,Call.operands];simp;exact .inr (by simpa using List.mem_of_getElem? hj))
       have:Calls P f (args.toList.map a.eval++cs.toList).toArray m.w (fun e w'=>∃ x m',e= .returned x∧m'.w=w'∧cB S m s.c q x m'):=by
        split at hq
        ·rename_i p hp;exact (hN.prim f p hp).2 (aKk hq d8) hR hf hvs
        ·exact aGG hc hq ht d8 gL hf hR hvs
       rw[show (args.toList.map a.eval++cs.toList).toArray=args.map a.eval++cs by apply Array.ext';simp] at this
       refine Calls.mono this ?_
       rintro e w' ⟨x,m',rfl,rfl,hA⟩
       exact hK x m' hA
     ·simp at hq
    ·rename_i cD
     classical
     let ρ:Operand→V:=fun x=>if x∈o.op.operands then gC s.env x else .any
     have hst:step P (cfg.fz fid rid).1 (cfg.fz fid rid).2 ρ m.h s.n s.c o.op=some q:=by
      rw[←aMe hq d8]
      exact aHE fun x hx=>by simp[ρ,hx]
     have lL:∀ x,RV S m (ρ x) (a.eval x):=fun x=>by
      by_cases hx:x∈o.op.operands
      ·simp only[ρ,if_pos hx];exact aCq hR he fun t ht=>by subst ht;exact aBp hx
      ·simp only[ρ,if_neg hx];exact .any _
     obtain ⟨x,m',hg,hA⟩:=aHP hst (fun _=>rfl) lL hR hf
     rcases hg with hg|⟨hg,rfl⟩
     ·rw[hg,Oper.upon_value];exact hK x m' hA
     ·rw[hg,Oper.upon_skip];exact hK _ m' hA
   ·simp at h
  ·simp at h
 ·rename_i hw
  simp only[Option.some.injEq] at h;subst h
  rw[if_neg (by rw[xV hw he];simp)]
  exact hK undef m (cB.quiet hR .undef)
 ·simp at h
end
end Go.Ac
end
section
namespace Go.Ac
variable {P:Program}
def fx {β:Type} (F:Nat→(Nat→β)→Nat→β) (X:Nat→Bool) (f0:Nat→β):Nat→Nat→β
 | 0=>f0
 | k+1=>match X k with|true=>F k (fx F X f0 k)|false=>fx F X f0 k
structure Acts {β:Type} (F:Nat→(Nat→β)→Nat→β) (K:Nat→List Nat):Prop where
 loc:∀ (i:Nat) (f g:Nat→β) (id:Nat),f id=g id→F i f id=F i g id
 out:∀ (i:Nat) (f:Nat→β) (id:Nat),id∉K i→F i f id=f id
section
variable {β:Type} {F:Nat→(Nat→β)→Nat→β} {K:Nat→List Nat} {f0:Nat→β}
theorem yZ {X Y:Nat→Bool}:∀ {k:Nat},(∀ i,i<k→X i=Y i)→fx F X f0 k=fx F Y f0 k
 | 0,_=>rfl
 | k+1,h=>by
  simp only[fx]
  rw[h k (by omega),yZ (k:=k) fun i hi=>h i (by omega)]
theorem Acts.comm (A:Acts F K) {i j:Nat} (h:∀ id∈K i,id∉K j) (f:Nat→β):F i (F j f)=F j (F i f):=by
 funext id
 by_cases hi:id∈K i
 ·have hj:=h id hi
  rw[A.out j _ id hj]
  exact A.loc i _ _ id (A.out j _ id hj)
 ·rw[A.out i _ id hi]
  exact (A.loc j _ _ id (A.out i _ id hi)).symm
theorem aIr (A:Acts F K) {X:Nat→Bool} {j:Nat} (hX:X j=false):∀ {k:Nat},j<k→(∀ i,j<i→i<k→X i=true→∀ id∈K i,id∉K j)→fx F (upd X j true) f0 k=F j (fx F X f0 k)
 | k+1,hj,hd=>by
  simp only[fx]
  by_cases hkj:k=j
  ·subst hkj
   rw[bV,hX]
   simp only
   rw[yZ (F:=F) (f0:=f0) (X:=upd X k true) (Y:=X) fun i hi=>b7 _ _ (by omega)]
  ·rw[b7 _ _ hkj,aIr A hX (k:=k) (by omega) fun i h1 h2=>hd i h1 (by omega)]
   cases hk:X k with
   | false=>rfl
   | true=>exact A.comm (hd k (by omega) (by omega) hk) _
theorem aFO (A:Acts F K) {X:Nat→Bool} {id:Nat} {j:Nat} (h1:∀ i,i<j→X i=false→id∉K i):∀ {k:Nat},j≤k→(∀ i,j≤i→i<k→X i=true→id∉K i)→fx F X f0 k id=fx F (fun _=>true) f0 j id
 | k,hk,h2=>by
  have low:∀ n,n≤j→fx F X f0 n id=fx F (fun _=>true) f0 n id:=by
   intro n
   induction n with
   | zero=>intro _;rfl
   | succ n ih=>
    intro hn
    simp only[fx]
    cases hx:X n with
    | true=>exact A.loc _ _ _ _ (ih (by omega))
    | false=>rw[A.out _ _ _ (h1 n (by omega) hx)];exact ih (by omega)
  have aOv:∀ n,j+n≤k→fx F X f0 (j+n) id=fx F X f0 j id:=by
   intro n
   induction n with
   | zero=>intro _;rfl
   | succ n ih=>
    intro hn
    show fx F X f0 (j+n+1) id=_
    simp only[fx]
    cases hx:X (j+n) with
    | true=>exact (A.out _ _ _ (h2 (j+n) (by omega) (by omega) hx)).trans (ih (by omega))
    | false=>exact ih (by omega)
  have:=aOv (k - j) (by omega)
  rw[show j+(k - j)=k by omega] at this
  rw[this]
  exact low j (Nat.le_refl _)
end
theorem aHa:∀ (l:List (Nat×Ob)) (f g:Nat→Option Ob) (id:Nat),f id=g id→qT f l id=qT g l id
 | [],f,g,id,h=>h
 | (k,o)::r,f,g,id,h=>aHa r _ _ id (by simp only[upd,h])
theorem zZ:∀ (l:List (Nat×Ob)) (f:Nat→Option Ob) (id:Nat),id∉l.map (·.1)→qT f l id=f id
 | [],f,id,_=>rfl
 | (k,o)::r,f,id,h=>by
  simp only[List.map_cons,List.mem_cons,not_or] at h
  simp only[qT]
  rw[zZ r _ id h.2,b7 _ _ h.1]
def aOl (dst:Option Nat) (v:V) (f:Nat→V):Nat→V:=match dst with|some d=>upd f d v|none=>f
theorem mP (d:Nat) (v:V) (e:nZ):nZ.get ((d,v)::e)=upd e.get d v:=by
 funext t
 simp only[nZ.get,upd]
 by_cases h:t=d
 ·subst h;simp
 ·rw[qS (Ne.symm h)];simp[h]
structure Log (s s':St):Prop where
 n0:s'.n0=s.n0
 n:s.n≤s'.n
 c:s.c≤s'.c
 top:s.n0≤s.n→yJ s.hp s.n→yJ s'.hp s'.n
 wl:s.n0≤s.n→∀ id,id<s.n0→id∉s'.wl→id∉s.wl∧s'.hp.get id=s.hp.get id
 stay:s.n0≤s.n→∀ id,id<s.n0→s'.hp.get id=none→s.hp.get id=none
theorem Log.refl (s:St):Log s s:=⟨rfl,Nat.le_refl _,Nat.le_refl _,fun _ h=>h,fun _ _ _ h=>⟨h,rfl⟩,fun _ _ _ h=>h⟩
theorem Log.trans {a b c:St} (h:Log a b) (k:Log b c):Log a c:=by
 have hb:a.n0≤a.n→b.n0≤b.n:=fun h0=>by rw[h.n0];exact Nat.le_trans h0 h.n
 refine ⟨k.n0.trans h.n0,Nat.le_trans h.n k.n,Nat.le_trans h.c k.c,fun h0 ht=>k.top (hb h0) (h.top h0 ht),fun h0 id cY hw=>?_,fun h0 id cY hn=>?_⟩
 ·obtain ⟨h1,h2⟩:=k.wl (hb h0) id (by rw[h.n0];exact cY) hw
  obtain ⟨h3,h4⟩:=h.wl h0 id cY h1
  exact ⟨h3,h2.trans h4⟩
 ·exact h.stay h0 id cY (k.stay (hb h0) id (by rw[h.n0];exact cY) hn)
theorem rF {n0 id:Nat}:∀ {wr:List (Nat×Ob)} {wl:List Nat},id∉bA n0 wl wr→id∉wl∧(id<n0→id∉wr.map (·.1))
 | [],wl,h=>⟨h,fun _=>by simp⟩
 | (k,o)::r,wl,h=>by
  simp only[bA] at h
  split at h
  ·rename_i hk
   split at h
   ·rename_i ha
    obtain ⟨h1,h2⟩:=rF h
    refine ⟨h1,fun fB=>?_⟩
    simp only[List.map_cons,List.mem_cons,not_or]
    refine ⟨fun he=>?_,h2 fB⟩
    obtain ⟨x,jA,nH⟩:=List.any_eq_true.1 ha
    have:=Nat.eq_of_beq_eq_true nH
    subst this;subst he
    exact h1 jA
   ·obtain ⟨h1,h2⟩:=rF h
    simp only[List.mem_cons,not_or] at h1
    exact ⟨h1.2,fun fB=>by simp only[List.map_cons,List.mem_cons,not_or];exact ⟨h1.1,h2 fB⟩⟩
  ·rename_i hk
   obtain ⟨h1,h2⟩:=rF h
   refine ⟨h1,fun fB=>?_⟩
   simp only[List.map_cons,List.mem_cons,not_or]
   refine ⟨fun he=>?_,h2 fB⟩
   subst he
   rw[show Nat.blt id n0=true by simp[Nat.blt_eq,fB]] at hk;simp at hk
theorem aEa:∀ (l:List (Nat×Ob)) (f:Nat→Option Ob) (id:Nat),qT f l id=none→f id=none
 | [],f,id,h=>h
 | (k,o)::r,f,id,h=>by
  simp only[qT] at h
  have:=aEa r _ id h
  by_cases hk:id=k
  ·subst hk;simp[upd] at this
  ·rwa [b7 _ _ hk] at this
theorem Log.put {s:St} {dst:Option Nat} {q:Res} (h:q.wr.all (fun p=>Nat.blt p.1 (s.n+q.dn))=true):Log s (s.put dst q):=by
 refine ⟨rfl,Nat.le_add_right _ _,Nat.le_add_right _ _,fun h0 ht id cY=>?_,fun h0 id cY hw=>?_,fun h0 id cY hn=>?_⟩
 ·show (s.hp.sets q.wr).get id=none
  rw[l9,zZ]
  ·exact ht id (by have:s.n+q.dn≤id:=cY;omega)
  ·intro hm
   obtain ⟨p,hp,rfl⟩:=List.mem_map.1 hm
   have:=List.all_eq_true.1 h p hp
   rw[Nat.blt_eq] at this
   have:s.n+q.dn≤p.1:=cY
   omega
 ·obtain ⟨h1,h2⟩:=rF hw
  refine ⟨h1,?_⟩
  show (s.hp.sets q.wr).get id=_
  rw[l9,zZ _ _ _ (h2 cY)]
 ·have:(s.hp.sets q.wr).get id=none:=hn
  rw[l9] at this
  exact aEa _ _ _ this
section
variable {cfg:Cfg} {fid rid:Nat} {call:iX} {all:List Oper}
structure Trace [Gl] (P:Program) (cfg:Cfg) (fid rid:Nat) (call:iX) (all l:List Oper) (σ:Nat→St) (ρ:Nat→Res):Prop where
 step:∀ (i:Nat) (o:Oper),l[i]?=some o→opW P cfg fid rid call all o (σ i)=some (ρ i)∧σ (i+1)=(σ i).put o.dst (ρ i)
theorem uL [Gl]:∀ {l:List Oper} {s s':St},kE P cfg fid rid call all l s=some s'→∃ σ ρ,σ 0=s∧σ l.length=s'∧Trace P cfg fid rid call all l σ ρ
 | [],s,s',h=>⟨fun _=>s,fun _=>aLg,rfl,by simpa [kE] using h,⟨fun i o ho=>by simp at ho⟩⟩
 | o::r,s,s',h=>by
  simp only[kE] at h
  split at h
  ·rename_i q hq
   obtain ⟨σ,ρ,h1,h2,h3⟩:=uL h
   refine ⟨fun i=>match i with|0=>s|i+1=>σ i,fun i=>match i with|0=>q|i+1=>ρ i,rfl,h2,⟨fun i p hp=>?_⟩⟩
   cases i with
   | zero=>simp at hp;subst hp;exact ⟨hq,h1⟩
   | succ i=>simp at hp;exact h3.step i p hp
  ·simp at h
theorem Trace.tail [Gl] {o:Oper} {r:List Oper} {σ:Nat→St} {ρ:Nat→Res} (t:Trace P cfg fid rid call all (o::r) σ ρ):Trace P cfg fid rid call all r (fun i=>σ (i+1)) (fun i=>ρ (i+1)):=
 ⟨fun i p hp=>t.step (i+1) p (by simpa using hp)⟩
theorem vU [Gl]:∀ {l:List Oper} {ancs:List (List Nat)} {tr:List Tr} {s:St} {σ:Nat→St} {ρ:Nat→Res},gV P cfg fid rid call all l ancs tr s=true→σ 0=s→Trace P cfg fid rid call all l σ ρ→
  ∀ (j:Nat) (o:Oper),l[j]?=some o→∃ a,ancs[j]?=some a∧(∀ (k:Nat) (t:Tr),tr[k]?=some t→a.contains k=true∨qW t (aCx o all (ρ j))=true)∧
   ∀ (i:Nat) (p:Oper),i<j→l[i]?=some p→a.contains (tr.length+i)=true∨qW (aCx p all (ρ i)) (aCx o all (ρ j))=true
 | [],ancs,tr,s,σ,ρ,_,_,_,j,o,ho=>by simp at ho
 | p::r,[],tr,s,σ,ρ,h,_,_,j,o,ho=>by simp[gV] at h
 | p::r,a::ancs,tr,s,σ,ρ,h,h0,ht,j,o,ho=>by
  simp only[gV] at h
  obtain ⟨t1,t2⟩:=ht.step 0 p rfl
  rw[h0] at t1
  rw[t1] at h
  simp only[Bool.and_eq_true] at h
  cases j with
  | zero=>
   simp at ho;subst ho
   refine ⟨a,rfl,fun k t hk=>?_,fun i q hi=>by omega⟩
   have:=List.all_eq_true.1 h.1 (t,k) (by rw[List.mem_zipIdx_iff_getElem?];exact hk)
   simpa using this
  | succ j=>
   simp at ho
   rw[h0] at t2
   obtain ⟨b,h1,h2,h3⟩:=vU h.2 (σ:=fun i=>σ (i+1)) (ρ:=fun i=>ρ (i+1)) t2 ht.tail j o ho
   refine ⟨b,by simpa using h1,fun k t hk=>h2 k t ?_,fun i q hi hq=>?_⟩
   ·rw[List.getElem?_append_left (List.getElem?_eq_some_iff.1 hk).1];exact hk
   ·cases i with
    | zero=>simp at hq;subst hq;exact h2 tr.length _ (by simp)
    | succ i=>
     simp at hq
     have:=h3 i q (by omega) hq
     simp only[List.length_append,List.length_cons,List.length_nil] at this
     rwa [show tr.length+(0+1)+i=tr.length+(i+1) by omega] at this
end
theorem aMC {X:Nat→Bool} (all:List Oper) (hX:∀ (i:Nat) (o:Oper),all[i]?=some o→X i=true→∀ e∈o.after.toList,Region.binds .any e=true→X e.on=true):
  (anc all).length=all.length∧∀ (j:Nat) (o:Oper) (a:List Nat),all[j]?=some o→(anc all)[j]?=some a→(∀ e∈o.after.toList,Region.binds .any e=true→X e.on=true)→∀ i∈a,X i=true:=by
 have key:∀ (r:List Oper) (acc:List (List Nat)) (d:List Oper),d++r=all→acc.length=d.length→
   (∀ (j:Nat) (o:Oper) (a:List Nat),all[j]?=some o→acc[j]?=some a→(∀ e∈o.after.toList,Region.binds .any e=true→X e.on=true)→∀ i∈a,X i=true)→
   let res:=r.foldl (fun acc o=>acc++[o.after.toList.foldl (fun s e=>if Region.binds .any e then e.on::(acc.getD e.on []++s) else s) []]) acc
   res.length=all.length∧∀ (j:Nat) (o:Oper) (a:List Nat),all[j]?=some o→res[j]?=some a→(∀ e∈o.after.toList,Region.binds .any e=true→X e.on=true)→∀ i∈a,X i=true:=by
  intro r
  induction r with
  | nil=>intro acc d hd hl h;simp only[List.append_nil] at hd;subst hd;exact ⟨hl,h⟩
  | cons p r ih=>
   intro acc d hd hl h
   simp only[List.foldl_cons]
   refine ih _ (d++[p]) (by simp[hd]) (by simp[hl]) fun j o a ho ha hb=>?_
   rw[List.getElem?_append] at ha
   split at ha
   ·exact h j o a ho ha hb
   ·rename_i hj
    have hj':j=acc.length:=by
     have:=(List.getElem?_eq_some_iff.1 ha).1
     simp at this;omega
    subst hj'
    simp only[Nat.sub_self,List.getElem?_cons_zero,Option.some.injEq] at ha;subst ha
    have hop:o=p:=by
     rw[←hd,hl] at ho
     simpa using ho.symm
    subst hop
    -- the inner sum
    have inner:∀ (l:List Edge) (s:List Nat),(∀ e∈l,Region.binds .any e=true→X e.on=true)→(∀ i∈s,X i=true)→
      ∀ i∈l.foldl (fun s e=>if Region.binds .any e then e.on::(acc.getD e.on []++s) else s) s,X i=true:=by
     intro l
     induction l with
     | nil=>intro s _ hs;exact hs
     | cons e l ihl=>
      intro s hl' hs
      simp only[List.foldl_cons]
      refine ihl _ (fun e' he'=>hl' e' (by simp[he'])) ?_
      split
      ·rename_i hbe
       have hXe:=hl' e (by simp) hbe
       intro i hi
       simp only[List.mem_cons,List.mem_append] at hi
       rcases hi with rfl|hi|hi
       ·exact hXe
       ·cases hg:acc[e.on]? with
        | none=>simp[hg] at hi
        | some b=>
         simp[hg] at hi
         have fB:e.on<all.length:=by
          have:=(List.getElem?_eq_some_iff.1 hg).1
          rw[←hd];simp;omega
         exact h e.on all[e.on] b (by simp[fB]) hg (hX e.on _ (by simp[fB]) hXe) i hi
       ·exact hs i hi
      ·exact hs
    exact inner _ [] hb (fun i hi=>by simp at hi)
 exact key all [] [] rfl rfl (fun j o a _ ha=>by simp at ha)
end Go.Ac
end
