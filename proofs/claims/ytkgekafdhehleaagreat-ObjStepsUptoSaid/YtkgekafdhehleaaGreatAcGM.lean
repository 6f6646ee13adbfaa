/- The abstract machine: slices. No conditions. -/
import Derived.Test.YtkgekafdhehleaaGreatAcDM
set_option linter.unusedVariables false
set_option linter.unusedSimpArgs false
section
namespace Go.Ac
variable {P:Program} {S:Nat→Prop} {m:M}
theorem wD (a b:List (Nat×Ob)):∀ h:Nat→Option Ob,qT h (a++b)=qT (qT h a) b:=by
 induction a with
 | nil=>intro h;rfl
 | cons p r ih=>intro h;obtain ⟨k,o⟩:=p;exact ih _
structure RoBy [Gl] (S:Nat→Prop) (m m':M) (ids:List Nat):Prop where
 evo:Evo S m m'
 rel:Rel S m'
 w:m'.w=m.w
 at_:m'.at_=m.at_
 iss:m'.iss=m.iss
 h:∀ id,m'.h id=m.h id∨∃ o,m.h id=some o∧m'.h id=some { o with ro:=true }
 ro:∀ id∈ids,∀ o,m'.h id=some o→o.ro=true
 not:∀ id,id∉ids→m'.h id=m.h id
theorem aCJ [Gl]:∀ (ids:List Nat) (all:List Nat) (m1:M),RoBy S m m1 all→∃ m',m'.h=qT m1.h (mC m.h ids)∧RoBy S m m' (all++ids)
 | [],all,m1,h1=>⟨m1,rfl,by simpa using h1⟩
 | id::r,all,m1,h1=>by
  simp only[mC]
  cases cY:m.h id with
  | none=>
   obtain ⟨m',h2,h3⟩:=aCJ r all m1 h1
   refine ⟨m',h2,⟨h3.evo,h3.rel,h3.w,h3.at_,h3.iss,h3.h,?_,?_⟩⟩
   ·intro i hi o ho
    simp only[List.mem_append,List.mem_cons] at hi
    rcases hi with hi|rfl|hi
    ·exact h3.ro i (by simp[hi]) o ho
    ·rcases h3.h i with h|⟨o',h,_⟩
     ·rw[h,cY] at ho;simp at ho
     ·rw[cY] at h;simp at h
    ·exact h3.ro i (by simp[hi]) o ho
   ·intro i hi
    simp only[List.mem_append,List.mem_cons,not_or] at hi
    exact h3.not i (by simp[hi.1,hi.2.2])
  | some o=>
   have hm1:∃ o1,m1.h id=some o1∧({ o1 with ro:=true }:Ob)={ o with ro:=true }:=by
    rcases h1.h id with h|⟨o',h,h'⟩
    ·exact ⟨o,by rw[h,cY],rfl⟩
    ·rw[cY] at h;injection h with h;subst h;exact ⟨_,h',rfl⟩
   obtain ⟨o1,ho1,heq⟩:=hm1
   obtain ⟨m2,e1,e2,e3,e4,e5,e6⟩:=aPs h1.rel ho1
   have h2:RoBy S m m2 (all++[id]):=by
    refine ⟨h1.evo.trans e6,e5,e1.trans h1.w,e3.trans h1.at_,e4.trans h1.iss,fun i=>?_,fun i hi q hq=>?_,fun i hi=>?_⟩
    ·by_cases hi:i=id
     ·subst hi;exact .inr ⟨o,cY,by rw[e2];simp[heq]⟩
     ·rw[e2,b7 _ _ hi];exact h1.h i
    ·by_cases aDA:i=id
     ·subst aDA;rw[e2] at hq;simp at hq;subst hq;rfl
     ·rw[e2,b7 _ _ aDA] at hq
      exact h1.ro i (by simpa [aDA] using hi) q hq
    ·simp at hi
     rw[e2,b7 _ _ hi.2];exact h1.not i hi.1
   obtain ⟨m',h3,h4⟩:=aCJ r (all++[id]) m2 h2
   refine ⟨m',?_,by simpa using h4⟩
   rw[h3,e2]
   simp only[qT,heq]
theorem ros [Gl] (hR:Rel S m) (ids:List Nat):∃ m',m'.h=qT m.h (mC m.h ids)∧RoBy S m m' ids:=by
 obtain ⟨m',h1,h2⟩:=aCJ (S:=S) (m:=m) ids [] m ⟨.refl S m,hR,rfl,rfl,rfl,fun _=> .inl rfl,fun _ h=>by simp at h,fun _ _=>rfl⟩
 exact ⟨m',h1,by simpa using h2⟩
theorem RoBy.free [Gl] {m':M} {ids:List Nat} (hR:Rel S m) (hb:RoBy S m m' ids) {id:Nat} {o:Ob} {b base:Nat} (cY:id∈ids) (ho:m.h id=some o) (ha:m.at_ id=some (b,base)):¬ m'.av S b:=by
 rintro (h|⟨i,q,x,h1,h2,h3⟩)
 ·exact (hR.obj id o b base ho ha).1 h
 ·rw[hb.at_] at h3
  have hq:∃ p,m.h i=some p:=by
   rcases hb.h i with h|⟨p,h,_⟩
   ·exact ⟨q,h▸h1⟩
   ·exact ⟨p,h⟩
  obtain ⟨p,hp⟩:=hq
  have:=hR.inj i id p o b x base hp ho h3 ha
  subst this
  have:=hb.ro i cY q h1
  rw[this] at h2;cases h2
theorem aAa (sz:Nat):∀ (n:Nat) (l:List D),(eE sz n l).length=n
 | 0,_=>rfl
 | n+1,l=>by simp[eE,aAa sz n]
theorem aAL (sz:Nat):∀ (n:Nat) (l:List D) (i:Nat),i<n→(eE sz n l)[i]?=some ((l.drop (i*sz)).take sz)
 | n+1,l,0,_=>by simp[eE]
 | n+1,l,i+1,h=>by
  simp only[eE,List.getElem?_cons_succ]
  rw[aAL sz n (l.drop sz) i (by omega),List.drop_drop]
  congr 3
  rw[Nat.succ_mul];omega
theorem aEq {f:V→Option (D×List Nat)}:∀ {vs:List V} {ds:List D} {ids:List Nat},g9 f vs=some (ds,ids)→
  ds.length=vs.length∧∀ (j:Nat) (v:V),vs[j]?=some v→∃ d a,ds[j]?=some d∧f v=some (d,a)∧∀ i∈a,i∈ids
 | [],ds,ids,h=>by simp[g9] at h;obtain ⟨rfl,rfl⟩:=h;exact ⟨rfl,fun j v hv=>by simp at hv⟩
 | v::r,ds,ids,h=>by
  simp only[g9] at h
  split at h
  ·rename_i x a xs b h1 h2
   simp at h;obtain ⟨rfl,rfl⟩:=h
   obtain ⟨h3,h4⟩:=aEq h2
   refine ⟨by simp[h3],fun j u hu=>?_⟩
   cases j with
   | zero=>simp at hu;subst hu;exact ⟨x,a,rfl,h1,fun i hi=>by simp[hi]⟩
   | succ j=>
    simp at hu
    obtain ⟨d,q,h5,h6,h7⟩:=h4 j u hu
    exact ⟨d,q,by simpa using h5,h6,fun i hi=>by simp[h7 i hi]⟩
  ·simp at h
theorem aKl [Gl] (hR:Rel S m):∀ (f:Nat) {v:V} {x:D} {ids:List Nat} {y:Value},yQ m.h f v=some (x,ids)→RV S m v y→∀ {m':M} {all:List Nat},RoBy S m m' all→(∀ i∈ids,i∈all)→
  RD m'.w (m'.av S) x y:=by
 intro f
 induction f with
 | zero=>
  intro v x ids y h hv m' all hb hi
  cases v <;> simp only[yQ] at h <;> try (simp at h;done)
  case d x'=>simp at h;obtain ⟨rfl,rfl⟩:=h;cases hv with|d h=>exact h.mono hb.evo.keep
  case full rows=>simp at h;obtain ⟨rfl,rfl⟩:=h;cases hv with|full h=>exact h.mono hb.evo.keep
 | succ f ih=>
  intro v x ids y h hv m' all hb hi
  cases v <;> simp only[yQ] at h <;> try (simp at h;done)
  case d x'=>simp at h;obtain ⟨rfl,rfl⟩:=h;cases hv with|d h=>exact h.mono hb.evo.keep
  case full rows=>simp at h;obtain ⟨rfl,rfl⟩:=h;cases hv with|full h=>exact h.mono hb.evo.keep
  case osl id g off len sz cap=>
   cases hl:live m.h id g with
   | none=>simp[hl] at h
   | some o=>
    simp only[hl] at h
    split at h
    ·rename_i ds r aQX hds
     simp at h;obtain ⟨rfl,rfl⟩:=h
     have hle:off+len*sz≤o.cells.length:=Nat.le_of_ble_eq_true aQX
     obtain ⟨ho,_,cE⟩:=hv.osl_live hl
     unfold gR at cE
     cases iP:m.at_ id with
     | none=>
      simp only[iP] at cE
      obtain ⟨rfl,_,_,a,rfl⟩:=cE
      simp only[eE]
      exact .empty a 0 (Nat.zero_le _)
     | some p=>
      obtain ⟨b,base⟩:=p
      simp only[iP] at cE
      obtain ⟨p,k,rfl,hp,h2,h3,h4,_⟩:=cE
      rcases hp with rfl|⟨rfl,rfl⟩
      ·have aVe:=hb.free hR (hi id (by simp)) ho iP
       obtain ⟨xs,hxs,_,hc⟩:=hR.vals ho iP (hv.osl_kind hl)
       obtain ⟨hdl,hdg⟩:=aEq hds
       have aYd:=(hxs.drop off).take (len*sz)
       have eY:((o.cells.drop off).take (len*sz)).length=len*sz:=by simp;omega
       have gM:=aAa sz len ds
       have key:∀ (i j:Nat) (row:List D) (d:D),(eE sz len ds)[i]?=some row→row[j]?=some d→i<len∧j<sz∧ds[i*sz+j]?=some d:=by
        intro i j row d h5 h6
        have xX:i<len:=by rw[←gM];exact (List.getElem?_eq_some_iff.1 h5).1
        rw[aAL sz len ds i xX] at h5
        injection h5 with h5;subst h5
        rw[List.getElem?_take] at h6
        split at h6
        ·rw[List.getElem?_drop] at h6;exact ⟨xX,by assumption,h6⟩
        ·simp at h6
       have val:∀ (q:Nat) (d:D),ds[q]?=some d→∃ v y a,((o.cells.drop off).take (len*sz))[q]?=some v∧xs[off+q]?=some y∧RV S m v y∧yQ m.h f v=some (d,a)∧∀ i∈a,i∈r:=by
        intro q d hd
        have hq:q<ds.length:=(List.getElem?_eq_some_iff.1 hd).1
        rw[hdl] at hq
        have hv':((o.cells.drop off).take (len*sz))[q]?=some ((o.cells.drop off).take (len*sz))[q]:=List.getElem?_eq_getElem hq
        obtain ⟨d',a,g1,g2,g3⟩:=hdg q _ hv'
        rw[hd] at g1;injection g1 with g1;subst g1
        obtain ⟨y,hy1,hy2⟩:=aYd.get hv'
        refine ⟨_,y,a,hv',?_,hy2,g2,g3⟩
        rw[List.getElem?_take] at hy1
        split at hy1
        ·rw[List.getElem?_drop] at hy1;exact hy1
        ·simp at hy1
       have:=RD.slice (w:=m'.w) (av:=m'.av S) (eE sz len ds) b (base+off) k sz (by rw[gM];exact h3) h4 (fun i row dC=>by
         have xX:i<len:=by rw[←gM];exact (List.getElem?_eq_some_iff.1 dC).1
         rw[aAL sz len ds i xX] at dC
         injection dC with dC;subst dC
         simp
         have:(i+1)*sz≤len*sz:=Nat.mul_le_mul_right _ xX
         rw[Nat.succ_mul] at this
         omega)
        (fun i j=>(xs[off+(i*sz+j)]?).getD undef)
        (fun i j row d h5 h6=>by
         obtain ⟨k1,k2,k3⟩:=key i j row d h5 h6
         obtain ⟨v,y,a,g1,g2,_⟩:=val _ d k3
         refine ⟨aVe,?_⟩
         rw[hb.w,g2,Nat.add_assoc]
         exact hc _ _ g2)
        (fun i j row d h5 h6=>by
         obtain ⟨k1,k2,k3⟩:=key i j row d h5 h6
         obtain ⟨v,y,a,g1,g2,g3,g4,g5⟩:=val _ d k3
         rw[g2]
         exact ih g4 g3 hb (fun i wK=>hi i (by simp[g5 i wK])))
       rw[gM] at this
       exact this
      ·simp only[eE]
       exact .empty (some p) 0 (Nat.zero_le _)
    ·simp at h
theorem uD [Gl] (hR:Rel S m) {v w:V} {ids:List Nat} {y:Value} (h:gW m.h v=some (w,ids)) (hv:RV S m v y) {m':M} {all:List Nat} (hb:RoBy S m m' all) (hi:∀ i∈ids,i∈all):RV S m' w y:=by
 unfold gW at h
 split at h
 ·simp at h;obtain ⟨rfl,rfl⟩:=h;exact hv.mono hb.evo
 ·simp at h;obtain ⟨rfl,rfl⟩:=h;exact hv.mono hb.evo
 ·unfold ofD at h
  split at h
  ·rename_i x r hx
   simp at h;obtain ⟨rfl,rfl⟩:=h
   exact .d (aKl hR qY hx hv hb hi)
  ·simp at h
theorem jO {f:V→Option (V×List Nat)} {m':M} {all:List Nat}
  (hf:∀ {v w:V} {ids:List Nat} {y:Value},f v=some (w,ids)→RV S m v y→(∀ i∈ids,i∈all)→RV S m' w y):
  ∀ {vs ws:List V} {ids:List Nat} {ys:List Value},fA f vs=some (ws,ids)→jL S m vs ys→(∀ i∈ids,i∈all)→jL S m' ws ys
 | [],ws,ids,ys,h,hv,hi=>by
  simp[fA] at h;obtain ⟨rfl,rfl⟩:=h
  have:=hv.1;simp at this
  have:ys=[]:=List.length_eq_zero_iff.1 (by simp[←this])
  subst this;exact .nil
 | v::r,ws,ids,ys,h,hv,hi=>by
  simp only[fA] at h
  split at h
  ·rename_i x a xs b h1 h2
   simp at h;obtain ⟨rfl,rfl⟩:=h
   obtain ⟨y,ys',rfl,hy,m8⟩:=hv.cases
   exact .cons (hf h1 hy fun i wK=>hi i (by simp[wK])) (jO hf h2 m8 fun i wK=>hi i (by simp[wK]))
  ·simp at h
theorem vZ [Gl] (hR:Rel S m) {v w:V} {ids:List Nat} {y:Value} (h:mT m.h v=some (w,ids)) (hv:RV S m v y) {m':M} {all:List Nat} (hb:RoBy S m m' all) (hi:∀ i∈ids,i∈all):RV S m' w y:=by
 unfold mT at h
 split at h
 ·split at h
  ·rename_i cs xs r hx
   simp at h;obtain ⟨rfl,rfl⟩:=h
   obtain ⟨ys,rfl,m8⟩:=hv.agg_vals
   exact (jO (fun g1 g2 g3=>uD hR g1 g2 hb g3) hx m8 hi).agg
  ·simp at h
 ·exact uD hR h hv hb hi
theorem aFB [Gl] (hR:Rel S m) {v w:V} {ids:List Nat} {y:Value} (h:o9 m.h v=some (w,ids)) (hv:RV S m v y) {m':M} {all:List Nat} (hb:RoBy S m m' all) (hi:∀ i∈ids,i∈all):RV S m' w y:=by
 unfold o9 at h
 split at h
 ·simp at h;obtain ⟨rfl,rfl⟩:=h
  exact hv.mono hb.evo
 ·exact vZ hR h hv hb hi
theorem jL.tuple {cs:List V} {xs:List Value} (h:jL S m cs xs):RV S m (.tuple cs) (.tuple xs.toArray):=
 .tuple (by simp[h.1]) fun j x y hx hy=>h.2 j x y hx (by simpa using hy)
theorem aFi [Gl] (hR:Rel S m) {v w:V} {ids:List Nat} {y:Value} (h:dZ m.h v=some (w,ids)) (hv:RV S m v y) {m':M} {all:List Nat} (hb:RoBy S m m' all) (hi:∀ i∈ids,i∈all):RV S m' w y:=by
 unfold dZ at h
 split at h
 ·split at h
  ·rename_i cs xs r hx
   simp at h;obtain ⟨rfl,rfl⟩:=h
   obtain ⟨ys,rfl,m8⟩:=hv.tuple_vals
   exact (jO (fun g1 g2 g3=>vZ hR g1 g2 hb g3) hx m8 hi).tuple
  ·simp at h
 ·exact vZ hR h hv hb hi
theorem aHC {look:cA} {v w:V} {ids:List Nat} (h:gW look v=some (w,ids)) (ho:v.one=true):w.one=true:=by
 unfold gW at h
 split at h
 ·simp at h;obtain ⟨rfl,rfl⟩:=h;exact ho
 ·simp at h;obtain ⟨rfl,rfl⟩:=h;exact ho
 ·unfold ofD at h
  split at h
  ·simp at h;obtain ⟨rfl,rfl⟩:=h;rfl
  ·simp at h
theorem aAD [Gl] (hR:Rel S m) {fz:Bool} {v w:V} {ids:List Nat} {y:Value} (h:cl1 m.h fz v=some (w,ids)) (hv:RV S m v y) {m':M} {all:List Nat} (hb:RoBy S m m' all) (hi:∀ i∈ids,i∈all):RV S m' w y:=by
 unfold cl1 at h
 split at h
 ·split at h
  ·exact uD hR h hv hb hi
  ·simp at h;obtain ⟨rfl,rfl⟩:=h;exact hv.mono hb.evo
 ·simp at h;obtain ⟨rfl,rfl⟩:=h;exact hv.mono hb.evo
theorem aKx [Gl] (hR:Rel S m) {fz:Bool} {v w:V} {ids:List Nat} {y:Value} (h:iE m.h fz v=some (w,ids)) (hv:RV S m v y) {m':M} {all:List Nat} (hb:RoBy S m m' all) (hi:∀ i∈ids,i∈all):RV S m' w y:=by
 unfold iE at h
 split at h
 ·split at h
  ·rename_i cs xs r hx
   simp at h;obtain ⟨rfl,rfl⟩:=h
   obtain ⟨ys,rfl,m8⟩:=hv.agg_vals
   exact (jO (fun g1 g2 g3=>aAD hR g1 g2 hb g3) hx m8 hi).agg
  ·simp at h
 ·exact aAD hR h hv hb hi
theorem aNE {look:cA} {fz:Bool} {v w:V} {ids:List Nat} (h:cl1 look fz v=some (w,ids)) (ho:v.one=true):w.one=true:=by
 unfold cl1 at h
 split at h
 ·split at h
  ·exact aHC h ho
  ·simp at h;obtain ⟨rfl,rfl⟩:=h;exact ho
 ·simp at h;obtain ⟨rfl,rfl⟩:=h;exact ho
theorem vV {f:V→Option (V×List Nat)}:∀ {vs ws:List V} {ids:List Nat},fA f vs=some (ws,ids)→ws.length=vs.length
 | [],ws,ids,h=>by simp[fA] at h;obtain ⟨rfl,rfl⟩:=h;rfl
 | v::r,ws,ids,h=>by
  simp only[fA] at h
  split at h
  ·rename_i x a xs b h1 h2
   simp at h;obtain ⟨rfl,rfl⟩:=h
   simp[vV h2]
  ·simp at h
theorem aBJ {look:cA} {fz:Bool}:∀ {vs ws:List V} {ids:List Nat},fA (cl1 look fz) vs=some (ws,ids)→vs.all V.one=true→ws.all V.one=true
 | [],ws,ids,h,_=>by simp[fA] at h;obtain ⟨rfl,rfl⟩:=h;rfl
 | v::r,ws,ids,h,ho=>by
  simp only[fA] at h
  split at h
  ·rename_i x a xs b h1 h2
   simp at h;obtain ⟨rfl,rfl⟩:=h
   simp only[List.all_cons,Bool.and_eq_true] at ho ⊢
   exact ⟨aNE h1 ho.1,aBJ h2 ho.2⟩
  ·simp at h
end Go.Ac
end
section
namespace Go.Ac
variable {P:Program} {S:Nat→Prop} {m:M}
theorem aEI [Gl] {fz:Bool} {i:TI} {t:TypeId} {p x:V} {v y:Value} {r:Res} {c:Nat} (hi:cJ P t=some i) (h:yO m.h fz i p x=some r) (hR:Rel S m) (hv:RV S m p v) (hy:RV S m x y):
  ∃ m',(Instr.storeAt t v y).run P m.w= .ok () m'.w∧cB S m c r undef m':=by
 unfold yO at h
 split at h
 ·rename_i id g off xs hcx
  split at h
  ·rename_i o zs ids vB gM
   split at h
   ·rename_i tT eY hle aVf
    simp only[Option.some.injEq] at h;subst h
    obtain ⟨ho,hg,b,base,iP,rfl⟩:=hv.ptr_live vB
    obtain ⟨ys,hyc,m8,nB⟩:=vN hcx hy
    have aMR:=Nat.eq_of_beq_eq_true eY
    have aVg:=Nat.le_of_ble_eq_true hle
    obtain ⟨inf,d,h1,h2,h3,h4,_⟩:=cO hi
    -- what is stored becomes data first
    obtain ⟨m1,e1,hb⟩:=ros hR ids
    have rN:=jO (S:=S) (m:=m) (m':=m1) (all:=ids) (fun g1 g2 g3=>aAD hR g1 g2 hb g3) gM m8 (fun i hi=>hi)
    have aVh:=aBJ gM nB
    have hzl:=vV gM
    have cY:id∉ids:=by
     intro vC
     have:ids.any (Nat.beq id)=true:=List.any_eq_true.2 ⟨id,vC,Nat.beq_refl id⟩
     rw[this] at aVf;cases aVf
    have ho1:m1.h id=some o:=(hb.not id cY).trans ho
    have aVi:m1.at_ id=some (b,base):=by rw[hb.at_];exact iP
    have tO:=hv.ptr_kind vB
    obtain ⟨hS,cs,T,fz',dC,hfz,gB,hc⟩:=hb.rel.cellsAt tO ho1 aVi
    have yS:ys.length=i.size:=by rw[←m8.1,aMR]
    have kX:=gX (P:=P) b (base+off) T fz' hfz ys 0 cs m1.w dC (by omega) (m8.ones nB)
    obtain ⟨m',w1,w2,w3,w4,w5,w6⟩:=tJ (c:=c) (dc:=0) (w':=m1.w.setRow b (jR cs (base+off) ys)) (o':=⟨g,false,o.cells.take off++zs++o.cells.drop (off+i.size)⟩)
     hb.rel ho1 aVi tT tO dC rfl (base':=base) (oP (by omega)) (by
      rw[oP (by omega)]
      simp[hzl,aMR];omega)
     (.inl ⟨hg.symm,rfl,by simp[hzl,aMR];omega,rfl⟩) (by
      intro j q hq
      have wJ:∀ (k:Nat) (u:V),o.cells[k]?=some u→u.one=true∧∃ z,cs[base+k]?=some z∧RV S m1 u z:=hc
      simp only[List.append_assoc] at hq
      rw[List.getElem?_append] at hq
      have htl:(List.take off o.cells).length=off:=by simp;omega
      rw[htl] at hq
      split at hq
      ·rename_i hj
       rw[List.getElem?_take] at hq;rw[if_pos hj] at hq
       obtain ⟨g1,z,g2,g3⟩:=wJ j q hq
       exact ⟨g1,z,by rw[fX (by omega)];rw[if_pos (by omega)];exact g2,g3⟩
      ·rename_i hj
       rw[List.getElem?_append] at hq
       split at hq
       ·rename_i hj2
        obtain ⟨z,g1,g2⟩:=rN.get hq
        refine ⟨List.all_eq_true.1 aVh q (List.mem_of_getElem? hq),z,?_,g2⟩
        rw[fX (by omega),if_neg (by omega),if_pos (by omega),show base+j - (base+off)=j - off by omega]
        exact g1
       ·rename_i hj2
        rw[List.getElem?_drop] at hq
        obtain ⟨g1,z,g2,g3⟩:=wJ _ q hq
        refine ⟨g1,z,?_,g3⟩
        rw[fX (by omega),if_neg (by omega),if_neg (by omega)]
        rw[←g2];congr 1;omega)
    refine ⟨m',?_,w5,hb.evo.trans w6,.undef,?_,?_⟩
    ·rw[w1]
     simp only[Nat.add_zero] at kX
     have rN:y.cells.size=inf.size:=by rw[hyc];simp;omega
     have hw:m.w=m1.w:=hb.w.symm
     rw[hw]
     simp[Instr.storeAt,Instr.sureAddr,storeVar,i8 h1,rN,hyc,kX]
     omega
    ·rw[w2,e1,wD];rfl
    ·rw[w4,hb.iss]
   ·simp at h
  ·simp at h
 ·simp at h
theorem aEl [Gl] {n c:Nat} {T:TypeId} {cs:List V} {ys:List Value} (hR:Rel S m) (hf:lY m c 1) (m8:jL S m cs ys) (nB:cs.all V.one=true):
  ∃ m',(newRow T ys.toArray).run P m.w= .ok ⟨m.w.heap.size,0,none⟩ m'.w∧m'.h=upd m.h n (some ⟨c,false,cs⟩)∧m'.at_ n=some (m.w.heap.size,0)∧
   m'.iss=(fun i g=>m.iss i g∨(c≤g∧g<c+1))∧Rel S m'∧Evo S m m'∧∃ T',m'.w.heap[m.w.heap.size]?=some (Obj.cells ys.toArray T' (0,0)):=by
 obtain ⟨m',w1,w2,w3,w4,w5,w6⟩:=aAw (id:=n) (o':=⟨c,false,cs⟩) (c:=c) (dc:=1) (cs':=ys.toArray) (T:=T) (w':={ m.w with heap:=m.w.heap.push (Obj.cells ys.toArray T (0,0)) })
  hR rfl (by simp[m8.1]) (hf n c (Nat.le_refl _) (by omega)) rfl rfl (by
   intro j v hv
   obtain ⟨x,h1,h2⟩:=m8.get hv
   exact ⟨List.all_eq_true.1 nB v (List.mem_of_getElem? hv),x,by simpa using h1,h2⟩)
 refine ⟨m',?_,w2,by rw[w3];simp,w4,w5,w6,T,by rw[w1];simp⟩
 rw[w1]
 simp[newRow]
theorem aCA [Gl] {n c:Nat} {T:TypeId} {cs:List V} {ys:List Value} {r:Res} (h:aID n c cs=some r) (hR:Rel S m) (hf:lY m c r.dc) (m8:jL S m cs ys) (nB:cs.all V.one=true):
  ∃ m',(newRow T ys.toArray).run P m.w= .ok ⟨m.w.heap.size,0,none⟩ m'.w∧cB S m c r (.pointer (some ⟨m.w.heap.size,0,none⟩)) m':=by
 simp[aID] at h;subst h
 obtain ⟨m',w1,w2,w3,w4,w5,w6,_⟩:=aEl (P:=P) (T:=T) hR hf m8 nB
 refine ⟨m',w1,w5,w6,.ptr ?_ rfl ?_,by rw[w2];rfl,w4⟩
 ·rw[w4];exact .inr ⟨Nat.le_refl _,by omega⟩
 ·intro o ho hg
  refine ⟨?_,m.w.heap.size,0,w3,rfl⟩
  rw[w2,bV] at ho
  simp only[Option.some.injEq] at ho
  subst ho
  exact oI fun j v hv=>List.all_eq_true.1 nB v (List.mem_of_getElem? hv)
theorem qC {t:TypeId} {i:TI} {z:List V} (hi:cJ P t=some i) (hz:i.zero=some z) (w:World):∃ v:Value,(zeroValue t).run P w= .ok v w∧z=v.cells.toList.map m7∧(P.info? t).map (·.zero)=some (some v):=by
 obtain ⟨inf,d,h1,h2,h3,h4,h5,h6⟩:=cO hi
 rw[hz] at h6
 cases hzz:inf.zero with
 | none=>simp[hzz] at h6
 | some v=>
  simp[hzz] at h6
  exact ⟨v,by simp[zeroValue,typeInfo,h1,hzz],h6,by simp[h1,hzz]⟩
theorem aGa [Gl] {t:TypeId} {i:TI} {z:List V} {r:Res} {n c:Nat} (hi:cJ P t=some i) (hz:i.zero=some z) (nB:z.all V.one=true) (h:aID n c z=some r) (hR:Rel S m) (hf:lY m c r.dc):
  ∃ x m',(Instr.alloc t true (.tuple #[])).run P m.w= .ok x m'.w∧cB S m c r x m':=by
 obtain ⟨v,h1,h2,_⟩:=qC hi hz m.w
 obtain ⟨m',w1,w2⟩:=aCA (P:=P) (T:=t) (ys:=v.cells.toList) h hR hf (by rw[h2];exact oF _) nB
 refine ⟨_,m',?_,w2⟩
 simp only[Array.toArray_toList] at w1
 simp[Instr.alloc,h1,newVar,w1]
theorem aKG [Gl] {t:TypeId} {x:V} {y:Value} {cs:List V} {r:Res} {n c:Nat} (hc:vM x=some cs) (h:aID n c cs=some r) (hR:Rel S m) (hf:lY m c r.dc) (hy:RV S m x y):
  ∃ v m',(Instr.box t y).run P m.w= .ok v m'.w∧cB S m c r v m':=by
 obtain ⟨ys,h1,h2,h3⟩:=vN hc hy
 obtain ⟨m',w1,w2⟩:=aCA (P:=P) (T:=t) (ys:=ys) h hR hf h2 h3
 refine ⟨_,m',?_,w2⟩
 simp[Instr.box,newVar,h1,w1]
theorem aKP (xs:List Value):∀ (off k:Nat) (cs:Array Value),off+k+xs.length≤cs.size→
  ((xs.zipIdx k).foldl (fun (cs:Array Value) (p:Value×Nat)=>cs.setIfInBounds (off+p.2) p.1) cs).toList=cs.toList.take (off+k)++xs++cs.toList.drop (off+k+xs.length):=by
 induction xs with
 | nil=>intro off k cs h;simp
 | cons x r ih=>
  intro off k cs h
  simp only[List.zipIdx_cons,List.foldl_cons]
  rw[ih off (k+1) _ (by simp at h ⊢;omega)]
  simp only[List.length_cons] at h ⊢
  apply List.ext_getElem?
  intro j
  simp only[Array.toList_setIfInBounds,List.getElem?_append,List.length_append,List.length_take,List.length_set,Array.length_toList,List.length_cons,List.getElem?_take,List.getElem?_drop,List.getElem?_set]
  by_cases h1:j<off+k
  ·simp[h1,show j<off+(k+1) by omega,show min (off+(k+1)) cs.size=off+(k+1) by omega,show min (off+k) cs.size=off+k by omega,show j<off+k+(r.length+1) by omega,show ¬ (off+k=j) by omega,
    show j<off+(k+1)+r.length by omega]
  ·by_cases h2:j=off+k
   ·subst h2
    simp[show min (off+(k+1)) cs.size=off+(k+1) by omega,show min (off+k) cs.size=off+k by omega,show off+k<off+(k+1) by omega,show off+k<cs.size by omega,show off+k<off+(k+1)+r.length by omega,
     show off+k<off+k+(r.length+1) by omega]
   ·simp[h1,show ¬ j<off+(k+1) by omega,show min (off+(k+1)) cs.size=off+(k+1) by omega,show min (off+k) cs.size=off+k by omega,show off+(k+1)+r.length=off+k+(r.length+1) by omega,
     show j - (off+k)=(j - (off+(k+1)))+1 by omega]
    rw[if_neg (show ¬ (off+k=off+k+(r.length+1)+(j - (off+k+(r.length+1)))) by omega)]
theorem sK {place:Nat→Option (Nat×Nat)}:∀ {ps:List (Nat×V)} {qs:List (Nat×Value)} {cs cs':List V} {xs:List Value},bN place cs ps=some cs'→jL S m cs xs→cs.all V.one=true→
  ps.length=qs.length→(∀ (j:Nat) (a:Nat×V) (b:Nat×Value),ps[j]?=some a→qs[j]?=some b→a.1=b.1∧RV S m a.2 b.2)→
  ∃ ys:List Value,Instr.fill place xs.toArray qs=some ys.toArray∧jL S m cs' ys∧cs'.all V.one=true∧cs'.length=cs.length
 | [],qs,cs,cs',xs,h,hv,h1,hl,hp=>by
  simp[bN] at h;subst h
  have:qs=[]:=List.length_eq_zero_iff.1 (by simp at hl;exact hl.symm)
  subst this
  exact ⟨xs,rfl,hv,h1,rfl⟩
 | (i,x)::ps,qs,cs,cs',xs,h,hv,h1,hl,hp=>by
  cases qs with
  | nil=>simp at hl
  | cons q qs=>
   obtain ⟨i',y⟩:=q
   obtain ⟨hi,hxy⟩:=hp 0 (i,x) (i',y) rfl rfl
   simp at hi;subst hi
   simp only[bN] at h
   split at h
   ·rename_i off size us hpl hcx
    split at h
    ·rename_i wL kL
     have e1:=Nat.eq_of_beq_eq_true wL
     have e2:=Nat.le_of_ble_eq_true kL
     obtain ⟨ys,g1,g2,g3⟩:=vN hcx hxy
     have yS:ys.length=us.length:=g2.1.symm
     have hv':jL S m (cs.take off++us++cs.drop (off+us.length)) (xs.take off++ys++xs.drop (off+ys.length)):=by
      rw[yS];exact ((hv.take off).append g2).append (hv.drop _)
     have xN:(cs.take off++us++cs.drop (off+us.length)).all V.one=true:=by
      rw[List.all_eq_true] at h1 g3 ⊢
      intro z hz
      simp only[List.mem_append] at hz
      rcases hz with (hz|hz)|hz
      ·exact h1 z (List.mem_of_mem_take hz)
      ·exact g3 z hz
      ·exact h1 z (List.mem_of_mem_drop hz)
     obtain ⟨zs,k1,k2,k3,k4⟩:=sK h hv' xN (by simpa using hl) (fun j a b ha hb=>hp (j+1) a b (by simpa using ha) (by simpa using hb))
     refine ⟨zs,?_,k2,k3,by rw[k4];simp;omega⟩
     have vG:=hv.1
     have gB:y.cells.size=size:=by rw[g1];simp;omega
     simp only[Instr.fill,hpl]
     rw[if_neg (by rw[gB];simp;omega)]
     rw[←k1]
     congr 1
     apply Array.ext'
     have:=aKP ys off 0 xs.toArray (by simp;omega)
     simp only[Nat.add_zero] at this
     rw[g1]
     simpa using this
    ·simp at h
   ·simp at h
end Go.Ac
end
section
namespace Go.Ac
variable {P:Program} {S:Nat→Prop} {m:M}
theorem wE {α:Type} (sz:Nat) (h0:0<sz):∀ (rows:List (List α)),(∀ r∈rows,r.length=sz)→∀ q,rows.flatten[q]?=(rows[q / sz]?).bind (fun r=>r[q % sz]?)
 | [],_,q=>by simp
 | r::rows,h,q=>by
  have hr:r.length=sz:=h r (by simp)
  simp only[List.flatten_cons,List.getElem?_append,hr]
  split
  ·rename_i hq
   rw[Nat.div_eq_of_lt hq,Nat.mod_eq_of_lt hq];rfl
  ·rename_i hq
   rw[wE sz h0 rows (fun r hr=>h r (by simp[hr])) (q - sz)]
   have h1:q / sz=(q - sz) / sz+1:=by
    rw[show q=(q - sz)+sz by omega,Nat.add_div_right _ h0];simp
   have h2:q % sz=(q - sz) % sz:=by
    conv=>lhs;rw[show q=(q - sz)+sz by omega,Nat.add_mod_right]
   rw[h1,h2];simp
theorem l0 {α:Type} (sz:Nat):∀ (rows:List (List α)),(∀ r∈rows,r.length=sz)→rows.flatten.length=rows.length*sz
 | [],_=>by simp
 | r::rows,h=>by
  simp only[List.flatten_cons,List.length_append,List.length_cons,h r (by simp),l0 sz rows (fun r hr=>h r (by simp[hr])),Nat.succ_mul]
  omega
theorem aCC {rows:List (List D)} {sz:Nat} (h:rows.all (fun r=>Nat.beq r.length sz)=true):∀ r∈rows,r.length=sz:=
 fun r hr=>Nat.eq_of_beq_eq_true (List.all_eq_true.1 h r hr)
def aRz (S:Nat→Prop) (m:M) (sz n:Nat) (vs:List V) (v:Value):Prop:=
 ∃ a k xs,v= .slice a n k∧n≤k∧k≤maxLen∧jL S m vs xs∧vs.length=n*sz∧vs.all V.one=true∧(a=none→n=0)∧∀ p,a=some p→∀ (j:Nat) (y:Value),xs[j]?=some y→m.w.cell? (p.add j)=some y
theorem aKr (l:List D):(l.map V.d).all V.one=true:=by simp[V.one]
theorem aKY {rows:List (List D)} {sz:Nat} {v:Value} (h:RD m.w (m.av S) (.slice rows) v) (gB:∀ r∈rows,r.length=sz):aRz S m sz rows.length (rows.flatten.map .d) v:=by
 cases h with
 | empty a cap hc=>
  exact ⟨a,cap,[],rfl,Nat.zero_le _,hc,.nil,by simp,rfl,(fun _=>rfl),fun p _ j y hy=>by simp at hy⟩
 | slice rows b off cap sz' eY aFP hs f hf hr=>
  by_cases h0:rows=[]
  ·subst h0
   exact ⟨some ⟨b,off,none⟩,cap,[],rfl,Nat.zero_le _,aFP,.nil,by simp,rfl,(fun h=>by cases h),(fun p _ j y hy=>by simp at hy)⟩
  ·obtain ⟨r0,rest,rfl⟩:=List.exists_cons_of_ne_nil h0
   have hss:sz'=sz:=by rw[←hs 0 r0 rfl];exact gB r0 (by simp)
   subst hss
   have hl:=l0 sz' (r0::rest) gB
   by_cases hz:sz'=0
   ·subst hz
    have:(r0::rest).flatten=[]:=List.length_eq_zero_iff.1 (by rw[hl];simp)
    rw[this]
    exact ⟨some ⟨b,off,none⟩,cap,[],rfl,eY,aFP,.nil,by simp,rfl,(fun h=>by cases h),(fun p _ j y hy=>by simp at hy)⟩
   ·have rT:0<sz':=by omega
    refine ⟨some ⟨b,off,none⟩,cap,(List.range ((r0::rest).length*sz')).map (fun q=>f (q / sz') (q % sz')),rfl,eY,aFP,?_,by simp only[List.length_map,hl],aKr _,(fun h=>by cases h),?_⟩
    ·refine jL.map_d (by simp only[List.length_map,List.length_range];exact hl) fun j d x hd hx=>?_
     have hj:j<(r0::rest).length*sz':=by rw[←hl];exact (List.getElem?_eq_some_iff.1 hd).1
     rw[List.getElem?_map,List.getElem?_range hj] at hx
     simp at hx;subst hx
     rw[wE sz' rT _ gB] at hd
     cases dC:(r0::rest)[j / sz']? with
     | none=>simp[dC] at hd
     | some row=>simp[dC] at hd;exact hr _ _ row d dC hd
    ·rintro p hp j y hy
     injection hp with hp;subst hp
     have hj:j<(r0::rest).length*sz':=by
      have:=(List.getElem?_eq_some_iff.1 hy).1
      simpa using this
     rw[List.getElem?_map,List.getElem?_range hj] at hy
     simp at hy;subst hy
     have h1:j / sz' < (r0::rest).length:=Nat.div_lt_of_lt_mul (by rw[Nat.mul_comm];exact hj)
     have h2:j % sz' < sz':=Nat.mod_lt _ rT
     have dC:(r0::rest)[j / sz']?=some (r0::rest)[j / sz']:=List.getElem?_eq_getElem h1
     have sV:j % sz' < ((r0::rest)[j / sz']).length:=by rw[gB _ (List.getElem_mem h1)];exact h2
     have hd:((r0::rest)[j / sz'])[j % sz']?=some (((r0::rest)[j / sz'])[j % sz']'sV):=List.getElem?_eq_getElem sV
     obtain ⟨_,h3⟩:=hf _ _ _ _ dC hd
     rw[jK,←h3]
     congr 2
     rw[Nat.mul_comm,Nat.div_add_mod]
theorem mS [Gl] {sz n:Nat} {x:V} {vs:List V} {rd:List Nat} {v:Value} (h:iM m.h sz x=some (n,vs,rd)) (hv:RV S m x v) (hR:Rel S m):
  ∃ a k,v= .slice a n k∧n≤k∧k≤maxLen∧∃ xs,jL S m vs xs∧vs.length=n*sz∧vs.all V.one=true∧(a=none→n=0)∧∀ p,a=some p→∀ (j:Nat) (y:Value),xs[j]?=some y→m.w.cell? (p.add j)=some y:=by
 have dcase:∀ {rows:List (List D)} {v:Value},RD m.w (m.av S) (.slice rows) v→(∀ r∈rows,r.length=sz)→
   ∃ a k,v= .slice a rows.length k∧rows.length≤k∧k≤maxLen∧∃ xs,jL S m (rows.flatten.map .d) xs∧(rows.flatten.map V.d).length=rows.length*sz∧(rows.flatten.map V.d).all V.one=true∧(a=none→rows.length=0)∧∀ p,a=some p→∀ (j:Nat) (y:Value),xs[j]?=some y→m.w.cell? (p.add j)=some y:=by
  intro rows v hd gB
  obtain ⟨a,k,xs,h1,h2,h3,h4,h5,h6,h7,h8⟩:=aKY (sz:=sz) hd gB
  exact ⟨a,k,h1,h2,h3,xs,h4,h5,h6,h7,h8⟩
 unfold iM at h
 split at h
 ·split at h
  ·rename_i rows gL
   simp only[Option.some.injEq,Prod.mk.injEq] at h;obtain ⟨rfl,rfl,rfl⟩:=h
   cases hv with
   | d hd=>exact dcase hd (aCC gL)
  ·simp at h
 ·split at h
  ·rename_i rows gL
   simp only[Option.some.injEq,Prod.mk.injEq] at h;obtain ⟨rfl,rfl,rfl⟩:=h
   cases hv with
   | full hd=>exact dcase hd (aCC gL)
  ·simp at h
 ·rename_i id g off len sz' cap
  split at h
  ·rename_i o hl aBT
   split at h
   ·rename_i aQX
    simp only[Option.some.injEq,Prod.mk.injEq] at h;obtain ⟨rfl,rfl,rfl⟩:=h
    obtain ⟨ho,_,cE⟩:=hv.osl_live hl
    have gB:sz=sz':=Nat.eq_of_beq_eq_true aBT
    have hle:off+len*sz≤o.cells.length:=Nat.le_of_ble_eq_true aQX
    unfold gR at cE
    cases iP:m.at_ id with
    | none=>
     simp only[iP] at cE
     obtain ⟨rfl,rfl,rfl,a,rfl⟩:=cE
     have hn:=hR.none_ id o ho iP
     exact ⟨a,0,rfl,Nat.le_refl _,Nat.zero_le _,[],by simp[hn,jL.nil],by simp[hn],by simp[hn],fun _=>rfl,fun p _ j y hy=>by simp at hy⟩
    | some q=>
     obtain ⟨b,base⟩:=q
     simp only[iP] at cE
     obtain ⟨p,k,rfl,hp,h2,h3,h4,_⟩:=cE
     obtain ⟨xs,hxs,nB,hc⟩:=hR.vals ho iP (hv.osl_kind hl)
     have aVj:((o.cells.drop off).take (len*sz)).all V.one=true:=by
      rw[List.all_eq_true] at nB ⊢
      exact fun z hz=>nB z (List.mem_of_mem_drop (List.mem_of_mem_take hz))
     refine ⟨some p,k,rfl,h3,h4,(xs.drop off).take (len*sz),(hxs.drop off).take _,by simp;omega,aVj,(fun h=>by cases h),?_⟩
     rintro p' bD j y hy
     injection bD with bD;subst bD
     rw[List.getElem?_take] at hy
     split at hy
     ·rename_i hj
      rcases hp with rfl|⟨rfl,_⟩
      ·rw[List.getElem?_drop] at hy
       rw[jK,Nat.add_assoc]
       exact hc _ _ hy
      ·simp at hj
     ·simp at hy
   ·simp at h
  ·simp at h
 ·simp at h
theorem pZ {a:Option Addr} {n k sz:Nat} {xs:List Value} (w:World) (hl:xs.length=n*sz) (hn:a=none→n=0) (h:∀ p,a=some p→∀ (j:Nat) (y:Value),xs[j]?=some y→w.cell? (p.add j)=some y) (n':Nat):
  (Builtin.firstCells sz n (.slice a n' k)).run P w= .ok xs.toArray w:=by
 cases a with
 | none=>
  have:=hn rfl
  subst this
  have:xs=[]:=List.length_eq_zero_iff.1 (by simpa using hl)
  subst this
  exact run_firstCells_none w sz 0 n' k
 | some p=>exact run_firstCells_some w sz n p n' k xs hl (h p rfl)
theorem aMt (t ty e:TypeId) (i:TypeInfo) (z:Value) (w:World) (ht:P.underlying t=some (.slice e)) (hi:P.info? e=some i) (hz:i.zero=some z)
  {a b:Option Addr} {sLen sCap n k:Nat} {olds news:List Value} (hlo:olds.length=sLen*i.size) (hln:news.length=n*i.size) (ha:a=none→sLen=0) (hb:b=none→n=0)
  (oW:∀ p,a=some p→∀ (j:Nat) (y:Value),olds[j]?=some y→w.cell? (p.add j)=some y) (aBS:∀ p,b=some p→∀ (j:Nat) (y:Value),news[j]?=some y→w.cell? (p.add j)=some y)
  (hg:sCap<sLen+n) (h1:1≤i.bytes) (fM:(sLen+n)*i.bytes≤140737488355328):
  (Builtin.append_ #[t,t] ty #[.slice a sLen sCap,.slice b n k]).run P w=
   .ok (.slice (some ⟨w.heap.size,0,none⟩) (sLen+n) (grownCap w (sLen+n) sCap e))
    (w.drew.alloc (.cells (olds.toArray++news.toArray++Builtin.zeroCells z.cells (grownCap w (sLen+n) sCap e - (sLen+n))) e)):=by
 have hn:¬ (sLen+n≤sCap):=by omega
 have h48:¬ (281474976710656<Builtin.nextslicecap (sLen+n) sCap*i.bytes):=by have:=growslice_fits hg fM;omega
 have hbz:i.bytes≠0:=by omega
 have hf:=pZ (P:=P) (k:=k) (n':=n) w.drew hln hb (by simpa using aBS)
 have lU:=pZ (P:=P) (k:=sCap) (n':=sLen) w.drew hlo ha (by simpa using oW)
 simp[Builtin.append_,run_underlying ht,sizeOf,typeInfo,zeroValue,hi,hz,Builtin.lenOf,hn,h48,hbz,Question.forced,hf,lU,newRow,grownCap]
 congr 2
 apply Array.ext'
 simp[List.append_assoc]
theorem kN (t ty e:TypeId) (i:TypeInfo) (w w':World) (ht:P.underlying t=some (.slice e)) (hi:P.info? e=some i)
  {p:Addr} {b:Option Addr} {sLen sCap n k:Nat} {news:List Value} (hln:news.length=n*i.size) (hb:b=none→n=0)
  (aBS:∀ p,b=some p→∀ (j:Nat) (y:Value),news[j]?=some y→w.cell? (p.add j)=some y) (hg:sLen+n≤sCap)
  (hst:(storeCells (p.add (sLen*i.size)) news).run P w= .ok () w'):
  (Builtin.append_ #[t,t] ty #[.slice (some p) sLen sCap,.slice b n k]).run P w= .ok (.slice (some p) (sLen+n) sCap) w':=by
 have hf:=pZ (P:=P) (k:=k) (n':=n) w hln hb aBS
 simp[Builtin.append_,run_underlying ht,sizeOf,typeInfo,hi,Builtin.lenOf,hg,hf,hst]
theorem tI (t ty e:TypeId) (i:TypeInfo) (w:World) (ht:P.underlying t=some (.slice e)) (hi:P.info? e=some i)
  {b:Option Addr} {k:Nat}:(Builtin.append_ #[t,t] ty #[.slice none 0 0,.slice b 0 k]).run P w= .ok (.slice none 0 0) w:=by
 have hf:(Builtin.firstCells i.size 0 (.slice b 0 k)).run P w= .ok #[] w:=by
  have:=pZ (P:=P) (a:=b) (n:=0) (k:=k) (sz:=i.size) (xs:=[]) w (by simp) (fun _=>rfl) (fun p _ j y hy=>by simp at hy) 0
  simpa using this
 simp[Builtin.append_,run_underlying ht,sizeOf,typeInfo,hi,Builtin.lenOf,hf]
theorem aGR (w:World) {need old:Nat} {e:TypeId} (h:need<2 ^ 63):need≤grownCap w need old e∧grownCap w need old e≤maxLen:=by
 unfold grownCap Question.cut maxLen
 have:w.tape w.drawn (.appendCap need old e) % (2 ^ 63 - need)<2 ^ 63 - need:=Nat.mod_lt _ (by omega)
 constructor
 ·exact Nat.le_add_right _ _
 ·show need+_≤_
  omega
theorem mL (z:Array Value) (n:Nat):(Builtin.zeroCells z n).size=n*z.size:=by simp[Builtin.zeroCells]
theorem qL {n by_:Nat} (h:bT n by_=true):1≤by_∧n*by_≤140737488355328∧n≤140737488355328:=by
 simp only[bT,Bool.and_eq_true] at h
 have h1:=Nat.le_of_ble_eq_true h.1
 have h2:=Nat.le_of_ble_eq_true h.2
 refine ⟨h1,h2,?_⟩
 have:n*1≤n*by_:=Nat.mul_le_mul_left _ h1
 omega
theorem zT [Gl] {id c sz n0 n1 by_:Nat} {t ty e:TypeId} {i:TypeInfo} {z:Value} {a b:Option Addr} {sCap k:Nat} {vs us:List V} {xs ys:List Value} (hR:Rel S m)
  (ht:P.underlying t=some (.slice e)) (hi:P.info? e=some i) (hz:i.zero=some z) (gB:i.size=sz) (hzs:z.cells.size=sz) (hby:i.bytes=by_) (fM:bT (n0+n1) by_=true)
  (hvs:jL S m vs xs) (hus:jL S m us ys) (hl0:vs.length=n0*sz) (yT:us.length=n1*sz) (ho0:vs.all V.one=true) (ho1:us.all V.one=true)
  (ha:a=none→n0=0) (hb:b=none→n1=0)
  (hca:∀ p,a=some p→∀ (j:Nat) (y:Value),xs[j]?=some y→m.w.cell? (p.add j)=some y) (hcb:∀ p,b=some p→∀ (j:Nat) (y:Value),ys[j]?=some y→m.w.cell? (p.add j)=some y)
  (hg:sCap<n0+n1) (uR:¬ m.iss id c):
  ∃ x m',(Builtin.append_ #[t,t] ty #[.slice a n0 sCap,.slice b n1 k]).run P m.w= .ok x m'.w∧Rel S m'∧Evo S m m'∧RV S m' (.osl id c 0 (n0+n1) sz none) x∧m'.h=upd m.h id (some ⟨c,false,vs++us⟩)∧
   m'.iss=(fun i g=>m.iss i g∨(c≤g∧g<c+1)):=by
 obtain ⟨wL,kL,vA⟩:=qL fM
 have kX:=aMt (P:=P) t ty e i z m.w ht hi hz (a:=a) (b:=b) (sLen:=n0) (sCap:=sCap) (n:=n1) (k:=k) (olds:=xs) (news:=ys) (by rw[gB,←hl0,hvs.1]) (by rw[gB,←yT,hus.1]) ha hb hca hcb hg (by omega) (by rw[hby];exact kL)
 obtain ⟨aMS,aMT⟩:=aGR m.w (need:=n0+n1) (old:=sCap) (e:=e) (by omega)
 have vG:xs.length=n0*sz:=by rw[←hvs.1,hl0]
 have yS:ys.length=n1*sz:=by rw[←hus.1,yT]
 have aYe:(n0+n1)*sz=n0*sz+n1*sz:=Nat.add_mul _ _ _
 obtain ⟨m',w1,w2,w3,w4,w5,w6⟩:=aAw (id:=id) (o':=⟨c,false,vs++us⟩) (c:=c) (dc:=1) (T:=e)
  (cs':=xs.toArray++ys.toArray++Builtin.zeroCells z.cells (grownCap m.w (n0+n1) sCap e - (n0+n1)))
  (w':=m.w.drew.alloc (.cells (xs.toArray++ys.toArray++Builtin.zeroCells z.cells (grownCap m.w (n0+n1) sCap e - (n0+n1))) e)) hR rfl
  (by simp[mL,hvs.1,hus.1]) uR rfl rfl (by
   intro j v hv
   obtain ⟨y,h1,h2⟩:=(hvs.append hus).get hv
   have h3:(vs++us).all V.one=true:=by rw[List.all_append,ho0,ho1];rfl
   refine ⟨List.all_eq_true.1 h3 v (List.mem_of_getElem? hv),y,?_,h2⟩
   have hj:j<xs.length+ys.length:=by
    have:=(List.getElem?_eq_some_iff.1 h1).1
    simpa using this
   have e1:(xs.toArray++ys.toArray)[j]?=some y:=by
    rw[show xs.toArray++ys.toArray=(xs++ys).toArray by simp];simpa using h1
   rw[Array.getElem?_append]
   rw[if_pos (by simp;omega)]
   exact e1)
 refine ⟨_,m',by rw[w1];exact kX,w5,w6,?_,w2,w4⟩
 refine .osl (by rw[w4];exact .inr ⟨Nat.le_refl _,by omega⟩) rfl fun o ho aAm=>?_
 rw[w2] at ho;simp at ho;subst ho
 refine ⟨oI fun j v hv=>?_,?_⟩
 ·have h3:(vs++us).all V.one=true:=by rw[List.all_append,ho0,ho1];rfl
  exact List.all_eq_true.1 h3 v (List.mem_of_getElem? hv)
 unfold gR
 rw[w3]
 simp only[bV]
 refine ⟨_,_,rfl,.inl rfl,by simp[hl0,yT];omega,aMS,aMT,⟨_,e,(0,0),by rw[w1];simp only[World.alloc];exact Array.getElem?_push_size,?_⟩,trivial⟩
 simp[mL,hzs,vG,yS]
 have:(grownCap m.w (n0+n1) sCap e - (n0+n1))*sz+(n0+n1)*sz=grownCap m.w (n0+n1) sCap e*sz:=by rw[←Nat.add_mul];congr 1;omega
 omega
end Go.Ac
end
