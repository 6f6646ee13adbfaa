/- The abstract machine: walking through a loop over a map, in any order. No conditions. -/
import Derived.Test.YtkgekafdhehleaaGreatObQaM
set_option linter.unusedVariables false
set_option linter.unusedSimpArgs false
section
set_option maxRecDepth 4000
namespace Go.Ac
open Go.Proofs
mutual
def Trn.ok (o:Oc):Trn→Prop
 | .mk c ms sb=>c∈o.cl∧tyM o.en c ms∧uZ o sb c.ins
def uZ (o:Oc):List Trn→List Ii→Prop
 | [],is=>is=[]
 | t::ts,[]=>False
 | t::ts,i::is=>cX o.cl i.cl=(t.c,true)∧t.ok o∧uZ o ts is
end
structure CWf (o:Oc) (c:Cl):Prop where
 nd:c.names.Nodup
 set:∀ x,j1 c x≠0→cZ c x=j1 c x
 pos:∀ x,cZ c x≠0→0<fC o.en (cZ c x)
 inn:∀ d,d∈c.inn→cZ c d.nm=d.t∧d.t≠0
 out:∀ d,d∈c.out→cZ c d.nm=d.t∧d.t≠0
 mem:∀ m,m∈c.mems→eK c.mems m.nm=m.t∧m.t≠0∧iG o.en m.t m.ini=true
 step:wtL o c c.step
def y9 (en:List En) (l:List Dc) (vs:List Int):Prop:=vs.length=l.length∧∀ (i:Nat) (d:Dc) (v:Int),l[i]?=some d→vs[i]?=some v→iG en d.t v=true
def Fok (o:Oc) (n:Nat) (F:Trn→List Int→Trn×List Int):Prop:=∀ t ins,t.ht≤n→t.ok o→y9 o.en t.c.inn ins→(F t ins).1.ok o∧(F t ins).1.c=t.c∧(F t ins).1.ht=t.ht∧y9 o.en t.c.out (F t ins).2
structure Es.ok (o:Oc) (c:Cl) (n:Nat) (s:Es):Prop where
 v:tyV o.en c s.vs
 m:tyM o.en c s.ms
 b:uZ o s.sb c.ins
 h:htL s.sb=n
theorem pT:∀ {l:List Trn} {t:Trn},t∈l→t.ht≤htL l
 | x::r,t,h=>by
  rw[htL]
  rcases List.mem_cons.1 h with rfl|h
  ·omega
  ·have:=pT h;omega
theorem aEF:∀ (l:List Trn) (i:Nat) (t u:Trn),l[i]?=some t→u.ht=t.ht→htL (l.set i u)=htL l
 | [],i,t,u,h,_=>by simp at h
 | x::r,0,t,u,h,e=>by simp at h;subst h;rw[List.set_cons_zero,htL,htL,e]
 | x::r,i+1,t,u,h,e=>by rw[List.set_cons_succ,htL,htL,aEF r i t u (by simpa using h) e]
theorem aDv (o:Oc):∀ (l:List Trn) (is:List Ii) (i:Nat) (t:Trn),uZ o l is→l[i]?=some t→∃ d,is[i]?=some d∧cX o.cl d.cl=(t.c,true)∧t.ok o
 | [],is,i,t,h,e=>by simp at e
 | x::r,[],i,t,h,e=>by rw[uZ] at h;exact h.elim
 | x::r,d::is,0,t,h,e=>by rw[uZ] at h;simp at e;subst e;exact ⟨d,rfl,h.1,h.2.1⟩
 | x::r,d::is,i+1,t,h,e=>by rw[uZ] at h;simpa using aDv o r is i t h.2.2 (by simpa using e)
theorem aCk (o:Oc):∀ (l:List Trn) (is:List Ii),uZ o l is→l.length=is.length
 | [],is,h=>by rw[uZ] at h;subst h;rfl
 | x::r,[],h=>by rw[uZ] at h;exact h.elim
 | x::r,d::is,h=>by rw[uZ] at h;simp[aCk o r is h.2.2]
theorem aFk (o:Oc):∀ (l:List Trn) (is:List Ii) (i:Nat) (t u:Trn),uZ o l is→l[i]?=some t→u.c=t.c→u.ok o→uZ o (l.set i u) is
 | [],is,i,t,u,h,e,_,_=>by simp at e
 | x::r,[],i,t,u,h,e,_,_=>by rw[uZ] at h;exact h.elim
 | x::r,d::is,0,t,u,h,e,hc,hu=>by rw[uZ] at h;simp at e;subst e;rw[List.set_cons_zero,uZ,hc];exact ⟨h.1,hu,h.2.2⟩
 | x::r,d::is,i+1,t,u,h,e,hc,hu=>by rw[uZ] at h;rw[List.set_cons_succ,uZ];exact ⟨h.1,h.2.1,aFk o r is i t u h.2.2 (by simpa using e) hc hu⟩
theorem Trn.ok_eq (o:Oc) (t:Trn):t.ok o↔t.c∈o.cl∧tyM o.en t.c t.ms∧uZ o t.sb t.c.ins:=by cases t;rw[Trn.ok];rfl
theorem w9 {o:Oc} {c:Cl} {sb:List Trn} {nm:Tx} (hb:uZ o sb c.ins) (h:(e9 c.ins o.cl nm).2=true):∃ t,sb[mE c nm]?=some t∧t.ok o∧t.c=(e9 c.ins o.cl nm).1:=by
 unfold e9 at h ⊢
 cases hf:c.ins.find? (fun d=>decide (d.nm=nm)) with
 | none=>rw[hf] at h;cases h
 | some d=>
  rw[hf] at h
  simp only at h ⊢
  have hi:c.ins[mE c nm]?=some d:=by
   unfold mE
   rw[←List.find?_eq_getElem?_findIdx];exact hf
  have fB:=(List.getElem?_eq_some_iff.1 hi).1
  have hl:=aCk o sb c.ins hb
  obtain ⟨t,ht⟩:∃ t,sb[mE c nm]?=some t:=⟨sb[mE c nm],List.getElem?_eq_getElem (by omega)⟩
  obtain ⟨d',hd,h1,h2⟩:=aDv o _ _ _ _ hb ht
  rw[hi] at hd
  simp only[Option.some.injEq] at hd
  subst hd
  exact ⟨t,ht,h2,by rw[h1]⟩
theorem aKu {l:List (Tx×Int)} {x:Tx} {v:Int} (h:x∈l.map Prod.fst):(jG l x v).map Prod.fst=l.map Prod.fst:=by
 unfold jG
 cases hf:List.findIdx? (fun p=>decide (p.1=x)) l with
 | none=>
  exfalso
  rw[List.findIdx?_eq_none_iff] at hf
  obtain ⟨p,hp,rfl⟩:=List.mem_map.1 h
  have:=hf p hp
  simp at this
 | some i=>
  obtain ⟨hi,hx⟩:=qH hf
  rw[List.map_set]
  apply List.ext_getElem
  ·simp
  ·intro j h1 h2
   simp only[List.getElem_set,List.getElem_map]
   split
   ·rename_i e;subst e;exact hx.symm
   ·rfl
theorem zX {l:List Mm} {x:Tx} (h:eK l x≠0):∃ m,m∈l∧m.nm=x∧eK l x=m.t:=by
 unfold eK at h ⊢
 cases hf:l.find? (fun d=>decide (d.nm=x)) with
 | none=>rw[hf] at h;exact absurd rfl h
 | some m=>exact ⟨m,List.mem_of_find?_eq_some hf,by simpa using List.find?_some hf,rfl⟩
theorem tyM.put {en:List En} {c:Cl} {ms:List (Tx×Int)} (h:tyM en c ms) {x:Tx} {v:Int} (hx:eK c.mems x≠0) (hv:iG en (eK c.mems x) v=true):tyM en c (jG ms x v):=by
 obtain ⟨m,hm,rfl,_⟩:=zX hx
 refine ⟨(aKu (by rw[h.1];exact List.mem_map.2 ⟨m,hm,rfl⟩)).trans h.1,fun y hy=>?_⟩
 rw[aLt]
 split
 ·rename_i e;rw[e];exact hv
 ·exact h.2 y hy
theorem tyV.put {en:List En} {c:Cl} {vs:List (Tx×Int)} (h:tyV en c vs) {x:Tx} {v:Int} (hv:cZ c x≠0→iG en (cZ c x) v=true):tyV en c (jG vs x v):=by
 intro y hy
 rw[aLt]
 split
 ·rename_i e;subst e;exact hv hy
 ·exact h y hy
theorem tyV.puts {en:List En} {c:Cl}:∀ (ds vs:List (Tx×Int)),tyV en c vs→(∀ p,p∈ds→cZ c p.1≠0→iG en (cZ c p.1) p.2=true)→tyV en c (Go.Ac.puts vs ds)
 | [],vs,h,_=>h
 | p::r,vs,h,hp=>tyV.puts r _ (h.put (hp p (List.mem_cons_self ..))) fun q hq=>hp q (List.mem_cons_of_mem _ hq)
theorem tyM.puts {en:List En} {c:Cl}:∀ (ds ms:List (Tx×Int)),tyM en c ms→(∀ p,p∈ds→eK c.mems p.1≠0∧iG en (eK c.mems p.1) p.2=true)→tyM en c (Go.Ac.puts ms ds)
 | [],ms,h,_=>h
 | p::r,ms,h,hp=>tyM.puts r _ (h.put (hp p (List.mem_cons_self ..)).1 (hp p (List.mem_cons_self ..)).2) fun q hq=>hp q (List.mem_cons_of_mem _ hq)
theorem tyV.nil {o:Oc} {c:Cl} (hc:CWf o c):tyV o.en c []:=by
 intro x hx
 have:=hc.pos x hx
 show iG o.en (cZ c x) 0=true
 unfold iG
 split
 ·simp[inW]
 ·simp;exact this
section
variable {o:Oc} (hw:∀ c,c∈o.cl→CWf o c)
include hw
mutual
theorem aFg:∀ t:Trn,t.ok o→t.init.ok o∧t.init.c=t.c∧t.init.ht=t.ht
 | .mk c ms sb,h=>by
  rw[Trn.ok] at h
  obtain ⟨hc,hm,hs⟩:=h
  obtain ⟨h1,h2⟩:=aGQ sb c.ins hs
  rw[Trn.init,Trn.ok]
  refine ⟨⟨hc,hm.puts _ _ fun p hp=>?_,h1⟩,rfl,by rw[Trn.ht,Trn.ht,h2]⟩
  obtain ⟨m,hmm,rfl⟩:=List.mem_map.1 hp
  obtain ⟨g1,g2,g3⟩:=(hw c hc).mem m hmm
  exact ⟨by rw[g1];exact g2,by rw[g1];exact g3⟩
theorem aGQ:∀ (l:List Trn) (is:List Ii),uZ o l is→uZ o (gT l) is∧htL (gT l)=htL l
 | [],is,h=>by have _:=hw;rw[gT];exact ⟨h,rfl⟩
 | t::r,[],h=>by rw[uZ] at h;exact h.elim
 | t::r,i::is,h=>by
  rw[uZ] at h
  obtain ⟨h1,h2,h3⟩:=aFg t h.2.1
  obtain ⟨g1,g2⟩:=aGQ r is h.2.2
  rw[gT,uZ,htL,htL,h2,h3,g2]
  exact ⟨⟨h.1,h1,g1⟩,rfl⟩
end
theorem aCo {c:Cl} {vs ms:List (Tx×Int)} (hV:tyV o.en c vs) (hM:tyM o.en c ms) (cx:List Pr) (bf:List Y):∀ (l:List X) (ds:List Dc),lW ⟨o,c,bf,cx⟩ l ds=0→l.length=ds.length→y9 o.en ds (evL vs ms l)
 | [],ds,h,hl=>by have _:=hw;rw[evL];refine ⟨by simpa using hl,fun i d v _ h=>by simp at h⟩
 | x::r,[],h,hl=>by simp at hl
 | x::r,d::ds,h,hl=>by
  rw[lW] at h
  split at h
  ·rename_i hn;exact absurd h hn
  rename_i hn
  have ha:sZ ⟨o,c,bf,cx⟩ x d=0:=Decidable.not_not.1 hn
  unfold sZ at ha
  split at ha
  ·rename_i h1;exact absurd ha h1
  rename_i h1
  split at ha
  ·simp at ha
  rename_i h2
  have hx:=(aHQ (Decidable.not_not.1 h1)).ty hV hM
  rw[Decidable.not_not.1 h2] at hx
  obtain ⟨g1,g2⟩:=aCo hV hM cx bf r ds h (by simpa using hl)
  rw[evL]
  refine ⟨by simp[g1],fun i d' v hd hv=>?_⟩
  cases i with
  | zero=>simp at hd hv;subst hd;subst hv;exact hx
  | succ i=>exact g2 i d' v (by simpa using hd) (by simpa using hv)
theorem aEh {c:Cl} (hc:CWf o c) {cx:List Pr} {bf:List Y} {nm:Tx} {t:Int} (h:jB ⟨o,c,bf,cx⟩ nm t=0):j1 c nm≠0∧cZ c nm=t:=by
 have _:=hw
 unfold jB at h
 split at h
 ·simp at h
 rename_i h1
 split at h
 ·simp at h
 split at h
 ·simp at h
 rename_i h2
 exact ⟨h1,(hc.set nm h1).trans (Decidable.not_not.1 h2)⟩
theorem aJq {c:Cl} (hc:CWf o c) {cx:List Pr} {bf:List Y} {en:List En}:∀ (l pre:List Tx) (ds:List Dc) (vs:List Int),rX ⟨o,c,bf,cx⟩ pre l ds=0→l.length=ds.length→y9 en ds vs→∀ p,p∈l.zip vs→cZ c p.1≠0→iG en (cZ c p.1) p.2=true
 | [],pre,ds,vs,h,hl,hi,p,hp,_=>by simp at hp
 | x::r,pre,[],vs,h,hl,hi,p,hp,_=>by simp at hl
 | x::r,pre,d::ds,[],h,hl,hi,p,hp,_=>by simp at hp
 | x::r,pre,d::ds,v::vs,h,hl,hi,p,hp,hne=>by
  rw[rX] at h
  split at h
  ·rename_i hn;exact absurd h hn
  rename_i hn
  have ha:aBl ⟨o,c,bf,cx⟩ pre x d=0:=Decidable.not_not.1 hn
  unfold aBl at ha
  split at ha
  ·simp at ha
  split at ha
  ·simp at ha
  have ht:=(aEh hw hc ha).2
  rw[List.zip_cons_cons] at hp
  rcases List.mem_cons.1 hp with rfl|hp
  ·rw[ht];exact hi.2 0 d v rfl rfl
  ·refine aJq hc r _ ds vs h (by simpa using hl) ⟨by have:=hi.1;simpa using this,fun i d' v' h1 h2=>hi.2 (i+1) d' v' (by simpa using h1) (by simpa using h2)⟩ p hp hne
theorem wtY.cases {c:Cl} (hc:CWf o c) {y:Y} (h:wtY o c y):
  (y.k=1∧∃ t,wtX o c y.r t∧j1 c y.nm≠0∧cZ c y.nm=t)∨(y.k=2∧wtX o c y.r (eK c.mems y.nm)∧eK c.mems y.nm≠0)∨
  (y.k=3∧cZ c y.nm≠0∧cZ c y.nm≠2∧(y.brs.length:Int)=fC o.en (cZ c y.nm)∧∀ b,b∈y.brs→wtL o c b)∨
  (y.k=4∧(e9 c.ins o.cl y.nm).2=true∧y.args.length=(e9 c.ins o.cl y.nm).1.inn.length∧y.outs.length=(e9 c.ins o.cl y.nm).1.out.length∧∃ cx bf,lW ⟨o,c,bf,cx⟩ y.args (e9 c.ins o.cl y.nm).1.inn=0∧rX ⟨o,c,bf,cx⟩ [] y.outs (e9 c.ins o.cl y.nm).1.out=0)∨
  (y.k=5∧(e9 c.ins o.cl y.nm).2=true):=by
 obtain ⟨cx,bf,h⟩:=h
 rw[zC] at h
 split at h
 ·simp at h
 rename_i hf
 split at h
 ·rename_i k1
  split at h
  ·rename_i h1;exact absurd h h1
  rename_i h1
  have:=aEh hw hc h
  exact .inl ⟨k1,_,aHQ (Decidable.not_not.1 h1),this.1,this.2⟩
 split at h
 ·rename_i _ k2
  split at h
  ·rename_i h1;exact absurd h h1
  rename_i h1
  split at h
  ·simp at h
  rename_i h2
  split at h
  ·simp at h
  rename_i h3
  refine .inr (.inl ⟨k2,?_,h2⟩)
  rw[Decidable.not_not.1 h3]
  exact aHQ (Decidable.not_not.1 h1)
 split at h
 ·rename_i _ _ k3
  split at h
  ·simp at h
  rename_i h1
  split at h
  ·simp at h
  split at h
  ·simp at h
  rename_i h2
  split at h
  ·simp at h
  rename_i h3
  exact .inr (.inr (.inl ⟨k3,h1,fun e=>h2 (.inr e),Decidable.not_not.1 h3,aLf o c cx bf y.nm y.brs 0 h⟩))
 split at h
 ·rename_i _ _ _ k4
  unfold aCT at h
  split at h
  ·simp at h
  rename_i h1
  split at h
  ·simp at h
  rename_i h2
  split at h
  ·rename_i h3;exact absurd h h3
  rename_i h3
  exact .inr (.inr (.inr (.inl ⟨k4,by simpa using h1,Decidable.not_not.1 fun e=>h2 (.inl e),Decidable.not_not.1 fun e=>h2 (.inr e),cx,bf,Decidable.not_not.1 h3,h⟩)))
 rename_i k1 k2 k3 k4
 split at h
 ·simp at h
 rename_i h1
 refine .inr (.inr (.inr (.inr ⟨?_,by simpa using h1⟩)))
 unfold aU at hf
 rw[if_neg (by rintro (h|h);exact k1 h;exact k2 h),if_neg k3,if_neg k4] at hf
 split at hf
 ·assumption
 ·simp at hf
theorem aMf {c:Cl} (hc:CWf o c) {n:Nat} {F:Trn→List Int→Trn×List Int} (hF:Fok o n F):∀ (N:Nat) (l:List Y),hH l<N→wtL o c l→∀ s:Es,s.ok o c n→(uW c F l s).ok o c n:=by
 intro N
 induction N with
 | zero=>intro l h;omega
 | succ N ih=>
 intro l
 cases l with
 | nil=>intro _ _ s hs;rw[uW];exact hs
 | cons y r=>
 intro hN hl s hs
 rw[hH] at hN
 have hy:=hl y (List.mem_cons_self ..)
 have hs0:=Y.sz_eq y
 rw[uW]
 refine ih r (by omega) (fun z hz=>hl z (List.mem_cons_of_mem _ hz)) _ ?_
 rw[aDo]
 rcases hy.cases hw hc with ⟨k,t,h1,h2,h3⟩|⟨k,h1,h2⟩|⟨k,h1,h2,h3,h4⟩|⟨k,h1,h2,h3,cx,bf,h4,h5⟩|⟨k,h1⟩
 ·rw[if_pos k]
  exact ⟨hs.v.put fun _=>by rw[h3];exact h1.ty hs.v hs.m,hs.m,hs.b,hs.h⟩
 ·rw[if_neg (by omega),if_pos k]
  exact ⟨hs.v,hs.m.put h2 (h1.ty hs.v hs.m),hs.b,hs.h⟩
 ·rw[if_neg (by omega),if_neg (by omega),if_pos k]
  have hv:=hs.v y.nm h1
  unfold iG at hv
  rw[if_neg h2] at hv
  simp at hv
  have fB:(gz s.vs y.nm).toNat<y.brs.length:=by omega
  rw[aAK c F s y.brs _ _ (List.getElem?_eq_getElem fB)]
  have hm:=List.getElem_mem fB
  exact ih _ (by have:=gJ hm;omega) (h4 _ hm) s hs
 ·rw[if_neg (by omega),if_neg (by omega),if_neg (by omega),if_pos k]
  obtain ⟨t,ht,hto,htc⟩:=w9 hs.b h1
  rw[ht]
  simp only
  rw[←htc] at h2 h3 h4 h5
  have hi:=aCo hw hs.v hs.m cx bf y.args t.c.inn h4 h2
  obtain ⟨g1,g2,g3,g4⟩:=hF t _ (by have:=pT (List.mem_of_getElem? ht);have:=hs.h;omega) hto hi
  exact ⟨hs.v.puts _ _ (aJq hw hc y.outs [] t.c.out _ h5 h3 g4),hs.m,aFk o _ _ _ _ _ hs.b ht g2 g1,(aEF _ _ _ _ ht g3).trans hs.h⟩
 ·rw[if_neg (by omega),if_neg (by omega),if_neg (by omega),if_neg (by omega)]
  obtain ⟨t,ht,hto,htc⟩:=w9 hs.b h1
  rw[ht]
  obtain ⟨g1,g2,g3⟩:=aFg hw t hto
  exact ⟨hs.v,hs.m,aFk o _ _ _ _ _ hs.b ht g2 g1,(aEF _ _ _ _ ht g3).trans hs.h⟩
theorem zW {c:Cl} (hc:CWf o c) {ins:List Int} (hi:y9 o.en c.inn ins):tyV o.en c (puts [] ((c.inn.map Dc.nm).zip ins)):=by
 have _:=hw
 refine (tyV.nil hc).puts _ _ fun p hp _=>?_
 obtain ⟨i,hi1,sX⟩:=List.getElem_of_mem hp
 simp only[List.length_zip,List.length_map] at hi1
 rw[List.getElem_zip] at sX
 subst sX
 simp only[List.getElem_map]
 have hd:=hc.inn c.inn[i] (List.getElem_mem (by omega))
 rw[hd.1]
 exact hi.2 i _ _ (List.getElem?_eq_getElem (by omega)) (List.getElem?_eq_getElem (by omega))
theorem s7:∀ n,Fok o n (eZ n)
 | 0=>fun t ins h=>by cases t;rw[Trn.ht] at h;omega
 | n+1=>fun t ins h cE hi=>by
  obtain ⟨c,ms,sb⟩:=t
  rw[Trn.ht] at h
  rw[Trn.ok] at cE
  obtain ⟨hc,hm,hb⟩:=cE
  have hcw:=hw c hc
  have hF:Fok o (htL sb) (eZ n):=fun t ins h1=>s7 n t ins (by omega)
  have hs:=aMf hw hcw hF _ c.step (Nat.lt_succ_self _) hcw.step ⟨puts [] ((c.inn.map Dc.nm).zip ins),ms,sb⟩ ⟨zW hw hcw hi,hm,hb,rfl⟩
  rw[eZ]
  simp only
  generalize uW c (eZ n) c.step ⟨puts [] ((c.inn.map Dc.nm).zip ins),ms,sb⟩=s at hs ⊢
  refine ⟨by rw[Trn.ok];exact ⟨hc,hs.m,hs.b⟩,rfl,by rw[Trn.ht,Trn.ht,hs.h],by simp[Trn.c],fun i d v h1 h2=>?_⟩
  have xN:c.out[i]?=some d:=h1
  rw[List.getElem?_map,xN] at h2
  simp at h2
  subst h2
  have hd:=hcw.out d (List.mem_of_getElem? xN)
  have:=hs.v d.nm (by rw[hd.1];exact hd.2)
  rwa [hd.1] at this
end
end Go.Ac
end
section
set_option maxRecDepth 4000
namespace Go.Ac
open Go.Proofs
theorem aFx (o:Oc):∀ (l:List Cl) (i k:Nat) (c:Cl),aBO o i l=0→l[k]?=some c→mO o (i+k) c=0
 | [],i,k,c,h,hk=>by simp at hk
 | x::r,i,k,c,h,hk=>by
  rw[aBO] at h
  split at h
  ·rename_i hn;exact absurd h hn
  rename_i hn
  cases k with
  | zero=>simp at hk;subst hk;exact Decidable.not_not.1 hn
  | succ k=>
   have:=aFx o r (i+1) k c h (by simpa using hk)
   rwa [show i+(k+1)=i+1+k by omega]
theorem qR {α:Type} (f:α→Tx):∀ (l:List α),(l.map f).Nodup→∀ d,d∈l→l.find? (fun e=>decide (f e=f d))=some d
 | [],_,d,h=>by cases h
 | x::r,hn,d,h=>by
  rw[List.map_cons,List.nodup_cons] at hn
  rw[List.find?_cons]
  by_cases hx:f x=f d
  ·rw[show decide (f x=f d)=true by simp[hx]]
   rcases List.mem_cons.1 h with rfl|h
   ·rfl
   ·exact absurd (List.mem_map.2 ⟨d,h,hx.symm⟩) hn.1
  ·rw[show decide (f x=f d)=false by simp[hx]]
   rcases List.mem_cons.1 h with rfl|h
   ·exact absurd rfl hx
   ·exact qR f r hn.2 d h
theorem aDU {α:Type} {l:List α} {p:α→Bool} (h:¬ l.any p=true):∀ x,x∈l→p x=false:=fun x hx=>by
 cases hp:p x with
 | false=>rfl
 | true=>exact absurd (List.any_eq_true.2 ⟨x,hx,hp⟩) h
theorem aAC {o:Oc} (h:dE o=0):∀ c,c∈o.cl→CWf o c:=by
 unfold dE at h
 split at h
 ·simp at h
 split at h
 ·simp at h
 intro c hc
 obtain ⟨i,hi⟩:=List.mem_iff_getElem?.1 hc
 have hk:=aFx o o.cl 0 i c h hi
 rw[Nat.zero_add] at hk
 unfold mO at hk
 split at hk
 ·rename_i hn;exact absurd hk hn
 rename_i hh
 split at hk
 ·rename_i hn;exact absurd hk hn
 rename_i hl
 clear hk
 have hh:=Decidable.not_not.1 hh
 unfold yW at hh
 split at hh
 ·simp at hh
 split at hh
 ·rename_i hn;exact absurd hh hn
 rename_i e1
 split at hh
 ·rename_i hn;exact absurd hh hn
 rename_i e2
 split at hh
 ·rename_i hn;exact absurd hh hn
 rename_i e3
 split at hh
 ·simp at hh
 rename_i e4
 split at hh
 ·simp at hh
 rename_i e5
 have d1:=qM (Decidable.not_not.1 e1)
 have d2:=qM (Decidable.not_not.1 e2)
 have d3:=qM (Decidable.not_not.1 e3)
 have d4:=aDU e4
 have mA:c.names.Nodup:=(aBk _ _ (by simpa using e5)).1
 have aRh:=mA
 unfold Cl.names at aRh
 rw[List.nodup_append,List.nodup_append,List.nodup_append,List.nodup_append] at aRh
 obtain ⟨⟨⟨⟨n1,n2,n12⟩,n3,n123⟩,n4,n1234⟩,n5,_⟩:=aRh
 have mem_of:∀ {l:List Dc} {x:Tx},fG l x≠0→x∈l.map Dc.nm:=fun {l x} hx=>by
  obtain ⟨d,hd,he,_⟩:=jN hx
  exact List.mem_map.2 ⟨d,hd,he⟩
 have aFT:∀ x,j1 c x≠0→cZ c x=j1 c x:=by
  intro x hx
  unfold cZ
  rw[if_pos]
  cases Decidable.em (fG c.inn x=0) with
  | inl h=>exact h
  | inr hne=>
   exfalso
   have m1:=mem_of hne
   unfold j1 at hx
   split at hx
   ·exact n123 x (List.mem_append_left _ m1) x (mem_of hx) rfl
   ·rename_i h2;exact n12 x m1 x (mem_of h2) rfl
 have hfd:∀ {l:List Dc},(l.map Dc.nm).Nodup→∀ d,d∈l→fG l d.nm=d.t:=by
  intro l hn d hd
  unfold fG
  rw[qR Dc.nm l hn d hd]
 refine ⟨mA,aFT,fun x hx=>?_,fun d hd=>?_,fun d hd=>?_,fun m hm=>?_,aIs o c _ _ _ (Decidable.not_not.1 hl)⟩
 ·unfold cZ at hx ⊢
  split at hx
  ·rename_i h1
   rw[if_pos h1]
   unfold j1 at hx ⊢
   split at hx
   ·rename_i h2
    rw[if_pos h2]
    obtain ⟨d,hd,_,he⟩:=jN hx
    rw[he];exact d3 d hd
   ·rename_i h2
    rw[if_neg h2]
    obtain ⟨d,hd,_,he⟩:=jN h2
    rw[he];exact d2 d hd
  ·rename_i h1
   rw[if_neg h1]
   obtain ⟨d,hd,_,he⟩:=jN h1
   rw[he];exact d1 d hd
 ·have ht:=uO (d1 d hd)
  have hf:=hfd n1 d hd
  exact ⟨by unfold cZ;rw[if_neg (by rw[hf];exact ht),hf],ht⟩
 ·have ht:=uO (d2 d hd)
  have hf:=hfd n2 d hd
  have hs:j1 c d.nm=d.t:=by unfold j1;rw[if_neg (by rw[hf];exact ht),hf]
  exact ⟨(aFT d.nm (by rw[hs];exact ht)).trans hs,ht⟩
 ·have h4:=d4 m hm
  have h4':nG o.en m=true:=by simpa using h4
  unfold nG at h4'
  simp only[Bool.and_eq_true,decide_eq_true_eq] at h4'
  refine ⟨?_,uO h4'.1,h4'.2⟩
  unfold eK
  rw[qR Mm.nm c.mems n4 m hm]
end Go.Ac
end
section
set_option maxRecDepth 4000
namespace Go.Ac
open Go.Proofs
structure Pb where
 x:Nat
 gx:Nat
 im:Nat
 gm:Nat
 ii:Nat
 gi:Nat
inductive Pt where
 | mk (a:Pb) (ps:List Pt)
def Pt.a:Pt→Pb|.mk a _=>a
def Pt.ps:Pt→List Pt|.mk _ l=>l
def eP (p:Nat×Nat):V:= .ptr p.1 p.2 0
def i4 (c:Cl) (ps:List Pt):List (Tx×(Nat×Nat)):=(c.ins.map Ii.nm).zip (ps.map fun p=>(p.a.x,p.a.gx))
mutual
def dM:Pt→List Nat
 | .mk a ps=>a.im::dT ps
def dT:List Pt→List Nat
 | []=>[]
 | p::r=>dM p++dT r
end
mutual
def lS:Pt→List Nat
 | .mk a ps=>a.x::a.ii::fZ ps
def fZ:List Pt→List Nat
 | []=>[]
 | p::r=>lS p++fZ r
end
mutual
def qD:Trn→Pt→List (Nat×Ob)
 | .mk c ms sb,.mk a ps=>(a.im,⟨a.gm,false,[gF eI ms]⟩)::xM sb ps
def xM:List Trn→List Pt→List (Nat×Ob)
 | t::ts,p::ps=>qD t p++xM ts ps
 | [],_=>[]
 | _::_,[]=>[]
end
mutual
def stC (en:List En):Trn→Pt→List (Nat×Ob)
 | .mk c ms sb,.mk a ps=>(a.x,oO a.gx en c a.im a.gm a.ii a.gi)::(a.ii,⟨a.gi,false,[gF eP (i4 c ps)]⟩)::stL en sb ps
def stL (en:List En):List Trn→List Pt→List (Nat×Ob)
 | t::ts,p::ps=>stC en t p++stL en ts ps
 | [],_=>[]
 | _::_,[]=>[]
end
mutual
def fit:Trn→Pt→Prop
 | .mk c ms sb,.mk a ps=>sb.length=c.ins.length∧eU sb ps
def eU:List Trn→List Pt→Prop
 | t::ts,p::ps=>fit t p∧eU ts ps
 | [],ps=>ps=[]
 | _::_,[]=>False
end
mutual
def Trn.bare:Trn→Trn
 | .mk c _ sb=> .mk c [] (fF sb)
def fF:List Trn→List Trn
 | []=>[]
 | t::r=>t.bare::fF r
end
theorem qA:∀ l:List Trn,fF l=l.map Trn.bare
 | []=>by rw[fF];rfl
 | t::r=>by rw[fF,qA r];rfl
theorem s9:∀ (l:List Trn) (ps:List Pt),eU l ps→l.length=ps.length
 | [],ps,h=>by rw[eU] at h;subst h;rfl
 | t::r,[],h=>by rw[eU] at h;exact h.elim
 | t::r,p::ps,h=>by rw[eU] at h;simp[s9 r ps h.2]
theorem pQ:∀ (l:List Trn) (ps:List Pt) (i:Nat) (t:Trn) (p:Pt),eU l ps→l[i]?=some t→ps[i]?=some p→fit t p
 | [],ps,i,t,p,h,e,_=>by simp at e
 | t::r,[],i,u,p,h,_,e=>by simp at e
 | t::r,q::ps,0,u,p,h,e1,e2=>by rw[eU] at h;simp at e1 e2;subst e1;subst e2;exact h.1
 | t::r,q::ps,i+1,u,p,h,e1,e2=>by rw[eU] at h;exact pQ r ps i u p h.2 (by simpa using e1) (by simpa using e2)
mutual
theorem vP (en:List En):∀ (t:Trn) (p:Pt),stC en t.bare p=stC en t p
 | .mk c ms sb,.mk a ps=>by rw[Trn.bare,stC,stC,aHc en sb ps]
theorem aHc (en:List En):∀ (l:List Trn) (ps:List Pt),stL en (fF l) ps=stL en l ps
 | [],ps=>by rw[fF]
 | t::r,[]=>by rw[fF,stL,stL]
 | t::r,p::ps=>by rw[fF,stL,stL,vP en t p,aHc en r ps]
end
mutual
theorem dG:∀ (t:Trn) (p:Pt),fit t.bare p↔fit t p
 | .mk c ms sb,.mk a ps=>by
  rw[Trn.bare,fit,fit,xE sb ps]
  rw[qA,List.length_map]
theorem xE:∀ (l:List Trn) (ps:List Pt),eU (fF l) ps↔eU l ps
 | [],ps=>by rw[fF]
 | t::r,[]=>by rw[fF,eU,eU]
 | t::r,p::ps=>by rw[fF,eU,eU,dG t p,xE r ps]
end
mutual
theorem eL:∀ (t:Trn) (p:Pt),fit t p→(qD t p).map Prod.fst=dM p
 | .mk c ms sb,.mk a ps,h=>by
  rw[fit] at h
  rw[qD,dM,List.map_cons,lB sb ps h.2]
theorem lB:∀ (l:List Trn) (ps:List Pt),eU l ps→(xM l ps).map Prod.fst=dT ps
 | [],ps,h=>by rw[eU] at h;subst h;rw[xM,dT];rfl
 | t::r,[],h=>by rw[eU] at h;exact h.elim
 | t::r,p::ps,h=>by
  rw[eU] at h
  rw[xM,dT,List.map_append,eL t p h.1,lB r ps h.2]
end
mutual
theorem qJ (en:List En):∀ (t:Trn) (p:Pt),fit t p→(stC en t p).map Prod.fst=lS p
 | .mk c ms sb,.mk a ps,h=>by
  rw[fit] at h
  rw[stC,lS,List.map_cons,List.map_cons,aAk en sb ps h.2]
theorem aAk (en:List En):∀ (l:List Trn) (ps:List Pt),eU l ps→(stL en l ps).map Prod.fst=fZ ps
 | [],ps,h=>by rw[eU] at h;subst h;rw[stL,fZ];rfl
 | t::r,[],h=>by rw[eU] at h;exact h.elim
 | t::r,p::ps,h=>by
  rw[eU] at h
  rw[stL,fZ,List.map_append,qJ en t p h.1,aAk en r ps h.2]
end
theorem jV:∀ (ps:List Pt) (i:Nat) (p:Pt),ps[i]?=some p→∀ k,k∈dM p→k∈dT ps
 | [],i,p,h,_,_=>by simp at h
 | q::r,0,p,h,k,hk=>by simp at h;subst h;rw[dT];exact List.mem_append_left _ hk
 | q::r,i+1,p,h,k,hk=>by rw[dT];exact List.mem_append_right _ (jV r i p (by simpa using h) k hk)
theorem aEM:∀ (ps:List Pt) (i:Nat) (p:Pt),ps[i]?=some p→∀ k,k∈lS p→k∈fZ ps
 | [],i,p,h,_,_=>by simp at h
 | q::r,0,p,h,k,hk=>by simp at h;subst h;rw[fZ];exact List.mem_append_left _ hk
 | q::r,i+1,p,h,k,hk=>by rw[fZ];exact List.mem_append_right _ (aEM r i p (by simpa using h) k hk)
theorem aJu:∀ (ps:List Pt) (k:Nat),k∈dT ps→∃ (i:Nat) (p:Pt),ps[i]?=some p∧k∈dM p
 | [],k,h=>by rw[dT] at h;cases h
 | q::r,k,h=>by
  rw[dT] at h
  rcases List.mem_append.1 h with h|h
  ·exact ⟨0,q,rfl,h⟩
  ·obtain ⟨i,p,h1,h2⟩:=aJu r k h
   exact ⟨i+1,p,by simpa using h1,h2⟩
theorem aBY:∀ (ps:List Pt),(dT ps).Nodup→∀ (i j:Nat) (p q:Pt),ps[i]?=some p→ps[j]?=some q→i≠j→∀ k,k∈dM p→k∉dM q
 | [],_,i,j,p,q,h,_,_,_,_,_=>by simp at h
 | x::r,hn,i,j,p,q,hi,hj,hne,k,hk,xJ=>by
  rw[dT,List.nodup_append] at hn
  obtain ⟨n1,n2,n3⟩:=hn
  cases i with
  | zero=>
   cases j with
   | zero=>exact hne rfl
   | succ j=>simp at hi hj;subst hi;exact n3 k hk k (jV r j q hj k xJ) rfl
  | succ i=>
   cases j with
   | zero=>simp at hi hj;subst hj;exact n3 k xJ k (jV r i p hi k hk) rfl
   | succ j=>exact aBY r n2 i j p q (by simpa using hi) (by simpa using hj) (by omega) k hk xJ
theorem sD:∀ (l:List Trn) (ps:List Pt) (q:Nat×Ob),q∈xM l ps↔∃ (i:Nat) (t:Trn) (p:Pt),l[i]?=some t∧ps[i]?=some p∧q∈qD t p
 | [],ps,q=>by rw[xM];simp
 | t::r,[],q=>by rw[xM];simp
 | t::r,p::ps,q=>by
  rw[xM,List.mem_append,sD r ps q]
  constructor
  ·rintro (h|⟨i,u,v,h1,h2,h3⟩)
   ·exact ⟨0,t,p,rfl,rfl,h⟩
   ·exact ⟨i+1,u,v,by simpa using h1,by simpa using h2,h3⟩
  ·rintro ⟨i,u,v,h1,h2,h3⟩
   cases i with
   | zero=>simp at h1 h2;subst h1;subst h2;exact .inl h3
   | succ i=>exact .inr ⟨i,u,v,by simpa using h1,by simpa using h2,h3⟩
theorem aJQ (en:List En):∀ (l:List Trn) (ps:List Pt) (q:Nat×Ob),q∈stL en l ps↔∃ (i:Nat) (t:Trn) (p:Pt),l[i]?=some t∧ps[i]?=some p∧q∈stC en t p
 | [],ps,q=>by rw[stL];simp
 | t::r,[],q=>by rw[stL];simp
 | t::r,p::ps,q=>by
  rw[stL,List.mem_append,aJQ en r ps q]
  constructor
  ·rintro (h|⟨i,u,v,h1,h2,h3⟩)
   ·exact ⟨0,t,p,rfl,rfl,h⟩
   ·exact ⟨i+1,u,v,by simpa using h1,by simpa using h2,h3⟩
  ·rintro ⟨i,u,v,h1,h2,h3⟩
   cases i with
   | zero=>simp at h1 h2;subst h1;subst h2;exact .inl h3
   | succ i=>exact .inr ⟨i,u,v,by simpa using h1,by simpa using h2,h3⟩
def Pt.nd (p:Pt):Prop:=(lS p++dM p).Nodup
structure Lies (en:List En) (t:Trn) (p:Pt) (hp:Hp) (n:Nat):Prop where
 fit:fit t p
 nd:p.nd
 st:∀ q,q∈stC en t p→q.1<n∧hp.get q.1=some q.2
 me:∀ q,q∈qD t p→q.1<n∧hp.get q.1=some q.2
theorem Lies.mono {en:List En} {t:Trn} {p:Pt} {hp bD:Hp} {n n':Nat} (h:Lies en t p hp n) (ha:Ag n hp bD) (hn:n≤n'):Lies en t p bD n':=
 ⟨h.fit,h.nd,fun q hq=>⟨Nat.lt_of_lt_of_le (h.st q hq).1 hn,(ha _ (h.st q hq).1).trans (h.st q hq).2⟩,fun q hq=>⟨Nat.lt_of_lt_of_le (h.me q hq).1 hn,(ha _ (h.me q hq).1).trans (h.me q hq).2⟩⟩
theorem Lies.mids_lt {en:List En} {t:Trn} {p:Pt} {hp:Hp} {n:Nat} (h:Lies en t p hp n):∀ k,k∈dM p→k<n:=fun k hk=>by
 rw[←eL t p h.fit] at hk
 obtain ⟨q,hq,rfl⟩:=List.mem_map.1 hk
 exact (h.me q hq).1
theorem Lies.upd {en:List En} {t u:Trn} {p:Pt} {hp bD:Hp} {n:Nat} (h:Lies en t p hp n) (hb:u.bare=t.bare) (hf:∀ k,k<n→k∉dM p→bD.get k=hp.get k) (hm:∀ q,q∈qD u p→bD.get q.1=some q.2):Lies en u p bD n:=by
 have fM:Go.Ac.fit u p:=by rw[←dG,hb,dG];exact h.fit
 refine ⟨fM,h.nd,fun q hq=>?_,fun q hq=>?_⟩
 ·rw[←vP,hb,vP] at hq
  obtain ⟨h1,h2⟩:=h.st q hq
  refine ⟨h1,(hf _ h1 fun hk=>?_).trans h2⟩
  have hs:q.1∈lS p:=by rw[←qJ en t p h.fit];exact List.mem_map.2 ⟨q,hq,rfl⟩
  exact (List.nodup_append.1 h.nd).2.2 _ hs _ hk rfl
 ·refine ⟨h.mids_lt _ ?_,hm q hq⟩
  rw[←eL u p fM];exact List.mem_map.2 ⟨q,hq,rfl⟩
theorem aGN:∀ (ps:List Pt) (i:Nat) (p:Pt),(fZ ps).Nodup→ps[i]?=some p→(lS p).Nodup
 | [],i,p,_,h=>by simp at h
 | q::r,0,p,hn,h=>by simp at h;subst h;rw[fZ] at hn;exact (List.nodup_append.1 hn).1
 | q::r,i+1,p,hn,h=>by rw[fZ] at hn;exact aGN r i p (List.nodup_append.1 hn).2.1 (by simpa using h)
theorem aHb:∀ (ps:List Pt) (i:Nat) (p:Pt),(dT ps).Nodup→ps[i]?=some p→(dM p).Nodup
 | [],i,p,_,h=>by simp at h
 | q::r,0,p,hn,h=>by simp at h;subst h;rw[dT] at hn;exact (List.nodup_append.1 hn).1
 | q::r,i+1,p,hn,h=>by rw[dT] at hn;exact aHb r i p (List.nodup_append.1 hn).2.1 (by simpa using h)
theorem Lies.sub {en:List En} {t:Trn} {p:Pt} {hp:Hp} {n:Nat} (h:Lies en t p hp n) {i:Nat} {u:Trn} (hu:t.sb[i]?=some u):∃ q,p.ps[i]?=some q∧Lies en u q hp n:=by
 obtain ⟨c,ms,sb⟩:=t
 obtain ⟨a,ps⟩:=p
 obtain ⟨fM,mA,hst,hme⟩:=h
 rw[Go.Ac.fit] at fM
 rw[stC] at hst
 rw[qD] at hme
 have hu':sb[i]?=some u:=hu
 have hl:=s9 sb ps fM.2
 have fB:=(List.getElem?_eq_some_iff.1 hu').1
 have hip:i<ps.length:=by rw[←hl];exact fB
 refine ⟨ps[i],List.getElem?_eq_getElem hip,?_⟩
 have hq:ps[i]?=some ps[i]:=List.getElem?_eq_getElem hip
 refine ⟨pQ sb ps i u _ fM.2 hu' hq,?_,fun q gQ=>hst q ?_,fun q gQ=>hme q ?_⟩
 ·unfold Pt.nd at mA ⊢
  rw[lS,dM,List.nodup_append] at mA
  obtain ⟨n1,n2,n3⟩:=mA
  rw[List.nodup_cons,List.nodup_cons] at n1
  rw[List.nodup_cons] at n2
  rw[List.nodup_append]
  refine ⟨aGN ps i _ n1.2.2 hq,aHb ps i _ n2.2 hq,fun x hx y hy=>n3 x ?_ y ?_⟩
  ·exact List.mem_cons_of_mem _ (List.mem_cons_of_mem _ (aEM ps i _ hq x hx))
  ·exact List.mem_cons_of_mem _ (jV ps i _ hq y hy)
 ·exact List.mem_cons_of_mem _ (List.mem_cons_of_mem _ ((aJQ en sb ps q).2 ⟨i,u,_,hu',hq,gQ⟩))
 ·exact List.mem_cons_of_mem _ ((sD sb ps q).2 ⟨i,u,_,hu',hq,gQ⟩)
theorem zR {l:List Trn} {i:Nat} {t u:Trn} (h:l[i]?=some t) (hb:u.bare=t.bare):fF (l.set i u)=fF l:=by
 rw[qA,qA,List.map_set]
 apply List.ext_getElem
 ·simp
 ·intro j h1 h2
  simp only[List.getElem_set,List.getElem_map]
  split
  ·rename_i e;subst e
   rw[hb]
   have:=(List.getElem?_eq_some_iff.1 h).2
   rw[this]
  ·rfl
mutual
theorem kQ:∀ t:Trn,t.init.bare=t.bare
 | .mk c ms sb=>by rw[Trn.init,Trn.bare,Trn.bare,yK sb]
theorem yK:∀ l:List Trn,fF (gT l)=fF l
 | []=>by rw[gT]
 | t::r=>by rw[gT,fF,fF,kQ t,yK r]
end
theorem aBa:∀ l:List Trn,gT l=l.map Trn.init
 | []=>by rw[gT];rfl
 | t::r=>by rw[gT,aBa r];rfl
theorem aCn {c:Cl} {F:Trn→List Int→Trn×List Int} (hF:∀ t ins,(F t ins).1.bare=t.bare):∀ (N:Nat) (l:List Y),hH l<N→∀ s:Es,fF (uW c F l s).sb=fF s.sb:=by
 intro N
 induction N with
 | zero=>intro l h;omega
 | succ N ih=>
 intro l
 cases l with
 | nil=>intro _ s;rw[uW]
 | cons y r=>
 intro hN s
 rw[hH] at hN
 have hs0:=Y.sz_eq y
 rw[uW,ih r (by omega),aDo]
 split
 ·rfl
 split
 ·rfl
 split
 ·cases hb:y.brs[(gz s.vs y.nm).toNat]? with
  | none=>rw[aER _ _ _ _ _ (by simpa using hb)]
  | some b=>
   rw[aAK c F s y.brs _ b hb]
   have hm:=List.mem_of_getElem? hb
   exact ih b (by have:=gJ hm;omega) s
 split
 ·split
  ·rename_i t ht;exact zR ht (hF t _)
  ·rfl
 ·split
  ·rename_i t ht;exact zR ht (kQ t)
  ·rfl
theorem lR:∀ (n:Nat) (t:Trn) (ins:List Int),(eZ n t ins).1.bare=t.bare
 | 0,t,ins=>by rw[eZ]
 | n+1,.mk c ms sb,ins=>by
  rw[eZ]
  simp only
  rw[Trn.bare,Trn.bare,aCn (lR n) _ c.step (Nat.lt_succ_self _)]
end Go.Ac
end
section
namespace Go.Ac
variable {P:Program} {cfg:Cfg} {fid:FuncId}
def aFv [Gl] (P:Program) (cfg:Cfg) (fid:FuncId) (rid:Nat) (ops:Array Oper) (d:Nat) (rest:Code) (s:St) (e:Ex) (u:St):Prop:=
 ∃ K,∀ k,K≤k→t8 (dN P cfg (fJ P cfg (cU P cfg k)) fid rid (fQ ops d) false) (cU P cfg k fid rest) s=some (e,u)
theorem aFv.of [Gl] {rid d:Nat} {ops:Array Oper} {rest:Code} {s:St} {Q:Ex→St→Prop} (h:WP P cfg fid (.region rid (fQ ops d) false) s (aKQ P cfg fid rest Q)):∃ e u,aFv P cfg fid rid ops d rest s e u∧Q e u:=by
 obtain ⟨e1,t1,⟨K,hK⟩,hq⟩:=h
 have aBm:∀ k,K≤k→e1= .normal∧dN P cfg (fJ P cfg (cU P cfg k)) fid rid (fQ ops d) false s=some t1:=fun k hk=>by
  have:=hK (k+1) (by omega)
  simp only[cU,Option.map_eq_some_iff] at this
  obtain ⟨x,hx,he⟩:=this
  simp only[Prod.mk.injEq] at he
  obtain ⟨rfl,rfl⟩:=he
  exact ⟨rfl,hx⟩
 obtain ⟨rfl,_⟩:=aBm K (Nat.le_refl _)
 obtain ⟨e,u,⟨L,hL⟩,hq⟩:=hq
 refine ⟨e,u,⟨max K L,fun k hk=>?_⟩,hq⟩
 unfold t8
 rw[(aBm k (Nat.le_trans (Nat.le_max_left _ _) hk)).2]
 exact hL k (Nat.le_trans (Nat.le_max_right _ _) hk)
structure FinS (E:Ex) (U:Nat→V) (G:Nat→Option Ob) (n n0 it:Nat) (W:Nat→Prop) (e:Ex) (u:St):Prop where
 e:e=E
 env:∀ t,U t= .any∨u.env.get t=U t
 hp:∀ id,id<n→id≠it→u.hp.get id=G id
 n0:u.n0=n0
 wl:∀ i,i∈u.wl↔W i
theorem aJB {α:Type} {Pr:α→Nat→Nat→Prop} (hm:∀ x K K' C C',K≤K'→C≤C'→Pr x K C→Pr x K' C'):∀ (l:List α),(∀ x,x∈l→∃ K C,Pr x K C)→∃ K C,∀ x,x∈l→Pr x K C
 | [],_=>⟨0,0,fun x h=>by cases h⟩
 | a::r,h=>by
  obtain ⟨K1,C1,h1⟩:=h a (List.mem_cons_self ..)
  obtain ⟨K2,C2,h2⟩:=aJB hm r fun x hx=>h x (List.mem_cons_of_mem _ hx)
  refine ⟨max K1 K2,max C1 C2,fun x hx=>?_⟩
  rcases List.mem_cons.1 hx with rfl|hx
  ·exact hm _ _ _ _ _ (Nat.le_max_left _ _) (Nat.le_max_left _ _) h1
  ·exact hm _ _ _ _ _ (Nat.le_max_right _ _) (Nat.le_max_right _ _) (h2 x hx)
section
variable {b rest:Code} {rid t d:Nat} {ops:Array Oper} {E:Ex} {U:Nat→V} {G:Nat→Option Ob} {n n0 it:Nat} {W:Nat→Prop}
theorem aJc [Gl] (Inv:List Nat→St→Prop) (hE:E≠ .normal)
  (wN:∀ l s,Inv l s→∃ I,aAQ s t=some I∧(fE I).Perm l∧
   (l=[]→WP P cfg fid (.region rid (fQ ops d) false) (s.put (some d) aJM) (aKQ P cfg fid rest (FinS E U G n n0 it W)))∧
   (∀ x,x∈l→∃ q,aDm I x=some q∧WP P cfg fid (.region rid (fQ ops d) false) (s.put (some d) q) (aKQ P cfg fid rest fun e u=>(e= .normal∧Inv (l.erase x) (cut cfg fid s u))∨FinS E U G n n0 it W e u))):
  ∀ (m:Nat) (l:List Nat) (s:St),l.length=m→Inv l s→∃ K C,∀ p:List Nat,p.Perm l→∃ y,(∀ k,K≤k→jE (dN P cfg (fJ P cfg (cU P cfg k)) fid rid (fQ ops d) false) (cU P cfg k fid rest) (cfg.own fid) t d p s=some (E,y))∧FinS E U G n n0 it W E y∧y.c≤C
 | 0,l,s,hm,hI=>by
  obtain rfl:=List.length_eq_zero_iff.1 hm
  obtain ⟨I,hIt,hp,h0,_⟩:=wN _ _ hI
  obtain ⟨e,u,⟨K,hK⟩,hf⟩:=aFv.of (h0 rfl)
  have aMY:fE I=[]:=List.perm_nil.1 hp
  refine ⟨K,u.c,fun p hpp=>?_⟩
  obtain rfl:=List.perm_nil.1 hpp
  obtain rfl:=hf.e
  refine ⟨u,fun k hk=>?_,hf,Nat.le_refl _⟩
  simp only[jE,hIt,aMY,List.isEmpty_nil,hK k hk]
  cases e with
  | normal=>exact absurd rfl hE
  | exit i=>rfl
  | ret=>rfl
 | m+1,l,s,hm,hI=>by
  obtain ⟨I,hIt,hp,_,h1⟩:=wN _ _ hI
  have aOz:∀ u,(if cfg.own fid=true then u else { u with hp:=Hp.trunc s.n u.hp,n:=s.n })=cut cfg fid s u:=fun u=>rfl
  have each:∀ x,x∈l→∃ K C,∀ p:List Nat,p.Perm (l.erase x)→∃ y,(∀ k,K≤k→jE (dN P cfg (fJ P cfg (cU P cfg k)) fid rid (fQ ops d) false) (cU P cfg k fid rest) (cfg.own fid) t d (x::p) s=some (E,y))∧FinS E U G n n0 it W E y∧y.c≤C:=by
   intro x hx
   obtain ⟨q,hq,hw⟩:=h1 x hx
   obtain ⟨e,u,⟨K,hK⟩,hf⟩:=aFv.of hw
   have yA:∀ p:List Nat,p.Perm (l.erase x)→(x::p).isPerm (fE I)=true:=fun p hpp=>List.isPerm_iff.2 (((hpp.cons x).trans (List.perm_cons_erase hx).symm).trans hp.symm)
   rcases hf with ⟨rfl,hi⟩|hf
   ·obtain ⟨K2,C2,h2⟩:=aJc Inv hE wN m (l.erase x) _ (by rw[List.length_erase_of_mem hx];omega) hi
    refine ⟨max K K2,C2,fun p hpp=>?_⟩
    obtain ⟨y,hy,hfy⟩:=h2 p hpp
    refine ⟨y,fun k hk=>?_,hfy⟩
    simp only[jE,hIt,yA p hpp,hq,hK k (Nat.le_trans (Nat.le_max_left _ _) hk)]
    rw[aOz]
    exact hy k (Nat.le_trans (Nat.le_max_right _ _) hk)
   ·obtain rfl:=hf.e
    refine ⟨K,u.c,fun p hpp=>⟨u,fun k hk=>?_,hf,Nat.le_refl _⟩⟩
    simp only[jE,hIt,yA p hpp,hq,hK k hk]
    cases e with
    | normal=>exact absurd rfl hE
    | exit i=>rfl
    | ret=>rfl
  obtain ⟨K,C,gL⟩:=aJB (Pr:=fun x K C=>∀ p:List Nat,p.Perm (l.erase x)→∃ y,(∀ k,K≤k→jE (dN P cfg (fJ P cfg (cU P cfg k)) fid rid (fQ ops d) false) (cU P cfg k fid rest) (cfg.own fid) t d (x::p) s=some (E,y))∧FinS E U G n n0 it W E y∧y.c≤C)
   (fun x K K' C C' hKK hCC h p hpp=>by
    obtain ⟨y,hy,hf,hc⟩:=h p hpp
    exact ⟨y,fun k hk=>hy k (by omega),hf,by omega⟩) l each
  refine ⟨K,C,fun p hpp=>?_⟩
  cases p with
  | nil=>
   have:=hpp.length_eq
   simp at this;omega
  | cons x p=>
   have hx:x∈l:=hpp.subset (List.mem_cons_self ..)
   exact gL x hx p ((hpp.trans (List.perm_cons_erase hx)).cons_inv)
theorem aDQ (f:List Nat→Option (Ex×St)) (l:List Nat) (e:Ex) (s:St) (t:Nat):
  ((∀ q:List Nat,q.isPerm l=true→∀ y,f q=some (e,y)→y.env.get t=s.env.get t)→(sQ f l e s).get t=s.env.get t)∧
  ((sQ f l e s).get t=s.env.get t∧(∀ q:List Nat,q.isPerm l=true→∀ y,f q=some (e,y)→y.env.get t=s.env.get t)∨(sQ f l e s).get t= .any):=by
 have main:∀ (E:nZ) (Pr:Nat→Prop) [DecidablePred Pr],nZ.get (E.filter fun p=>decide (Pr p.1)) t=if Pr t then E.get t else .any:=by
  intro E Pr _
  induction E with
  | nil=>simp[nZ.get]
  | cons p r ih=>
   obtain ⟨k,v⟩:=p
   rw[List.filter_cons]
   by_cases hk:k=t
   ·subst hk
    by_cases hP:Pr k
    ·simp[hP,nZ.get]
    ·simp only[hP,decide_false,Bool.false_eq_true,if_false] at ih ⊢
     exact ih
   ·by_cases hP:Pr k
    ·simp only[hP,decide_true,if_true,nZ.get]
     rw[qS hk];simpa using ih
    ·simp only[hP,decide_false,Bool.false_eq_true,if_false,nZ.get]
     rw[qS hk];simpa using ih
 have h:=@main s.env (fun k=>∀ q:List Nat,q.isPerm l=true→∀ y,f q=some (e,y)→y.env.get k=s.env.get k) (fun _=>Classical.propDecidable _)
 have h':(sQ f l e s).get t=@ite _ (∀ q:List Nat,q.isPerm l=true→∀ y,f q=some (e,y)→y.env.get t=s.env.get t) (Classical.propDecidable _) (s.env.get t) .any:=h
 refine ⟨fun hh=>?_,?_⟩
 ·rw[h',if_pos hh]
 ·by_cases hh:(∀ q:List Nat,q.isPerm l=true→∀ y,f q=some (e,y)→y.env.get t=s.env.get t)
  ·exact .inl ⟨by rw[h',if_pos hh],hh⟩
  ·exact .inr (by rw[h',if_neg hh])
theorem WP.mapLoop [Gl] (hn:mN b=some (rid,ops,t,d,rest)) (Inv:List Nat→St→Prop) (E:Ex) (U:Nat→V) (G:Nat→Option Ob) (W:Nat→Prop) (hE:E≠ .normal) {s:St} {I:Itr} (hIt:aAQ s t=some I)
  (hn0:s.n0≤s.n) (cY:s.n0≤I.id) (hU:E≠ .ret→U=s.env.get)
  (wN:∀ l u,Inv l u→∃ I,aAQ u t=some I∧(fE I).Perm l∧
   (l=[]→WP P cfg fid (.region rid (fQ ops d) false) (u.put (some d) aJM) (aKQ P cfg fid rest (FinS E U G s.n s.n0 it W)))∧
   (∀ x,x∈l→∃ q,aDm I x=some q∧WP P cfg fid (.region rid (fQ ops d) false) (u.put (some d) q) (aKQ P cfg fid rest fun e v=>(e= .normal∧Inv (l.erase x) (cut cfg fid u v))∨FinS E U G s.n s.n0 it W e v)))
  (hit:I.id=it) (h0:Inv (fE I) s) {Q:Ex→St→Prop}
  (hQ:∀ env hp c wl,(E≠ .ret→env=s.env)→(∀ t,U t≠ .any→env.get t=U t)→(∀ id,hp.get id=if id=it then none else if id<s.n then G id else none)→(∀ i,i∈wl↔W i)→Q E ⟨env,hp,s.n,c,s.n0,wl⟩):WP P cfg fid (.loop b) s Q:=by
 obtain ⟨K,C,gL⟩:=aJc Inv hE wN (fE I).length (fE I) s rfl h0
 obtain ⟨Y,hY⟩:=Classical.axiomOfChoice (fun p:{ p:List Nat // p.Perm (fE I) }=>gL p.1 p.2)
 obtain ⟨y0,rI⟩:∃ y0,y0=Y ⟨fE I,List.Perm.refl _⟩:=⟨_,rfl⟩
 have h1:=hY ⟨fE I,List.Perm.refl _⟩
 rw[←rI] at h1
 obtain ⟨h1,hf,hc⟩:=h1
 let F:Nat→List Nat→Option (Ex×St):=fun k p=>jE (dN P cfg (fJ P cfg (cU P cfg k)) fid rid (fQ ops d) false) (cU P cfg k fid rest) (cfg.own fid) t d p s
 have hFk:∀ k,K≤k→∀ p (h:p.Perm (fE I)),F k p=some (E,Y ⟨p,h⟩):=fun k hk p h=>(hY ⟨p,h⟩).1 k hk
 -- the slots that are the same in all orders do not depend on the nA
 have d8:∀ k,K≤k→sQ (F k) (fE I) E y0=sQ (F K) (fE I) E y0:=by
  intro k hk
  unfold sQ
  congr 1
  funext p
  have:(∀ q:List Nat,q.isPerm (fE I)=true→∀ y,F k q=some (E,y)→y.env.get p.1=y0.env.get p.1)=(∀ q:List Nat,q.isPerm (fE I)=true→∀ y,F K q=some (E,y)→y.env.get p.1=y0.env.get p.1):=by
   refine propext ⟨fun h q hq y hy=>?_,fun h q hq y hy=>?_⟩
   ·have gQ:=List.isPerm_iff.1 hq
    exact h q hq y ((hFk k hk q gQ).trans ((hFk K (Nat.le_refl _) q gQ).symm.trans hy))
   ·have gQ:=List.isPerm_iff.1 hq
    exact h q hq y ((hFk K (Nat.le_refl _) q gQ).trans ((hFk k hk q gQ).symm.trans hy))
  exact congrArg (fun P=>@decide P (Classical.propDecidable P)) this
 have hst:∀ k,K≤k→∀ C',jI s I.id (F k) (fE I) E y0 C'=jI s I.id (F K) (fE I) E y0 C':=by
  intro k hk C'
  unfold jI
  rw[d8 k hk]
 have aOA:∀ C' id,(jI s I.id (F K) (fE I) E y0 C').hp.get id=if id=it then none else if id<s.n then G id else none:=by
  intro C' id
  show (Hp.drop I.id (Hp.trunc s.n y0.hp)).get id=_
  rw[aCu,gD,hit]
  by_cases h1:id=it
  ·rw[if_pos h1,if_pos h1]
  ·rw[if_neg h1,if_neg h1]
   by_cases h2:id<s.n
   ·rw[if_pos h2,if_pos h2];exact hf.hp id h2 h1
   ·rw[if_neg h2,if_neg h2]
 have hle:∀ p (h:p.Perm (fE I)),LeSt (Y ⟨p,h⟩) (jI s I.id (F K) (fE I) E y0 C):=by
  intro p hpp
  obtain ⟨nC,hf2,hc2⟩:=hY ⟨p,hpp⟩
  refine ⟨fun τ=>?_,fun id hi=>?_,fun id o ho=>?_,fun id hi=>?_,?_,?_,hc2,fun i hi=>(hf.wl i).2 ((hf2.wl i).1 hi)⟩
  ·by_cases hr:E= .ret
   ·have:(jI s I.id (F K) (fE I) E y0 C).env=sQ (F K) (fE I) E y0:=by unfold jI;rw[hr]
    rw[this]
    rcases (aDQ (F K) (fE I) E y0 τ).2 with ⟨h3,h4⟩|h3
    ·exact .inl (h3.trans (h4 p (List.isPerm_iff.2 hpp) _ (hFk K (Nat.le_refl _) p hpp)).symm)
    ·exact .inr h3
   ·have:(jI s I.id (F K) (fE I) E y0 C).env=s.env:=by unfold jI;cases E <;> simp_all
    rw[this]
    have:=hf2.env τ
    rw[hU hr] at this
    rcases this with h|h
    ·exact .inr h
    ·exact .inl h.symm
  ·have hn:(Y ⟨p,hpp⟩).n0=s.n0:=hf2.n0
   rw[hn] at hi
   rw[aOA,if_neg (by omega),if_pos (by omega)]
   exact (hf2.hp id (by omega) (by omega)).symm
  ·rw[aOA] at ho
   split at ho
   ·cases ho
   ·split at ho
    ·rw[←ho];exact hf2.hp id (by omega) (by omega)
    ·cases ho
  ·have wK:s.n≤id:=hi
   rw[aOA]
   split
   ·rfl
   ·rw[if_neg (by omega)]
  ·show y0.n0≤s.n
   rw[hf.n0];exact hn0
  ·show _=y0.n0
   rw[hf2.n0,hf.n0]
 have rQ:∃ C,aAO (F K) (fE I) E (jI s I.id (F K) (fE I) E y0 C):=⟨C,fun p hp=>⟨_,hFk K (Nat.le_refl _) p (List.isPerm_iff.1 hp),hle p (List.isPerm_iff.1 hp)⟩⟩
 have hbk:∀ k,K≤k→(fun C'=>aAO (F k) (fE I) E (jI s I.id (F k) (fE I) E y0 C'))=fun C'=>aAO (F K) (fE I) E (jI s I.id (F K) (fE I) E y0 C'):=by
  intro k hk
  funext C'
  rw[hst k hk]
  refine propext ⟨fun h p hp=>?_,fun h p hp=>?_⟩
  ·have bD:=List.isPerm_iff.1 hp
   obtain ⟨y,hy,hl⟩:=h p hp
   exact ⟨y,(hFk K (Nat.le_refl _) p bD).trans ((hFk k hk p bD).symm.trans hy),hl⟩
  ·have bD:=List.isPerm_iff.1 hp
   obtain ⟨y,hy,hl⟩:=h p hp
   exact ⟨y,(hFk k hk p bD).trans ((hFk K (Nat.le_refl _) p bD).symm.trans hy),hl⟩
 refine ⟨E,jI s I.id (F K) (fE I) E y0 (aAe rQ),⟨K+1,fun k hk=>?_⟩,?_⟩
 ·obtain ⟨k,rfl⟩:∃ j,k=j+1:=⟨k - 1,by omega⟩
  have hk':K≤k:=by omega
  have h1k:F k (fE I)=some (E,y0):=h1 k hk'
  simp only[cU,hn,hIt]
  show aDh s I.id (F k) (fE I)=_
  unfold aDh
  simp only[h1k]
  have gen:∀ (Pr:Nat→Prop) (h:∃ C,Pr C) (R:Nat→Prop) (hR:∃ C,R C) (f g:Nat→St),Pr=R→f=g→@dite (Option (Ex×St)) (∃ C,Pr C) (Classical.propDecidable _) (fun h=>some (E,f (aAe h))) (fun _=>none)=some (E,g (aAe hR)):=by
   intro Pr h R hR f g e e2
   subst e;subst e2
   rw[dif_pos h]
  refine gen _ ?_ _ rQ _ _ (hbk k hk') (funext fun C'=>hst k hk' C')
  rw[show (∃ C,aAO (F k) (fE I) E (jI s I.id (F k) (fE I) E y0 C))=∃ C,aAO (F K) (fE I) E (jI s I.id (F K) (fE I) E y0 C) from congrArg _ (hbk k hk')]
  exact rQ
 ·have hx:jI s I.id (F K) (fE I) E y0 (aAe rQ)=⟨(jI s I.id (F K) (fE I) E y0 (aAe rQ)).env,(jI s I.id (F K) (fE I) E y0 (aAe rQ)).hp,s.n,aAe rQ,s.n0,y0.wl⟩:=by
   show (⟨_,_,_,_,y0.n0,_⟩:St)=_
   rw[hf.n0];rfl
  rw[hx]
  refine hQ _ _ _ _ (fun hr=>?_) (fun τ hτ=>?_) (fun id=>aOA _ id) hf.wl
  ·unfold jI;cases E <;> simp_all
  ·by_cases hr:E= .ret
   ·have he:∀ C',(jI s I.id (F K) (fE I) E y0 C').env=sQ (F K) (fE I) E y0:=fun C'=>by unfold jI;rw[hr]
    rw[he]
    have rI:y0.env.get τ=U τ:=(hf.env τ).resolve_left hτ
    rw[←rI]
    refine (aDQ (F K) (fE I) E y0 τ).1 fun q hq y hy=>?_
    have gQ:=List.isPerm_iff.1 hq
    have:=hFk K (Nat.le_refl _) q gQ
    rw[hy] at this
    simp only[Option.some.injEq,Prod.mk.injEq,true_and] at this
    rw[this,rI]
    exact ((hY ⟨q,gQ⟩).2.1.env τ).resolve_left hτ
   ·have he:∀ C',(jI s I.id (F K) (fE I) E y0 C').env=s.env:=fun C'=>by unfold jI;cases E <;> simp_all
    rw[he,hU hr]
end
end Go.Ac
end
