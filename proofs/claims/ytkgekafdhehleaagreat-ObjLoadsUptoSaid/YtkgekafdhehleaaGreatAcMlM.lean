/- The abstract machine: walking through a loop over a map, in any order. No conditions. -/
import Derived.Test.YtkgekafdhehleaaGreatObQaM
set_option linter.unusedVariables false
set_option linter.unusedSimpArgs false
section
set_option maxRecDepth 4000
namespace Go.Ac
open Go.Proofs
mutual
def Trn.ok (o:Oc):Trn→Prop
 | .mk c ms sb=>c∈o.cl∧tyM o.en c ms∧rS o sb c.ins
def rS (o:Oc):List Trn→List Ii→Prop
 | [],is=>is=[]
 | t::ts,[]=>False
 | t::ts,i::is=>dC o.cl i.cl=(t.c,true)∧t.ok o∧rS o ts is
end
structure CWf (o:Oc) (c:Cl):Prop where
 nd:c.names.Nodup
 set:∀ x,kN c x≠0→dF c x=kN c x
 pos:∀ x,dF c x≠0→0<fG o.en (dF c x)
 inn:∀ d,d∈c.inn→dF c d.nm=d.t∧d.t≠0
 out:∀ d,d∈c.out→dF c d.nm=d.t∧d.t≠0
 mem:∀ m,m∈c.mems→eO c.mems m.nm=m.t∧m.t≠0∧gB o.en m.t m.ini=true
 step:wtL o c c.step
def aAf (en:List En) (l:List Dc) (vs:List Int):Prop:=vs.length=l.length∧∀ (i:Nat) (d:Dc) (v:Int),l[i]?=some d→vs[i]?=some v→gB en d.t v=true
def Fok (o:Oc) (n:Nat) (F:Trn→List Int→Trn×List Int):Prop:=∀ t ins,t.ht≤n→t.ok o→aAf o.en t.c.inn ins→(F t ins).1.ok o∧(F t ins).1.c=t.c∧(F t ins).1.ht=t.ht∧aAf o.en t.c.out (F t ins).2
structure Es.ok (o:Oc) (c:Cl) (n:Nat) (s:Es):Prop where
 v:tyV o.en c s.vs
 m:tyM o.en c s.ms
 b:rS o s.sb c.ins
 h:htL s.sb=n
theorem lM:∀ {l:List Trn} {t:Trn},t∈l→t.ht≤htL l
 | x::r,t,h=>by
  rw[htL]
  rcases List.mem_cons.1 h with rfl|h
  ·omega
  ·have:=lM h;omega
theorem aFO:∀ (l:List Trn) (i:Nat) (t u:Trn),l[i]?=some t→u.ht=t.ht→htL (l.set i u)=htL l
 | [],i,t,u,h,_=>by simp at h
 | x::r,0,t,u,h,e=>by simp at h;subst h;rw[List.set_cons_zero,htL,htL,e]
 | x::r,i+1,t,u,h,e=>by rw[List.set_cons_succ,htL,htL,aFO r i t u (by simpa using h) e]
theorem uZ (o:Oc):∀ (l:List Trn) (is:List Ii) (i:Nat) (t:Trn),rS o l is→l[i]?=some t→∃ d,is[i]?=some d∧dC o.cl d.cl=(t.c,true)∧t.ok o
 | [],is,i,t,h,e=>by simp at e
 | x::r,[],i,t,h,e=>by rw[rS] at h;exact h.elim
 | x::r,d::is,0,t,h,e=>by rw[rS] at h;simp at e;subst e;exact ⟨d,rfl,h.1,h.2.1⟩
 | x::r,d::is,i+1,t,h,e=>by rw[rS] at h;simpa using uZ o r is i t h.2.2 (by simpa using e)
theorem aCF (o:Oc):∀ (l:List Trn) (is:List Ii),rS o l is→l.length=is.length
 | [],is,h=>by rw[rS] at h;subst h;rfl
 | x::r,[],h=>by rw[rS] at h;exact h.elim
 | x::r,d::is,h=>by rw[rS] at h;simp[aCF o r is h.2.2]
theorem aGj (o:Oc):∀ (l:List Trn) (is:List Ii) (i:Nat) (t u:Trn),rS o l is→l[i]?=some t→u.c=t.c→u.ok o→rS o (l.set i u) is
 | [],is,i,t,u,h,e,_,_=>by simp at e
 | x::r,[],i,t,u,h,e,_,_=>by rw[rS] at h;exact h.elim
 | x::r,d::is,0,t,u,h,e,hc,hu=>by rw[rS] at h;simp at e;subst e;rw[List.set_cons_zero,rS,hc];exact ⟨h.1,hu,h.2.2⟩
 | x::r,d::is,i+1,t,u,h,e,hc,hu=>by rw[rS] at h;rw[List.set_cons_succ,rS];exact ⟨h.1,h.2.1,aGj o r is i t u h.2.2 (by simpa using e) hc hu⟩
theorem Trn.ok_eq (o:Oc) (t:Trn):t.ok o↔t.c∈o.cl∧tyM o.en t.c t.ms∧rS o t.sb t.c.ins:=by cases t;rw[Trn.ok];rfl
theorem yC {o:Oc} {c:Cl} {sb:List Trn} {nm:Tx} (hb:rS o sb c.ins) (h:(fD c.ins o.cl nm).2=true):∃ t,sb[mU c nm]?=some t∧t.ok o∧t.c=(fD c.ins o.cl nm).1:=by
 unfold fD at h ⊢
 cases hf:c.ins.find? (fun d=>decide (d.nm=nm)) with
 | none=>rw[hf] at h;cases h
 | some d=>
  rw[hf] at h
  simp only at h ⊢
  have hi:c.ins[mU c nm]?=some d:=by
   unfold mU
   rw[←List.find?_eq_getElem?_findIdx];exact hf
  have eU:=(List.getElem?_eq_some_iff.1 hi).1
  have hl:=aCF o sb c.ins hb
  obtain ⟨t,ht⟩:∃ t,sb[mU c nm]?=some t:=⟨sb[mU c nm],List.getElem?_eq_getElem (by omega)⟩
  obtain ⟨d',hd,h1,h2⟩:=uZ o _ _ _ _ hb ht
  rw[hi] at hd
  simp only[Option.some.injEq] at hd
  subst hd
  exact ⟨t,ht,h2,by rw[h1]⟩
theorem aKX {l:List (Tx×Int)} {x:Tx} {v:Int} (h:x∈l.map Prod.fst):(jY l x v).map Prod.fst=l.map Prod.fst:=by
 unfold jY
 cases hf:List.findIdx? (fun p=>decide (p.1=x)) l with
 | none=>
  exfalso
  rw[List.findIdx?_eq_none_iff] at hf
  obtain ⟨p,hp,rfl⟩:=List.mem_map.1 h
  have:=hf p hp
  simp at this
 | some i=>
  obtain ⟨hi,hx⟩:=rJ hf
  rw[List.map_set]
  apply List.ext_getElem
  ·simp
  ·intro j h1 h2
   simp only[List.getElem_set,List.getElem_map]
   split
   ·rename_i e;subst e;exact hx.symm
   ·rfl
theorem wU {l:List Mm} {x:Tx} (h:eO l x≠0):∃ m,m∈l∧m.nm=x∧eO l x=m.t:=by
 unfold eO at h ⊢
 cases hf:l.find? (fun d=>decide (d.nm=x)) with
 | none=>rw[hf] at h;exact absurd rfl h
 | some m=>exact ⟨m,List.mem_of_find?_eq_some hf,by simpa using List.find?_some hf,rfl⟩
theorem tyM.put {en:List En} {c:Cl} {ms:List (Tx×Int)} (h:tyM en c ms) {x:Tx} {v:Int} (hx:eO c.mems x≠0) (hv:gB en (eO c.mems x) v=true):tyM en c (jY ms x v):=by
 obtain ⟨m,hm,rfl,_⟩:=wU hx
 refine ⟨(aKX (by rw[h.1];exact List.mem_map.2 ⟨m,hm,rfl⟩)).trans h.1,fun y hy=>?_⟩
 rw[aLS]
 split
 ·rename_i e;rw[e];exact hv
 ·exact h.2 y hy
theorem tyV.put {en:List En} {c:Cl} {vs:List (Tx×Int)} (h:tyV en c vs) {x:Tx} {v:Int} (hv:dF c x≠0→gB en (dF c x) v=true):tyV en c (jY vs x v):=by
 intro y hy
 rw[aLS]
 split
 ·rename_i e;subst e;exact hv hy
 ·exact h y hy
theorem tyV.puts {en:List En} {c:Cl}:∀ (ds vs:List (Tx×Int)),tyV en c vs→(∀ p,p∈ds→dF c p.1≠0→gB en (dF c p.1) p.2=true)→tyV en c (Go.Ac.puts vs ds)
 | [],vs,h,_=>h
 | p::r,vs,h,hp=>tyV.puts r _ (h.put (hp p (List.mem_cons_self ..))) fun q hq=>hp q (List.mem_cons_of_mem _ hq)
theorem tyM.puts {en:List En} {c:Cl}:∀ (ds ms:List (Tx×Int)),tyM en c ms→(∀ p,p∈ds→eO c.mems p.1≠0∧gB en (eO c.mems p.1) p.2=true)→tyM en c (Go.Ac.puts ms ds)
 | [],ms,h,_=>h
 | p::r,ms,h,hp=>tyM.puts r _ (h.put (hp p (List.mem_cons_self ..)).1 (hp p (List.mem_cons_self ..)).2) fun q hq=>hp q (List.mem_cons_of_mem _ hq)
theorem tyV.nil {o:Oc} {c:Cl} (hc:CWf o c):tyV o.en c []:=by
 intro x hx
 have:=hc.pos x hx
 show gB o.en (dF c x) 0=true
 unfold gB
 split
 ·simp[inW]
 ·simp;exact this
section
variable {o:Oc} (hw:∀ c,c∈o.cl→CWf o c)
include hw
mutual
theorem aGu:∀ t:Trn,t.ok o→t.init.ok o∧t.init.c=t.c∧t.init.ht=t.ht
 | .mk c ms sb,h=>by
  rw[Trn.ok] at h
  obtain ⟨hc,hm,hs⟩:=h
  obtain ⟨h1,h2⟩:=aGM sb c.ins hs
  rw[Trn.init,Trn.ok]
  refine ⟨⟨hc,hm.puts _ _ fun p hp=>?_,h1⟩,rfl,by rw[Trn.ht,Trn.ht,h2]⟩
  obtain ⟨m,hmm,rfl⟩:=List.mem_map.1 hp
  obtain ⟨g1,g2,g3⟩:=(hw c hc).mem m hmm
  exact ⟨by rw[g1];exact g2,by rw[g1];exact g3⟩
theorem aGM:∀ (l:List Trn) (is:List Ii),rS o l is→rS o (hJ l) is∧htL (hJ l)=htL l
 | [],is,h=>by have _:=hw;rw[hJ];exact ⟨h,rfl⟩
 | t::r,[],h=>by rw[rS] at h;exact h.elim
 | t::r,i::is,h=>by
  rw[rS] at h
  obtain ⟨h1,h2,h3⟩:=aGu t h.2.1
  obtain ⟨g1,g2⟩:=aGM r is h.2.2
  rw[hJ,rS,htL,htL,h2,h3,g2]
  exact ⟨⟨h.1,h1,g1⟩,rfl⟩
end
theorem aCG {c:Cl} {vs ms:List (Tx×Int)} (hV:tyV o.en c vs) (hM:tyM o.en c ms) (cx:List Pr) (bf:List Y):∀ (l:List X) (ds:List Dc),mN ⟨o,c,bf,cx⟩ l ds=0→l.length=ds.length→aAf o.en ds (evL vs ms l)
 | [],ds,h,hl=>by have _:=hw;rw[evL];refine ⟨by simpa using hl,fun i d v _ h=>by simp at h⟩
 | x::r,[],h,hl=>by simp at hl
 | x::r,d::ds,h,hl=>by
  rw[mN] at h
  split at h
  ·rename_i hn;exact absurd h hn
  rename_i hn
  have ha:tZ ⟨o,c,bf,cx⟩ x d=0:=Decidable.not_not.1 hn
  unfold tZ at ha
  split at ha
  ·rename_i h1;exact absurd ha h1
  rename_i h1
  split at ha
  ·simp at ha
  rename_i h2
  have hx:=(aJh (Decidable.not_not.1 h1)).ty hV hM
  rw[Decidable.not_not.1 h2] at hx
  obtain ⟨g1,g2⟩:=aCG hV hM cx bf r ds h (by simpa using hl)
  rw[evL]
  refine ⟨by simp[g1],fun i d' v hd hv=>?_⟩
  cases i with
  | zero=>simp at hd hv;subst hd;subst hv;exact hx
  | succ i=>exact g2 i d' v (by simpa using hd) (by simpa using hv)
theorem aEB {c:Cl} (hc:CWf o c) {cx:List Pr} {bf:List Y} {nm:Tx} {t:Int} (h:jJ ⟨o,c,bf,cx⟩ nm t=0):kN c nm≠0∧dF c nm=t:=by
 have _:=hw
 unfold jJ at h
 split at h
 ·simp at h
 rename_i h1
 split at h
 ·simp at h
 split at h
 ·simp at h
 rename_i h2
 exact ⟨h1,(hc.set nm h1).trans (Decidable.not_not.1 h2)⟩
theorem aKe {c:Cl} (hc:CWf o c) {cx:List Pr} {bf:List Y} {en:List En}:∀ (l pre:List Tx) (ds:List Dc) (vs:List Int),s9 ⟨o,c,bf,cx⟩ pre l ds=0→l.length=ds.length→aAf en ds vs→∀ p,p∈l.zip vs→dF c p.1≠0→gB en (dF c p.1) p.2=true
 | [],pre,ds,vs,h,hl,hi,p,hp,_=>by simp at hp
 | x::r,pre,[],vs,h,hl,hi,p,hp,_=>by simp at hl
 | x::r,pre,d::ds,[],h,hl,hi,p,hp,_=>by simp at hp
 | x::r,pre,d::ds,v::vs,h,hl,hi,p,hp,hne=>by
  rw[s9] at h
  split at h
  ·rename_i hn;exact absurd h hn
  rename_i hn
  have ha:aBA ⟨o,c,bf,cx⟩ pre x d=0:=Decidable.not_not.1 hn
  unfold aBA at ha
  split at ha
  ·simp at ha
  split at ha
  ·simp at ha
  have ht:=(aEB hw hc ha).2
  rw[List.zip_cons_cons] at hp
  rcases List.mem_cons.1 hp with rfl|hp
  ·rw[ht];exact hi.2 0 d v rfl rfl
  ·refine aKe hc r _ ds vs h (by simpa using hl) ⟨by have:=hi.1;simpa using this,fun i d' v' h1 h2=>hi.2 (i+1) d' v' (by simpa using h1) (by simpa using h2)⟩ p hp hne
theorem wtY.cases {c:Cl} (hc:CWf o c) {y:Y} (h:wtY o c y):
  (y.k=1∧∃ t,wtX o c y.r t∧kN c y.nm≠0∧dF c y.nm=t)∨(y.k=2∧wtX o c y.r (eO c.mems y.nm)∧eO c.mems y.nm≠0)∨
  (y.k=3∧dF c y.nm≠0∧dF c y.nm≠2∧(y.brs.length:Int)=fG o.en (dF c y.nm)∧∀ b,b∈y.brs→wtL o c b)∨
  (y.k=4∧(fD c.ins o.cl y.nm).2=true∧y.args.length=(fD c.ins o.cl y.nm).1.inn.length∧y.outs.length=(fD c.ins o.cl y.nm).1.out.length∧∃ cx bf,mN ⟨o,c,bf,cx⟩ y.args (fD c.ins o.cl y.nm).1.inn=0∧s9 ⟨o,c,bf,cx⟩ [] y.outs (fD c.ins o.cl y.nm).1.out=0)∨
  (y.k=5∧(fD c.ins o.cl y.nm).2=true):=by
 obtain ⟨cx,bf,h⟩:=h
 rw[aAJ] at h
 split at h
 ·simp at h
 rename_i hf
 split at h
 ·rename_i k1
  split at h
  ·rename_i h1;exact absurd h h1
  rename_i h1
  have:=aEB hw hc h
  exact .inl ⟨k1,_,aJh (Decidable.not_not.1 h1),this.1,this.2⟩
 split at h
 ·rename_i _ k2
  split at h
  ·rename_i h1;exact absurd h h1
  rename_i h1
  split at h
  ·simp at h
  rename_i h2
  split at h
  ·simp at h
  rename_i h3
  refine .inr (.inl ⟨k2,?_,h2⟩)
  rw[Decidable.not_not.1 h3]
  exact aJh (Decidable.not_not.1 h1)
 split at h
 ·rename_i _ _ k3
  split at h
  ·simp at h
  rename_i h1
  split at h
  ·simp at h
  split at h
  ·simp at h
  rename_i h2
  split at h
  ·simp at h
  rename_i h3
  exact .inr (.inr (.inl ⟨k3,h1,fun e=>h2 (.inr e),Decidable.not_not.1 h3,aLZ o c cx bf y.nm y.brs 0 h⟩))
 split at h
 ·rename_i _ _ _ k4
  unfold aDY at h
  split at h
  ·simp at h
  rename_i h1
  split at h
  ·simp at h
  rename_i h2
  split at h
  ·rename_i h3;exact absurd h h3
  rename_i h3
  exact .inr (.inr (.inr (.inl ⟨k4,by simpa using h1,Decidable.not_not.1 fun e=>h2 (.inl e),Decidable.not_not.1 fun e=>h2 (.inr e),cx,bf,Decidable.not_not.1 h3,h⟩)))
 rename_i k1 k2 k3 k4
 split at h
 ·simp at h
 rename_i h1
 refine .inr (.inr (.inr (.inr ⟨?_,by simpa using h1⟩)))
 unfold aU at hf
 rw[if_neg (by rintro (h|h);exact k1 h;exact k2 h),if_neg k3,if_neg k4] at hf
 split at hf
 ·assumption
 ·simp at hf
theorem aNo {c:Cl} (hc:CWf o c) {n:Nat} {F:Trn→List Int→Trn×List Int} (hF:Fok o n F):∀ (N:Nat) (l:List Y),iG l<N→wtL o c l→∀ s:Es,s.ok o c n→(vN c F l s).ok o c n:=by
 intro N
 induction N with
 | zero=>intro l h;omega
 | succ N ih=>
 intro l
 cases l with
 | nil=>intro _ _ s hs;rw[vN];exact hs
 | cons y r=>
 intro hN hl s hs
 rw[iG] at hN
 have hy:=hl y (List.mem_cons_self ..)
 have hs0:=Y.sz_eq y
 rw[vN]
 refine ih r (by omega) (fun z hz=>hl z (List.mem_cons_of_mem _ hz)) _ ?_
 rw[aEd]
 rcases hy.cases hw hc with ⟨k,t,h1,h2,h3⟩|⟨k,h1,h2⟩|⟨k,h1,h2,h3,h4⟩|⟨k,h1,h2,h3,cx,bf,h4,h5⟩|⟨k,h1⟩
 ·rw[if_pos k]
  exact ⟨hs.v.put fun _=>by rw[h3];exact h1.ty hs.v hs.m,hs.m,hs.b,hs.h⟩
 ·rw[if_neg (by omega),if_pos k]
  exact ⟨hs.v,hs.m.put h2 (h1.ty hs.v hs.m),hs.b,hs.h⟩
 ·rw[if_neg (by omega),if_neg (by omega),if_pos k]
  have hv:=hs.v y.nm h1
  unfold gB at hv
  rw[if_neg h2] at hv
  simp at hv
  have eU:(gz s.vs y.nm).toNat<y.brs.length:=by omega
  rw[aBf c F s y.brs _ _ (List.getElem?_eq_getElem eU)]
  have hm:=List.getElem_mem eU
  exact ih _ (by have:=gR hm;omega) (h4 _ hm) s hs
 ·rw[if_neg (by omega),if_neg (by omega),if_neg (by omega),if_pos k]
  obtain ⟨t,ht,hto,htc⟩:=yC hs.b h1
  rw[ht]
  simp only
  rw[←htc] at h2 h3 h4 h5
  have hi:=aCG hw hs.v hs.m cx bf y.args t.c.inn h4 h2
  obtain ⟨g1,g2,g3,g4⟩:=hF t _ (by have:=lM (List.mem_of_getElem? ht);have:=hs.h;omega) hto hi
  exact ⟨hs.v.puts _ _ (aKe hw hc y.outs [] t.c.out _ h5 h3 g4),hs.m,aGj o _ _ _ _ _ hs.b ht g2 g1,(aFO _ _ _ _ ht g3).trans hs.h⟩
 ·rw[if_neg (by omega),if_neg (by omega),if_neg (by omega),if_neg (by omega)]
  obtain ⟨t,ht,hto,htc⟩:=yC hs.b h1
  rw[ht]
  obtain ⟨g1,g2,g3⟩:=aGu hw t hto
  exact ⟨hs.v,hs.m,aGj o _ _ _ _ _ hs.b ht g2 g1,(aFO _ _ _ _ ht g3).trans hs.h⟩
theorem zW {c:Cl} (hc:CWf o c) {ins:List Int} (hi:aAf o.en c.inn ins):tyV o.en c (puts [] ((c.inn.map Dc.nm).zip ins)):=by
 have _:=hw
 refine (tyV.nil hc).puts _ _ fun p hp _=>?_
 obtain ⟨i,hi1,rZ⟩:=List.getElem_of_mem hp
 simp only[List.length_zip,List.length_map] at hi1
 rw[List.getElem_zip] at rZ
 subst rZ
 simp only[List.getElem_map]
 have hd:=hc.inn c.inn[i] (List.getElem_mem (by omega))
 rw[hd.1]
 exact hi.2 i _ _ (List.getElem?_eq_getElem (by omega)) (List.getElem?_eq_getElem (by omega))
theorem tO:∀ n,Fok o n (fC n)
 | 0=>fun t ins h=>by cases t;rw[Trn.ht] at h;omega
 | n+1=>fun t ins h cC hi=>by
  obtain ⟨c,ms,sb⟩:=t
  rw[Trn.ht] at h
  rw[Trn.ok] at cC
  obtain ⟨hc,hm,hb⟩:=cC
  have hcw:=hw c hc
  have hF:Fok o (htL sb) (fC n):=fun t ins h1=>tO n t ins (by omega)
  have hs:=aNo hw hcw hF _ c.step (Nat.lt_succ_self _) hcw.step ⟨puts [] ((c.inn.map Dc.nm).zip ins),ms,sb⟩ ⟨zW hw hcw hi,hm,hb,rfl⟩
  rw[fC]
  simp only
  generalize vN c (fC n) c.step ⟨puts [] ((c.inn.map Dc.nm).zip ins),ms,sb⟩=s at hs ⊢
  refine ⟨by rw[Trn.ok];exact ⟨hc,hs.m,hs.b⟩,rfl,by rw[Trn.ht,Trn.ht,hs.h],by simp[Trn.c],fun i d v h1 h2=>?_⟩
  have yN:c.out[i]?=some d:=h1
  rw[List.getElem?_map,yN] at h2
  simp at h2
  subst h2
  have hd:=hcw.out d (List.mem_of_getElem? yN)
  have:=hs.v d.nm (by rw[hd.1];exact hd.2)
  rwa [hd.1] at this
end
end Go.Ac
end
section
set_option maxRecDepth 4000
namespace Go.Ac
open Go.Proofs
theorem aFw (o:Oc):∀ (l:List Cl) (i k:Nat) (c:Cl),aCq o i l=0→l[k]?=some c→m5 o (i+k) c=0
 | [],i,k,c,h,hk=>by simp at hk
 | x::r,i,k,c,h,hk=>by
  rw[aCq] at h
  split at h
  ·rename_i hn;exact absurd h hn
  rename_i hn
  cases k with
  | zero=>simp at hk;subst hk;exact Decidable.not_not.1 hn
  | succ k=>
   have:=aFw o r (i+1) k c h (by simpa using hk)
   rwa [show i+(k+1)=i+1+k by omega]
theorem qW {α:Type} (f:α→Tx):∀ (l:List α),(l.map f).Nodup→∀ d,d∈l→l.find? (fun e=>decide (f e=f d))=some d
 | [],_,d,h=>by cases h
 | x::r,hn,d,h=>by
  rw[List.map_cons,List.nodup_cons] at hn
  rw[List.find?_cons]
  by_cases hx:f x=f d
  ·rw[show decide (f x=f d)=true by simp[hx]]
   rcases List.mem_cons.1 h with rfl|h
   ·rfl
   ·exact absurd (List.mem_map.2 ⟨d,h,hx.symm⟩) hn.1
  ·rw[show decide (f x=f d)=false by simp[hx]]
   rcases List.mem_cons.1 h with rfl|h
   ·exact absurd rfl hx
   ·exact qW f r hn.2 d h
theorem aEQ {α:Type} {l:List α} {p:α→Bool} (h:¬ l.any p=true):∀ x,x∈l→p x=false:=fun x hx=>by
 cases hp:p x with
 | false=>rfl
 | true=>exact absurd (List.any_eq_true.2 ⟨x,hx,hp⟩) h
theorem aAU {o:Oc} (h:dH o=0):∀ c,c∈o.cl→CWf o c:=by
 unfold dH at h
 split at h
 ·simp at h
 split at h
 ·simp at h
 intro c hc
 obtain ⟨i,hi⟩:=List.mem_iff_getElem?.1 hc
 have hk:=aFw o o.cl 0 i c h hi
 rw[Nat.zero_add] at hk
 unfold m5 at hk
 split at hk
 ·rename_i hn;exact absurd hk hn
 rename_i hh
 split at hk
 ·rename_i hn;exact absurd hk hn
 rename_i hl
 clear hk
 have hh:=Decidable.not_not.1 hh
 unfold aAD at hh
 split at hh
 ·simp at hh
 split at hh
 ·rename_i hn;exact absurd hh hn
 rename_i e1
 split at hh
 ·rename_i hn;exact absurd hh hn
 rename_i e2
 split at hh
 ·rename_i hn;exact absurd hh hn
 rename_i e3
 split at hh
 ·simp at hh
 rename_i e4
 split at hh
 ·simp at hh
 rename_i e5
 have d1:=rB (Decidable.not_not.1 e1)
 have d2:=rB (Decidable.not_not.1 e2)
 have d3:=rB (Decidable.not_not.1 e3)
 have d4:=aEQ e4
 have mB:c.names.Nodup:=(aAT _ _ (by simpa using e5)).1
 have aRV:=mB
 unfold Cl.names at aRV
 rw[List.nodup_append,List.nodup_append,List.nodup_append,List.nodup_append] at aRV
 obtain ⟨⟨⟨⟨n1,n2,n12⟩,n3,n123⟩,n4,n1234⟩,n5,_⟩:=aRV
 have mem_of:∀ {l:List Dc} {x:Tx},fI l x≠0→x∈l.map Dc.nm:=fun {l x} hx=>by
  obtain ⟨d,hd,he,_⟩:=kC hx
  exact List.mem_map.2 ⟨d,hd,he⟩
 have aGC:∀ x,kN c x≠0→dF c x=kN c x:=by
  intro x hx
  unfold dF
  rw[if_pos]
  cases Decidable.em (fI c.inn x=0) with
  | inl h=>exact h
  | inr hne=>
   exfalso
   have m1:=mem_of hne
   unfold kN at hx
   split at hx
   ·exact n123 x (List.mem_append_left _ m1) x (mem_of hx) rfl
   ·rename_i h2;exact n12 x m1 x (mem_of h2) rfl
 have hfd:∀ {l:List Dc},(l.map Dc.nm).Nodup→∀ d,d∈l→fI l d.nm=d.t:=by
  intro l hn d hd
  unfold fI
  rw[qW Dc.nm l hn d hd]
 refine ⟨mB,aGC,fun x hx=>?_,fun d hd=>?_,fun d hd=>?_,fun m hm=>?_,aIF o c _ _ _ (Decidable.not_not.1 hl)⟩
 ·unfold dF at hx ⊢
  split at hx
  ·rename_i h1
   rw[if_pos h1]
   unfold kN at hx ⊢
   split at hx
   ·rename_i h2
    rw[if_pos h2]
    obtain ⟨d,hd,_,he⟩:=kC hx
    rw[he];exact d3 d hd
   ·rename_i h2
    rw[if_neg h2]
    obtain ⟨d,hd,_,he⟩:=kC h2
    rw[he];exact d2 d hd
  ·rename_i h1
   rw[if_neg h1]
   obtain ⟨d,hd,_,he⟩:=kC h1
   rw[he];exact d1 d hd
 ·have ht:=uR (d1 d hd)
  have hf:=hfd n1 d hd
  exact ⟨by unfold dF;rw[if_neg (by rw[hf];exact ht),hf],ht⟩
 ·have ht:=uR (d2 d hd)
  have hf:=hfd n2 d hd
  have hs:kN c d.nm=d.t:=by unfold kN;rw[if_neg (by rw[hf];exact ht),hf]
  exact ⟨(aGC d.nm (by rw[hs];exact ht)).trans hs,ht⟩
 ·have h4:=d4 m hm
  have h4':nZ o.en m=true:=by simpa using h4
  unfold nZ at h4'
  simp only[Bool.and_eq_true,decide_eq_true_eq] at h4'
  refine ⟨?_,uR h4'.1,h4'.2⟩
  unfold eO
  rw[qW Mm.nm c.mems n4 m hm]
end Go.Ac
end
section
set_option maxRecDepth 4000
namespace Go.Ac
open Go.Proofs
structure Pb where
 x:Nat
 gx:Nat
 im:Nat
 gm:Nat
 ii:Nat
 gi:Nat
inductive Pt where
 | mk (a:Pb) (ps:List Pt)
def Pt.a:Pt→Pb|.mk a _=>a
def Pt.ps:Pt→List Pt|.mk _ l=>l
def eP (p:Nat×Nat):V:= .ptr p.1 p.2 0
def gT (c:Cl) (ps:List Pt):List (Tx×(Nat×Nat)):=(c.ins.map Ii.nm).zip (ps.map fun p=>(p.a.x,p.a.gx))
mutual
def dE:Pt→List Nat
 | .mk a ps=>a.im::dY ps
def dY:List Pt→List Nat
 | []=>[]
 | p::r=>dE p++dY r
end
mutual
def lT:Pt→List Nat
 | .mk a ps=>a.x::a.ii::gE ps
def gE:List Pt→List Nat
 | []=>[]
 | p::r=>lT p++gE r
end
mutual
def oF:Trn→Pt→List (Nat×Ob)
 | .mk c ms sb,.mk a ps=>(a.im,⟨a.gm,false,[fW eI ms]⟩)::yK sb ps
def yK:List Trn→List Pt→List (Nat×Ob)
 | t::ts,p::ps=>oF t p++yK ts ps
 | [],_=>[]
 | _::_,[]=>[]
end
mutual
def yI (en:List En):Trn→Pt→List (Nat×Ob)
 | .mk c ms sb,.mk a ps=>(a.x,oO a.gx en c a.im a.gm a.ii a.gi)::(a.ii,⟨a.gi,false,[fW eP (gT c ps)]⟩)::stL en sb ps
def stL (en:List En):List Trn→List Pt→List (Nat×Ob)
 | t::ts,p::ps=>yI en t p++stL en ts ps
 | [],_=>[]
 | _::_,[]=>[]
end
mutual
def fit:Trn→Pt→Prop
 | .mk c ms sb,.mk a ps=>sb.length=c.ins.length∧eY sb ps
def eY:List Trn→List Pt→Prop
 | t::ts,p::ps=>fit t p∧eY ts ps
 | [],ps=>ps=[]
 | _::_,[]=>False
end
mutual
def Trn.bare:Trn→Trn
 | .mk c _ sb=> .mk c [] (e8 sb)
def e8:List Trn→List Trn
 | []=>[]
 | t::r=>t.bare::e8 r
end
theorem qK:∀ l:List Trn,e8 l=l.map Trn.bare
 | []=>by rw[e8];rfl
 | t::r=>by rw[e8,qK r];rfl
theorem oZ:∀ (l:List Trn) (ps:List Pt),eY l ps→l.length=ps.length
 | [],ps,h=>by rw[eY] at h;subst h;rfl
 | t::r,[],h=>by rw[eY] at h;exact h.elim
 | t::r,p::ps,h=>by rw[eY] at h;simp[oZ r ps h.2]
theorem qH:∀ (l:List Trn) (ps:List Pt) (i:Nat) (t:Trn) (p:Pt),eY l ps→l[i]?=some t→ps[i]?=some p→fit t p
 | [],ps,i,t,p,h,e,_=>by simp at e
 | t::r,[],i,u,p,h,_,e=>by simp at e
 | t::r,q::ps,0,u,p,h,e1,e2=>by rw[eY] at h;simp at e1 e2;subst e1;subst e2;exact h.1
 | t::r,q::ps,i+1,u,p,h,e1,e2=>by rw[eY] at h;exact qH r ps i u p h.2 (by simpa using e1) (by simpa using e2)
mutual
theorem wS (en:List En):∀ (t:Trn) (p:Pt),yI en t.bare p=yI en t p
 | .mk c ms sb,.mk a ps=>by rw[Trn.bare,yI,yI,aGI en sb ps]
theorem aGI (en:List En):∀ (l:List Trn) (ps:List Pt),stL en (e8 l) ps=stL en l ps
 | [],ps=>by rw[e8]
 | t::r,[]=>by rw[e8,stL,stL]
 | t::r,p::ps=>by rw[e8,stL,stL,wS en t p,aGI en r ps]
end
mutual
theorem dA:∀ (t:Trn) (p:Pt),fit t.bare p↔fit t p
 | .mk c ms sb,.mk a ps=>by
  rw[Trn.bare,fit,fit,xQ sb ps]
  rw[qK,List.length_map]
theorem xQ:∀ (l:List Trn) (ps:List Pt),eY (e8 l) ps↔eY l ps
 | [],ps=>by rw[e8]
 | t::r,[]=>by rw[e8,eY,eY]
 | t::r,p::ps=>by rw[e8,eY,eY,dA t p,xQ r ps]
end
mutual
theorem eB:∀ (t:Trn) (p:Pt),fit t p→(oF t p).map Prod.fst=dE p
 | .mk c ms sb,.mk a ps,h=>by
  rw[fit] at h
  rw[oF,dE,List.map_cons,lW sb ps h.2]
theorem lW:∀ (l:List Trn) (ps:List Pt),eY l ps→(yK l ps).map Prod.fst=dY ps
 | [],ps,h=>by rw[eY] at h;subst h;rw[yK,dY];rfl
 | t::r,[],h=>by rw[eY] at h;exact h.elim
 | t::r,p::ps,h=>by
  rw[eY] at h
  rw[yK,dY,List.map_append,eB t p h.1,lW r ps h.2]
end
mutual
theorem qZ (en:List En):∀ (t:Trn) (p:Pt),fit t p→(yI en t p).map Prod.fst=lT p
 | .mk c ms sb,.mk a ps,h=>by
  rw[fit] at h
  rw[yI,lT,List.map_cons,List.map_cons,aAq en sb ps h.2]
theorem aAq (en:List En):∀ (l:List Trn) (ps:List Pt),eY l ps→(stL en l ps).map Prod.fst=gE ps
 | [],ps,h=>by rw[eY] at h;subst h;rw[stL,gE];rfl
 | t::r,[],h=>by rw[eY] at h;exact h.elim
 | t::r,p::ps,h=>by
  rw[eY] at h
  rw[stL,gE,List.map_append,qZ en t p h.1,aAq en r ps h.2]
end
theorem jO:∀ (ps:List Pt) (i:Nat) (p:Pt),ps[i]?=some p→∀ k,k∈dE p→k∈dY ps
 | [],i,p,h,_,_=>by simp at h
 | q::r,0,p,h,k,hk=>by simp at h;subst h;rw[dY];exact List.mem_append_left _ hk
 | q::r,i+1,p,h,k,hk=>by rw[dY];exact List.mem_append_right _ (jO r i p (by simpa using h) k hk)
theorem aFR:∀ (ps:List Pt) (i:Nat) (p:Pt),ps[i]?=some p→∀ k,k∈lT p→k∈gE ps
 | [],i,p,h,_,_=>by simp at h
 | q::r,0,p,h,k,hk=>by simp at h;subst h;rw[gE];exact List.mem_append_left _ hk
 | q::r,i+1,p,h,k,hk=>by rw[gE];exact List.mem_append_right _ (aFR r i p (by simpa using h) k hk)
theorem aJO:∀ (ps:List Pt) (k:Nat),k∈dY ps→∃ (i:Nat) (p:Pt),ps[i]?=some p∧k∈dE p
 | [],k,h=>by rw[dY] at h;cases h
 | q::r,k,h=>by
  rw[dY] at h
  rcases List.mem_append.1 h with h|h
  ·exact ⟨0,q,rfl,h⟩
  ·obtain ⟨i,p,h1,h2⟩:=aJO r k h
   exact ⟨i+1,p,by simpa using h1,h2⟩
theorem aCP:∀ (ps:List Pt),(dY ps).Nodup→∀ (i j:Nat) (p q:Pt),ps[i]?=some p→ps[j]?=some q→i≠j→∀ k,k∈dE p→k∉dE q
 | [],_,i,j,p,q,h,_,_,_,_,_=>by simp at h
 | x::r,hn,i,j,p,q,hi,hj,hne,k,hk,yE=>by
  rw[dY,List.nodup_append] at hn
  obtain ⟨n1,n2,n3⟩:=hn
  cases i with
  | zero=>
   cases j with
   | zero=>exact hne rfl
   | succ j=>simp at hi hj;subst hi;exact n3 k hk k (jO r j q hj k yE) rfl
  | succ i=>
   cases j with
   | zero=>simp at hi hj;subst hj;exact n3 k yE k (jO r i p hi k hk) rfl
   | succ j=>exact aCP r n2 i j p q (by simpa using hi) (by simpa using hj) (by omega) k hk yE
theorem sS:∀ (l:List Trn) (ps:List Pt) (q:Nat×Ob),q∈yK l ps↔∃ (i:Nat) (t:Trn) (p:Pt),l[i]?=some t∧ps[i]?=some p∧q∈oF t p
 | [],ps,q=>by rw[yK];simp
 | t::r,[],q=>by rw[yK];simp
 | t::r,p::ps,q=>by
  rw[yK,List.mem_append,sS r ps q]
  constructor
  ·rintro (h|⟨i,u,v,h1,h2,h3⟩)
   ·exact ⟨0,t,p,rfl,rfl,h⟩
   ·exact ⟨i+1,u,v,by simpa using h1,by simpa using h2,h3⟩
  ·rintro ⟨i,u,v,h1,h2,h3⟩
   cases i with
   | zero=>simp at h1 h2;subst h1;subst h2;exact .inl h3
   | succ i=>exact .inr ⟨i,u,v,by simpa using h1,by simpa using h2,h3⟩
theorem aKj (en:List En):∀ (l:List Trn) (ps:List Pt) (q:Nat×Ob),q∈stL en l ps↔∃ (i:Nat) (t:Trn) (p:Pt),l[i]?=some t∧ps[i]?=some p∧q∈yI en t p
 | [],ps,q=>by rw[stL];simp
 | t::r,[],q=>by rw[stL];simp
 | t::r,p::ps,q=>by
  rw[stL,List.mem_append,aKj en r ps q]
  constructor
  ·rintro (h|⟨i,u,v,h1,h2,h3⟩)
   ·exact ⟨0,t,p,rfl,rfl,h⟩
   ·exact ⟨i+1,u,v,by simpa using h1,by simpa using h2,h3⟩
  ·rintro ⟨i,u,v,h1,h2,h3⟩
   cases i with
   | zero=>simp at h1 h2;subst h1;subst h2;exact .inl h3
   | succ i=>exact .inr ⟨i,u,v,by simpa using h1,by simpa using h2,h3⟩
def Pt.nd (p:Pt):Prop:=(lT p++dE p).Nodup
structure Lies (en:List En) (t:Trn) (p:Pt) (hp:Hp) (n:Nat):Prop where
 fit:fit t p
 nd:p.nd
 st:∀ q,q∈yI en t p→q.1<n∧hp.get q.1=some q.2
 me:∀ q,q∈oF t p→q.1<n∧hp.get q.1=some q.2
theorem Lies.mono {en:List En} {t:Trn} {p:Pt} {hp bB:Hp} {n n':Nat} (h:Lies en t p hp n) (ha:Ag n hp bB) (hn:n≤n'):Lies en t p bB n':=
 ⟨h.fit,h.nd,fun q hq=>⟨Nat.lt_of_lt_of_le (h.st q hq).1 hn,(ha _ (h.st q hq).1).trans (h.st q hq).2⟩,fun q hq=>⟨Nat.lt_of_lt_of_le (h.me q hq).1 hn,(ha _ (h.me q hq).1).trans (h.me q hq).2⟩⟩
theorem Lies.mids_lt {en:List En} {t:Trn} {p:Pt} {hp:Hp} {n:Nat} (h:Lies en t p hp n):∀ k,k∈dE p→k<n:=fun k hk=>by
 rw[←eB t p h.fit] at hk
 obtain ⟨q,hq,rfl⟩:=List.mem_map.1 hk
 exact (h.me q hq).1
theorem Lies.upd {en:List En} {t u:Trn} {p:Pt} {hp bB:Hp} {n:Nat} (h:Lies en t p hp n) (hb:u.bare=t.bare) (hf:∀ k,k<n→k∉dE p→bB.get k=hp.get k) (hm:∀ q,q∈oF u p→bB.get q.1=some q.2):Lies en u p bB n:=by
 have fA:Go.Ac.fit u p:=by rw[←dA,hb,dA];exact h.fit
 refine ⟨fA,h.nd,fun q hq=>?_,fun q hq=>?_⟩
 ·rw[←wS,hb,wS] at hq
  obtain ⟨h1,h2⟩:=h.st q hq
  refine ⟨h1,(hf _ h1 fun hk=>?_).trans h2⟩
  have hs:q.1∈lT p:=by rw[←qZ en t p h.fit];exact List.mem_map.2 ⟨q,hq,rfl⟩
  exact (List.nodup_append.1 h.nd).2.2 _ hs _ hk rfl
 ·refine ⟨h.mids_lt _ ?_,hm q hq⟩
  rw[←eB u p fA];exact List.mem_map.2 ⟨q,hq,rfl⟩
theorem aHD:∀ (ps:List Pt) (i:Nat) (p:Pt),(gE ps).Nodup→ps[i]?=some p→(lT p).Nodup
 | [],i,p,_,h=>by simp at h
 | q::r,0,p,hn,h=>by simp at h;subst h;rw[gE] at hn;exact (List.nodup_append.1 hn).1
 | q::r,i+1,p,hn,h=>by rw[gE] at hn;exact aHD r i p (List.nodup_append.1 hn).2.1 (by simpa using h)
theorem aHQ:∀ (ps:List Pt) (i:Nat) (p:Pt),(dY ps).Nodup→ps[i]?=some p→(dE p).Nodup
 | [],i,p,_,h=>by simp at h
 | q::r,0,p,hn,h=>by simp at h;subst h;rw[dY] at hn;exact (List.nodup_append.1 hn).1
 | q::r,i+1,p,hn,h=>by rw[dY] at hn;exact aHQ r i p (List.nodup_append.1 hn).2.1 (by simpa using h)
theorem Lies.sub {en:List En} {t:Trn} {p:Pt} {hp:Hp} {n:Nat} (h:Lies en t p hp n) {i:Nat} {u:Trn} (hu:t.sb[i]?=some u):∃ q,p.ps[i]?=some q∧Lies en u q hp n:=by
 obtain ⟨c,ms,sb⟩:=t
 obtain ⟨a,ps⟩:=p
 obtain ⟨fA,mB,hst,hme⟩:=h
 rw[Go.Ac.fit] at fA
 rw[yI] at hst
 rw[oF] at hme
 have hu':sb[i]?=some u:=hu
 have hl:=oZ sb ps fA.2
 have eU:=(List.getElem?_eq_some_iff.1 hu').1
 have hip:i<ps.length:=by rw[←hl];exact eU
 refine ⟨ps[i],List.getElem?_eq_getElem hip,?_⟩
 have hq:ps[i]?=some ps[i]:=List.getElem?_eq_getElem hip
 refine ⟨qH sb ps i u _ fA.2 hu' hq,?_,fun q g9=>hst q ?_,fun q g9=>hme q ?_⟩
 ·unfold Pt.nd at mB ⊢
  rw[lT,dE,List.nodup_append] at mB
  obtain ⟨n1,n2,n3⟩:=mB
  rw[List.nodup_cons,List.nodup_cons] at n1
  rw[List.nodup_cons] at n2
  rw[List.nodup_append]
  refine ⟨aHD ps i _ n1.2.2 hq,aHQ ps i _ n2.2 hq,fun x hx y hy=>n3 x ?_ y ?_⟩
  ·exact List.mem_cons_of_mem _ (List.mem_cons_of_mem _ (aFR ps i _ hq x hx))
  ·exact List.mem_cons_of_mem _ (jO ps i _ hq y hy)
 ·exact List.mem_cons_of_mem _ (List.mem_cons_of_mem _ ((aKj en sb ps q).2 ⟨i,u,_,hu',hq,g9⟩))
 ·exact List.mem_cons_of_mem _ ((sS sb ps q).2 ⟨i,u,_,hu',hq,g9⟩)
theorem aAt {l:List Trn} {i:Nat} {t u:Trn} (h:l[i]?=some t) (hb:u.bare=t.bare):e8 (l.set i u)=e8 l:=by
 rw[qK,qK,List.map_set]
 apply List.ext_getElem
 ·simp
 ·intro j h1 h2
  simp only[List.getElem_set,List.getElem_map]
  split
  ·rename_i e;subst e
   rw[hb]
   have:=(List.getElem?_eq_some_iff.1 h).2
   rw[this]
  ·rfl
mutual
theorem lE:∀ t:Trn,t.init.bare=t.bare
 | .mk c ms sb=>by rw[Trn.init,Trn.bare,Trn.bare,zH sb]
theorem zH:∀ l:List Trn,e8 (hJ l)=e8 l
 | []=>by rw[hJ]
 | t::r=>by rw[hJ,e8,e8,lE t,zH r]
end
theorem aBn:∀ l:List Trn,hJ l=l.map Trn.init
 | []=>by rw[hJ];rfl
 | t::r=>by rw[hJ,aBn r];rfl
theorem aCE {c:Cl} {F:Trn→List Int→Trn×List Int} (hF:∀ t ins,(F t ins).1.bare=t.bare):∀ (N:Nat) (l:List Y),iG l<N→∀ s:Es,e8 (vN c F l s).sb=e8 s.sb:=by
 intro N
 induction N with
 | zero=>intro l h;omega
 | succ N ih=>
 intro l
 cases l with
 | nil=>intro _ s;rw[vN]
 | cons y r=>
 intro hN s
 rw[iG] at hN
 have hs0:=Y.sz_eq y
 rw[vN,ih r (by omega),aEd]
 split
 ·rfl
 split
 ·rfl
 split
 ·cases hb:y.brs[(gz s.vs y.nm).toNat]? with
  | none=>rw[aFz _ _ _ _ _ (by simpa using hb)]
  | some b=>
   rw[aBf c F s y.brs _ b hb]
   have hm:=List.mem_of_getElem? hb
   exact ih b (by have:=gR hm;omega) s
 split
 ·split
  ·rename_i t ht;exact aAt ht (hF t _)
  ·rfl
 ·split
  ·rename_i t ht;exact aAt ht (lE t)
  ·rfl
theorem mD:∀ (n:Nat) (t:Trn) (ins:List Int),(fC n t ins).1.bare=t.bare
 | 0,t,ins=>by rw[fC]
 | n+1,.mk c ms sb,ins=>by
  rw[fC]
  simp only
  rw[Trn.bare,Trn.bare,aCE (mD n) _ c.step (Nat.lt_succ_self _)]
end Go.Ac
end
section
namespace Go.Ac
variable {P:Program} {cfg:Cfg} {fid:FuncId}
def aFu [Gl] (P:Program) (cfg:Cfg) (fid:FuncId) (rid:Nat) (ops:Array Oper) (d:Nat) (rest:Code) (s:St) (e:Ex) (u:St):Prop:=
 ∃ K,∀ k,K≤k→u5 (dR P cfg (fM P cfg (cZ P cfg k)) fid rid (fT ops d) false) (cZ P cfg k fid rest) s=some (e,u)
theorem aFu.of [Gl] {rid d:Nat} {ops:Array Oper} {rest:Code} {s:St} {Q:Ex→St→Prop} (h:WP P cfg fid (.region rid (fT ops d) false) s (aLi P cfg fid rest Q)):∃ e u,aFu P cfg fid rid ops d rest s e u∧Q e u:=by
 obtain ⟨e1,t1,⟨K,hK⟩,hq⟩:=h
 have aBM:∀ k,K≤k→e1= .normal∧dR P cfg (fM P cfg (cZ P cfg k)) fid rid (fT ops d) false s=some t1:=fun k hk=>by
  have:=hK (k+1) (by omega)
  simp only[cZ,Option.map_eq_some_iff] at this
  obtain ⟨x,hx,he⟩:=this
  simp only[Prod.mk.injEq] at he
  obtain ⟨rfl,rfl⟩:=he
  exact ⟨rfl,hx⟩
 obtain ⟨rfl,_⟩:=aBM K (Nat.le_refl _)
 obtain ⟨e,u,⟨L,hL⟩,hq⟩:=hq
 refine ⟨e,u,⟨max K L,fun k hk=>?_⟩,hq⟩
 unfold u5
 rw[(aBM k (Nat.le_trans (Nat.le_max_left _ _) hk)).2]
 exact hL k (Nat.le_trans (Nat.le_max_right _ _) hk)
structure FinS (E:Ex) (U:Nat→V) (G:Nat→Option Ob) (n n0 it:Nat) (W:Nat→Prop) (e:Ex) (u:St):Prop where
 e:e=E
 env:∀ t,U t= .any∨u.env.get t=U t
 hp:∀ id,id<n→id≠it→u.hp.get id=G id
 n0:u.n0=n0
 wl:∀ i,i∈u.wl↔W i
theorem aKc {α:Type} {Pr:α→Nat→Nat→Prop} (hm:∀ x K K' C C',K≤K'→C≤C'→Pr x K C→Pr x K' C'):∀ (l:List α),(∀ x,x∈l→∃ K C,Pr x K C)→∃ K C,∀ x,x∈l→Pr x K C
 | [],_=>⟨0,0,fun x h=>by cases h⟩
 | a::r,h=>by
  obtain ⟨K1,C1,h1⟩:=h a (List.mem_cons_self ..)
  obtain ⟨K2,C2,h2⟩:=aKc hm r fun x hx=>h x (List.mem_cons_of_mem _ hx)
  refine ⟨max K1 K2,max C1 C2,fun x hx=>?_⟩
  rcases List.mem_cons.1 hx with rfl|hx
  ·exact hm _ _ _ _ _ (Nat.le_max_left _ _) (Nat.le_max_left _ _) h1
  ·exact hm _ _ _ _ _ (Nat.le_max_right _ _) (Nat.le_max_right _ _) (h2 x hx)
section
variable {b rest:Code} {rid t d:Nat} {ops:Array Oper} {E:Ex} {U:Nat→V} {G:Nat→Option Ob} {n n0 it:Nat} {W:Nat→Prop}
theorem aJX [Gl] (Inv:List Nat→St→Prop) (hE:E≠ .normal)
  (xH:∀ l s,Inv l s→∃ I,aBw s t=some I∧(fJ I).Perm l∧
   (l=[]→WP P cfg fid (.region rid (fT ops d) false) (s.put (some d) aJN) (aLi P cfg fid rest (FinS E U G n n0 it W)))∧
   (∀ x,x∈l→∃ q,aDP I x=some q∧WP P cfg fid (.region rid (fT ops d) false) (s.put (some d) q) (aLi P cfg fid rest fun e u=>(e= .normal∧Inv (l.erase x) (cut cfg fid s u))∨FinS E U G n n0 it W e u))):
  ∀ (m:Nat) (l:List Nat) (s:St),l.length=m→Inv l s→∃ K C,∀ p:List Nat,p.Perm l→∃ y,(∀ k,K≤k→jK (dR P cfg (fM P cfg (cZ P cfg k)) fid rid (fT ops d) false) (cZ P cfg k fid rest) (cfg.own fid) t d p s=some (E,y))∧FinS E U G n n0 it W E y∧y.c≤C
 | 0,l,s,hm,hI=>by
  obtain rfl:=List.length_eq_zero_iff.1 hm
  obtain ⟨I,hIt,hp,h0,_⟩:=xH _ _ hI
  obtain ⟨e,u,⟨K,hK⟩,hf⟩:=aFu.of (h0 rfl)
  have aNN:fJ I=[]:=List.perm_nil.1 hp
  refine ⟨K,u.c,fun p hpp=>?_⟩
  obtain rfl:=List.perm_nil.1 hpp
  obtain rfl:=hf.e
  refine ⟨u,fun k hk=>?_,hf,Nat.le_refl _⟩
  simp only[jK,hIt,aNN,List.isEmpty_nil,hK k hk]
  cases e with
  | normal=>exact absurd rfl hE
  | exit i=>rfl
  | ret=>rfl
 | m+1,l,s,hm,hI=>by
  obtain ⟨I,hIt,hp,_,h1⟩:=xH _ _ hI
  have aPn:∀ u,(if cfg.own fid=true then u else { u with hp:=Hp.trunc s.n u.hp,n:=s.n })=cut cfg fid s u:=fun u=>rfl
  have each:∀ x,x∈l→∃ K C,∀ p:List Nat,p.Perm (l.erase x)→∃ y,(∀ k,K≤k→jK (dR P cfg (fM P cfg (cZ P cfg k)) fid rid (fT ops d) false) (cZ P cfg k fid rest) (cfg.own fid) t d (x::p) s=some (E,y))∧FinS E U G n n0 it W E y∧y.c≤C:=by
   intro x hx
   obtain ⟨q,hq,hw⟩:=h1 x hx
   obtain ⟨e,u,⟨K,hK⟩,hf⟩:=aFu.of hw
   have y7:∀ p:List Nat,p.Perm (l.erase x)→(x::p).isPerm (fJ I)=true:=fun p hpp=>List.isPerm_iff.2 (((hpp.cons x).trans (List.perm_cons_erase hx).symm).trans hp.symm)
   rcases hf with ⟨rfl,hi⟩|hf
   ·obtain ⟨K2,C2,h2⟩:=aJX Inv hE xH m (l.erase x) _ (by rw[List.length_erase_of_mem hx];omega) hi
    refine ⟨max K K2,C2,fun p hpp=>?_⟩
    obtain ⟨y,hy,hfy⟩:=h2 p hpp
    refine ⟨y,fun k hk=>?_,hfy⟩
    simp only[jK,hIt,y7 p hpp,hq,hK k (Nat.le_trans (Nat.le_max_left _ _) hk)]
    rw[aPn]
    exact hy k (Nat.le_trans (Nat.le_max_right _ _) hk)
   ·obtain rfl:=hf.e
    refine ⟨K,u.c,fun p hpp=>⟨u,fun k hk=>?_,hf,Nat.le_refl _⟩⟩
    simp only[jK,hIt,y7 p hpp,hq,hK k hk]
    cases e with
    | normal=>exact absurd rfl hE
    | exit i=>rfl
    | ret=>rfl
  obtain ⟨K,C,gW⟩:=aKc (Pr:=fun x K C=>∀ p:List Nat,p.Perm (l.erase x)→∃ y,(∀ k,K≤k→jK (dR P cfg (fM P cfg (cZ P cfg k)) fid rid (fT ops d) false) (cZ P cfg k fid rest) (cfg.own fid) t d (x::p) s=some (E,y))∧FinS E U G n n0 it W E y∧y.c≤C)
   (fun x K K' C C' hKK hCC h p hpp=>by
    obtain ⟨y,hy,hf,hc⟩:=h p hpp
    exact ⟨y,fun k hk=>hy k (by omega),hf,by omega⟩) l each
  refine ⟨K,C,fun p hpp=>?_⟩
  cases p with
  | nil=>
   have:=hpp.length_eq
   simp at this;omega
  | cons x p=>
   have hx:x∈l:=hpp.subset (List.mem_cons_self ..)
   exact gW x hx p ((hpp.trans (List.perm_cons_erase hx)).cons_inv)
theorem aFg (f:List Nat→Option (Ex×St)) (l:List Nat) (e:Ex) (s:St) (t:Nat):
  ((∀ q:List Nat,q.isPerm l=true→∀ y,f q=some (e,y)→y.env.get t=s.env.get t)→(tB f l e s).get t=s.env.get t)∧
  ((tB f l e s).get t=s.env.get t∧(∀ q:List Nat,q.isPerm l=true→∀ y,f q=some (e,y)→y.env.get t=s.env.get t)∨(tB f l e s).get t= .any):=by
 have main:∀ (E:oH) (Pr:Nat→Prop) [DecidablePred Pr],oH.get (E.filter fun p=>decide (Pr p.1)) t=if Pr t then E.get t else .any:=by
  intro E Pr _
  induction E with
  | nil=>simp[oH.get]
  | cons p r ih=>
   obtain ⟨k,v⟩:=p
   rw[List.filter_cons]
   by_cases hk:k=t
   ·subst hk
    by_cases hP:Pr k
    ·simp[hP,oH.get]
    ·simp only[hP,decide_false,Bool.false_eq_true,if_false] at ih ⊢
     exact ih
   ·by_cases hP:Pr k
    ·simp only[hP,decide_true,if_true,oH.get]
     rw[rR hk];simpa using ih
    ·simp only[hP,decide_false,Bool.false_eq_true,if_false,oH.get]
     rw[rR hk];simpa using ih
 have h:=@main s.env (fun k=>∀ q:List Nat,q.isPerm l=true→∀ y,f q=some (e,y)→y.env.get k=s.env.get k) (fun _=>Classical.propDecidable _)
 have h':(tB f l e s).get t=@ite _ (∀ q:List Nat,q.isPerm l=true→∀ y,f q=some (e,y)→y.env.get t=s.env.get t) (Classical.propDecidable _) (s.env.get t) .any:=h
 refine ⟨fun hh=>?_,?_⟩
 ·rw[h',if_pos hh]
 ·by_cases hh:(∀ q:List Nat,q.isPerm l=true→∀ y,f q=some (e,y)→y.env.get t=s.env.get t)
  ·exact .inl ⟨by rw[h',if_pos hh],hh⟩
  ·exact .inr (by rw[h',if_neg hh])
theorem WP.mapLoop [Gl] (hn:nA b=some (rid,ops,t,d,rest)) (Inv:List Nat→St→Prop) (E:Ex) (U:Nat→V) (G:Nat→Option Ob) (W:Nat→Prop) (hE:E≠ .normal) {s:St} {I:Itr} (hIt:aBw s t=some I)
  (hn0:s.n0≤s.n) (c8:s.n0≤I.id) (hU:E≠ .ret→U=s.env.get)
  (xH:∀ l u,Inv l u→∃ I,aBw u t=some I∧(fJ I).Perm l∧
   (l=[]→WP P cfg fid (.region rid (fT ops d) false) (u.put (some d) aJN) (aLi P cfg fid rest (FinS E U G s.n s.n0 it W)))∧
   (∀ x,x∈l→∃ q,aDP I x=some q∧WP P cfg fid (.region rid (fT ops d) false) (u.put (some d) q) (aLi P cfg fid rest fun e v=>(e= .normal∧Inv (l.erase x) (cut cfg fid u v))∨FinS E U G s.n s.n0 it W e v)))
  (hit:I.id=it) (h0:Inv (fJ I) s) {Q:Ex→St→Prop}
  (hQ:∀ env hp c wl,(E≠ .ret→env=s.env)→(∀ t,U t≠ .any→env.get t=U t)→(∀ id,hp.get id=if id=it then none else if id<s.n then G id else none)→(∀ i,i∈wl↔W i)→Q E ⟨env,hp,s.n,c,s.n0,wl⟩):WP P cfg fid (.loop b) s Q:=by
 obtain ⟨K,C,gW⟩:=aJX Inv hE xH (fJ I).length (fJ I) s rfl h0
 obtain ⟨Y,hY⟩:=Classical.axiomOfChoice (fun p:{ p:List Nat // p.Perm (fJ I) }=>gW p.1 p.2)
 obtain ⟨y0,rW⟩:∃ y0,y0=Y ⟨fJ I,List.Perm.refl _⟩:=⟨_,rfl⟩
 have h1:=hY ⟨fJ I,List.Perm.refl _⟩
 rw[←rW] at h1
 obtain ⟨h1,hf,hc⟩:=h1
 let F:Nat→List Nat→Option (Ex×St):=fun k p=>jK (dR P cfg (fM P cfg (cZ P cfg k)) fid rid (fT ops d) false) (cZ P cfg k fid rest) (cfg.own fid) t d p s
 have hFk:∀ k,K≤k→∀ p (h:p.Perm (fJ I)),F k p=some (E,Y ⟨p,h⟩):=fun k hk p h=>(hY ⟨p,h⟩).1 k hk
 -- the slots that are the same in all orders do not depend on the nE
 have dW:∀ k,K≤k→tB (F k) (fJ I) E y0=tB (F K) (fJ I) E y0:=by
  intro k hk
  unfold tB
  congr 1
  funext p
  have:(∀ q:List Nat,q.isPerm (fJ I)=true→∀ y,F k q=some (E,y)→y.env.get p.1=y0.env.get p.1)=(∀ q:List Nat,q.isPerm (fJ I)=true→∀ y,F K q=some (E,y)→y.env.get p.1=y0.env.get p.1):=by
   refine propext ⟨fun h q hq y hy=>?_,fun h q hq y hy=>?_⟩
   ·have g9:=List.isPerm_iff.1 hq
    exact h q hq y ((hFk k hk q g9).trans ((hFk K (Nat.le_refl _) q g9).symm.trans hy))
   ·have g9:=List.isPerm_iff.1 hq
    exact h q hq y ((hFk K (Nat.le_refl _) q g9).trans ((hFk k hk q g9).symm.trans hy))
  exact congrArg (fun P=>@decide P (Classical.propDecidable P)) this
 have hst:∀ k,K≤k→∀ C',jX s I.id (F k) (fJ I) E y0 C'=jX s I.id (F K) (fJ I) E y0 C':=by
  intro k hk C'
  unfold jX
  rw[dW k hk]
 have aPo:∀ C' id,(jX s I.id (F K) (fJ I) E y0 C').hp.get id=if id=it then none else if id<s.n then G id else none:=by
  intro C' id
  show (Hp.drop I.id (Hp.trunc s.n y0.hp)).get id=_
  rw[aDG,gM,hit]
  by_cases h1:id=it
  ·rw[if_pos h1,if_pos h1]
  ·rw[if_neg h1,if_neg h1]
   by_cases h2:id<s.n
   ·rw[if_pos h2,if_pos h2];exact hf.hp id h2 h1
   ·rw[if_neg h2,if_neg h2]
 have yM:∀ p (h:p.Perm (fJ I)),LeSt (Y ⟨p,h⟩) (jX s I.id (F K) (fJ I) E y0 C):=by
  intro p hpp
  obtain ⟨n9,hf2,hc2⟩:=hY ⟨p,hpp⟩
  refine ⟨fun τ=>?_,fun id hi=>?_,fun id o ho=>?_,fun id hi=>?_,?_,?_,hc2,fun i hi=>(hf.wl i).2 ((hf2.wl i).1 hi)⟩
  ·by_cases hr:E= .ret
   ·have:(jX s I.id (F K) (fJ I) E y0 C).env=tB (F K) (fJ I) E y0:=by unfold jX;rw[hr]
    rw[this]
    rcases (aFg (F K) (fJ I) E y0 τ).2 with ⟨h3,h4⟩|h3
    ·exact .inl (h3.trans (h4 p (List.isPerm_iff.2 hpp) _ (hFk K (Nat.le_refl _) p hpp)).symm)
    ·exact .inr h3
   ·have:(jX s I.id (F K) (fJ I) E y0 C).env=s.env:=by unfold jX;cases E <;> simp_all
    rw[this]
    have:=hf2.env τ
    rw[hU hr] at this
    rcases this with h|h
    ·exact .inr h
    ·exact .inl h.symm
  ·have hn:(Y ⟨p,hpp⟩).n0=s.n0:=hf2.n0
   rw[hn] at hi
   rw[aPo,if_neg (by omega),if_pos (by omega)]
   exact (hf2.hp id (by omega) (by omega)).symm
  ·rw[aPo] at ho
   split at ho
   ·cases ho
   ·split at ho
    ·rw[←ho];exact hf2.hp id (by omega) (by omega)
    ·cases ho
  ·have xF:s.n≤id:=hi
   rw[aPo]
   split
   ·rfl
   ·rw[if_neg (by omega)]
  ·show y0.n0≤s.n
   rw[hf.n0];exact hn0
  ·show _=y0.n0
   rw[hf2.n0,hf.n0]
 have sE:∃ C,aBd (F K) (fJ I) E (jX s I.id (F K) (fJ I) E y0 C):=⟨C,fun p hp=>⟨_,hFk K (Nat.le_refl _) p (List.isPerm_iff.1 hp),yM p (List.isPerm_iff.1 hp)⟩⟩
 have hbk:∀ k,K≤k→(fun C'=>aBd (F k) (fJ I) E (jX s I.id (F k) (fJ I) E y0 C'))=fun C'=>aBd (F K) (fJ I) E (jX s I.id (F K) (fJ I) E y0 C'):=by
  intro k hk
  funext C'
  rw[hst k hk]
  refine propext ⟨fun h p hp=>?_,fun h p hp=>?_⟩
  ·have bB:=List.isPerm_iff.1 hp
   obtain ⟨y,hy,hl⟩:=h p hp
   exact ⟨y,(hFk K (Nat.le_refl _) p bB).trans ((hFk k hk p bB).symm.trans hy),hl⟩
  ·have bB:=List.isPerm_iff.1 hp
   obtain ⟨y,hy,hl⟩:=h p hp
   exact ⟨y,(hFk k hk p bB).trans ((hFk K (Nat.le_refl _) p bB).symm.trans hy),hl⟩
 refine ⟨E,jX s I.id (F K) (fJ I) E y0 (zV sE),⟨K+1,fun k hk=>?_⟩,?_⟩
 ·obtain ⟨k,rfl⟩:∃ j,k=j+1:=⟨k - 1,by omega⟩
  have hk':K≤k:=by omega
  have h1k:F k (fJ I)=some (E,y0):=h1 k hk'
  simp only[cZ,hn,hIt]
  show aDU s I.id (F k) (fJ I)=_
  unfold aDU
  simp only[h1k]
  have gen:∀ (Pr:Nat→Prop) (h:∃ C,Pr C) (R:Nat→Prop) (hR:∃ C,R C) (f g:Nat→St),Pr=R→f=g→@dite (Option (Ex×St)) (∃ C,Pr C) (Classical.propDecidable _) (fun h=>some (E,f (zV h))) (fun _=>none)=some (E,g (zV hR)):=by
   intro Pr h R hR f g e e2
   subst e;subst e2
   rw[dif_pos h]
  refine gen _ ?_ _ sE _ _ (hbk k hk') (funext fun C'=>hst k hk' C')
  rw[show (∃ C,aBd (F k) (fJ I) E (jX s I.id (F k) (fJ I) E y0 C))=∃ C,aBd (F K) (fJ I) E (jX s I.id (F K) (fJ I) E y0 C) from congrArg _ (hbk k hk')]
  exact sE
 ·have hx:jX s I.id (F K) (fJ I) E y0 (zV sE)=⟨(jX s I.id (F K) (fJ I) E y0 (zV sE)).env,(jX s I.id (F K) (fJ I) E y0 (zV sE)).hp,s.n,zV sE,s.n0,y0.wl⟩:=by
   show (⟨_,_,_,_,y0.n0,_⟩:St)=_
   rw[hf.n0];rfl
  rw[hx]
  refine hQ _ _ _ _ (fun hr=>?_) (fun τ hτ=>?_) (fun id=>aPo _ id) hf.wl
  ·unfold jX;cases E <;> simp_all
  ·by_cases hr:E= .ret
   ·have he:∀ C',(jX s I.id (F K) (fJ I) E y0 C').env=tB (F K) (fJ I) E y0:=fun C'=>by unfold jX;rw[hr]
    rw[he]
    have rW:y0.env.get τ=U τ:=(hf.env τ).resolve_left hτ
    rw[←rW]
    refine (aFg (F K) (fJ I) E y0 τ).1 fun q hq y hy=>?_
    have g9:=List.isPerm_iff.1 hq
    have:=hFk K (Nat.le_refl _) q g9
    rw[hy] at this
    simp only[Option.some.injEq,Prod.mk.injEq,true_and] at this
    rw[this,rW]
    exact ((hY ⟨q,g9⟩).2.1.env τ).resolve_left hτ
   ·have he:∀ C',(jX s I.id (F K) (fJ I) E y0 C').env=s.env:=fun C'=>by unfold jX;cases E <;> simp_all
    rw[he,hU hr]
end
end Go.Ac
end
