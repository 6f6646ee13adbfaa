/- Reset (the reference's). -/
import Derived.Test.YtkgekafdhehleaaGreatObYiM
import Derived.Test.YtkgekafdhehleaaGreatObH
import Derived.WalkKit
import Derived.ProofKit
import Derived.OpenShut
import Derived.JoinedCond
import Derived.Below
set_option linter.unusedVariables false
set_option linter.unusedSimpArgs false
section
set_option maxRecDepth 4000
namespace Go.Ac
open Go.Proofs
attribute [local simp] Hp.get_set iF bW
theorem aVa {o:Oc} (gB:o.sz≤2097152) (cE:o.ok) (h:dE o=0):OW o:=by
 unfold Oc.sz at gB
 have hm:∀ c,c∈o.cl→c.inn.length+c.out.length+c.loc.length+c.mems.length+c.ins.length+hH c.step≤2097152:=fun c hc=>by
  have rN:=pS hc
  unfold Cl.sz at rN
  have l1:=kT c.inn
  have l2:=kT c.out
  have l3:=kT c.loc
  have l4:=uE c.mems
  have l5:=sG c.ins
  omega
 exact ⟨aAC h,fun c hc=>⟨by have:=hm c hc;omega⟩,cE,fun c hc=>by have:=hm c hc;omega⟩
theorem aGT {l:List (List Int)} {j:Nat} (h:j<l.length):(aKC l)[j]?=some [.slice (bX (l.getD j []))]:=by
 unfold aKC;simp[List.getD,h]
theorem iW (l:List (List Int)):(aKC l).length=l.length:=by unfold aKC;simp
theorem aLd {o:Oc} (hO:OW o) {t:Trn} (ht:t.ok o) (ins:List Int):(jU o.en t ins).1.ok o∧(jU o.en t ins).1.c=t.c∧(jU o.en t ins).1.bare=t.bare∧((jU o.en t ins).2.2=0→y9 o.en t.c.out (jU o.en t ins).2.1)∧((jU o.en t ins).2.2≠0→(jU o.en t ins).2.1=[]):=by
 unfold jU
 split
 ·exact ⟨ht,rfl,rfl,fun h=>by simp at h,fun _=>rfl⟩
 ·rename_i h1
  split
  ·exact ⟨ht,rfl,rfl,fun h=>by simp at h,fun _=>rfl⟩
  ·rename_i h2
   have:=s7 hO.wf t.ht t ins (Nat.le_refl _) ht (aHy (by simpa using h1) (by simpa using h2))
   exact ⟨this.1,this.2.1,lR _ _ _,fun _=>this.2.2.2,fun h=>absurd rfl h⟩
theorem Lies.step {en:List En} {t u:Trn} {p:Pt} {hp bD hpz:Hp} {n:Nat} (h:Lies en t p hp n) (hb:u.bare=t.bare) (hf:∀ k,k<n→k∉dM p→bD.get k=hp.get k) (hm:∀ e,e∈qD u p→hpz.get e.1=some e.2) (hs:∀ k,k<n→(hpz.get k).isSome=true→bD.get k=hpz.get k):Lies en u p bD n:=by
 refine h.upd hb hf fun e he=>?_
 have hfi:Go.Ac.fit u p:=by rw[←dG,hb,dG];exact h.fit
 have fB:=h.mids_lt e.1 (by rw[←eL _ _ hfi];exact List.mem_map.2 ⟨e,he,rfl⟩)
 have h2:=hm e he
 rw[hs _ fB (by rw[h2];rfl)];exact h2
end Go.Ac
end
section
set_option maxRecDepth 4000
namespace Go.Ac
open Go.Proofs
attribute [local simp] Hp.get_set dA cK cR bW
theorem Lies.setM {en:List En} {c:Cl} {ms ms':List (Tx×Int)} {sb:List Trn} {pb:Pb} {ps:List Pt} {hp bD:Hp} {n:Nat} (h:Lies en (.mk c ms sb) (.mk pb ps) hp n) (hg:∀ id,id<n→bD.get id=if id=pb.im then some ⟨pb.gm,false,[gF eI ms']⟩ else hp.get id):Lies en (.mk c ms' sb) (.mk pb ps) bD n:=by
 have hnm:pb.im∉dT ps:=by
  have:=h.nd
  unfold Pt.nd at this
  rw[dM,List.nodup_append,List.nodup_cons] at this
  exact this.2.1.1
 have fM:=h.fit
 rw[Go.Ac.fit] at fM
 obtain ⟨lm,hmo⟩:=h.me (pb.im,⟨pb.gm,false,[gF eI ms]⟩) (by rw[qD];simp)
 refine h.upd (by rw[Trn.bare,Trn.bare]) (fun k hk hm=>?_) fun q hq=>?_
 ·rw[hg k hk,if_neg]
  intro e;exact hm (by rw[dM];simp[e])
 ·rw[qD,List.mem_cons] at hq
  rcases hq with hq|hq
  ·subst hq;rw[hg _ lm,if_pos rfl]
  ·obtain ⟨h1,h2⟩:=h.me q (by rw[qD];exact List.mem_cons_of_mem _ hq)
   rw[hg _ h1,if_neg,h2]
   intro e
   have:q.1∈dT ps:=by rw[←lB sb ps fM.2];exact List.mem_map.2 ⟨q,hq,rfl⟩
   rw[e] at this;exact hnm this
theorem Lies.setS {en:List En} {c:Cl} {ms:List (Tx×Int)} {sb:List Trn} {pb:Pb} {ps:List Pt} {hp bD:Hp} {n:Nat} (h:Lies en (.mk c ms sb) (.mk pb ps) hp n) {i:Nat} {t u:Trn} {q:Pt} (ht:sb[i]?=some t) (hq:ps[i]?=some q) (hb:u.bare=t.bare) (hf:∀ id,id<n→id∉dM q→bD.get id=hp.get id) (hm:∀ e,e∈qD u q→bD.get e.1=some e.2):Lies en (.mk c ms (sb.set i u)) (.mk pb ps) bD n:=by
 have mA:(pb.im::dT ps).Nodup:=by
  have:=h.nd
  unfold Pt.nd at this
  rw[dM,List.nodup_append] at this
  exact this.2.1
 rw[List.nodup_cons] at mA
 have fM:=h.fit
 rw[Go.Ac.fit] at fM
 obtain ⟨lm,hmo⟩:=h.me (pb.im,⟨pb.gm,false,[gF eI ms]⟩) (by rw[qD];simp)
 refine h.upd (by rw[Trn.bare,Trn.bare,zR ht hb]) (fun k hk hm=>hf k hk fun h2=>hm (by rw[dM];exact List.mem_cons_of_mem _ (jV ps i q hq k h2))) fun e he=>?_
 rw[qD,List.mem_cons] at he
 rcases he with he|he
 ·subst he
  rw[hf _ lm fun h2=>mA.1 (jV ps i q hq _ h2)];exact hmo
 ·obtain ⟨j,t2,p2,h1,h2,h3⟩:=(sD _ _ _).1 he
  rw[List.getElem?_set] at h1
  split at h1
  ·rename_i hij
   subst hij
   split at h1
   ·simp only[Option.some.injEq] at h1
    subst h1
    rw[hq] at h2
    simp only[Option.some.injEq] at h2
    subst h2
    exact hm e h3
   ·cases h1
  ·rename_i hij
   obtain ⟨g1,g2⟩:=h.me e (by rw[qD];exact List.mem_cons_of_mem _ ((sD _ _ _).2 ⟨j,t2,p2,h1,h2,h3⟩))
   have hk:e.1∈dM p2:=by rw[←eL t2 p2 (pQ sb ps j t2 p2 fM.2 h1 h2)];exact List.mem_map.2 ⟨e,h3,rfl⟩
   rw[hf _ g1 (aBY ps mA.2 j i p2 q h2 hq (fun e=>hij e.symm) _ hk)]
   exact g2
theorem aXw (r:Nat):Ob.keep 56 r=Ob.k56 r:=by kernel_rfl
attribute [local simp] aXw Ob.k56
end Go.Ac
end
section
set_option maxRecDepth 4000
namespace Go.Ac
open Go.Proofs
attribute [local simp] Hp.get_set dA cK cR bW
theorem aTc (r:Nat):Ob.keep 24 r=Ob.k24 r:=by kernel_rfl
attribute [local simp] aTc Ob.k24
end Go.Ac
end
section
set_option maxRecDepth 4000
namespace Go.Ac
open Go.Proofs
def qV (l:List Cl):Nat:=(l.map fun c=>c.ins.length).sum
theorem aEm (l:List Cl) (c:Cl):qV (l++[c])=qV l+c.ins.length:=by unfold qV;simp
theorem xA:∀ (l:List Cl) (i j:Nat),j≤i→qV (l.take j)≤qV (l.take i)
 | [],i,j,_=>by simp
 | c::r,i,0,_=>by simp[qV]
 | c::r,0,j+1,h=>by omega
 | c::r,i+1,j+1,h=>by
  have:=xA r i j (by omega)
  rw[List.take_succ_cons,List.take_succ_cons]
  unfold qV at*
  simp only[List.map_cons,List.sum_cons]
  omega
theorem aNY (l:List Cl):qV l≤szC l:=by
 induction l with
 | nil=>simp[qV]
 | cons c r ih=>
  unfold qV szC at*
  simp only[List.map_cons,List.sum_cons]
  have:=sG c.ins
  have h2:c.sz=szT c.nm+szD c.inn+szD c.out+szD c.loc+szM c.mems+szJ c.ins+hH c.step+7:=rfl
  omega
theorem aGO {B:Nat}:∀ (l:List Trn),(∀ t,t∈l→(n9 t).length≤B)→(qZ l).length≤l.length*B
 | [],_=>by simp[qZ]
 | t::r,h=>by
  have h1:=h t (List.mem_cons_self ..)
  have h2:=aGO r fun u hu=>h u (List.mem_cons_of_mem _ hu)
  rw[qZ,List.length_append,List.length_cons,Nat.add_mul]
  omega
theorem aIx (m:Nat):m+1≤2 ^ m:=by
 induction m with
 | zero=>simp
 | succ m ih=>rw[Nat.pow_succ];omega
theorem aEc {o:Oc} (h:dE o=0) {M:Nat} (hM:∀ c,c∈o.cl→c.mems.length≤M):∀ (k i:Nat) (c:Cl),o.cl[i]?=some c→i<k→(n9 (iO o k c)).length≤M*2 ^ qV (o.cl.take (i+1))
 | 0,i,c,_,hi=>by omega
 | k+1,i,c,hc,hi=>by
  rw[iO,n9,List.length_append,List.length_map]
  have h1:=hM c (List.mem_of_getElem? hc)
  have h2:(qZ (c.ins.map fun i=>iO o k (cX o.cl i.cl).1)).length≤(c.ins.map fun i=>iO o k (cX o.cl i.cl).1).length*(M*2 ^ qV (o.cl.take i)):=by
   refine aGO _ fun t ht=>?_
   obtain ⟨d,hd,rfl⟩:=List.mem_map.1 ht
   obtain ⟨j,hj,hja,_⟩:=nK h hc d hd
   refine Nat.le_trans (aEc h hM k j _ hja (by omega)) (Nat.mul_le_mul_left _ (Nat.pow_le_pow_right (by omega) (xA o.cl i (j+1) (by omega))))
  rw[List.length_map] at h2
  rw[bM hc,aEm,Nat.pow_add]
  have h3:=aIx c.ins.length
  have h4:1≤2 ^ qV (o.cl.take i):=Nat.one_le_two_pow
  have h5:M≤M*2 ^ qV (o.cl.take i):=Nat.le_mul_of_pos_right _ h4
  generalize 2 ^ qV (o.cl.take i)=S at*
  generalize 2 ^ c.ins.length=T at*
  have h6:(c.ins.length+1)*(M*S)≤T*(M*S):=Nat.mul_le_mul_right _ h3
  rw[Nat.add_mul,Nat.one_mul] at h6
  have h7:T*(M*S)=M*(S*T):=by rw[Nat.mul_comm T,Nat.mul_assoc]
  omega
attribute [local simp] kf9 Ob.k9
set_option maxHeartbeats 4000000 in
theorem aKA (x:Oc) (ha:x.sz≤MX) (aRn:12<qV x.cl):d7 Tryz.prog Ob.cfg 9 [aG x.cells]=some (dB true):=by
 unfold Oc.sz MX at ha
 have l1:=lI x.cl
 have l2:=aNY x.cl
 obtain ⟨r0,h0⟩:=aRv x.en (by unfold MX;omega)
 simp only[pE,dI] at h0
 refine bF Tryz.func9 rfl (by kernel_rfl) rfl rfl ?_
 refine a9 (j4 @aD @aL @aB @h0) ?_
 apply WP.loop' (I:=fun D s=>∃ (j:Nat) (k:Int),j+D=x.cl.length∧SE [(1,.ptr 0 0 0),(3,dI k),(4,dI (qV (x.cl.take j))),(5,dI j)] [(0,⟨0,false,x.cells.map .d⟩)] 1 s) (d:=x.cl.length)
 ·exact ⟨0,_,by simp,SE.mk (by simp[dI,qV];rfl) (by simp[Oc.cells])⟩
 rintro D _ ⟨j,k,hj,cc,rfl⟩
 by_cases cF:j<x.cl.length∧k<600
 ·obtain ⟨bR,hk⟩:=cF
  have c1:((j:Int)<x.cl.length)=True:=eq_true (by omega)
  have c1':(j<x.cl.length)=True:=eq_true bR
  have c2:=eq_true hk
  obtain ⟨y,hy,vF,bS⟩:=bL bR
  have pD:=kU hy
  have hw:=bG bR (by omega)
  have m1:=pS vF
  unfold Cl.sz at m1
  have l3:=sG y.ins
  have l4:=xA x.cl x.cl.length j (by omega)
  rw[List.take_length] at l4
  have eR:IntKind.i64.wrap ((qV (x.cl.take j):Int)+y.ins.length)=(qV (x.cl.take (j+1)):Nat):=by
   rw[bM hy,aEm,aEr] <;> omega
  obtain ⟨r1,h1⟩:=aUF y.inn y.out y.loc (by unfold MX;omega) (by unfold MX;omega) (by unfold MX;omega)
  obtain ⟨r2,h2⟩:=w27 (hH y.step+1) y.step 600 (by omega) (by unfold MX;omega)
  simp only[pN,nD,dL,dI] at h1 h2
  refine a9 (j6 @aB @aA @aL @c1 @c1' @c2) ?_
  refine a9 (j22 @aB @aA @aL @aJ @bS @pD @h1 @h2 @aH @aI @aQ @aR @bI @b8 @oK @g9.eq_1 @g9.eq_2 @eE.eq_1 @eE.eq_2 @bJ @lD @eR) ?_
  refine aY (by simp[hw];exact Is.rfl) ?_
  exact ⟨D - 1,by omega,j+1,_,by omega,SE.mk (by simp[dI,dL];rfl) (by simp[Oc.cells])⟩
 by_cases hq:k≥600
 ·have q:=eq_true hq
  have q':(600≤k)=True:=q
  have hor:(((j:Int)<x.cl.length)=True∧(j<x.cl.length)=True∧(k<600)=False)∨(((j:Int)<x.cl.length)=False∧(j<x.cl.length)=False):=by
   by_cases hd1:j<x.cl.length
   ·exact .inl ⟨eq_true (by omega),eq_true hd1,eq_false (fun h=>cF ⟨hd1,h⟩)⟩
   ·exact .inr ⟨eq_false (by omega),eq_false hd1⟩
  rcases hor with ⟨e1,e1',e2⟩|⟨e1,e1'⟩
  ·refine a9 (j8 @aB @aA @aL @e1 @e1' @e2 @q @q') ?_
   show a7 _ _ _ _ _
   exact ⟨.inr rfl,_,_,rfl,rfl⟩
  ·refine a9 (j7 @aB @aA @aL @e1 @e1' @q @q') ?_
   show a7 _ _ _ _ _
   exact ⟨.inr rfl,_,_,rfl,rfl⟩
 ·have q:=eq_false hq
  have q':(600≤k)=False:=q
  have hjl:j=x.cl.length:=by
   rcases Nat.lt_or_ge j x.cl.length with h|h
   ·exact absurd ⟨h,by omega⟩ cF
   ·omega
  have e1:((j:Int)<x.cl.length)=False:=eq_false (by omega)
  have e1':(j<x.cl.length)=False:=eq_false (by omega)
  rw[hjl,List.take_length]
  have e3:=eq_false (show ¬ ((x.cl.length:Int)<x.cl.length) by omega)
  have e4:=eq_true (show (12:Int)<(qV x.cl:Nat) by omega)
  have e5:=eq_true aRn
  refine a9 (j8 @aB @aA @aL @e3 @q @q' @e4 @e5) ?_
  show a7 _ _ _ _ _
  exact ⟨.inr rfl,_,_,rfl,rfl⟩
end Go.Ac
end
section
set_option maxRecDepth 4000
namespace Go.Ac
open Go.Proofs
theorem aVc (r:Nat):Ob.keep 20 r=Ob.k20 r:=by kernel_rfl
attribute [local simp] aVc Ob.k20
theorem aHT (a b:List Int) (ha:a.length≤17592186044416) (hb0:b.length≤17592186044416):d7 Tryz.prog Ob.cfg 20 [dL (bX a),dL (bX b)]=some (dB (decide (a=b))):=by
 refine bF Tryz.func20 rfl (by kernel_rfl) rfl rfl ?_
 by_cases hl:a.length=b.length
 case neg=>
  have hl2:((a.length:Int)=b.length)=False:=eq_false (by omega)
  have hab:decide (a=b)=false:=by simp;intro h;rw[h] at hl;exact hl rfl
  rw[hab]
  refine a9 (j6 @aB @aA @aZ @hl @hl2 @aV) ?_
  show a7 _ _ _ _ _
  exact ⟨.inr rfl,_,_,rfl,rfl⟩
 have hl2:((a.length:Int)=b.length)=True:=eq_true (by omega)
 refine a9 (j6 @aB @aA @aZ @hl @hl2 @aV) ?_
 apply WP.loop' (I:=fun D s=>∃ j:Nat,j+D=a.length∧a.take j=b.take j∧SE [(0,dL (bX a)),(1,dL (bX b)),(5,dI j)] [] 0 s) (d:=a.length)
 ·exact ⟨0,by simp,by simp,SE.mk (by simp[dI,dL]) rfl⟩
 rintro D _ ⟨j,hj,he,cc,rfl⟩
 refine wk (j3 @aB @aA @aZ) ?_
 show WP _ _ _ _ _ _
 refine WP.cond _ rfl (fun hb=>?_) (fun hb=>?_)
 ·simp at hb
  have bR:j<a.length:=by omega
  obtain ⟨x,hx,_,x1⟩:=bL bR
  obtain ⟨y,hy,_,x2⟩:=bL (show j<b.length by omega)
  have e1:=c9 hx
  have e2:=c9 hy
  have hw:=bG bR (by omega)
  by_cases hq:x=y
  ·have hq2:(x=y)=True:=eq_true hq
   refine a9 (j9 @aB @aA @aZ @x1 @x2 @e1 @e2 @hq2 @aV) ?_
   refine aY (by simp[hw];exact Is.rfl) ?_
   exact ⟨D - 1,by omega,j+1,by omega,by rw[bM hx,bM hy,he,hq],SE.mk (by simp[dI,dL,hw]) rfl⟩
  ·have hq2:(x=y)=False:=eq_false hq
   have hab:decide (a=b)=false:=by simp;intro h;rw[h,hy] at hx;exact hq (Option.some.inj hx).symm
   rw[hab]
   refine a9 (j9 @aB @aA @aZ @x1 @x2 @e1 @e2 @hq2 @aV) ?_
   show a7 _ _ _ _ _
   exact ⟨.inr rfl,_,_,rfl,rfl⟩
 ·simp at hb
  have eM:j=a.length:=by omega
  rw[eM,List.take_length,hl,List.take_length] at he
  have hab:decide (a=b)=true:=by simp[he]
  rw[hab]
  refine a9 (jn @aB @aA) ?_
  show a7 _ _ _ _ _
  exact ⟨.inr rfl,_,_,rfl,rfl⟩
end Go.Ac
end
section
set_option maxRecDepth 4000
namespace Go.Ac
open Go.Proofs
attribute [local simp] Hp.get_set iF bW
structure Two (en:List En) (t:Trn) (p:Pt) (u:Trn) (r:Pt) (hp:Hp) (n:Nat):Prop where
 a:Lies en t p hp n
 b:Lies en u r hp n
 d1:∀ k,k∈lS r++dM r→k∉dM p
 d2:∀ k,k∈lS p++dM p→k∉dM r
theorem Two.stepa {en:List En} {t t' u:Trn} {p r:Pt} {hp bD:Hp} {n:Nat} (h:Two en t p u r hp n) (hL:Lies en t' p bD n) (hf:∀ k,k<n→k∉dM p→bD.get k=hp.get k):Two en t' p u r bD n:=by
 refine ⟨hL,h.b.same2 (fun k hk=>hf k ?_ (h.d1 k hk)) (Nat.le_refl _),h.d1,h.d2⟩
 rcases List.mem_append.1 hk with hk|hk
 ·exact h.b.sids_lt k hk
 ·exact h.b.mids_lt k hk
theorem Two.stepb {en:List En} {t u u':Trn} {p r:Pt} {hp bD:Hp} {n:Nat} (h:Two en t p u r hp n) (hL:Lies en u' r bD n) (hf:∀ k,k<n→k∉dM r→bD.get k=hp.get k):Two en t p u' r bD n:=by
 refine ⟨h.a.same2 (fun k hk=>hf k ?_ (h.d2 k hk)) (Nat.le_refl _),hL,h.d1,h.d2⟩
 rcases List.mem_append.1 hk with hk|hk
 ·exact h.a.sids_lt k hk
 ·exact h.a.mids_lt k hk
theorem Two.mono {en:List En} {t u:Trn} {p r:Pt} {hp bD:Hp} {n:Nat} (h:Two en t p u r hp n) (ha:Ag n hp bD):Two en t p u r bD n:=⟨h.a.mono ha (Nat.le_refl _),h.b.mono ha (Nat.le_refl _),h.d1,h.d2⟩
theorem Lies.ob {en:List En} {t:Trn} {p:Pt} {hp:Hp} {n:Nat} (h:Lies en t p hp n):p.a.x<n∧hp.get p.a.x=some (oO p.a.gx en t.c p.a.im p.a.gm p.a.ii p.a.gi):=
 h.st (p.a.x,oO p.a.gx en t.c p.a.im p.a.gm p.a.ii p.a.gi) (by cases t;cases p;rw[stC];simp[Trn.c,Pt.a])
theorem aDV {o:Oc} (h:dE o=0):∀ (k i:Nat) (c:Cl),o.cl[i]?=some c→i<k→(iO o k c).init=iO o k c
 | 0,i,c,_,hi=>by omega
 | k+1,i,c,hc,hi=>by
  have hn:=(aAC h c (List.mem_of_getElem? hc)).mn
  have hmn:((mI c.mems).map Prod.fst)=c.mems.map Mm.nm:=by unfold mI;rw[List.map_map];rfl
  have hp:puts [] (mI c.mems)=mI c.mems:=by
   have:=aBZ (mI c.mems) [] (by rw[List.nil_append,hmn];exact hn)
   simpa using this
  rw[iO,Trn.init,hp,aAH rfl (by rw[hmn];exact hn),aBa,List.map_map]
  congr 1
  apply List.map_congr_left
  intro d hd
  obtain ⟨j,hj,hja,_⟩:=nK h hc d hd
  exact aDV h k j _ hja (by omega)
end Go.Ac
end
section
set_option maxRecDepth 4000
namespace Go.Ac
open Go.Proofs
attribute [local simp] Hp.get_set dA cK cR bW
def aGU (f:FuncId) (vs:List V) (hp:Hp) (n c:Nat) (v:V) (ids:List Nat) (Φ:Hp→Nat→Prop):Prop:=
 ∃ q,m9 Tryz.prog Ob.cfg f vs hp n c=some q∧q.v=v∧n≤q.n∧WI ids n hp q.wl q.hp∧Φ q.hp q.n
def aTh (fn:Func) (hp:Hp) (n:Nat) (v:V) (ids0:List Nat) (Φ:Hp→Nat→Prop) (e:Ex) (t:St):Prop:=
 (e= .normal∨e= .ret)∧∃ rs,f9 Tryz.prog t fn.results.toList=some rs∧tup rs=v∧n≤t.n∧WI ids0 n hp t.wl t.hp∧Φ t.hp t.n
theorem aEP {f:FuncId} {fn:Func} {body:Code} {vs:List V} {hp:Hp} {n c:Nat} {v:V} {ids0:List Nat} {Φ:Hp→Nat→Prop} (hf:Tryz.prog.funcs[f]?=some fn) (hb:fn.body=some body) (cE:(Nat.ble vs.length fn.ntmps&&fH fn.ntmps body)=true)
  (vE:Ob.cfg.thr f=true) (h:WP Tryz.prog Ob.cfg f body ⟨dD 0 vs,hp,n,c,n,[]⟩ (aTh fn hp n v ids0 Φ)):aGU f vs hp n c v ids0 Φ:=by
 obtain ⟨w,t,h1,h2⟩:=wG (Q:=fun w t=>w=v∧n≤t.n∧WI ids0 n hp t.wl t.hp∧Φ t.hp t.n) hf hb cE (h.mono fun e t ⟨he,rs,a1,a2,a3,a4,a5⟩=>⟨he,rs,a1,.inl vE,a2,a3,a4,a5⟩)
 exact ⟨_,h1,h2.1,h2.2.1,h2.2.2.1,h2.2.2.2⟩
theorem aGU.caller {f:FuncId} {vs:List V} {hp:Hp} {n c:Nat} {v:V} {ids:List Nat} {Φ:Hp→Nat→Prop} (h:aGU f vs hp n c v ids Φ) (aFR:∀ j,j∈ids→j<n):
  ∃ q,m9 Tryz.prog Ob.cfg f vs hp n c=some q∧q.v=v∧n≤q.n∧(∀ k,k∈(sL q n).map (·.1)→k<n+(q.n - n))∧(∀ k,k∈(sL q n).map (·.1)→k∈ids∨n≤k)∧
   (∀ j,j<n→j∉ids→(hp.sets (sL q n)).get j=hp.get j)∧∃ bD,Φ bD q.n∧∀ j,j<q.n→(bD.get j).isSome=true→(hp.sets (sL q n)).get j=bD.get j:=by
 obtain ⟨q,h1,h2,h3,h4,h5⟩:=h
 exact ⟨q,h1,h2,h3,fun k hk=>by have:=(aCL h3 h4 aFR hk).2;omega,fun k hk=>(aCL h3 h4 aFR hk).1,fun j hj hn=>aJf h4 hj hn,q.hp,h5,fun j hj hs=>aGc h4 hj hs⟩
theorem RLies.after {o:Oc} {t:Trn} {p:Pt} {hp bD:Hp} {n:Nat} (h:RLies o t p hp n) (hs:∀ k,k<n→(hp.get k).isSome=true→bD.get k=hp.get k):RLies o t p bD n:=
 ⟨h.fit,h.nd,fun q hq=>⟨(h.ce q hq).1,(hs _ (h.ce q hq).1 (by rw[(h.ce q hq).2];rfl)).trans (h.ce q hq).2⟩⟩
theorem aFZ {o:Oc} (h:dE o=0):∀ (N:Nat) (t:Trn) (i:Nat),t.ht<N→t.ok o→o.cl[i]?=some t.c→t.bare=(iO o (i+1) t.c).bare
 | 0,t,i,hN,_,_=>by omega
 | N+1,.mk c ms sb,i,hN,cE,hi=>by
  rw[Trn.ht] at hN
  rw[Trn.ok] at cE
  show Trn.bare (.mk c ms sb)=(iO o (i+1) c).bare
  rw[iO,Trn.bare,Trn.bare]
  congr 1
  rw[qA,qA,List.map_map]
  have wK:o.cl[i]?=some c:=hi
  clear hi
  have hb:=aIC h wK
  have hs:=cE.2.2
  have hh:∀ u,u∈sb→u.ht<N:=fun u hu=>by have:=pT hu;omega
  clear cE hN
  generalize c.ins=l at hs hb
  induction sb generalizing l with
  | nil=>
   rw[uZ] at hs
   subst hs;rfl
  | cons u r ih=>
   cases l with
   | nil=>rw[uZ] at hs;exact hs.elim
   | cons d l=>
    rw[uZ] at hs
    obtain ⟨j,hj,_,hja⟩:=hb d (List.mem_cons_self ..)
    rw[hs.1] at hja
    simp only[List.map_cons,Function.comp]
    rw[hs.1]
    simp only
    congr 1
    ·rw[aFZ h N u j (hh u (List.mem_cons_self ..)) hs.2.1 hja,nT h i i j u.c (Nat.le_refl _) hja hj]
    ·exact ih (fun v hv=>hh v (List.mem_cons_of_mem _ hv)) l hs.2.2 fun e he=>hb e (List.mem_cons_of_mem _ he)
theorem RLies.swap {o:Oc} {c:Cl} {ms:List (Tx×Int)} {sb:List Trn} {a:Pb} {ps:List Pt} {hp bD:Hp} {n x gx:Nat} (h:RLies o (.mk c ms sb) (.mk a ps) hp n) (hx:x<n) (hn:x∉cW (.mk a ps)) (hg:∀ k,k≠x→bD.get k=hp.get k) (ho:bD.get x=some (rO gx o c a.im a.gm ms.length a.ii a.gi ps.length)):RLies o (.mk c ms sb) (.mk ⟨x,gx,a.im,a.gm,a.ii,a.gi⟩ ps) bD n:=by
 have fM:=h.fit
 rw[Go.Ac.fit] at fM
 have mA:=h.nd
 have hce:=h.ce
 rw[cW] at hn mA
 rw[rC] at hce
 simp only[List.mem_cons,not_or] at hn
 rw[List.nodup_cons] at mA
 refine ⟨by rw[Go.Ac.fit];exact fM,?_,fun q hq=>?_⟩
 ·rw[cW,List.nodup_cons]
  exact ⟨by simp[hn.2],mA.2⟩
 ·rw[rC,List.mem_cons] at hq
  rcases hq with hq|hq
  ·subst hq;exact ⟨hx,ho⟩
  ·obtain ⟨h1,h2⟩:=hce q (List.mem_cons_of_mem _ hq)
   refine ⟨h1,(hg _ fun e=>?_).trans h2⟩
   have hk:q.1∈a.im::a.ii::dK ps:=by
    simp only[List.mem_cons] at hq ⊢
    rcases hq with hq|hq|hq
    ·exact .inl (by rw[hq])
    ·exact .inr (.inl (by rw[hq]))
    ·exact .inr (.inr (by rw[←xC o sb ps fM.2];exact List.mem_map.2 ⟨q,hq,rfl⟩))
   rw[e] at hk
   simp only[List.mem_cons] at hk
   rcases hk with hk|hk|hk
   ·exact hn.2.1 hk
   ·exact hn.2.2.1 hk
   ·exact hn.2.2.2 hk
theorem aTx (r:Nat):Ob.keep 132 r=Ob.k132 r:=by kernel_rfl
attribute [local simp] aTx Ob.k132
set_option maxHeartbeats 8000000 in
theorem aMw {o:Oc} (uS:dE o=0) (gB:o.sz≤2097152) (t:Trn) (p:Pt) (cE:t.ok o) (hp:Hp) (n cc:Nat) (hK:RLies o t p hp n):
  aGU 132 [.ptr p.a.x p.a.gx 0] hp n cc (.tuple []) (cW p) (fun bD n'=>∃ p',Moved p p' n∧RLies o t.init p' bD n'):=by
 have hwf:=aAC uS
 have hc:t.c∈o.cl:=((Trn.ok_eq o t).1 cE).1
 obtain ⟨i,hi⟩:=List.mem_iff_getElem?.1 hc
 have xX:=(List.getElem?_eq_some_iff.1 hi).1
 obtain ⟨q,p0,hI1,hqv,tR⟩:=aLO uS gB (i+1) i _ (Nat.lt_succ_self i) hi
 have aBS:=aFq uS (i+1) i _ hi (Nat.lt_succ_self i)
 have hni:t.init=iO o (i+1) t.c:=by
  rw[aCP hwf t _ cE aBS (aFZ uS _ t i (Nat.lt_succ_self _) cE hi)]
  exact aDV uS (i+1) i t.c hi (Nat.lt_succ_self i)
 rw[←hni] at tR
 clear aBS hni
 simp only[aG,Oc.cells,Cl.cells,List.map_cons,List.map_nil] at hI1
 have hI2:dZ eW q.v=none:=by rw[hqv];rfl
 obtain ⟨p2,fP⟩:∃ p2,p2=p0.sh n cc:=⟨_,rfl⟩
 have hI3:cS n cc q.v= .ptr p2.a.x p2.a.gx 0:=by rw[hqv,fP,Pt.sh_a];simp[cS,Pb.sh]
 obtain ⟨W1,xK⟩:∃ W,hZ n cc (jZ q.hp.get (List.range q.n))=W:=⟨_,rfl⟩
 have hL2:RLies o t.init p2 (hp.sets W1) (q.n+n):=by rw[←xK,fP];exact tR.import
 have oW:∀ x,x<n→(hp.sets W1).get x=hp.get x:=fun x hx=>by rw[←xK,nV hx]
 obtain ⟨lx,pB⟩:=hK.ob
 obtain ⟨l2,aVI⟩:=hL2.ob
 have za:=(oW _ lx).trans pB
 simp only[rO] at pB za aVI
 have hge:∀ k,k∈cW p2→n≤k:=fun k hk=>by rw[fP] at hk;exact aFI _ _ _ k hk
 have nx:=nf lx
 have lx2:=eq_true (show p.a.x<n+q.n by omega)
 have hxm:p2.a.x∈cW p2:=by cases p2;rw[cW];simp[Pt.a]
 have hne:=eq_false (show ¬ p.a.x=p2.a.x by have:=hge _ hxm;omega)
 refine aEP Tryz.func132 rfl (by kernel_rfl) rfl ?_
 refine aND (j8 @aN @aO @pB @za @aVI @nx @lx2 @hne) ?_
 have hpx:p.a.x∈cW p:=by cases p;rw[cW];simp[Pt.a]
 have hic:t.init.c=t.c:=(aFg hwf t cE).2.1
 refine ⟨.inl rfl,[],rfl,rfl,Nat.le_add_right _ _,WI.set (WI.set ⟨(fun k hk=>by simp at hk),fun k h1 h2=>oW k h1⟩ (.inl hpx)) (.inl hpx),.mk ⟨p.a.x,p.a.gx,p2.a.im,p2.a.gm,p2.a.ii,p2.a.gi⟩ p2.ps,⟨rfl,rfl,fun k hk=>?_⟩,?_⟩
 ·rw[cW] at hk
  rcases List.mem_cons.1 hk with hk|hk
  ·exact .inl (by rw[hk];exact hpx)
  ·refine .inr (hge k ?_)
   cases p2
   rw[cW];exact List.mem_cons_of_mem _ hk
 ·have hN:q.n+n=n+q.n:=Nat.add_comm _ _
  rw[hN] at hL2
  have hpn:p.a.x∉cW p2:=fun h=>by have:=hge _ h;omega
  generalize t.init=u at hL2 hic ⊢
  obtain ⟨c,ms,sb⟩:=u
  obtain ⟨a,ps⟩:=p2
  have hic:c=t.c:=hic
  subst hic
  refine hL2.swap (by omega) hpn (fun k hk=>?_) ?_
  ·have e:(p.a.x=k)=False:=eq_false (fun e=>hk e.symm)
   simp[e]
  ·simp[rO,Trn.ms,Pt.ps,Pt.a]
end Go.Ac
end
