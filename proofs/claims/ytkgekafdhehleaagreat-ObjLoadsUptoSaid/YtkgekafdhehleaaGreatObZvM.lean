/- ObjLoads by data. -/
import Derived.Test.YtkgekafdhehleaaGreatObZsM
set_option linter.unusedVariables false
set_option linter.unusedSimpArgs false
section
set_option maxRecDepth 4000
namespace Go.Ac
open Go.Proofs
attribute [local simp] Hp.get_set cY cE cN bW
theorem aYN (r:Nat):Ob.keep 25 r=Ob.k25 r:=by kernel_rfl
attribute [local simp] aYN Ob.k25
set_option maxHeartbeats 8000000 in
theorem aPd {o:Oc} (hO:OW o) (t:Trn) (p:Pt) (m:List Int) (cC:t.ok o) (htl:(d9 t).length≤17592186044416) (wB:m.length≤4611686018427387904) (hp:Hp) (n cc:Nat) (hK:RLies o t p hp n):
  yL Tryz.prog Ob.cfg 25 [.ptr p.a.x p.a.gx 0,dL (bQ m)] hp n cc (dI (vH o.en t m).2) (cQ p) (fun bB=>RLies o (vH o.en t m).1 p bB n):=by
 have hc:t.c∈o.cl:=((Trn.ok_eq o t).1 cC).1
 obtain ⟨lx,kD⟩:=hK.ob
 simp only[rO] at lx kD
 have nx:=nf lx
 obtain ⟨F,G,hF⟩:=fY (C:=fun eW n2=>Ag n hp eW∧n≤n2) (P:=Tryz.prog) (cfg:=Ob.cfg) (f:=57) (vs:=[.ptr p.a.x p.a.gx 0]) (v:=dL (bQ (d9 t))) (fun eW n2 c2 hC=>aNk hO (t.ht+1) t p (Nat.lt_succ_self _) cC htl eW n2 c2 (hK.mono hC.1 hC.2))
 have hr:=fun eW n2 c2 a b=>hF eW n2 c2 ⟨a,b⟩
 simp only[dL] at hr
 unfold vH
 refine oP Tryz.func25 rfl (by kernel_rfl) rfl ?_
 by_cases q1:m.length=(d9 t).length
 case neg=>
  rw[if_pos q1]
  have q1':=eq_false (show ¬ (m.length:Int)=(d9 t).length by omega)
  refine bN (qJ @aN @aO @aB @aA @aH @aI @kD @nx @hr @aZ @aV @q1') ?_
  exact ⟨.inr rfl,_,[],rfl,rfl,rfl,WI.refl,hK.mono (by simp[cN,cE]) (Nat.le_refl _)⟩
 rw[if_neg (fun h=>h q1)]
 have q1':=eq_true (show (m.length:Int)=(d9 t).length by omega)
 refine bN (qJ @aN @aO @aB @aA @aH @aI @kD @nx @hr @aZ @aV @q1') ?_
 apply WP.loop' (I:=fun D st=>∃ (i c':Nat) (wl:List Nat) (bB:Hp),i+D=(d9 t).length∧(((d9 t).zip m).take i).all (fun e=>gB o.en e.1 e.2)=true∧WI (cQ p) n hp wl bB∧Ag n hp bB∧
  st=⟨[(0,.ptr p.a.x p.a.gx 0),(1,dL (bQ m)),(5,dL (bQ (d9 t))),(6,dI i)],bB,n,c',n,wl⟩) (d:=(d9 t).length)
 ·exact ⟨0,_,_,_,by simp,by simp,WI.refl,Ag.refl n hp,bK (by simp[dI,dL]) rfl⟩
 rintro D _ ⟨i,c',wl,bB,hi,cF,d6,dW,rfl⟩
 have fN:=(dW _ lx).trans kD
 refine iX (j3 @aB @aA @aZ) ?_
 show WP _ _ _ _ _ _
 refine WP.cond _ rfl (fun hb=>?_) (fun hb=>?_)
 ·simp at hb
  have bP:i<(d9 t).length:=by omega
  obtain ⟨d,hd,d8,bV⟩:=bM bP
  have cG:=cP hd
  obtain ⟨w,hw,hwm,vZ⟩:=bM (show i<m.length by omega)
  have wA:=cP hw
  have c9:=bE bP (by omega)
  have hzd:((d9 t).zip m)[i]?=some (d,w):=by rw[List.getElem?_zip_eq_some];exact ⟨hd,hw⟩
  have hh:=aKi o.en d w (aFN hO t cC d d8)
  simp only[dL,dI,dB] at hh
  have hs:=bZ (p:=fun e:Int×Int=>gB o.en e.1 e.2) hzd
  cases hz:gB o.en d w with
  | true=>
   rw[hz] at hh
   refine bN (qJ @aB @aA @bV @cG @aH @aI @vZ @wA @aZ @fN @nx @hh) ?_
   refine aY (by simp[-a9,c9];exact Is.rfl) ?_
   exact ⟨D - 1,by omega,i+1,_,_,_,by omega,by rw[hs,cF,hz];rfl,WI.trunc d6 (Nat.le_refl _),by simp[dW],bK (by simp[dI,dL,c9]) rfl⟩
  | false=>
   rw[hz] at hh
   have hk:okM o.en (d9 t) m=false:=by
    unfold okM
    cases ha:((d9 t).zip m).all (fun p=>gB o.en p.1 p.2) with
    | false=>rfl
    | true=>
     have:=List.all_eq_true.1 ha _ (List.mem_of_getElem? hzd)
     simp only at this
     rw[hz] at this;cases this
   rw[if_pos hk]
   refine bN (qJ @aB @aA @bV @cG @aH @aI @vZ @wA @aZ @fN @nx @hh) ?_
   exact ⟨.inr rfl,_,[],rfl,rfl,rfl,d6,hK.mono (by simp[dW]) (Nat.le_refl _)⟩
 simp at hb
 have kP:i=(d9 t).length:=by omega
 have hk:okM o.en (d9 t) m=true:=by
  have hzt:((d9 t).zip m).take i=(d9 t).zip m:=List.take_of_length_le (by simp;omega)
  rw[hzt] at cF;exact cF
 rw[if_neg (by simp[hk])]
 refine bN (jn @aB @aA) ?_
 apply WP.gen3
 intro fX c3 wl3 eG iT
 have tI:Ag n hp fX:=by rw[eG];exact dW
 have mX:WI (cQ p) n hp wl3 fX:=by rw[eG,iT];exact d6
 clear eG iT
 obtain ⟨q,lZ,hv,hn,rX,lY,lD,yH,mY,dD⟩:=(aOK hO (t.ht+1) t p m (Nat.lt_succ_self _) cC (by omega) wB fX n c3 (hK.mono tI (Nat.le_refl n))).caller (fun k h=>hK.lt k h)
 simp only[dL] at lZ hv
 refine bN (j4 @aB @aA @hv @hn) ?_
 exact ⟨.inr rfl,_,[],rfl,rfl,rfl,mX.sets fun x hx=> .inl (lY x.1 (List.mem_map.2 ⟨x,hx,rfl⟩)),(mY.after dD).mono (by simp[cN,cE]) (Nat.le_refl _)⟩
end Go.Ac
end
section
set_option maxRecDepth 4000
namespace Go.Ac
open Go.Proofs
theorem aKp {α β:Type}:∀ (k:List α) (m:List β),k.length≤m.length→(k.zip m).map Prod.snd=m.take k.length
 | [],m,_=>by simp
 | x::k,[],h=>by simp at h
 | x::k,y::m,h=>by
  rw[List.zip_cons_cons,List.map_cons,aKp k m (by simpa using h),List.length_cons,List.take_succ_cons]
theorem aPe (t:Trn) (m:List Int):(qA t m).c=t.c:=by cases t;rw[qA];rfl
section
variable {o:Oc} (hw:∀ c,c∈o.cl→CWf o c)
include hw
mutual
theorem aKx:∀ (t:Trn) (m:List Int),t.ok o→(d9 t).length≤m.length→(∀ (i:Nat) (u v:Int),(d9 t)[i]?=some u→m[i]?=some v→gB o.en u v=true)→(qA t m).ok o∧mS (qA t m)=m.take (d9 t).length
 | .mk c ms sb,m,h,hl,ht=>by
  rw[Trn.ok] at h
  obtain ⟨hc,hm,hs⟩:=h
  have hn:=(hw c hc).mn
  rw[d9] at hl ht
  rw[List.length_append,List.length_map] at hl
  have hf:((c.mems.map Mm.nm).zip m).map Prod.fst=c.mems.map Mm.nm:=List.map_fst_zip (by simp;omega)
  have y6:=aKp (c.mems.map Mm.nm) m (by simp;omega)
  rw[List.length_map] at y6
  have hgz:=aMs (l:=(c.mems.map Mm.nm).zip m) (by rw[hf];exact hn)
  rw[hf,y6,List.map_map] at hgz
  obtain ⟨k1,k2⟩:=aHp sb c.ins (m.drop c.mems.length) hs (by rw[List.length_drop];omega) fun i u v h1 h2=>ht (c.mems.length+i) u v (by rw[List.getElem?_append_right (by simp)];simpa using h1) (by rw[List.getElem?_drop] at h2;exact h2)
  rw[qA,xI (hm.1.trans hf.symm) (by rw[hm.1];exact hn),Trn.ok,mS]
  refine ⟨⟨hc,⟨hf,fun nm hnm=>?_⟩,k1⟩,?_⟩
  ·obtain ⟨d,hd,rfl,he⟩:=wU hnm
   rw[he]
   obtain ⟨j,hj⟩:=List.mem_iff_getElem?.1 hd
   have hjl:=(List.getElem?_eq_some_iff.1 hj).1
   have h1:(c.mems.map (gz ((c.mems.map Mm.nm).zip m)∘Mm.nm))[j]?=some (gz ((c.mems.map Mm.nm).zip m) d.nm):=by rw[List.getElem?_map,hj];rfl
   rw[hgz,List.getElem?_take,if_pos hjl] at h1
   exact ht j d.t _ (by rw[List.getElem?_append_left (by simpa using hjl),List.getElem?_map,hj];rfl) h1
  ·rw[k2,d9,List.length_append,List.length_map]
   show c.mems.map (gz ((c.mems.map Mm.nm).zip m)∘Mm.nm)++_=_
   rw[hgz,List.take_add]
theorem aHp:∀ (l:List Trn) (is:List Ii) (m:List Int),rS o l is→(iW l).length≤m.length→(∀ (i:Nat) (u v:Int),(iW l)[i]?=some u→m[i]?=some v→gB o.en u v=true)→rS o (kJ l m) is∧oY (kJ l m)=m.take (iW l).length
 | [],is,m,h,hl,ht=>by have _:=hw;rw[rS] at h;rw[kJ,rS,oY,iW];exact ⟨h,by simp⟩
 | t::r,[],m,h,hl,ht=>by rw[rS] at h;exact h.elim
 | t::r,d::is,m,h,hl,ht=>by
  rw[rS] at h
  rw[iW] at hl ht
  rw[List.length_append] at hl
  obtain ⟨k1,k2⟩:=aKx t m h.2.1 (by omega) fun i u v h1 h2=>ht i u v (by rw[List.getElem?_append_left (List.getElem?_eq_some_iff.1 h1).1];exact h1) h2
  obtain ⟨k3,k4⟩:=aHp r is (m.drop (d9 t).length) h.2.2 (by rw[List.length_drop];omega) fun i u v h1 h2=>ht ((d9 t).length+i) u v (by rw[List.getElem?_append_right (by simp)];simpa using h1) (by rw[List.getElem?_drop] at h2;exact h2)
  rw[kJ,rS,oY,iW,k2,k4,aPe,List.length_append,List.take_add]
  exact ⟨⟨h.1,k1,k3⟩,rfl⟩
end
theorem aMy {t:Trn} (ht:t.ok o) (m:List Int):(vH o.en t m).1.ok o∧(vH o.en t m).1.bare=t.bare∧((vH o.en t m).2=0→mS (vH o.en t m).1=m):=by
 unfold vH
 split
 ·exact ⟨ht,rfl,fun h=>by simp at h⟩
 ·rename_i h1
  split
  ·exact ⟨ht,rfl,fun h=>by simp at h⟩
  ·rename_i h2
   have h1:m.length=(d9 t).length:=by omega
   obtain ⟨k1,k2⟩:=aKx hw t m ht (by omega) fun i u v a b=>by
    have h3:okM o.en (d9 t) m=true:=by simpa using h2
    unfold okM at h3
    exact List.all_eq_true.1 h3 (u,v) (List.mem_of_getElem? (i:=i) (by rw[List.getElem?_zip_eq_some];exact ⟨a,b⟩))
   refine ⟨k1,qQ t m,fun _=>?_⟩
   rw[k2,←h1,List.take_length]
end
end Go.Ac
end
section
set_option maxRecDepth 4000
namespace Go.Ac
open Go.Proofs
attribute [local simp] Hp.get_set gX
theorem aYi (r:Nat):Ob.keep 18 r=Ob.k18 r:=by kernel_rfl
attribute [local simp] aYi Ob.k18
section
variable (o:Oc) (nm:Tx) (gK:o.sz≤2097152) (cC:o.ok)
include gK cC
theorem aIu (h:dH o≠0):eJ Tryz.prog Ob.cfg 18 [aG o.cells,dS nm]=some (.tuple [.con (.pointer none),dI (dH o)]):=by
 have hc:=zI o gK cC
 simp only[aG,Oc.cells,List.map_cons,List.map_nil,dI] at hc
 refine bI Tryz.func18 rfl (by kernel_rfl) rfl rfl ?_
 refine pZ (j7 @aB @aM @aD @aJ @hc @h @aV) ?_
 show a8 _ _ _ _ _
 exact ⟨.inr rfl,_,_,rfl,rfl⟩
theorem aGX (h:dH o=0) (hf:(dC o.cl nm).2=false):eJ Tryz.prog Ob.cfg 18 [aG o.cells,dS nm]=some (.tuple [.con (.pointer none),dI 6]):=by
 have hc:=zI o gK cC
 unfold Oc.sz at gK
 have k2:=l7 o.cl
 have hx:=aAA o nm (by unfold MX;omega)
 rw[hf] at hx
 rw[h] at hc
 simp only[aG,Oc.cells,Cl.cells,List.map_cons,List.map_nil,dI,dS,dB] at hc hx
 refine bI Tryz.func18 rfl (by kernel_rfl) rfl rfl ?_
 refine pZ (j9 @aB @aM @aD @aJ @hc @hx @aV @aH @aI) ?_
 show a8 _ _ _ _ _
 exact ⟨.inr rfl,_,_,rfl,rfl⟩
theorem aLd (h:dH o=0) (hf:(dC o.cl nm).2=true):∃ (q:CR) (p:Pt),nV Tryz.prog Ob.cfg 18 [aG o.cells,dS nm] [] 0 0=some q∧q.v= .tuple [.ptr p.a.x p.a.gx 0,dI 0]∧RLies o (i5 o o.cl.length (dC o.cl nm).1) p q.hp q.n:=by
 have hc:=zI o gK cC
 obtain ⟨i,hxi,hia,_⟩:=aAI hf
 have aEv:=(List.getElem?_eq_some_iff.1 hia).1
 obtain ⟨q,p,hI1,hqv,pR⟩:=aMH h gK (i+1) i _ (Nat.lt_succ_self i) hia
 rw[←oJ h o.cl.length o.cl.length i _ (Nat.le_refl _) hia aEv] at pR
 unfold Oc.sz at gK
 have k2:=l7 o.cl
 have hx:=aAA o nm (by unfold MX;omega)
 rw[hf] at hx
 rw[h] at hc
 generalize (dC o.cl nm).1=c at hI1 pR hx
 simp only[aG,Oc.cells,Cl.cells,List.map_cons,List.map_nil,dI,dS,dB] at hc hx hI1
 have hI2:d7 fF q.v=none:=by rw[hqv];rfl
 have main:∃ (v:V) (t:St),nV Tryz.prog Ob.cfg 18 [aG o.cells,dS nm] [] 0 0=some ⟨v,t.hp,t.n,t.c,t.wl⟩∧∃ p:Pt,v= .tuple [.ptr p.a.x p.a.gx 0,dI 0]∧RLies o (i5 o o.cl.length c) p t.hp t.n:=by
  refine wV (Q:=fun v (t:St)=>∃ p:Pt,v= .tuple [.ptr p.a.x p.a.gx 0,dI 0]∧RLies o (i5 o o.cl.length c) p t.hp t.n) Tryz.func18 rfl (by kernel_rfl) ?_
  refine pZ (u7 @aN @aO @aB @aM @aD @aJ @hc @hx @aV @aH @aI) ?_
  obtain ⟨p2,eW⟩:∃ p2,p2=p.sh 2 2:=⟨_,rfl⟩
  have hI3:cX 2 2 q.v= .ptr p2.a.x p2.a.gx 0:=by rw[hqv,eW,Pt.sh_a];simp[cX,Pb.sh]
  obtain ⟨W1,yG⟩:∃ W,iI 2 2 (kL q.hp.get (List.range q.n))=W:=⟨_,rfl⟩
  have hL2:∀ H:Hp,RLies o (i5 o o.cl.length c) p2 (H.sets W1) (q.n+2):=fun H=>by rw[←yG,eW];exact pR.import
  refine pZ (jn @aB @aA) ?_
  refine ⟨.inr rfl,_,rfl,.inr rfl,p2,rfl,(hL2 _).same (fun _ _=>rfl) ?_⟩
  show q.n+2≤2+q.n
  omega
 obtain ⟨v,t,h1,p,h2,h3⟩:=main
 exact ⟨_,p,h1,h2,h3⟩
end
attribute [local simp] aTs Ob.k14 aTO Ob.k21 aTZ Ob.k23 aTk Ob.k24 aUq Ob.k22
end Go.Ac
end
section
set_option maxRecDepth 4000
namespace Go.Ac
open Go.Proofs
attribute [local simp] Hp.get_set gX bW
structure Both (o:Oc) (t:Trn) (p:Pt) (u:Trn) (r:Pt) (hp:Hp) (n:Nat):Prop where
 a:Lies o.en t p hp n
 b:RLies o u r hp n
 d:∀ k,k∈cQ r→k∉lT p++dE p
section
variable {o:Oc} {t t' u u':Trn} {p r r':Pt} {hp bB yH:Hp} {n n':Nat}
theorem Both.stepa (h:Both o t p u r hp n) (hL:Lies o.en t' p bB n) (hf:∀ k,k<n→k∉dE p→bB.get k=hp.get k):Both o t' p u r bB n:=
 ⟨hL,h.b.same (fun k hk=>hf k (h.b.lt k hk) fun h2=>h.d k hk (List.mem_append_right _ h2)) (Nat.le_refl _),h.d⟩
theorem Both.stepb (h:Both o t p u r hp n) (hL:RLies o u' r' bB n') (hm:Moved r r' n) (hn:n≤n') (hf:∀ k,k<n→k∉cQ r→bB.get k=hp.get k):Both o t p u' r' bB n':=by
 have eU:∀ k,k∈lT p++dE p→k<n:=fun k hk=>by
  rcases List.mem_append.1 hk with hk|hk
  ·exact h.a.sids_lt k hk
  ·exact h.a.mids_lt k hk
 refine ⟨h.a.same2 (fun k hk=>hf k (eU k hk) fun h2=>h.d k h2 hk) hn,hL,fun k hk h2=>?_⟩
 rcases hm.sub k hk with h3|h3
 ·exact h.d k h3 h2
 ·have:=eU k h2;omega
theorem Both.mono (h:Both o t p u r hp n) (ha:Ag n hp bB):Both o t p u r bB n:=⟨h.a.mono ha (Nat.le_refl _),h.b.mono ha (Nat.le_refl _),h.d⟩
end
attribute [local simp] aTA Ob.k20
end Go.Ac
end
section
set_option maxRecDepth 4000
namespace Go.Ac
open Go.Proofs
attribute [local simp] Hp.get_set gX bW
theorem kf7 (r:Nat):Ob.keep 7 r=Ob.k7 r:=by kernel_rfl
attribute [local simp] kf7 Ob.k7
set_option maxHeartbeats 8000000 in
theorem loads_den (o:Oc) (nm:Tx) (rows:List (List Int)) (ml:List Int) (gK:o.sz≤2097152) (cC:o.ok) (tJ:rows.length≤1048576) (hr2:∀ r∈rows,r.length≤1048576) (hr3:ml.length≤1048576):eJ Tryz.prog Ob.cfg 7 [aG o.cells,dS nm,dLL rows,dL (bQ ml)]=some (dB true):=by
 have haw:=aLD
 simp only[dB] at haw
 by_cases aSa:12<rM o.cl
 ·have hh:=aKK o (by unfold MX;omega) aSa
  simp only[aG,Oc.cells,List.map_cons,List.map_nil,dB,dI] at hh
  refine bI Tryz.func7 rfl (by kernel_rfl) rfl rfl ?_
  refine gN (j9 @aD @aJ @dLL.eq_1 @aA @aM @hh @haw @kQ @aZ) ?_
  show a8 _ _ _ _ _
  exact ⟨.inr rfl,_,_,rfl,rfl⟩
 obtain ⟨bh,hh⟩:=aLq o (by unfold MX;omega)
 have aNK:=gK
 unfold Oc.sz at aNK
 have k2:=l7 o.cl
 simp only[aG,Oc.cells,List.map_cons,List.map_nil,dB,dI] at hh
 cases bh with
 | true=>
  refine bI Tryz.func7 rfl (by kernel_rfl) rfl rfl ?_
  refine gN (j9 @aD @aJ @dLL.eq_1 @aA @aM @hh @haw @kQ @aZ) ?_
  show a8 _ _ _ _ _
  exact ⟨.inr rfl,_,_,rfl,rfl⟩
 | false=>
 by_cases c1:40<rows.length
 ·have c1':=eq_true (show (40:Int)<rows.length by omega)
  refine bI Tryz.func7 rfl (by kernel_rfl) rfl rfl ?_
  refine gN (oR @aD @aJ @dLL.eq_1 @aA @aM @hh @haw @kQ @aZ @c1') ?_
  show a8 _ _ _ _ _
  exact ⟨.inr rfl,_,_,rfl,rfl⟩
 have c1':=eq_false (show ¬ (40:Int)<rows.length by omega)
 by_cases c2:1000<ml.length
 ·have c2':=eq_true (show (1000:Int)<ml.length by omega)
  refine bI Tryz.func7 rfl (by kernel_rfl) rfl rfl ?_
  refine gN (u7 @aD @aJ @dLL.eq_1 @aA @aM @hh @haw @kQ @aZ @c1' @c2') ?_
  show a8 _ _ _ _ _
  exact ⟨.inr rfl,_,_,rfl,rfl⟩
 have c2':=eq_false (show ¬ (1000:Int)<ml.length by omega)
 have bad:∀ e:Int,e≠0→eJ Tryz.prog Ob.cfg 13 [aG o.cells,dS nm]=some (.tuple [.con (.pointer none),dI e])→eJ Tryz.prog Ob.cfg 18 [aG o.cells,dS nm]=some (.tuple [.con (.pointer none),dI e])→eJ Tryz.prog Ob.cfg 7 [aG o.cells,dS nm,dLL rows,dL (bQ ml)]=some (dB true):=by
  intro e he hb lC
  have he':=eq_false he
  simp only[aG,Oc.cells,List.map_cons,List.map_nil,dS,dI] at hb lC
  refine bI Tryz.func7 rfl (by kernel_rfl) rfl rfl ?_
  refine gN (sG @aD @aJ @aB @dLL.eq_1 @aA @aM @hh @haw @kQ @aZ @c1' @c2' @hb @lC @aS @aV @he') ?_
  show a8 _ _ _ _ _
  exact ⟨.inr rfl,_,_,rfl,rfl⟩
 by_cases vD:dH o=0
 case neg=>exact bad _ vD (aLA o nm gK cC vD) (aIu o nm gK cC vD)
 cases hfn:(dC o.cl nm).2 with
 | false=>exact bad 6 (by omega) (aIW o nm gK cC vD hfn) (aGX o nm gK cC vD hfn)
 | true=>
 have hO:=aVv gK cC vD
 obtain ⟨i,_,hia,_⟩:=aAI hfn
 have aEv:=(List.getElem?_eq_some_iff.1 hia).1
 obtain ⟨q,p0,hI1,hqv,pR⟩:=aMM o nm gK cC vD hfn
 obtain ⟨rq,r0,hJ1,hrv,hLr⟩:=aLd o nm gK cC vD hfn
 have hto:=aFI vD o.cl.length i _ hia aEv
 have hml:∀ c,c∈o.cl→c.mems.length≤2097152:=fun c hc=>by
  have h1:=qE hc
  unfold Cl.sz at h1
  have h2:=u6 c.mems
  omega
 have oV:=aEO vD hml o.cl.length i _ hia aEv
 have aZW:2097152*2 ^ rM (o.cl.take (i+1))≤2097152*2 ^ 12:=Nat.mul_le_mul_left _ (Nat.pow_le_pow_right (by omega) (by have:=xU o.cl o.cl.length (i+1) (by omega);rw[List.take_length] at this;omega))
 generalize i5 o o.cl.length (dC o.cl nm).1=t0 at pR hLr hto oV
 have hM0:(mS t0).length≤17592186044416:=by omega
 clear oV aZW hml
 have e9:∀ t:Trn,t.ok o→t.bare=t0.bare→(mS t).length≤17592186044416:=fun t ht hb=>by
  have h1:=aCI hO.wf t ht
  have h2:=aCI hO.wf t0 hto
  rw[aHa hO.wf t t0 hb] at h1
  omega
 have hI2:d7 fF q.v=none:=by rw[hqv];rfl
 have hJ2:d7 fF rq.v=none:=by rw[hrv];rfl
 obtain ⟨p,hp⟩:∃ p,p=p0.sh 1 1:=⟨_,rfl⟩
 have hI3:cX 1 1 q.v= .tuple [.ptr p.a.x p.a.gx 0,dI 0]:=by rw[hqv,hp,Pt.sh_a];simp[cX,dQ,Pb.sh,dI]
 obtain ⟨W1,yG⟩:∃ W,iI 1 1 (kL q.hp.get (List.range q.n))=W:=⟨_,rfl⟩
 simp only[aG,Oc.cells,List.map_cons,List.map_nil,dS] at hI1 hJ1
 refine bI Tryz.func7 rfl (by kernel_rfl) rfl rfl ?_
 refine gN (qJ @aD @aJ @aB @dLL.eq_1 @aA @aM @hh @haw @kQ @aZ @c1' @c2') ?_
 apply WP.gen
 intro n9 wl1 eG aWv
 have aBO:wl1=[]:=aWv
 subst aBO
 have h0:n9.get 0=some ⟨0,false,[V.d (.slice (f9 o.en)),V.d (.slice (gJ o.cl))]⟩:=by rw[eG,←yG,oD (by omega)];rfl
 have hL1:Lies o.en t0 p n9 (1+q.n):=by rw[eG,←yG,hp,Nat.add_comm];exact pR.import
 clear eG aWv hI3 yG hI1 hI2
 obtain ⟨n1,hn1⟩:∃ n1,n1=1+q.n:=⟨_,rfl⟩
 obtain ⟨cc1,aZX⟩:∃ n1,n1=1+q.c:=⟨_,rfl⟩
 rw[←hn1] at hL1
 rw[←hn1,←aZX]
 obtain ⟨r,hr⟩:∃ r,r=r0.sh n1 cc1:=⟨_,rfl⟩
 have hI1:=hJ1
 have hI2:=hJ2
 have hI3:cX n1 cc1 rq.v= .tuple [.ptr r.a.x r.a.gx 0,dI 0]:=by rw[hrv,hr,Pt.sh_a];simp[cX,dQ,Pb.sh,dI]
 obtain ⟨W2,yG⟩:∃ W,iI n1 cc1 (kL rq.hp.get (List.range rq.n))=W:=⟨_,rfl⟩
 refine gN (j6 @aD @aJ @aB @dLL.eq_1 @aM @h0) ?_
 apply WP.gen
 intro eW wl2 eG aNS
 have aBO:wl2=[]:=aNS
 subst aBO
 have hT:Both o t0 p t0 r eW (n1+rq.n):=by
  refine ⟨?_,?_,fun k hk yE=>?_⟩
  ·rw[eG];exact hL1.mono (fun k hk=>by rw[←yG,oD hk]) (by omega)
  ·rw[eG,←yG,hr,Nat.add_comm];exact hLr.import
  ·have h2:n1≤k:=by rw[hr] at hk;exact aFT _ _ _ k hk
   rcases List.mem_append.1 yE with yE|yE
   ·have:=hL1.sids_lt k yE;omega
   ·have:=hL1.mids_lt k yE;omega
 have hN0:0<n1+rq.n:=by omega
 clear eG aNS hI3 yG hI1 hI2 hJ1 hJ2 hL1 h0 hqv pR hrv hLr
 generalize n1+rq.n=N at hT hN0 ⊢
 generalize cc1+rq.c=C at ⊢
 obtain ⟨lp,hop⟩:=hT.a.ob
 obtain ⟨lr,hor⟩:=hT.b.ob
 simp only[oO] at hop
 simp only[rO] at hor
 have np:=nf lp
 have nr:=nf lr
 refine gN (oR @aB @aA @dLL.eq_1 @aV @aS @hop @hor @np @nr @kQ) ?_
 apply WP.loop' (I:=fun D s=>∃ (j c' N:Nat) (bB:Hp) (t:Trn) (r':Pt),j+D=rows.length∧t.ok o∧t.bare=t0.bare∧Both o t p t r' bB N∧r'.a.x=r.a.x∧r'.a.gx=r.a.gx∧
  s=⟨[(2,dLL rows),(3,dL (bQ ml)),(9,.ptr p.a.x p.a.gx 0),(11,.ptr r.a.x r.a.gx 0),(13,dI j)],bB,N,c',0,[]⟩) (d:=rows.length)
 ·exact ⟨0,_,_,_,t0,r,by simp,hto,rfl,hT,rfl,rfl,bK (by simp[dI,dL,dLL]) rfl⟩
 clear hT hop hor lp lr np nr hN0
 clear N
 rintro D _ ⟨j,c',N,bB,t,r',hj,aIe,htb,hT,hrx,hrg,rfl⟩
 rw[←hrx,←hrg]
 refine aMu (j4 @aB @dLL.eq_1 @aA @kQ) ?_
 show WP _ _ _ _ _ _
 refine WP.cond _ rfl (fun hb=>?_) (fun hb=>?_)
 ·simp at hb
  have bP:j<rows.length:=by omega
  have c9:=bE bP (by omega)
  have bV:=kX bP
  have dK:=aNx bP
  obtain ⟨row,aPR⟩:∃ r,r=rows.getD j []:=⟨_,rfl⟩
  have hrl:row.length≤1048576:=by rw[aPR];exact hr2 _ (by rw[List.getD_eq_getElem?_getD,List.getElem?_eq_getElem bP];exact List.getElem_mem bP)
  rw[←aPR] at dK
  refine gN (j3 @aB @dLL.eq_1 @kQ) ?_
  obtain ⟨r0,lZ,hv,hn,rX,lY,lD,yH,mY,dD⟩:=(aQp hO t p row aIe (by omega) bB N c' hT.a).caller (fun k h=>hT.a.mids_lt k h)
  obtain ⟨g1,g2,g3,g4,g5⟩:=aMB hO aIe row
  have hT4:=hT.stepa (hT.a.step (n:=N) g3 (fun k hk h=>lD k hk h) mY dD) (fun k hk h=>lD k hk h)
  simp only[dL,dI] at lZ hv
  refine gN (oR @aB @aA @dLL.eq_1 @kQ @bV @dK @aS @aV @hv @hn) ?_
  apply WP.gen3
  intro hp4 c4 wl4 eG aOa
  have aBO:wl4=[]:=aOa
  subst aBO
  rw[←eG] at hT4
  clear lZ rX hv hn lY lD mY dD eG aOa hT
  obtain ⟨vb,aAP⟩:=aOU vD gK hO t r' row aIe (by omega) hp4 N c4 hT4.b
  obtain ⟨q,lZ,hv,hn,rX,lY,lD,aZY,⟨⟨r2,hmv,mY⟩,aLH⟩,dD⟩:=aAP.caller (fun k h=>hT4.b.lt k h)
  have hT5:=hT4.stepb (mY.after dD) hmv hn (fun k hk h=>lD k hk h)
  have aWw:aOd (hp4.sets (sK q N)) N q.n vb (kK o.en t row).2.1:=by
   rcases aLH with ho|⟨id,g,o1,o2,o3,o4⟩
   ·exact .inl ho
   ·exact .inr ⟨id,g,o1,(dD id o4 (by rw[o2];rfl)).trans o2,o3,o4⟩
  have hN:N+(q.n - N)=q.n:=by omega
  clear aWw aLH
  generalize kK o.en t row=R at g1 g2 g3 g4 g5 hT5 hv ⊢
  obtain ⟨u,outs,e⟩:=R
  simp only at g1 g2 g3 g4 g5 hT5 hv ⊢
  simp only[dL,dI] at lZ hv
  have hub:=g3.trans htb
  refine gN (oR @aB @aA @dLL.eq_1 @kQ @bV @dK @aS @aV @hv @hN) ?_
  rw[←hmv.x,←hmv.g]
  refine aY (by simp[c9];exact Is.rfl) ?_
  exact ⟨D - 1,by omega,j+1,_,_,_,u,r2,by omega,g1,hub,hT5.mono (by simp[cN,cE]),rfl,rfl,bK (by simp[dI,dL,dLL,c9]) rfl⟩
 simp at hb
 refine gN (j3 @aB @dLL.eq_1 @aA) ?_
 have htt:∀ v:Trn,v.ok o→v.bare=t0.bare→(d9 v).length≤17592186044416:=fun v hv hb=>by rw[←aCI hO.wf v hv];exact e9 v hv hb
 obtain ⟨r0,lZ,hv,hn,rX,lY,lD,yH,mY,dD⟩:=(aRi hO t p ml aIe (htt t aIe htb) (by omega) bB N c' hT.a).caller (fun k h=>hT.a.mids_lt k h)
 obtain ⟨g1,g2,g3⟩:=aMy hO.wf aIe ml
 have hT4:=hT.stepa (hT.a.step (n:=N) g2 (fun k hk h=>lD k hk h) mY dD) (fun k hk h=>lD k hk h)
 simp only[dL,dI] at lZ hv
 refine gN (j7 @aB @aA @dLL.eq_1 @aS @aV @hv @hn) ?_
 apply WP.gen3
 intro hp4 c4 wl4 eG aOa
 have aBO:wl4=[]:=aOa
 subst aBO
 rw[←eG] at hT4
 clear lZ rX hv hn lY lD mY dD eG aOa hT
 obtain ⟨q,lZ,hv,hn,rX,lY,lD,aZY,mY,dD⟩:=(aPd hO t r' ml aIe (htt t aIe htb) (by omega) hp4 N c4 hT4.b).caller (fun k h=>hT4.b.lt k h)
 have hT5:=hT4.stepb (mY.after dD) Moved.refl (Nat.le_refl N) (fun k hk h=>lD k hk h)
 have hub:=g2.trans htb
 generalize vH o.en t ml=R at g1 g2 g3 hT5 hv hub ⊢
 obtain ⟨u,e⟩:=R
 simp only at g1 g2 g3 hT5 hv hub ⊢
 simp only[dL,dI] at lZ hv
 have rZ:=aQD (mS u) (mS u) (e9 u g1 hub) (e9 u g1 hub)
 rw[decide_eq_true rfl] at rZ
 obtain ⟨F,G,hF⟩:=fY (C:=fun bB n'=>Lies o.en u p bB n') (P:=Tryz.prog) (cfg:=Ob.cfg) (f:=21) (vs:=[.ptr p.a.x p.a.gx 0]) (v:=dL (bQ (mS u))) (fun bB n' c' hC=>aMf hO (u.ht+1) u p (Nat.lt_succ_self _) g1 (e9 u g1 hub) bB n' c' hC)
 obtain ⟨F2,G2,hF2⟩:=fY (C:=fun bB n'=>RLies o u r' bB n') (P:=Tryz.prog) (cfg:=Ob.cfg) (f:=22) (vs:=[.ptr r'.a.x r'.a.gx 0]) (v:=dL (bQ (mS u))) (fun bB n' c' hC=>aLe hO (u.ht+1) u r' (Nat.lt_succ_self _) g1 (e9 u g1 hub) bB n' c' hC)
 simp only[dL,dB] at rZ hF hF2
 have hLa:=eq_true hT5.a
 have hLb:=eq_true hT5.b
 by_cases he:e=0
 ·have hm:=g3 he
  rw[hm] at rZ hF hF2
  subst he
  refine gN (o9 @aB @aA @dLL.eq_1 @aS @aV @hv @hn @rZ @hF @hF2 @hLa @hLb @haw) ?_
  show a8 _ _ _ _ _
  exact ⟨.inr rfl,_,_,rfl,rfl⟩
 ·have he':=eq_false he
  refine gN (vM @aB @aA @dLL.eq_1 @aS @aV @hv @hn @rZ @hF @hF2 @hLa @hLb @haw @he') ?_
  show a8 _ _ _ _ _
  exact ⟨.inr rfl,_,_,rfl,rfl⟩
end Go.Ac
end
