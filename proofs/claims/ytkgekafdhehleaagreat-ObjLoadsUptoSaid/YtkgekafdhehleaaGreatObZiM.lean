/- Reset (the reference's). -/
import Derived.Test.YtkgekafdhehleaaGreatObYiM
import Derived.Test.YtkgekafdhehleaaGreatObH
import Derived.WalkKit
import Derived.ProofKit
import Derived.OpenShut
import Derived.JoinedCond
import Derived.Below
set_option linter.unusedVariables false
set_option linter.unusedSimpArgs false
section
set_option maxRecDepth 4000
namespace Go.Ac
open Go.Proofs
attribute [local simp] Hp.get_set gX bW
theorem aVv {o:Oc} (gK:o.sz≤2097152) (cC:o.ok) (h:dH o=0):OW o:=by
 unfold Oc.sz at gK
 have hm:∀ c,c∈o.cl→c.inn.length+c.out.length+c.loc.length+c.mems.length+c.ins.length+iG c.step≤2097152:=fun c hc=>by
  have sC:=qE hc
  unfold Cl.sz at sC
  have l1:=lG c.inn
  have l2:=lG c.out
  have l3:=lG c.loc
  have l4:=u6 c.mems
  have l5:=sO c.ins
  omega
 exact ⟨aAU h,fun c hc=>⟨by have:=hm c hc;omega⟩,cC,fun c hc=>by have:=hm c hc;omega⟩
theorem aNx {l:List (List Int)} {j:Nat} (h:j<l.length):(aLh l)[j]?=some [.slice (bQ (l.getD j []))]:=by
 unfold aLh;simp[List.getD,h]
theorem kQ (l:List (List Int)):(aLh l).length=l.length:=by unfold aLh;simp
theorem aMB {o:Oc} (hO:OW o) {t:Trn} (ht:t.ok o) (ins:List Int):(kK o.en t ins).1.ok o∧(kK o.en t ins).1.c=t.c∧(kK o.en t ins).1.bare=t.bare∧((kK o.en t ins).2.2=0→aAf o.en t.c.out (kK o.en t ins).2.1)∧((kK o.en t ins).2.2≠0→(kK o.en t ins).2.1=[]):=by
 unfold kK
 split
 ·exact ⟨ht,rfl,rfl,fun h=>by simp at h,fun _=>rfl⟩
 ·rename_i h1
  split
  ·exact ⟨ht,rfl,rfl,fun h=>by simp at h,fun _=>rfl⟩
  ·rename_i h2
   have:=tO hO.wf t.ht t ins (Nat.le_refl _) ht (aIv (by simpa using h1) (by simpa using h2))
   exact ⟨this.1,this.2.1,mD _ _ _,fun _=>this.2.2.2,fun h=>absurd rfl h⟩
theorem Lies.step {en:List En} {t u:Trn} {p:Pt} {hp bB yH:Hp} {n:Nat} (h:Lies en t p hp n) (hb:u.bare=t.bare) (hf:∀ k,k<n→k∉dE p→bB.get k=hp.get k) (hm:∀ e,e∈oF u p→yH.get e.1=some e.2) (hs:∀ k,k<n→(yH.get k).isSome=true→bB.get k=yH.get k):Lies en u p bB n:=by
 refine h.upd hb hf fun e he=>?_
 have hfi:Go.Ac.fit u p:=by rw[←dA,hb,dA];exact h.fit
 have eU:=h.mids_lt e.1 (by rw[←eB _ _ hfi];exact List.mem_map.2 ⟨e,he,rfl⟩)
 have h2:=hm e he
 rw[hs _ eU (by rw[h2];rfl)];exact h2
end Go.Ac
end
section
set_option maxRecDepth 4000
namespace Go.Ac
open Go.Proofs
attribute [local simp] Hp.get_set cY cE cN bW
theorem aDC (look:cA) (e b:Nat) (z:Option (List V)) {sz:Nat} {rows:List (List D)} (hr:∀ r∈rows,r.length=sz) {j:Nat} (h:j≤rows.length):
  rQ look ⟨.slice e sz b,1,24,z⟩ (.d (.slice rows)) (some (.d (.int .i64 j))) none none=ret (.d (.slice (rows.drop j))):=by
 have ha:rows.all (fun r=>Nat.beq r.length sz)=true:=by rw[List.all_eq_true];intro r hm;rw[hr r hm];exact tW sz
 have e1:yV none rows.length=some rows.length:=rfl
 have e2:yV (some (V.d (.int .i64 (j:Int)))) 0=some j:=by
  unfold yV;simp
 unfold rQ
 simp only[e1,e2,ha]
 rw[if_pos ⟨h,Nat.le_refl _,trivial⟩,List.take_length]
theorem aHj (look:cA) (e b:Nat) (z:Option (List V)) {sz:Nat} {rows:List (List D)} (hr:∀ r∈rows,r.length=sz) (h:1≤rows.length):
  rQ look ⟨.slice e sz b,1,24,z⟩ (.d (.slice rows)) (some (.d (.int .i64 1))) none none=ret (.d (.slice (rows.drop 1))):=aDC look e b z hr (j:=1) h
theorem aEE (l:List Int) (j:Nat):(bQ l).drop j=bQ (l.drop j):=by unfold bQ;rw[List.map_drop]
theorem Lies.setM {en:List En} {c:Cl} {ms ms':List (Tx×Int)} {sb:List Trn} {pb:Pb} {ps:List Pt} {hp bB:Hp} {n:Nat} (h:Lies en (.mk c ms sb) (.mk pb ps) hp n) (hg:∀ id,id<n→bB.get id=if id=pb.im then some ⟨pb.gm,false,[fW eI ms']⟩ else hp.get id):Lies en (.mk c ms' sb) (.mk pb ps) bB n:=by
 have hnm:pb.im∉dY ps:=by
  have:=h.nd
  unfold Pt.nd at this
  rw[dE,List.nodup_append,List.nodup_cons] at this
  exact this.2.1.1
 have fA:=h.fit
 rw[Go.Ac.fit] at fA
 obtain ⟨lm,hmo⟩:=h.me (pb.im,⟨pb.gm,false,[fW eI ms]⟩) (by rw[oF];simp)
 refine h.upd (by rw[Trn.bare,Trn.bare]) (fun k hk hm=>?_) fun q hq=>?_
 ·rw[hg k hk,if_neg]
  intro e;exact hm (by rw[dE];simp[e])
 ·rw[oF,List.mem_cons] at hq
  rcases hq with hq|hq
  ·subst hq;rw[hg _ lm,if_pos rfl]
  ·obtain ⟨h1,h2⟩:=h.me q (by rw[oF];exact List.mem_cons_of_mem _ hq)
   rw[hg _ h1,if_neg,h2]
   intro e
   have:q.1∈dY ps:=by rw[←lW sb ps fA.2];exact List.mem_map.2 ⟨q,hq,rfl⟩
   rw[e] at this;exact hnm this
theorem Lies.setS {en:List En} {c:Cl} {ms:List (Tx×Int)} {sb:List Trn} {pb:Pb} {ps:List Pt} {hp bB:Hp} {n:Nat} (h:Lies en (.mk c ms sb) (.mk pb ps) hp n) {i:Nat} {t u:Trn} {q:Pt} (ht:sb[i]?=some t) (hq:ps[i]?=some q) (hb:u.bare=t.bare) (hf:∀ id,id<n→id∉dE q→bB.get id=hp.get id) (hm:∀ e,e∈oF u q→bB.get e.1=some e.2):Lies en (.mk c ms (sb.set i u)) (.mk pb ps) bB n:=by
 have mB:(pb.im::dY ps).Nodup:=by
  have:=h.nd
  unfold Pt.nd at this
  rw[dE,List.nodup_append] at this
  exact this.2.1
 rw[List.nodup_cons] at mB
 have fA:=h.fit
 rw[Go.Ac.fit] at fA
 obtain ⟨lm,hmo⟩:=h.me (pb.im,⟨pb.gm,false,[fW eI ms]⟩) (by rw[oF];simp)
 refine h.upd (by rw[Trn.bare,Trn.bare,aAt ht hb]) (fun k hk hm=>hf k hk fun h2=>hm (by rw[dE];exact List.mem_cons_of_mem _ (jO ps i q hq k h2))) fun e he=>?_
 rw[oF,List.mem_cons] at he
 rcases he with he|he
 ·subst he
  rw[hf _ lm fun h2=>mB.1 (jO ps i q hq _ h2)];exact hmo
 ·obtain ⟨j,t2,p2,h1,h2,h3⟩:=(sS _ _ _).1 he
  rw[List.getElem?_set] at h1
  split at h1
  ·rename_i hij
   subst hij
   split at h1
   ·simp only[Option.some.injEq] at h1
    subst h1
    rw[hq] at h2
    simp only[Option.some.injEq] at h2
    subst h2
    exact hm e h3
   ·cases h1
  ·rename_i hij
   obtain ⟨g1,g2⟩:=h.me e (by rw[oF];exact List.mem_cons_of_mem _ ((sS _ _ _).2 ⟨j,t2,p2,h1,h2,h3⟩))
   have hk:e.1∈dE p2:=by rw[←eB t2 p2 (qH sb ps j t2 p2 fA.2 h1 h2)];exact List.mem_map.2 ⟨e,h3,rfl⟩
   rw[hf _ g1 (aCP ps mB.2 j i p2 q h2 hq (fun e=>hij e.symm) _ hk)]
   exact g2
def vK (sb:List Trn) (m:List Int) (i:Nat):List Trn:=kJ (sb.take i) m++sb.drop i
theorem aEx:∀ (a b:List Trn) (m:List Int),kJ (a++b) m=kJ a m++kJ b (m.drop (iW a).length)
 | [],b,m=>by simp[kJ,iW]
 | t::r,b,m=>by
  rw[List.cons_append,kJ,kJ,iW,aEx r b,List.cons_append,List.length_append,List.drop_drop]
theorem xM:∀ (l:List Trn) (m:List Int),(kJ l m).length=l.length
 | [],m=>by rw[kJ]
 | t::r,m=>by rw[kJ,List.length_cons,List.length_cons,xM r]
theorem aDg (sb:List Trn) (m:List Int):vK sb m 0=sb:=by simp[vK,kJ]
theorem aEN (sb:List Trn) (m:List Int):vK sb m sb.length=kJ sb m:=by simp[vK]
theorem z7 (sb:List Trn) (m:List Int) {i:Nat} {t:Trn} (h:sb[i]?=some t):(vK sb m i)[i]?=some t:=by
 have eU:=(List.getElem?_eq_some_iff.1 h).1
 unfold vK
 rw[List.getElem?_append_right (by rw[xM];simp;omega),xM,List.getElem?_drop]
 have:i+(i - (sb.take i).length)=i:=by simp;omega
 rw[this];exact h
theorem aDe (sb:List Trn) (m:List Int) {i:Nat} {t:Trn} (h:sb[i]?=some t):vK sb m (i+1)=(vK sb m i).set i (qA t (m.drop (iW (sb.take i)).length)):=by
 have eU:=(List.getElem?_eq_some_iff.1 h).1
 have he:sb.drop i=t::sb.drop (i+1):=by
  rw[List.drop_eq_getElem_cons eU,(List.getElem?_eq_some_iff.1 h).2]
 have hl:(kJ (sb.take i) m).length=i:=by rw[xM];simp;omega
 unfold vK
 rw[bL h,aEx,he,List.set_append_right _ _ (by omega),hl,Nat.sub_self,List.set_cons_zero,kJ,kJ,List.append_assoc]
 rfl
theorem aWB (r:Nat):Ob.keep 56 r=Ob.k56 r:=by kernel_rfl
attribute [local simp] aWB Ob.k56
set_option maxHeartbeats 8000000 in
theorem aRx {o:Oc} (hO:OW o):∀ (N:Nat) (t:Trn) (p:Pt) (m:List Int),t.ht<N→t.ok o→(d9 t).length≤m.length→m.length≤4611686018427387904→∀ hp n cc,Lies o.en t p hp n→
  yL Tryz.prog Ob.cfg 56 [.ptr p.a.x p.a.gx 0,dL (bQ m)] hp n cc (dL (bQ (m.drop (d9 t).length))) (dE p) (fun bB=>∀ e,e∈oF (qA t m) p→bB.get e.1=some e.2):=by
 intro N
 induction N with
 | zero=>intro t p m h;omega
 | succ N ih=>
 intro t p m hht cC hml hmm hp n cc hK
 obtain ⟨c,ms,sb⟩:=t
 obtain ⟨pb,ps⟩:=p
 rw[Trn.ok] at cC
 rw[Trn.ht] at hht
 rw[d9] at hml ⊢
 rw[qA]
 rw[List.length_append,List.length_map] at hml
 have hc:=cC.1
 have gI:=(hO.len c hc).sum
 have aPs:=hK.nd
 unfold Pt.nd at aPs
 rw[lT,dE,List.nodup_append] at aPs
 have nxm:pb.x≠pb.im:=fun e=>aPs.2.2 pb.x (by simp) pb.im (by simp) e
 have nim:pb.ii≠pb.im:=fun e=>aPs.2.2 pb.ii (by simp) pb.im (by simp) e
 have hxo:=hK.st (pb.x,oO pb.gx o.en c pb.im pb.gm pb.ii pb.gi) (by rw[yI];simp)
 obtain ⟨lx,kD⟩:=hxo
 simp only[oO] at lx kD
 obtain ⟨li,hio⟩:=hK.st (pb.ii,⟨pb.gi,false,[fW eP (gT c ps)]⟩) (by rw[yI];simp)
 obtain ⟨lm,hmo⟩:=hK.me (pb.im,⟨pb.gm,false,[fW eI ms]⟩) (by rw[oF];simp)
 simp only at li hio lm hmo
 have nx:=nf lx
 have ni:=nf li
 have nm:=nf lm
 show yL Tryz.prog Ob.cfg 56 [.ptr pb.x pb.gx 0,dL (bQ m)] hp n cc _ _ _
 refine oP Tryz.func56 rfl (by kernel_rfl) rfl ?_
 refine bN (j9 @aN @aO @aB @aA @aH @aI @kD @nx @jC) ?_
 apply WP.loop' (I:=fun D st=>∃ (i c':Nat) (wl:List Nat) (bB:Hp),i+D=c.mems.length∧Lies o.en (.mk c (puts ms (((c.mems.map Mm.nm).zip m).take i)) sb) (.mk pb ps) bB n∧WI (dE (.mk pb ps)) n hp wl bB∧
  st=⟨[(0,.ptr pb.x pb.gx 0),(1,dL (bQ (m.drop i))),(13,dL (lF c.mems)),(14,dI c.mems.length),(15,dI i)],bB,n,c',n,wl⟩) (d:=c.mems.length)
 ·exact ⟨0,_,_,_,by simp,by simpa [puts] using hK,WI.refl,bK (by simp[dI,dL]) rfl⟩
 rintro D _ ⟨i,c',wl,bB,hi,hE,d6,rfl⟩
 have fN:=(hE.st (pb.x,oO pb.gx o.en c pb.im pb.gm pb.ii pb.gi) (by rw[yI];simp)).2
 have uE:=(hE.me (pb.im,⟨pb.gm,false,[fW eI (puts ms (((c.mems.map Mm.nm).zip m).take i))]⟩) (by rw[oF];simp)).2
 simp only[oO] at fN uE
 refine iX (jn @aB @aA) ?_
 show WP _ _ _ _ _ _
 refine WP.cond _ rfl (fun hb=>?_) (fun hb=>?_)
 ·simp at hb
  have bP:i<c.mems.length:=by omega
  obtain ⟨d,hd,d8,bV⟩:=bM bP
  have cG:=kI hd
  have c9:=bE bP (by omega)
  obtain ⟨w,hw,hwm,_⟩:=bM (show i<m.length by omega)
  have hdl:(m.drop i).length=m.length - i:=by simp
  have h0m:jR 0 (m.length - i)=some 0:=kX (i:=0) (show 0<m.length - i by omega)
  have aZL:(bQ (m.drop i)).length=m.length - i:=by rw[aZ,hdl]
  have h0w:(bQ (m.drop i))[0]?=some [.int .i64 w]:=cP (by rw[List.getElem?_drop];exact hw)
  have yY:=fun look e b z=>aHj look e b z (b7 (m.drop i)) (by rw[aZ,hdl];omega)
  rw[aEE,List.drop_drop] at yY
  have lm1:(pb.im<n+1)=True:=eq_true (by omega)
  have hzs:((c.mems.map Mm.nm).zip m).take (i+1)=((c.mems.map Mm.nm).zip m).take i++[(d.nm,w)]:=bL (by rw[List.getElem?_zip_eq_some];exact ⟨by simp[hd],hw⟩)
  have nX:=fun (look:cA) (sz by_:Nat) (zr:Option (List V)) (h:look pb.im=some ⟨pb.gm,false,[fW eI (puts ms (((c.mems.map Mm.nm).zip m).take i))]⟩)=>iM eI (puts ms (((c.mems.map Mm.nm).zip m).take i)) w (w:= .d (.int .i64 w)) (sz:=sz) (by_:=by_) (zr:=zr) (x:=d.nm) rfl h
  refine bN (sG @aB @aA @bV @cG @Mm.cells.eq_1 @aH @aI @aZL @h0m @h0w @fN @nx @nm @uE @lm1 @nX @yY) ?_
  refine aY (by simp[-a9,c9];exact Is.rfl) ?_
  refine ⟨D - 1,by omega,i+1,_,_,_,by omega,?_,(by repeat' (first|exact d6|(refine WI.trunc ?_ (by omega))|(refine WI.set ?_ (.inr (by omega)))|(refine WI.set ?_ (.inl (by rw[dE];simp))))),bK (by simp[dI,dL,c9]) rfl⟩
  rw[hzs,fQ]
  refine hE.setM fun id c8=>?_
  have e1:(n=id)=False:=eq_false (by omega)
  by_cases hq:pb.im=id
  ·subst hq;simp[lm,nm]
  ·simp[c8,e1,hq,Ne.symm hq]
 simp at hb
 have kP:i=c.mems.length:=by omega
 have hzt:((c.mems.map Mm.nm).zip m).take i=(c.mems.map Mm.nm).zip m:=List.take_of_length_le (by simp;omega)
 rw[hzt] at hE
 rw[kP]
 refine bN (j4 @aB @aA @fN @nx) ?_
 obtain ⟨m1,hm1⟩:∃ m1,m1=m.drop c.mems.length:=⟨_,rfl⟩
 have aZM:m1.length=m.length - c.mems.length:=by rw[hm1];simp
 rw[←hm1]
 generalize aZN:puts ms ((c.mems.map Mm.nm).zip m)=ms1 at hE ⊢
 have fA:=hK.fit
 rw[fit] at fA
 have yY:=fA.1
 have hpl:=oZ sb ps fA.2
 have aZO:(c.ins.map Ii.nm).Nodup:=by
  have:=(hO.wf c hc).nd
  unfold Cl.names at this
  exact (List.nodup_append.1 this).2.1
 obtain ⟨z,hz⟩:=aNs
 clear fN uE hzt hb
 apply WP.loop' (I:=fun D2 st=>∃ (i c':Nat) (wl:List Nat) (bB:Hp),i+D2=c.ins.length∧Lies o.en (.mk c ms1 (vK sb m1 i)) (.mk pb ps) bB n∧WI (dE (.mk pb ps)) n hp wl bB∧
  st=⟨[(0,.ptr pb.x pb.gx 0),(1,dL (bQ (m1.drop (iW (sb.take i)).length))),(35,dL (lV c.ins)),(36,dI c.ins.length),(37,dI i)],bB,n,c',n,wl⟩) (d:=c.ins.length)
 ·exact ⟨0,_,_,_,by simp,by rw[aDg];exact hE,d6,bK (by simp[dI,dL,iW]) rfl⟩
 clear hE d6 kP hi
 clear i c' wl bB D
 rintro D _ ⟨i,c',wl,bB,hi,hE,d6,rfl⟩
 refine iX (jn @aB @aA) ?_
 show WP _ _ _ _ _ _
 refine WP.cond _ rfl (fun hb=>?_) (fun hb=>?_)
 ·simp at hb
  have bP:i<c.ins.length:=by omega
  obtain ⟨d,hd,d8,bV⟩:=bM bP
  have cG:=nP hd
  have c9:=bE bP (by omega)
  have jP:sb[i]?=some (sb[i]'(by omega)):=List.getElem?_eq_getElem (by omega)
  generalize (sb[i]'(by omega))=t at jP
  obtain ⟨_,_,_,hto⟩:=uZ o sb c.ins i t cC.2.2 jP
  refine bN (j7 @aB @aA @bV @cG @Ii.cells.eq_1 @aH @aI) ?_
  apply WP.gen3
  intro fX c3 wl3 eG iT
  have oM:Lies o.en (.mk c ms1 (vK sb m1 i)) (.mk pb ps) fX n:=by rw[eG];exact hE.mono (by simp[cY,cE]) (Nat.le_refl _)
  have mX:WI (dE (.mk pb ps)) n hp wl3 fX:=by rw[eG,iT];exact (d6.set (.inr (by omega))).set (.inr (by omega))
  have hx3:fX.get n=some ⟨c',false,[.d (.str d.nm),.d (.str d.cl)]⟩:=by rw[eG];simp
  clear eG iT hE d6
  have gH:=(oM.st (pb.x,oO pb.gx o.en c pb.im pb.gm pb.ii pb.gi) (by rw[yI];simp)).2
  have jZ:=(oM.st (pb.ii,⟨pb.gi,false,[fW eP (gT c ps)]⟩) (by rw[yI];simp)).2
  simp only[oO] at gH jZ
  obtain ⟨q,hq,pR⟩:=oM.sub (i:=i) (u:=t) (z7 sb m1 jP)
  have hq:ps[i]?=some q:=hq
  have aEg:=z6 c.ins i d aZO hd
  have tG:=tV c.ins ps d.nm q (by rw[aEg];exact bP) (by rw[aEg];exact hq)
  have yF:∀ (look:cA) (sz by_:Nat) (zr:Option (List V)),look pb.ii=some ⟨pb.gi,false,[fW eP (gT c ps)]⟩→gU look ⟨.str,sz,by_,zr⟩ (some z) (.mp pb.ii pb.gi) (.d (.str d.nm)) false=some ⟨.ptr q.a.x q.a.gx 0,[],[pb.ii],0,0,false⟩:=by
   intro look sz by_ zr h
   rw[iO eP (gT c ps) h]
   unfold gT
   rw[tG];rfl
  have aEj:t.ht<N:=by have:=lM (List.mem_of_getElem? jP);omega
  have hmt:=tT sb i t jP
  have yM:=aAx sb (i+1)
  rw[hmt,List.length_append] at yM
  have hmq:∀ k,k∈dE q→k∈dE (.mk pb ps):=fun k hk=>by rw[dE];exact List.mem_cons_of_mem _ (jO ps i q hq k hk)
  obtain ⟨r0,lZ,hv,hn,rX,lY,lD,yH,mY,dD⟩:=(ih t q (m1.drop (iW (sb.take i)).length) aEj hto (by rw[List.length_drop];omega) (by rw[List.length_drop];omega) fX (n+1) c3 (pR.mono (Ag.refl _ _) (by omega))).caller (fun k hk=>by have:=pR.mids_lt k hk;omega)
  rw[List.drop_drop] at hv
  simp only[dL] at lZ hv
  repeat (first
 | apply WP.seq
 | (apply WP.reg;(case hR=>dsimp only [eV,eA,List.map,gS,gZ];exact iZ);(case hr=>(repeat (first
 | (apply RT.op;simp[-a9,dI,dL,hx3,gH,jZ,yF,hz,nx,ni,hv,hn];exact iZ;(try dsimp only [a7]) <;> exact rfl)
 | (apply RT.call;(iterate 2 simp;exact iZ);exact iZ;(iterate 4 simp[-a9,dI,dL,hx3,gH,jZ,yF,hz,nx,ni,hv,hn];exact iZ);simp[Is];(try dsimp only [a7]) <;> exact rfl;simp;exact iZ;exact iZ)
 | (apply RT.callV;(iterate 2 simp;exact iZ);exact iZ;(iterate 3 simp[-a9,dI,dL,hx3,gH,jZ,yF,hz,nx,ni,hv,hn];exact iZ);(try dsimp only [a7]) <;> exact rfl)
 | (apply RT.callT (hd:=lZ) (hk:=rX);(iterate 2 simp;exact iZ);exact iZ;(iterate 2 simp[-a9,dI,dL,hx3,gH,jZ,yF,hz,nx,ni,hv,hn];exact iZ);(try dsimp only [a7]) <;> exact rfl)
 | (apply RT.wr;simp[-a9,dI,dL,hx3,gH,jZ,yF,hz,nx,ni,hv,hn];exact iZ;(try dsimp only [a7]) <;> exact rfl;simp[-a9,dI,dL,hx3,gH,jZ,yF,hz,nx,ni,hv,hn];exact iZ;(iterate 2 exact iZ);exact iZ)));exact RT.nil);(case hc=>first|(refine cW [(0,4),(1,4),(2,4),(3,4),(0,5),(1,5),(2,5),(3,5),(0,7),(1,7),(2,7),(3,7),(4,7),(5,7),(6,7)] (by kernel_rfl) (by kernel_rfl) rfl ?_;simp[lO,jW,dX,nx,ni];done)|(show _=_;kernel_rfl));(case ht=>simp[-a9,dI,dL,hx3,gH,jZ,yF,hz,nx,ni,hv,hn];exact iZ))
 | apply WP.block|apply WP.skip|apply WP.exit|apply WP.ret|refine WP.condT rfl ?_|refine WP.condF rfl ?_)
  refine aY (by simp[-a9,c9];exact Is.rfl) ?_
  refine ⟨D - 1,by omega,i+1,_,_,_,by omega,?_,WI.trunc (mX.sets fun x hx=> .inl (hmq _ (lY x.1 (List.mem_map.2 ⟨x,hx,rfl⟩)))) (Nat.le_refl _),bK (by simp[dI,dL,c9,hmt]) rfl⟩
  rw[aDe sb m1 jP]
  refine oM.setS (z7 sb m1 jP) hq (qQ _ _) (fun id h1 h2=>?_) (fun e he=>?_)
  ·rw[Hp.get_trunc _ _ _ h1];exact lD id (by omega) h2
  ·have hfi:Go.Ac.fit (qA t (m1.drop (iW (sb.take i)).length)) q:=by rw[←dA,qQ,dA];exact pR.fit
   have eU:=pR.mids_lt e.1 (by rw[←eB _ _ hfi];exact List.mem_map.2 ⟨e,he,rfl⟩)
   have h2:=mY e he
   rw[Hp.get_trunc _ _ _ eU,dD _ (by omega) (by rw[h2];rfl)];exact h2
 simp at hb
 have kP:i=sb.length:=by omega
 rw[kP,aEN] at hE
 rw[kP,List.take_length]
 refine bN (jn @aB @aA) ?_
 refine ⟨.inr rfl,_,[],rfl,?_,rfl,d6,fun e he=>?_⟩
 ·show some _=some _
  rw[List.length_append,List.length_map,←List.drop_drop,hm1]
  rfl
 ·obtain ⟨h1,h2⟩:=hE.me e he
  show (Hp.trunc n bB).get e.1=_
  rw[Hp.get_trunc _ _ _ h1];exact h2
end Go.Ac
end
section
set_option maxRecDepth 4000
namespace Go.Ac
open Go.Proofs
attribute [local simp] Hp.get_set cY cE cN bW
def okM (en:List En) (l vs:List Int):Bool:=(l.zip vs).all fun p=>gB en p.1 p.2
def vH (en:List En) (t:Trn) (m:List Int):Trn×Int:=
 if m.length≠(d9 t).length then (t,9) else if okM en (d9 t) m=false then (t,14) else (qA t m,0)
mutual
theorem aFN {o:Oc} (hO:OW o):∀ (t:Trn),t.ok o→∀ u,u∈d9 t→vB u
 | .mk c ms sb,h,u,hu=>by
  rw[Trn.ok] at h
  rw[d9,List.mem_append] at hu
  rcases hu with hu|hu
  ·obtain ⟨d,hd,rfl⟩:=List.mem_map.1 hu
   exact ((hO.ok c h.1).mems d hd).1
  ·exact aHS hO sb c.ins h.2.2 u hu
theorem aHS {o:Oc} (hO:OW o):∀ (l:List Trn) (is:List Ii),rS o l is→∀ u,u∈iW l→vB u
 | [],is,h,u,hu=>by rw[iW] at hu;cases hu
 | t::r,[],h,u,hu=>by rw[rS] at h;exact h.elim
 | t::r,i::is,h,u,hu=>by
  rw[rS] at h
  rw[iW,List.mem_append] at hu
  rcases hu with hu|hu
  ·exact aFN hO t h.2.1 u hu
  ·exact aHS hO r is h.2.2 u hu
end
theorem aTk (r:Nat):Ob.keep 24 r=Ob.k24 r:=by kernel_rfl
attribute [local simp] aTk Ob.k24
set_option maxHeartbeats 8000000 in
theorem aRi {o:Oc} (hO:OW o) (t:Trn) (p:Pt) (m:List Int) (cC:t.ok o) (htl:(d9 t).length≤17592186044416) (wB:m.length≤4611686018427387904) (hp:Hp) (n cc:Nat) (hK:Lies o.en t p hp n):
  yL Tryz.prog Ob.cfg 24 [.ptr p.a.x p.a.gx 0,dL (bQ m)] hp n cc (dI (vH o.en t m).2) (dE p) (fun bB=>∀ e,e∈oF (vH o.en t m).1 p→bB.get e.1=some e.2):=by
 have hc:t.c∈o.cl:=((Trn.ok_eq o t).1 cC).1
 have hxo:=hK.st (p.a.x,oO p.a.gx o.en t.c p.a.im p.a.gm p.a.ii p.a.gi) (by cases t;cases p;rw[yI];simp[Trn.c,Pt.a])
 obtain ⟨lx,kD⟩:=hxo
 simp only[oO] at lx kD
 have nx:=nf lx
 have hme:∀ e,e∈oF t p→hp.get e.1=some e.2:=fun e he=>(hK.me e he).2
 have hmt:∀ e,e∈oF t p→e.1<n:=fun e he=>(hK.me e he).1
 obtain ⟨F,G,hF⟩:=fY (C:=fun eW n2=>Ag n hp eW∧n≤n2) (P:=Tryz.prog) (cfg:=Ob.cfg) (f:=55) (vs:=[.ptr p.a.x p.a.gx 0]) (v:=dL (bQ (d9 t))) (fun eW n2 c2 hC=>aOp hO (t.ht+1) t p (Nat.lt_succ_self _) cC htl eW n2 c2 (hK.mono hC.1 hC.2))
 have hr:=fun eW n2 c2 a b=>hF eW n2 c2 ⟨a,b⟩
 simp only[dL] at hr
 unfold vH
 refine oP Tryz.func24 rfl (by kernel_rfl) rfl ?_
 by_cases q1:m.length=(d9 t).length
 case neg=>
  rw[if_pos q1]
  have q1':=eq_false (show ¬ (m.length:Int)=(d9 t).length by omega)
  refine bN (qJ @aN @aO @aB @aA @aH @aI @kD @nx @hr @aZ @aV @q1') ?_
  exact ⟨.inr rfl,_,[],rfl,rfl,rfl,WI.refl,fun e he=>by rw[Hp.get_trunc _ _ _ (hmt e he)];exact hme e he⟩
 rw[if_neg (fun h=>h q1)]
 have q1':=eq_true (show (m.length:Int)=(d9 t).length by omega)
 refine bN (qJ @aN @aO @aB @aA @aH @aI @kD @nx @hr @aZ @aV @q1') ?_
 apply WP.loop' (I:=fun D st=>∃ (i c':Nat) (wl:List Nat) (bB:Hp),i+D=(d9 t).length∧(((d9 t).zip m).take i).all (fun e=>gB o.en e.1 e.2)=true∧WI (dE p) n hp wl bB∧Ag n hp bB∧
  st=⟨[(0,.ptr p.a.x p.a.gx 0),(1,dL (bQ m)),(17,dL (bQ (d9 t))),(18,dI (d9 t).length),(19,dI i)],bB,n,c',n,wl⟩) (d:=(d9 t).length)
 ·exact ⟨0,_,_,_,by simp,by simp,WI.refl,Ag.refl n hp,bK (by simp[dI,dL]) rfl⟩
 rintro D _ ⟨i,c',wl,bB,hi,cF,d6,dW,rfl⟩
 have fN:=(dW _ lx).trans kD
 have dN:=eq_true dW
 refine iX (jn @aB @aA) ?_
 show WP _ _ _ _ _ _
 refine WP.cond _ rfl (fun hb=>?_) (fun hb=>?_)
 ·simp at hb
  have bP:i<(d9 t).length:=by omega
  obtain ⟨d,hd,d8,bV⟩:=bM bP
  have cG:=cP hd
  obtain ⟨w,hw,hwm,vZ⟩:=bM (show i<m.length by omega)
  have wA:=cP hw
  have c9:=bE bP (by omega)
  have hzd:((d9 t).zip m)[i]?=some (d,w):=by rw[List.getElem?_zip_eq_some];exact ⟨hd,hw⟩
  have hh:=aKC o.en d w (aFN hO t cC d d8)
  simp only[dL,dI,dB] at hh
  have hs:=bZ (p:=fun e:Int×Int=>gB o.en e.1 e.2) hzd
  cases hz:gB o.en d w with
  | true=>
   rw[hz] at hh
   refine bN (qJ @aB @aA @bV @cG @aH @aI @vZ @wA @aZ @fN @nx @hh) ?_
   refine aY (by simp[-a9,c9];exact Is.rfl) ?_
   exact ⟨D - 1,by omega,i+1,_,_,_,by omega,by rw[hs,cF,hz];rfl,(by repeat' (first|exact d6|(refine WI.trunc ?_ (by omega))|(refine WI.set ?_ (.inr (by omega))))),by simp[dW],bK (by simp[dI,dL,c9]) rfl⟩
  | false=>
   rw[hz] at hh
   have hk:okM o.en (d9 t) m=false:=by
    unfold okM
    cases ha:((d9 t).zip m).all (fun p=>gB o.en p.1 p.2) with
    | false=>rfl
    | true=>
     have:=List.all_eq_true.1 ha _ (List.mem_of_getElem? hzd)
     simp only at this
     rw[hz] at this;cases this
   rw[if_pos hk]
   refine bN (qJ @aB @aA @bV @cG @aH @aI @vZ @wA @aZ @fN @nx @hh) ?_
   refine ⟨.inr rfl,_,[],rfl,rfl,rfl,(by repeat' (first|exact d6|(refine WI.trunc ?_ (by omega))|(refine WI.set ?_ (.inr (by omega))))),fun e he=>?_⟩
   have eU:=hmt e he
   have h2:=(dW _ eU).trans (hme e he)
   have e1:(n=e.1)=False:=eq_false (by omega)
   have e3:(e.1<n)=True:=eq_true eU
   simp[e1,e3,h2]
 simp at hb
 have kP:i=(d9 t).length:=by omega
 have hk:okM o.en (d9 t) m=true:=by
  have hzt:((d9 t).zip m).take i=(d9 t).zip m:=List.take_of_length_le (by simp;omega)
  rw[hzt] at cF;exact cF
 rw[if_neg (by simp[hk])]
 refine bN (jn @aB @aA) ?_
 apply WP.gen3
 intro fX c3 wl3 eG iT
 have tI:Ag n hp fX:=by rw[eG];exact dW
 have mX:WI (dE p) n hp wl3 fX:=by rw[eG,iT];exact d6
 clear eG iT
 obtain ⟨q,lZ,hv,hn,rX,lY,lD,yH,mY,dD⟩:=(aRx hO (t.ht+1) t p m (Nat.lt_succ_self _) cC (by omega) wB fX n c3 (hK.mono tI (Nat.le_refl n))).caller (fun k h=>hK.mids_lt k h)
 simp only[dL] at lZ hv
 refine bN (j4 @aB @aA @hv @hn) ?_
 refine ⟨.inr rfl,_,[],rfl,rfl,rfl,mX.sets fun x hx=> .inl (lY x.1 (List.mem_map.2 ⟨x,hx,rfl⟩)),fun e he=>?_⟩
 have hfi:fit (qA t m) p:=by rw[←dA,qQ,dA];exact hK.fit
 have eU:=hK.mids_lt e.1 (by rw[←eB _ _ hfi];exact List.mem_map.2 ⟨e,he,rfl⟩)
 have h2:=mY e he
 rw[Hp.get_trunc _ _ _ eU,dD _ eU (by rw[h2];rfl)];exact h2
end Go.Ac
end
section
set_option maxRecDepth 4000
namespace Go.Ac
open Go.Proofs
def rM (l:List Cl):Nat:=(l.map fun c=>c.ins.length).sum
theorem aEX (l:List Cl) (c:Cl):rM (l++[c])=rM l+c.ins.length:=by unfold rM;simp
theorem xU:∀ (l:List Cl) (i j:Nat),j≤i→rM (l.take j)≤rM (l.take i)
 | [],i,j,_=>by simp
 | c::r,i,0,_=>by simp[rM]
 | c::r,0,j+1,h=>by omega
 | c::r,i+1,j+1,h=>by
  have:=xU r i j (by omega)
  rw[List.take_succ_cons,List.take_succ_cons]
  unfold rM at*
  simp only[List.map_cons,List.sum_cons]
  omega
theorem aOv (l:List Cl):rM l≤szC l:=by
 induction l with
 | nil=>simp[rM]
 | cons c r ih=>
  unfold rM szC at*
  simp only[List.map_cons,List.sum_cons]
  have:=sO c.ins
  have h2:c.sz=szT c.nm+szD c.inn+szD c.out+szD c.loc+szM c.mems+szJ c.ins+iG c.step+7:=rfl
  omega
theorem aHs {B:Nat}:∀ (l:List Trn),(∀ t,t∈l→(mS t).length≤B)→(oY l).length≤l.length*B
 | [],_=>by simp[oY]
 | t::r,h=>by
  have h1:=h t (List.mem_cons_self ..)
  have h2:=aHs r fun u hu=>h u (List.mem_cons_of_mem _ hu)
  rw[oY,List.length_append,List.length_cons,Nat.add_mul]
  omega
theorem aIl (m:Nat):m+1≤2 ^ m:=by
 induction m with
 | zero=>simp
 | succ m ih=>rw[Nat.pow_succ];omega
theorem aEO {o:Oc} (h:dH o=0) {M:Nat} (hM:∀ c,c∈o.cl→c.mems.length≤M):∀ (k i:Nat) (c:Cl),o.cl[i]?=some c→i<k→(mS (i5 o k c)).length≤M*2 ^ rM (o.cl.take (i+1))
 | 0,i,c,_,hi=>by omega
 | k+1,i,c,hc,hi=>by
  rw[i5,mS,List.length_append,List.length_map]
  have h1:=hM c (List.mem_of_getElem? hc)
  have h2:(oY (c.ins.map fun i=>i5 o k (dC o.cl i.cl).1)).length≤(c.ins.map fun i=>i5 o k (dC o.cl i.cl).1).length*(M*2 ^ rM (o.cl.take i)):=by
   refine aHs _ fun t ht=>?_
   obtain ⟨d,hd,rfl⟩:=List.mem_map.1 ht
   obtain ⟨j,hj,hja,_⟩:=oK h hc d hd
   refine Nat.le_trans (aEO h hM k j _ hja (by omega)) (Nat.mul_le_mul_left _ (Nat.pow_le_pow_right (by omega) (xU o.cl i (j+1) (by omega))))
  rw[List.length_map] at h2
  rw[bL hc,aEX,Nat.pow_add]
  have h3:=aIl c.ins.length
  have h4:1≤2 ^ rM (o.cl.take i):=Nat.one_le_two_pow
  have h5:M≤M*2 ^ rM (o.cl.take i):=Nat.le_mul_of_pos_right _ h4
  generalize 2 ^ rM (o.cl.take i)=S at*
  generalize 2 ^ c.ins.length=T at*
  have h6:(c.ins.length+1)*(M*S)≤T*(M*S):=Nat.mul_le_mul_right _ h3
  rw[Nat.add_mul,Nat.one_mul] at h6
  have h7:T*(M*S)=M*(S*T):=by rw[Nat.mul_comm T,Nat.mul_assoc]
  omega
attribute [local simp] kf9 Ob.k9
set_option maxHeartbeats 4000000 in
theorem aKK (x:Oc) (ha:x.sz≤MX) (aSa:12<rM x.cl):eJ Tryz.prog Ob.cfg 9 [aG x.cells]=some (dB true):=by
 unfold Oc.sz MX at ha
 have l1:=l7 x.cl
 have l2:=aOv x.cl
 obtain ⟨r0,h0⟩:=aSr x.en (by unfold MX;omega)
 simp only[pE,dI] at h0
 refine bI Tryz.func9 rfl (by kernel_rfl) rfl rfl ?_
 refine bA (j4 @aD @aJ @aB @h0) ?_
 apply WP.loop' (I:=fun D s=>∃ (j:Nat) (k:Int),j+D=x.cl.length∧SE [(1,.ptr 0 0 0),(3,dI k),(4,dI (rM (x.cl.take j))),(5,dI j)] [(0,⟨0,false,x.cells.map .d⟩)] 1 s) (d:=x.cl.length)
 ·exact ⟨0,_,by simp,SE.mk (by simp[dI,rM];rfl) (by simp[Oc.cells])⟩
 rintro D _ ⟨j,k,hj,cc,rfl⟩
 by_cases cG:j<x.cl.length∧k<600
 ·obtain ⟨bP,hk⟩:=cG
  have c1:((j:Int)<x.cl.length)=True:=eq_true (by omega)
  have c1':(j<x.cl.length)=True:=eq_true bP
  have c2:=eq_true hk
  obtain ⟨y,hy,vY,bV⟩:=bM bP
  have pW:=lH hy
  have hw:=bE bP (by omega)
  have m1:=qE vY
  unfold Cl.sz at m1
  have l3:=sO y.ins
  have l4:=xU x.cl x.cl.length j (by omega)
  rw[List.take_length] at l4
  have d6:IntKind.i64.wrap ((rM (x.cl.take j):Int)+y.ins.length)=(rM (x.cl.take (j+1)):Nat):=by
   rw[bL hy,aEX,aEA] <;> omega
  obtain ⟨r1,h1⟩:=aUV y.inn y.out y.loc (by unfold MX;omega) (by unfold MX;omega) (by unfold MX;omega)
  obtain ⟨r2,h2⟩:=w27 (iG y.step+1) y.step 600 (by omega) (by unfold MX;omega)
  simp only[pN,nD,dL,dI] at h1 h2
  refine bA (j6 @aB @aA @aJ @c1 @c1' @c2) ?_
  refine bA (j22 @aB @aA @aJ @aK @bV @pW @h1 @h2 @aH @aI @aP @aQ @bG @b8 @pH @iH.eq_1 @iH.eq_2 @eL.eq_1 @eL.eq_2 @bH @lU @d6) ?_
  refine aY (by simp[hw];exact Is.rfl) ?_
  exact ⟨D - 1,by omega,j+1,_,by omega,SE.mk (by simp[dI,dL];rfl) (by simp[Oc.cells])⟩
 by_cases hq:k≥600
 ·have q:=eq_true hq
  have q':(600≤k)=True:=q
  have hor:(((j:Int)<x.cl.length)=True∧(j<x.cl.length)=True∧(k<600)=False)∨(((j:Int)<x.cl.length)=False∧(j<x.cl.length)=False):=by
   by_cases hd1:j<x.cl.length
   ·exact .inl ⟨eq_true (by omega),eq_true hd1,eq_false (fun h=>cG ⟨hd1,h⟩)⟩
   ·exact .inr ⟨eq_false (by omega),eq_false hd1⟩
  rcases hor with ⟨e1,e1',e2⟩|⟨e1,e1'⟩
  ·refine bA (j8 @aB @aA @aJ @e1 @e1' @e2 @q @q') ?_
   show a8 _ _ _ _ _
   exact ⟨.inr rfl,_,_,rfl,rfl⟩
  ·refine bA (j7 @aB @aA @aJ @e1 @e1' @q @q') ?_
   show a8 _ _ _ _ _
   exact ⟨.inr rfl,_,_,rfl,rfl⟩
 ·have q:=eq_false hq
  have q':(600≤k)=False:=q
  have hjl:j=x.cl.length:=by
   rcases Nat.lt_or_ge j x.cl.length with h|h
   ·exact absurd ⟨h,by omega⟩ cG
   ·omega
  have e1:((j:Int)<x.cl.length)=False:=eq_false (by omega)
  have e1':(j<x.cl.length)=False:=eq_false (by omega)
  rw[hjl,List.take_length]
  have e3:=eq_false (show ¬ ((x.cl.length:Int)<x.cl.length) by omega)
  have e4:=eq_true (show (12:Int)<(rM x.cl:Nat) by omega)
  have e5:=eq_true aSa
  refine bA (j8 @aB @aA @aJ @e3 @q @q' @e4 @e5) ?_
  show a8 _ _ _ _ _
  exact ⟨.inr rfl,_,_,rfl,rfl⟩
end Go.Ac
end
section
set_option maxRecDepth 4000
namespace Go.Ac
open Go.Proofs
theorem aTA (r:Nat):Ob.keep 20 r=Ob.k20 r:=by kernel_rfl
attribute [local simp] aTA Ob.k20
theorem aQD (a b:List Int) (ha:a.length≤17592186044416) (hb0:b.length≤17592186044416):eJ Tryz.prog Ob.cfg 20 [dL (bQ a),dL (bQ b)]=some (dB (decide (a=b))):=by
 refine bI Tryz.func20 rfl (by kernel_rfl) rfl rfl ?_
 by_cases hl:a.length=b.length
 case neg=>
  have hl2:((a.length:Int)=b.length)=False:=eq_false (by omega)
  have hab:decide (a=b)=false:=by simp;intro h;rw[h] at hl;exact hl rfl
  rw[hab]
  refine bA (j6 @aB @aA @aZ @hl @hl2 @aV) ?_
  show a8 _ _ _ _ _
  exact ⟨.inr rfl,_,_,rfl,rfl⟩
 have hl2:((a.length:Int)=b.length)=True:=eq_true (by omega)
 refine bA (j6 @aB @aA @aZ @hl @hl2 @aV) ?_
 apply WP.loop' (I:=fun D s=>∃ j:Nat,j+D=a.length∧a.take j=b.take j∧SE [(0,dL (bQ a)),(1,dL (bQ b)),(5,dI j)] [] 0 s) (d:=a.length)
 ·exact ⟨0,by simp,by simp,SE.mk (by simp[dI,dL]) rfl⟩
 rintro D _ ⟨j,hj,he,cc,rfl⟩
 refine wk (j3 @aB @aA @aZ) ?_
 show WP _ _ _ _ _ _
 refine WP.cond _ rfl (fun hb=>?_) (fun hb=>?_)
 ·simp at hb
  have bP:j<a.length:=by omega
  obtain ⟨x,hx,_,x1⟩:=bM bP
  obtain ⟨y,hy,_,x2⟩:=bM (show j<b.length by omega)
  have e1:=cP hx
  have e2:=cP hy
  have hw:=bE bP (by omega)
  by_cases hq:x=y
  ·have hq2:(x=y)=True:=eq_true hq
   refine bA (j9 @aB @aA @aZ @x1 @x2 @e1 @e2 @hq2 @aV) ?_
   refine aY (by simp[hw];exact Is.rfl) ?_
   exact ⟨D - 1,by omega,j+1,by omega,by rw[bL hx,bL hy,he,hq],SE.mk (by simp[dI,dL,hw]) rfl⟩
  ·have hq2:(x=y)=False:=eq_false hq
   have hab:decide (a=b)=false:=by simp;intro h;rw[h,hy] at hx;exact hq (Option.some.inj hx).symm
   rw[hab]
   refine bA (j9 @aB @aA @aZ @x1 @x2 @e1 @e2 @hq2 @aV) ?_
   show a8 _ _ _ _ _
   exact ⟨.inr rfl,_,_,rfl,rfl⟩
 ·simp at hb
  have eE:j=a.length:=by omega
  rw[eE,List.take_length,hl,List.take_length] at he
  have hab:decide (a=b)=true:=by simp[he]
  rw[hab]
  refine bA (jn @aB @aA) ?_
  show a8 _ _ _ _ _
  exact ⟨.inr rfl,_,_,rfl,rfl⟩
end Go.Ac
end
section
set_option maxRecDepth 4000
namespace Go.Ac
open Go.Proofs
attribute [local simp] Hp.get_set gX bW
structure Two (en:List En) (t:Trn) (p:Pt) (u:Trn) (r:Pt) (hp:Hp) (n:Nat):Prop where
 a:Lies en t p hp n
 b:Lies en u r hp n
 d1:∀ k,k∈lT r++dE r→k∉dE p
 d2:∀ k,k∈lT p++dE p→k∉dE r
theorem Two.stepa {en:List En} {t t' u:Trn} {p r:Pt} {hp bB:Hp} {n:Nat} (h:Two en t p u r hp n) (hL:Lies en t' p bB n) (hf:∀ k,k<n→k∉dE p→bB.get k=hp.get k):Two en t' p u r bB n:=by
 refine ⟨hL,h.b.same2 (fun k hk=>hf k ?_ (h.d1 k hk)) (Nat.le_refl _),h.d1,h.d2⟩
 rcases List.mem_append.1 hk with hk|hk
 ·exact h.b.sids_lt k hk
 ·exact h.b.mids_lt k hk
theorem Two.stepb {en:List En} {t u u':Trn} {p r:Pt} {hp bB:Hp} {n:Nat} (h:Two en t p u r hp n) (hL:Lies en u' r bB n) (hf:∀ k,k<n→k∉dE r→bB.get k=hp.get k):Two en t p u' r bB n:=by
 refine ⟨h.a.same2 (fun k hk=>hf k ?_ (h.d2 k hk)) (Nat.le_refl _),hL,h.d1,h.d2⟩
 rcases List.mem_append.1 hk with hk|hk
 ·exact h.a.sids_lt k hk
 ·exact h.a.mids_lt k hk
theorem Two.mono {en:List En} {t u:Trn} {p r:Pt} {hp bB:Hp} {n:Nat} (h:Two en t p u r hp n) (ha:Ag n hp bB):Two en t p u r bB n:=⟨h.a.mono ha (Nat.le_refl _),h.b.mono ha (Nat.le_refl _),h.d1,h.d2⟩
theorem Lies.ob {en:List En} {t:Trn} {p:Pt} {hp:Hp} {n:Nat} (h:Lies en t p hp n):p.a.x<n∧hp.get p.a.x=some (oO p.a.gx en t.c p.a.im p.a.gm p.a.ii p.a.gi):=
 h.st (p.a.x,oO p.a.gx en t.c p.a.im p.a.gm p.a.ii p.a.gi) (by cases t;cases p;rw[yI];simp[Trn.c,Pt.a])
theorem aFk {o:Oc} (h:dH o=0):∀ (k i:Nat) (c:Cl),o.cl[i]?=some c→i<k→(i5 o k c).init=i5 o k c
 | 0,i,c,_,hi=>by omega
 | k+1,i,c,hc,hi=>by
  have hn:=(aAU h c (List.mem_of_getElem? hc)).mn
  have hmn:((mI c.mems).map Prod.fst)=c.mems.map Mm.nm:=by unfold mI;rw[List.map_map];rfl
  have hp:puts [] (mI c.mems)=mI c.mems:=by
   have:=aCM (mI c.mems) [] (by rw[List.nil_append,hmn];exact hn)
   simpa using this
  rw[i5,Trn.init,hp,xI rfl (by rw[hmn];exact hn),aBn,List.map_map]
  congr 1
  apply List.map_congr_left
  intro d hd
  obtain ⟨j,hj,hja,_⟩:=oK h hc d hd
  exact aFk h k j _ hja (by omega)
end Go.Ac
end
section
set_option maxRecDepth 4000
namespace Go.Ac
open Go.Proofs
attribute [local simp] Hp.get_set cY cE cN bW
def aJv (f:FuncId) (vs:List V) (hp:Hp) (n c:Nat) (v:V) (ids:List Nat) (Φ:Hp→Nat→Prop):Prop:=
 ∃ q,nV Tryz.prog Ob.cfg f vs hp n c=some q∧q.v=v∧n≤q.n∧WI ids n hp q.wl q.hp∧Φ q.hp q.n
def aSF (fn:Func) (hp:Hp) (n:Nat) (v:V) (ids0:List Nat) (Φ:Hp→Nat→Prop) (e:Ex) (t:St):Prop:=
 (e= .normal∨e= .ret)∧∃ rs,gG Tryz.prog t fn.results.toList=some rs∧tup rs=v∧n≤t.n∧WI ids0 n hp t.wl t.hp∧Φ t.hp t.n
theorem aJY {f:FuncId} {fn:Func} {body:Code} {vs:List V} {hp:Hp} {n c:Nat} {v:V} {ids0:List Nat} {Φ:Hp→Nat→Prop} (hf:Tryz.prog.funcs[f]?=some fn) (hb:fn.body=some body) (cC:(Nat.ble vs.length fn.ntmps&&fL fn.ntmps body)=true)
  (vX:Ob.cfg.thr f=true) (h:WP Tryz.prog Ob.cfg f body ⟨dG 0 vs,hp,n,c,n,[]⟩ (aSF fn hp n v ids0 Φ)):aJv f vs hp n c v ids0 Φ:=by
 obtain ⟨w,t,h1,h2⟩:=wV (Q:=fun w t=>w=v∧n≤t.n∧WI ids0 n hp t.wl t.hp∧Φ t.hp t.n) hf hb cC (h.mono fun e t ⟨he,rs,a1,a2,a3,a4,a5⟩=>⟨he,rs,a1,.inl vX,a2,a3,a4,a5⟩)
 exact ⟨_,h1,h2.1,h2.2.1,h2.2.2.1,h2.2.2.2⟩
theorem aJv.caller {f:FuncId} {vs:List V} {hp:Hp} {n c:Nat} {v:V} {ids:List Nat} {Φ:Hp→Nat→Prop} (h:aJv f vs hp n c v ids Φ) (aGA:∀ j,j∈ids→j<n):
  ∃ q,nV Tryz.prog Ob.cfg f vs hp n c=some q∧q.v=v∧n≤q.n∧(∀ k,k∈(sK q n).map (·.1)→k<n+(q.n - n))∧(∀ k,k∈(sK q n).map (·.1)→k∈ids∨n≤k)∧
   (∀ j,j<n→j∉ids→(hp.sets (sK q n)).get j=hp.get j)∧∃ bB,Φ bB q.n∧∀ j,j<q.n→(bB.get j).isSome=true→(hp.sets (sK q n)).get j=bB.get j:=by
 obtain ⟨q,h1,h2,h3,h4,h5⟩:=h
 exact ⟨q,h1,h2,h3,fun k hk=>by have:=(aDl h3 h4 aGA hk).2;omega,fun k hk=>(aDl h3 h4 aGA hk).1,fun j hj hn=>aJV h4 hj hn,q.hp,h5,fun j hj hs=>aGE h4 hj hs⟩
theorem RLies.after {o:Oc} {t:Trn} {p:Pt} {hp bB:Hp} {n:Nat} (h:RLies o t p hp n) (hs:∀ k,k<n→(hp.get k).isSome=true→bB.get k=hp.get k):RLies o t p bB n:=
 ⟨h.fit,h.nd,fun q hq=>⟨(h.ce q hq).1,(hs _ (h.ce q hq).1 (by rw[(h.ce q hq).2];rfl)).trans (h.ce q hq).2⟩⟩
theorem aHt {o:Oc} (h:dH o=0):∀ (N:Nat) (t:Trn) (i:Nat),t.ht<N→t.ok o→o.cl[i]?=some t.c→t.bare=(i5 o (i+1) t.c).bare
 | 0,t,i,hN,_,_=>by omega
 | N+1,.mk c ms sb,i,hN,cC,hi=>by
  rw[Trn.ht] at hN
  rw[Trn.ok] at cC
  show Trn.bare (.mk c ms sb)=(i5 o (i+1) c).bare
  rw[i5,Trn.bare,Trn.bare]
  congr 1
  rw[qK,qK,List.map_map]
  have xF:o.cl[i]?=some c:=hi
  clear hi
  have hb:=aJw h xF
  have hs:=cC.2.2
  have hh:∀ u,u∈sb→u.ht<N:=fun u hu=>by have:=lM hu;omega
  clear cC hN
  generalize c.ins=l at hs hb
  induction sb generalizing l with
  | nil=>
   rw[rS] at hs
   subst hs;rfl
  | cons u r ih=>
   cases l with
   | nil=>rw[rS] at hs;exact hs.elim
   | cons d l=>
    rw[rS] at hs
    obtain ⟨j,hj,_,hja⟩:=hb d (List.mem_cons_self ..)
    rw[hs.1] at hja
    simp only[List.map_cons,Function.comp]
    rw[hs.1]
    simp only
    congr 1
    ·rw[aHt h N u j (hh u (List.mem_cons_self ..)) hs.2.1 hja,oJ h i i j u.c (Nat.le_refl _) hja hj]
    ·exact ih (fun v hv=>hh v (List.mem_cons_of_mem _ hv)) l hs.2.2 fun e he=>hb e (List.mem_cons_of_mem _ he)
theorem RLies.swap {o:Oc} {c:Cl} {ms:List (Tx×Int)} {sb:List Trn} {a:Pb} {ps:List Pt} {hp bB:Hp} {n x gx:Nat} (h:RLies o (.mk c ms sb) (.mk a ps) hp n) (hx:x<n) (hn:x∉cQ (.mk a ps)) (hg:∀ k,k≠x→bB.get k=hp.get k) (ho:bB.get x=some (rO gx o c a.im a.gm ms.length a.ii a.gi ps.length)):RLies o (.mk c ms sb) (.mk ⟨x,gx,a.im,a.gm,a.ii,a.gi⟩ ps) bB n:=by
 have fA:=h.fit
 rw[Go.Ac.fit] at fA
 have mB:=h.nd
 have hce:=h.ce
 rw[cQ] at hn mB
 rw[rC] at hce
 simp only[List.mem_cons,not_or] at hn
 rw[List.nodup_cons] at mB
 refine ⟨by rw[Go.Ac.fit];exact fA,?_,fun q hq=>?_⟩
 ·rw[cQ,List.nodup_cons]
  exact ⟨by simp[hn.2],mB.2⟩
 ·rw[rC,List.mem_cons] at hq
  rcases hq with hq|hq
  ·subst hq;exact ⟨hx,ho⟩
  ·obtain ⟨h1,h2⟩:=hce q (List.mem_cons_of_mem _ hq)
   refine ⟨h1,(hg _ fun e=>?_).trans h2⟩
   have hk:q.1∈a.im::a.ii::dO ps:=by
    simp only[List.mem_cons] at hq ⊢
    rcases hq with hq|hq|hq
    ·exact .inl (by rw[hq])
    ·exact .inr (.inl (by rw[hq]))
    ·exact .inr (.inr (by rw[←xJ o sb ps fA.2];exact List.mem_map.2 ⟨q,hq,rfl⟩))
   rw[e] at hk
   simp only[List.mem_cons] at hk
   rcases hk with hk|hk|hk
   ·exact hn.2.1 hk
   ·exact hn.2.2.1 hk
   ·exact hn.2.2.2 hk
theorem aTm (r:Nat):Ob.keep 132 r=Ob.k132 r:=by kernel_rfl
attribute [local simp] aTm Ob.k132
set_option maxHeartbeats 8000000 in
theorem aMw {o:Oc} (vD:dH o=0) (gK:o.sz≤2097152) (t:Trn) (p:Pt) (cC:t.ok o) (hp:Hp) (n cc:Nat) (hK:RLies o t p hp n):
  aJv 132 [.ptr p.a.x p.a.gx 0] hp n cc (.tuple []) (cQ p) (fun bB n'=>∃ p',Moved p p' n∧RLies o t.init p' bB n'):=by
 have hwf:=aAU vD
 have hc:t.c∈o.cl:=((Trn.ok_eq o t).1 cC).1
 obtain ⟨i,hi⟩:=List.mem_iff_getElem?.1 hc
 have wB:=(List.getElem?_eq_some_iff.1 hi).1
 obtain ⟨q,p0,hI1,hqv,pR⟩:=aMH vD gK (i+1) i _ (Nat.lt_succ_self i) hi
 have aCs:=aFI vD (i+1) i _ hi (Nat.lt_succ_self i)
 have hni:t.init=i5 o (i+1) t.c:=by
  rw[aDZ hwf t _ cC aCs (aHt vD _ t i (Nat.lt_succ_self _) cC hi)]
  exact aFk vD (i+1) i t.c hi (Nat.lt_succ_self i)
 rw[←hni] at pR
 clear aCs hni
 simp only[aG,Oc.cells,Cl.cells,List.map_cons,List.map_nil] at hI1
 have hI2:d7 fF q.v=none:=by rw[hqv];rfl
 obtain ⟨p2,eW⟩:∃ p2,p2=p0.sh n cc:=⟨_,rfl⟩
 have hI3:cX n cc q.v= .ptr p2.a.x p2.a.gx 0:=by rw[hqv,eW,Pt.sh_a];simp[cX,Pb.sh]
 obtain ⟨W1,yG⟩:∃ W,iI n cc (kL q.hp.get (List.range q.n))=W:=⟨_,rfl⟩
 have hL2:RLies o t.init p2 (hp.sets W1) (q.n+n):=by rw[←yG,eW];exact pR.import
 have pQ:∀ x,x<n→(hp.sets W1).get x=hp.get x:=fun x hx=>by rw[←yG,oD hx]
 obtain ⟨lx,kD⟩:=hK.ob
 obtain ⟨l2,aWr⟩:=hL2.ob
 have za:=(pQ _ lx).trans kD
 simp only[rO] at kD za aWr
 have hge:∀ k,k∈cQ p2→n≤k:=fun k hk=>by rw[eW] at hk;exact aFT _ _ _ k hk
 have nx:=nf lx
 have lx2:=eq_true (show p.a.x<n+q.n by omega)
 have hxm:p2.a.x∈cQ p2:=by cases p2;rw[cQ];simp[Pt.a]
 have hne:=eq_false (show ¬ p.a.x=p2.a.x by have:=hge _ hxm;omega)
 refine aJY Tryz.func132 rfl (by kernel_rfl) rfl ?_
 refine aOX (j8 @aN @aO @kD @za @aWr @nx @lx2 @hne) ?_
 have hpx:p.a.x∈cQ p:=by cases p;rw[cQ];simp[Pt.a]
 have hic:t.init.c=t.c:=(aGu hwf t cC).2.1
 refine ⟨.inl rfl,[],rfl,rfl,Nat.le_add_right _ _,WI.set (WI.set ⟨(fun k hk=>by simp at hk),fun k h1 h2=>pQ k h1⟩ (.inl hpx)) (.inl hpx),.mk ⟨p.a.x,p.a.gx,p2.a.im,p2.a.gm,p2.a.ii,p2.a.gi⟩ p2.ps,⟨rfl,rfl,fun k hk=>?_⟩,?_⟩
 ·rw[cQ] at hk
  rcases List.mem_cons.1 hk with hk|hk
  ·exact .inl (by rw[hk];exact hpx)
  ·refine .inr (hge k ?_)
   cases p2
   rw[cQ];exact List.mem_cons_of_mem _ hk
 ·have hN:q.n+n=n+q.n:=Nat.add_comm _ _
  rw[hN] at hL2
  have hpn:p.a.x∉cQ p2:=fun h=>by have:=hge _ h;omega
  generalize t.init=u at hL2 hic ⊢
  obtain ⟨c,ms,sb⟩:=u
  obtain ⟨a,ps⟩:=p2
  have hic:c=t.c:=hic
  subst hic
  refine hL2.swap (by omega) hpn (fun k hk=>?_) ?_
  ·have e:(p.a.x=k)=False:=eq_false (fun e=>hk e.symm)
   simp[e]
  ·simp[rO,Trn.ms,Pt.ps,Pt.a]
end Go.Ac
end
