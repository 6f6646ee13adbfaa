/- A step under way lies in memory. -/
import Derived.Test.YtkgekafdhehleaaGreatAcMlM
set_option linter.unusedVariables false
set_option linter.unusedSimpArgs false
section
set_option maxRecDepth 4000
namespace Go.Ac
open Go.Proofs
attribute [local simp] Hp.get_set cY cE cN bW
mutual
def rE:Trn→Pt→List Nat
 | .mk c ms sb,.mk a ps=>(if c.mems=[] then [] else [a.im])++wsL sb ps
def wsL:List Trn→List Pt→List Nat
 | t::ts,p::ps=>rE t p++wsL ts ps
 | [],_=>[]
 | _::_,[]=>[]
end
theorem aJI:∀ (l:List Trn) (ps:List Pt) (k:Nat),k∈wsL l ps↔∃ (i:Nat) (t:Trn) (p:Pt),l[i]?=some t∧ps[i]?=some p∧k∈rE t p
 | [],ps,q=>by rw[wsL];simp
 | t::r,[],q=>by rw[wsL];simp
 | t::r,p::ps,q=>by
  rw[wsL,List.mem_append,aJI r ps q]
  constructor
  ·rintro (h|⟨i,u,v,h1,h2,h3⟩)
   ·exact ⟨0,t,p,rfl,rfl,h⟩
   ·exact ⟨i+1,u,v,by simpa using h1,by simpa using h2,h3⟩
  ·rintro ⟨i,u,v,h1,h2,h3⟩
   cases i with
   | zero=>simp at h1 h2;subst h1;subst h2;exact .inl h3
   | succ i=>exact .inr ⟨i,u,v,by simpa using h1,by simpa using h2,h3⟩
mutual
theorem jE:∀ (t:Trn) (p:Pt) (k:Nat),k∈rE t p→k∈dE p
 | .mk c ms sb,.mk a ps,k,h=>by
  rw[rE,List.mem_append] at h
  rw[dE,List.mem_cons]
  rcases h with h|h
  ·split at h
   ·cases h
   ·exact .inl (by simpa using h)
  ·exact .inr (aHY sb ps k h)
theorem aHY:∀ (l:List Trn) (ps:List Pt) (k:Nat),k∈wsL l ps→k∈dY ps
 | [],ps,k,h=>by rw[wsL] at h;cases h
 | t::r,[],k,h=>by rw[wsL] at h;cases h
 | t::r,p::ps,k,h=>by
  rw[wsL,List.mem_append] at h
  rw[dY,List.mem_append]
  rcases h with h|h
  ·exact .inl (jE t p k h)
  ·exact .inr (aHY r ps k h)
end
mutual
theorem aLb:∀ (t:Trn) (p:Pt) (e:Nat×Ob),e∈oF t.init p→e.1∉rE t p→e∈oF t p
 | .mk c ms sb,.mk a ps,e,h,hn=>by
  rw[Trn.init,oF,List.mem_cons] at h
  rw[rE,List.mem_append] at hn
  rw[oF,List.mem_cons]
  rcases h with h|h
  ·left
   by_cases hm:c.mems=[]
   ·rw[h,hm];rfl
   ·rw[if_neg hm] at hn
    exact absurd (.inl (by rw[h];simp)) hn
  ·exact .inr (zK sb ps e h fun h2=>hn (.inr h2))
theorem zK:∀ (l:List Trn) (ps:List Pt) (e:Nat×Ob),e∈yK (hJ l) ps→e.1∉wsL l ps→e∈yK l ps
 | [],ps,e,h,hn=>by rw[hJ] at h;exact h
 | t::r,[],e,h,hn=>by rw[hJ,yK] at h;cases h
 | t::r,p::ps,e,h,hn=>by
  rw[hJ,yK,List.mem_append] at h
  rw[wsL,List.mem_append] at hn
  rw[yK,List.mem_append]
  rcases h with h|h
  ·exact .inl (aLb t p e h fun h2=>hn (.inl h2))
  ·exact .inr (zK r ps e h fun h2=>hn (.inr h2))
end
theorem aCL {r:CR} {n0 k:Nat} (hn:r.n=n0):k∈(sK r n0).map (·.1)↔k∈r.wl∧(r.hp.get k).isSome=true:=by
 unfold sK
 rw[hn,Nat.sub_self,List.range_zero,List.map_nil,List.append_nil]
 generalize r.wl=l
 induction l with
 | nil=>simp[kL]
 | cons i l ih=>
  simp only[kL]
  cases hi:r.hp.get i with
  | none=>
   simp only[ih,List.mem_cons]
   constructor
   ·rintro ⟨h1,h2⟩;exact ⟨.inr h1,h2⟩
   ·rintro ⟨h1|h1,h2⟩
    ·subst h1;rw[hi] at h2;cases h2
    ·exact ⟨h1,h2⟩
  | some o=>
   simp only[List.map_cons,List.mem_cons,ih]
   constructor
   ·rintro (h1|⟨h1,h2⟩)
    ·subst h1;exact ⟨.inl rfl,by rw[hi];rfl⟩
    ·exact ⟨.inr h1,h2⟩
   ·rintro ⟨h1|h1,h2⟩
    ·exact .inl h1
    ·exact .inr ⟨h1,h2⟩
theorem aCB {r:CR} {n0 k:Nat} {sJ:Hp} (hn:r.n=n0):(sJ.sets (sK r n0)).get k=if k∈r.wl∧(r.hp.get k).isSome=true then r.hp.get k else sJ.get k:=by
 unfold sK
 rw[hn,Nat.sub_self,List.range_zero,List.map_nil,List.append_nil]
 exact Hp.get_sets_wrOf _ _ _
theorem aDc {α:Type}:∀ {l:List (Nat×α)} {x y:Nat×α},(l.map Prod.fst).Nodup→x∈l→y∈l→x.1=y.1→x.2=y.2
 | [],x,y,_,h,_,_=>by cases h
 | z::r,x,y,hn,hx,hy,he=>by
  rw[List.map_cons,List.nodup_cons] at hn
  rcases List.mem_cons.1 hx with n8|n8
  ·rcases List.mem_cons.1 hy with hy2|hy2
   ·rw[n8,hy2]
   ·rw[n8] at he;exact absurd (List.mem_map.2 ⟨y,hy2,he.symm⟩) hn.1
  ·rcases List.mem_cons.1 hy with hy2|hy2
   ·rw[hy2] at he;exact absurd (List.mem_map.2 ⟨x,n8,he⟩) hn.1
   ·exact aDc hn.2 n8 hy2 he
theorem aMl {α:Type} (e:α→V) (l:List (Tx×α)) {id g n c:Nat} {ro:Bool} {look:cA} (h:look id=some ⟨g,ro,[fW e l]⟩):
  sY look n c (.mp id g)=some ⟨.it n c,[(n,⟨c,false,[.itm id g l.length [] l.length]⟩)],[id],1,1,false⟩:=by
 unfold sY
 have hl:live look id g=some ⟨g,ro,[fW e l]⟩:=by unfold live;rw[h];simp
 simp only[hl,fW]
theorem aIm {α:Type} (e:α→V) (l:List (Tx×α)) {id g mid mg since:Nat} {ro ro':Bool} {seen:List Nat} {b:Nat} {x:Tx} {v:α} {look:cA} (h:look id=some ⟨g,ro,[.itm mid mg since (seen++[b]) l.length]⟩) (h2:look mid=some ⟨mg,ro',[fW e l]⟩) (hb:l[b]?=some (x,v)):
  pC look (.it id g)=some ⟨.tuple [.d (.str x),e v],[],[id,mid],0,0,false⟩:=by
 unfold pC
 have hl:live look id g=some ⟨g,ro,[.itm mid mg since (seen++[b]) l.length]⟩:=by unfold live;rw[h];simp
 have hl2:live look mid mg=some ⟨mg,ro',[fW e l]⟩:=by unfold live;rw[h2];simp
 have eU:=(List.getElem?_eq_some_iff.1 hb).1
 simp only[hl,hl2,List.getLast?_append,List.getLast?_singleton,Option.some_or,fW,decide_true,aEa _ _ eU,List.getElem?_map,hb,Option.map_some]
theorem aKD {α:Type} (e:α→V) (l:List (Tx×α)) {s:St} {t id g mid mg:Nat} {seen:List Nat} {ro':Bool} (h1:s.env.get t= .it id g) (h2:s.hp.get id=some ⟨g,false,[.itm mid mg l.length seen l.length]⟩) (h3:s.hp.get mid=some ⟨mg,ro',[fW e l]⟩) (h4:id<s.n):
  aBw s t=some ⟨id,g,mid,mg,l.length,seen,l.map fun p=> .str p.1,l.map fun p=>e p.2,List.range l.length⟩:=by
 unfold aBw
 have hl:live s.hp.get id g=some ⟨g,false,[.itm mid mg l.length seen l.length]⟩:=by unfold live;rw[h2];simp
 have hl2:live s.hp.get mid mg=some ⟨mg,ro',[fW e l]⟩:=by unfold live;rw[h3];simp
 have hb:(List.range l.length).all (fun b=>decide (b<l.length))=true:=by simp[List.all_eq_true]
 have hn:decide (List.range l.length).Nodup=true:=by simp[List.nodup_range]
 have hi:Nat.blt id s.n=true:=by rw[Nat.blt_eq];exact h4
 simp only[h1,hl,hl2,fW,decide_true,hb,hn,hi]
theorem aMA {α:Type} (e:α→V) (l:List (Tx×α)) {id g mid mg:Nat} {seen:List Nat} {b:Nat} {x:Tx} {v:α} (hb:l[b]?=some (x,v)):
  aDP ⟨id,g,mid,mg,l.length,seen,l.map fun p=> .str p.1,l.map fun p=>e p.2,List.range l.length⟩ b=some ⟨.tuple [.d (.bool true),.d (.str x),e v],[(id,⟨g,false,[.itm mid mg l.length (seen++[b]) l.length]⟩)],[],0,0,false⟩:=by
 have eU:=(List.getElem?_eq_some_iff.1 hb).1
 unfold aDP
 simp only[aEa _ _ eU,List.getElem?_map,hb,Option.map_some]
theorem aJL (a b:Oper) (d:Nat):fT #[a,b] d=#[⟨some d,.move (.tmp d),0, "",#[],none⟩,b]:=rfl
def aOm (en:List En) (t:Trn) (p:Pt):Prop:=∀ hp n cc,Lies en t p hp n→
 ∃ q,nV Tryz.prog Ob.cfg 23 [.ptr p.a.x p.a.gx 0] hp n cc=some q∧q.v= .tuple []∧q.n=n∧(∀ i,i∈q.wl↔i∈rE t p)∧(∀ k,k<n→k∉rE t p→q.hp.get k=hp.get k)∧∀ e,e∈oF t.init p→q.hp.get e.1=some e.2
theorem aTZ (r:Nat):Ob.keep 23 r=Ob.k23 r:=by kernel_rfl
attribute [local simp] aTZ Ob.k23
set_option maxHeartbeats 4000000 in
theorem aKR {o:Oc} (hL:∀ c,c∈o.cl→CLen c) (en:List En):∀ (N:Nat) (t:Trn) (p:Pt),t.ht<N→t.ok o→aOm en t p:=by
 intro N
 induction N with
 | zero=>intro t p h;omega
 | succ N ih=>
 intro t p hN cC hp n cc hK
 obtain ⟨c,ms,sb⟩:=t
 obtain ⟨a,ps⟩:=p
 have hxo:=hK.st (a.x,oO a.gx en c a.im a.gm a.ii a.gi) (by rw[yI];simp)
 have hio:=hK.st (a.ii,⟨a.gi,false,[fW eP (gT c ps)]⟩) (by rw[yI];simp)
 have hmo:=hK.me (a.im,⟨a.gm,false,[fW eI ms]⟩) (by rw[oF];simp)
 obtain ⟨lx,eH⟩:=hxo
 obtain ⟨li,hii⟩:=hio
 obtain ⟨lm,him⟩:=hmo
 simp only at lx eH li hii lm him
 have mB:=hK.nd
 unfold Pt.nd at mB
 rw[lT,dE,List.nodup_append] at mB
 obtain ⟨nd1,nd2,nd3⟩:=mB
 have nxm:a.x≠a.im:=fun e=>nd3 a.x (by simp) a.im (by simp) e
 have nim:a.ii≠a.im:=fun e=>nd3 a.ii (by simp) a.im (by simp) e
 have nsub:∀ k,k∈dY ps→k≠a.x∧k≠a.ii∧k≠a.im:=fun k hk=>⟨fun e=>nd3 a.x (by simp) k (by simp[hk]) e.symm,fun e=>nd3 a.ii (by simp) k (by simp[hk]) e.symm,fun e=>by rw[List.nodup_cons] at nd2;rw[e] at hk;exact nd2.1 hk⟩
 rw[Trn.ok] at cC
 have gI:=(hL c cC.1).sum
 have nc:=nf lx
 have ni:=nf li
 have nm:=nf lm
 have lm1:(a.im<n+1)=True:=eq_true (by omega)
 have lm2:(a.im<n)=True:=eq_true lm
 have nxm':=eq_false nxm
 have nxm2:=eq_false (Ne.symm nxm)
 have hcx:=eH
 simp only[oO] at hcx
 have main:∃ (v:V) (u:St),nV Tryz.prog Ob.cfg 23 [.ptr a.x a.gx 0] hp n cc=some ⟨v,Hp.trunc n u.hp,n,u.c,u.wl⟩∧(v= .tuple []∧(∀ i,i∈u.wl↔i∈rE (.mk c ms sb) (.mk a ps))∧(∀ k,k<n→k∉rE (.mk c ms sb) (.mk a ps)→u.hp.get k=hp.get k)∧∀ e,e∈oF (Trn.init (.mk c ms sb)) (.mk a ps)→u.hp.get e.1=some e.2):=by
  refine aFq (Q:=fun v u=>v= .tuple []∧(∀ i,i∈u.wl↔i∈rE (.mk c ms sb) (.mk a ps))∧(∀ k,k<n→k∉rE (.mk c ms sb) (.mk a ps)→u.hp.get k=hp.get k)∧∀ e,e∈oF (Trn.init (.mk c ms sb)) (.mk a ps)→u.hp.get e.1=some e.2) Tryz.func23 rfl (by kernel_rfl) rfl ?_
  refine bN (j6 @aN @aO @aB @aA @hcx @nc) ?_
  apply WP.loop' (I:=fun D s=>∃ (i c':Nat) (wl:List Nat) (bB:Hp),i+D=c.mems.length∧bB.get a.im=some ⟨a.gm,false,[fW eI (puts ms (mI (c.mems.take i)))]⟩∧(∀ k,k<n→(k≠a.im∨i=0)→bB.get k=hp.get k)∧(∀ k,k∈wl↔k=a.im∧0<i)∧s=⟨[(0,.ptr a.x a.gx 0),(12,dL (lF c.mems)),(13,dI c.mems.length),(14,dI i)],bB,n,c',n,wl⟩) (d:=c.mems.length)
  ·exact ⟨0,_,_,_,by simp,by simp[him,mI,puts],fun k h1 h2=>rfl,by simp,bK (by simp[dI,dL]) rfl⟩
  rintro D _ ⟨i,c',wl,bB,hi,hm',lD,iT,rfl⟩
  have aWj:=(lD _ lx (.inl nxm)).trans hcx
  refine iX (jn @aB @aA) ?_
  show WP _ _ _ _ _ _
  refine WP.cond _ rfl (fun hb=>?_) (fun hb=>?_)
  ·simp at hb
   have bP:i<c.mems.length:=by omega
   obtain ⟨d,hd,d8,bV⟩:=bM bP
   have cG:=kI hd
   have c9:=bE bP (by omega)
   have nX:=fun (look:cA) (sz by_:Nat) (zr:Option (List V)) (h:look a.im=some ⟨a.gm,false,[fW eI (puts ms (mI (c.mems.take i)))]⟩)=>iM eI (puts ms (mI (c.mems.take i))) d.ini (w:= .d (.int .i64 d.ini)) (sz:=sz) (by_:=by_) (zr:=zr) (x:=d.nm) rfl h
   refine bN (o9 @aB @aA @bV @cG @Mm.cells.eq_1 @aH @aI @aWj @nc @nm @hm' @lm1 @nX) ?_
   refine aY (by simp[-a9,c9];exact Is.rfl) ?_
   have hps:puts ms (mI (c.mems.take (i+1)))=jY (puts ms (mI (c.mems.take i))) d.nm d.ini:=by rw[bL hd];unfold mI;rw[List.map_append];exact fQ _ _ _
   refine ⟨D - 1,by omega,i+1,_,_,_,by omega,?_,fun k h1 h2=>?_,fun k=>?_,bK (by simp[dI,dL,c9]) rfl⟩
   ·rw[hps];simp[nm,lm]
   ·have h3:(n=k)=False:=eq_false (by omega)
    have h5:k≠a.im:=by rcases h2 with h|h;exact h;omega
    have h4:(a.im=k)=False:=eq_false (Ne.symm h5)
    simp[h1,h3,h4,lD k h1 (.inl h5)]
   ·simp only[i4,List.map_cons,List.map_nil,List.mem_cons,List.not_mem_nil,or_false,iT k]
    omega
  simp at hb
  have kP:i=c.mems.length:=by omega
  rw[kP,List.take_length] at hm'
  have aRW:=(lD _ li (.inl nim)).trans hii
  have hrg:=fun (look:cA) (n' c'':Nat) (h:look a.ii=some ⟨a.gi,false,[fW eP (gT c ps)]⟩)=>aMl eP (gT c ps) (n:=n') (c:=c'') h
  refine bN (j9 @aB @aA @aWj @nc @ni @aRW @aDV.eq_1 @aDV.eq_2 @hrg) ?_
  rw[Trn.init]
  have fA:=hK.fit
  rw[fit] at fA
  obtain ⟨yY,hfl⟩:=fA
  have hpl:=oZ sb ps hfl
  have e9:(gT c ps).length=ps.length:=by unfold gT;simp;omega
  have aIa:eY (hJ sb) ps:=by rw[←xQ,zH,xQ];exact hfl
  have aZn:∀ (j:Nat) (q:Pt),ps[j]?=some q→∃ x,(gT c ps)[j]?=some (x,(q.a.x,q.a.gx)):=by
   intro j q hq
   have hj:=(List.getElem?_eq_some_iff.1 hq).1
   refine ⟨(c.ins[j]'(by omega)).nm,?_⟩
   unfold gT
   rw[List.getElem?_zip_eq_some]
   refine ⟨by simp[List.getElem?_map,List.getElem?_eq_getElem (show j<c.ins.length by omega)],by simp[List.getElem?_map,hq]⟩
  generalize hG:(fun k=>match (yK (hJ sb) ps).find? (fun e=>decide (e.1=k)) with|some e=>some e.2|none=>bB.get k:Nat→Option Ob)=G
  have hGm:∀ e,e∈yK (hJ sb) ps→G e.1=some e.2:=by
   intro e he
   have hk:=lW (hJ sb) ps aIa
   rw[List.nodup_cons] at nd2
   have hnk:((yK (hJ sb) ps).map Prod.fst).Nodup:=by rw[hk];exact nd2.2
   rw[←hG]
   simp only
   cases hf:(yK (hJ sb) ps).find? (fun x=>decide (x.1=e.1)) with
   | none=>
    rw[List.find?_eq_none] at hf
    have:=hf e he
    simp at this
   | some x=>
    have jI:x.1=e.1:=by simpa using List.find?_some hf
    have hxm:=List.mem_of_find?_eq_some hf
    simp only
    congr 1
    exact aDc hnk hxm he jI
  have hGn:∀ k,k∉dY ps→G k=bB.get k:=by
   intro k hk
   rw[←lW (hJ sb) ps aIa] at hk
   rw[←hG]
   simp only
   cases hf:(yK (hJ sb) ps).find? (fun x=>decide (x.1=k)) with
   | none=>rfl
   | some x=>
    have jI:x.1=k:=by simpa using List.find?_some hf
    exact absurd (List.mem_map.2 ⟨x,List.mem_of_find?_eq_some hf,jI⟩) hk
  clear hG
  generalize bAb:gT c ps=L at*
  refine WP.mapLoop (it:=n) (hn:=rfl) (Inv:=fun l u=>∃ (seen:List Nat) (c2:Nat) (wl2:List Nat) (eW:Hp),l.Perm ((List.range L.length).filter fun b=> !seen.contains b)∧eW.get n=some ⟨c',false,[.itm a.ii a.gi L.length seen L.length]⟩∧(∀ k,k<n→(¬ ∃ (j:Nat) (t:Trn) (p:Pt),j∈seen∧sb[j]?=some t∧ps[j]?=some p∧k∈rE t p)→eW.get k=bB.get k)∧
   (∀ (j:Nat) (t:Trn) (p:Pt),sb[j]?=some t→ps[j]?=some p→∀ e,e∈oF (if j∈seen then t.init else t) p→eW.get e.1=some e.2)∧(∀ k,k∈wl2↔k∈wl∨∃ (j:Nat) (t:Trn) (p:Pt),j∈seen∧sb[j]?=some t∧ps[j]?=some p∧k∈rE t p)∧
   u=⟨[(31,.it n c')],eW,n+1,c2,n,wl2⟩) (E:= .exit 2) (U:=fun t=>oH.get [(31,.it n c')] t) (G:=G) (W:=fun k=>k∈wl∨k∈wsL sb ps) (by simp) (aKD eP L (id:=n) (g:=c') (mid:=a.ii) (mg:=a.gi) (seen:=[]) (ro':=false) rfl (by simp) (by simp[ni,aRW]) (Nat.lt_succ_self n)) (Nat.le_succ n) (Nat.le_refl n) (fun _=>rfl) ?_ rfl ?_ ?_
  ·rintro l u ⟨seen,c2,wl2,eW,y7,hit,aPp,aRX,aNS,rfl⟩
   have aLH:∀ k,k∉dY ps→¬ ∃ (j:Nat) (t:Trn) (p:Pt),j∈seen∧sb[j]?=some t∧ps[j]?=some p∧k∈rE t p:=by
    rintro k hk ⟨j,t,p,_,_,h2,h3⟩
    exact hk (jO ps j p h2 k (jE t p k h3))
   have aWk:eW.get a.ii=some ⟨a.gi,false,[fW eP L]⟩:=(aPp _ li (aLH _ fun h=>(nsub _ h).2.1 rfl)).trans aRW
   refine ⟨_,aKD eP L (id:=n) (g:=c') (mid:=a.ii) (mg:=a.gi) (seen:=seen) (ro':=false) rfl hit aWk (Nat.lt_succ_self n),y7.symm,fun hl=>?_,fun x hx=>?_⟩
   ·rw[aJL]
    show WP _ _ _ _ ⟨(32,.tuple [.d (.bool false)])::[(31,.it n c')],eW,n+1,c2,n,wl2⟩ _
    refine bN True.intro ?_
    have gW:∀ j,j<L.length→j∈seen:=by
     intro j hj
     rw[hl] at y7
     have:=List.perm_nil.1 y7.symm
     rw[List.filter_eq_nil_iff] at this
     simpa using this j (List.mem_range.2 hj)
    show FinS _ _ _ _ _ _ _ (Ex.exit 2) _
    refine ⟨rfl,fun t=>?_,fun id h1 h2=>?_,rfl,fun k=>?_⟩
    ·by_cases ht:t=31
     ·subst ht;right;rfl
     ·left
      simp only[oH.get]
      rw[rR (fun e=>ht e.symm)]
    ·have yN:id<n:=by have:id<n+1:=h1;omega
     show eW.get id=G id
     by_cases hm:id∈dY ps
     ·obtain ⟨j,p,hj,hk⟩:=aJO ps id hm
      have hjl:=(List.getElem?_eq_some_iff.1 hj).1
      have qO:sb[j]?=some (sb[j]'(by omega)):=List.getElem?_eq_getElem (by omega)
      have hji:(hJ sb)[j]?=some (sb[j]'(by omega)).init:=by rw[aBn,List.getElem?_map,qO];rfl
      rw[←eB _ p (qH _ ps j _ p aIa hji hj)] at hk
      obtain ⟨e,he,rfl⟩:=List.mem_map.1 hk
      rw[hGm e ((sS _ _ _).2 ⟨j,_,p,hji,hj,he⟩)]
      exact aRX j _ p qO hj e (by rw[if_pos (gW j (by omega))];exact he)
     ·rw[hGn id hm]
      exact aPp id yN (aLH id hm)
    ·show k∈wl2↔_
     rw[aNS k,aJI]
     refine or_congr Iff.rfl ⟨?_,?_⟩
     ·rintro ⟨j,t,p,_,h2,h3,h4⟩;exact ⟨j,t,p,h2,h3,h4⟩
     ·rintro ⟨j,t,p,h2,h3,h4⟩
      have hjl:=(List.getElem?_eq_some_iff.1 h3).1
      exact ⟨j,t,p,gW j (by omega),h2,h3,h4⟩
   ·have hxf:x∈(List.range L.length).filter fun b=> !seen.contains b:=y7.subset hx
    rw[List.mem_filter] at hxf
    have wC:=List.mem_range.1 hxf.1
    have hxn:x∉seen:=by simpa using hxf.2
    have hq:ps[x]?=some (ps[x]'(by omega)):=List.getElem?_eq_getElem (by omega)
    have jP:sb[x]?=some (sb[x]'(by omega)):=List.getElem?_eq_getElem (by omega)
    generalize (ps[x]'(by omega))=q at hq
    generalize (sb[x]'(by omega))=t at jP
    obtain ⟨xn,hLx⟩:=aZn x q hq
    refine ⟨_,aMA eP L hLx,?_⟩
    rw[aJL]
    generalize hh3:eW.set n ⟨c',false,[.itm a.ii a.gi L.length (seen++[x]) L.length]⟩=fX
    show WP _ _ _ _ ⟨(32,.tuple [.d (.bool true),.d (.str xn),eP (q.a.x,q.a.gx)])::[(31,.it n c')],eW.set n ⟨c',false,[.itm a.ii a.gi L.length (seen++[x]) L.length]⟩,n+1,c2,n,a9 n wl2 [(n,⟨c',false,[.itm a.ii a.gi L.length (seen++[x]) L.length]⟩)]⟩ _
    rw[hh3]
    have g3:∀ k,k<n→fX.get k=eW.get k:=fun k hk=>by rw[←hh3,Hp.get_set_ne _ _ _ _ (by omega)]
    have g3n:fX.get n=some ⟨c',false,[.itm a.ii a.gi L.length (seen++[x]) L.length]⟩:=by rw[←hh3];exact Hp.get_set_self ..
    have aZo:fX.get a.ii=some ⟨a.gi,false,[fW eP L]⟩:=(g3 _ li).trans aWk
    obtain ⟨q',g9,hLt⟩:=hK.sub (i:=x) (u:=t) jP
    have:q'=q:=by
     have h1:ps[x]?=some q':=g9
     rw[hq] at h1;simpa using h1.symm
    subst this
    have aWl:Lies en t q' fX (n+1):=by
     refine ⟨hLt.fit,hLt.nd,fun e he=>?_,fun e he=>?_⟩
     ·obtain ⟨h1,h2⟩:=hLt.st e he
      have hs:e.1∈lT q':=by rw[←qZ en t q' hLt.fit];exact List.mem_map.2 ⟨e,he,rfl⟩
      have hs2:e.1∈gE ps:=aFR ps x q' hq _ hs
      have hnm:e.1∉dY ps:=fun h=>nd3 e.1 (by simp[hs2]) e.1 (by simp[h]) rfl
      have hni:e.1≠a.im:=fun h=>nd3 e.1 (by simp[hs2]) a.im (by simp) h
      refine ⟨by omega,?_⟩
      rw[g3 _ h1,aPp _ h1 (aLH _ hnm),lD _ h1 (.inl hni)]
      exact h2
     ·obtain ⟨h1,h2⟩:=hLt.me e he
      exact ⟨by omega,by rw[g3 _ h1];exact aRX x t q' jP hq e (by rw[if_neg hxn];exact he)⟩
    have hht:t.ht<N:=by
     have:=lM (List.mem_of_getElem? jP)
     rw[Trn.ht] at hN
     omega
    obtain ⟨d',cG,_,aZp⟩:=uZ o sb c.ins x t cC.2.2 jP
    obtain ⟨r,lZ,hrv,hrn,hrw,hrf,hrm⟩:=ih t q' hht aZp fX (n+1) c2 aWl
    have rX:∀ k,k∈(sK r (n+1)).map (·.1)→k<n+1+(r.n - (n+1)):=by
     intro k hk
     obtain ⟨h1,h2⟩:=(aCL hrn).1 hk
     have:=aWl.mids_lt k (jE t q' k ((hrw k).1 h1))
     omega
    have hen:=fun (look:cA) (h:look n=some ⟨c',false,[.itm a.ii a.gi L.length (seen++[x]) L.length]⟩) (h2:look a.ii=some ⟨a.gi,false,[fW eP L]⟩)=>aIm eP L h h2 hLx
    refine bN (j5 @g3n @aZo @hen @eP.eq_1 @hrn) ?_
    have aRP:∀ k,k∈rE t q'→k<n:=fun k hk=>hLt.mids_lt k (jE t q' k hk)
    have gk:∀ k,k<n+1→(fX.sets (sK r (n+1))).get k=if k∈rE t q' then r.hp.get k else fX.get k:=by
     intro k hk
     rw[aCB hrn]
     by_cases hw:k∈rE t q'
     ·have hm:=jE t q' k hw
      rw[←eB t.init q' (by rw[←dA,lE,dA];exact hLt.fit)] at hm
      obtain ⟨e,he,rfl⟩:=List.mem_map.1 hm
      rw[if_pos hw,if_pos ⟨(hrw _).2 hw,by rw[hrm e he];rfl⟩]
     ·rw[if_neg hw,if_neg fun h=>hw ((hrw k).1 h.1)]
    have vU:∀ (k:Nat),(∃ (j:Nat) (t:Trn) (p:Pt),j∈seen++[x]∧sb[j]?=some t∧ps[j]?=some p∧k∈rE t p)↔(∃ (j:Nat) (t:Trn) (p:Pt),j∈seen∧sb[j]?=some t∧ps[j]?=some p∧k∈rE t p)∨k∈rE t q':=by
     intro k
     constructor
     ·rintro ⟨j,t2,p2,h1,h2,h3,h4⟩
      rcases List.mem_append.1 h1 with h1|h1
      ·exact .inl ⟨j,t2,p2,h1,h2,h3,h4⟩
      ·rw[List.mem_singleton] at h1
       subst h1
       rw[jP] at h2;rw[hq] at h3
       simp only[Option.some.injEq] at h2 h3
       subst h2;subst h3
       exact .inr h4
     ·rintro (⟨j,t2,p2,h1,h2,h3,h4⟩|h)
      ·exact ⟨j,t2,p2,List.mem_append_left _ h1,h2,h3,h4⟩
      ·exact ⟨x,t,q',by simp,jP,hq,h⟩
    refine Or.inl ⟨rfl,seen++[x],_,_,Hp.trunc (n+1) (fX.sets (sK r (n+1))),?_,?_,fun k h1 h2=>?_,fun j t2 p2 h1 h2 e he=>?_,fun k=>?_,rfl⟩
    ·have h1:=y7.erase x
     refine h1.trans ?_
     rw[List.Nodup.erase_eq_filter (List.Pairwise.filter _ List.nodup_range),List.filter_filter]
     refine List.Perm.of_eq (List.filter_congr fun b _=>?_)
     simp only[List.contains_eq_mem,List.mem_append,List.mem_singleton]
     by_cases h2:b=x <;> by_cases h3:b∈seen <;> simp[h2,h3]
    ·rw[Hp.get_trunc _ _ _ (Nat.lt_succ_self n),gk n (Nat.lt_succ_self n),if_neg fun h=>Nat.lt_irrefl n (aRP n h)]
     exact g3n
    ·rw[vU k] at h2
     rw[Hp.get_trunc _ _ _ (by omega),gk k (by omega),if_neg fun h=>h2 (.inr h),g3 k h1]
     exact aPp k h1 fun h=>h2 (.inl h)
    ·by_cases hjx:j=x
     ·subst hjx
      rw[jP] at h1;rw[hq] at h2
      simp only[Option.some.injEq] at h1 h2
      subst h1;subst h2
      rw[if_pos (by simp)] at he
      have hfi:fit t.init q':=by rw[←dA,lE,dA];exact hLt.fit
      have hm:e.1∈dE q':=by rw[←eB t.init q' hfi];exact List.mem_map.2 ⟨e,he,rfl⟩
      have eU:=hLt.mids_lt _ hm
      rw[Hp.get_trunc _ _ _ (by omega),gk _ (by omega)]
      split
      ·exact hrm e he
      ·rename_i hw
       rw[←hrf _ (by omega) hw];exact hrm e he
     ·have hfj:=qH sb ps j t2 p2 hfl h1 h2
      have hm:e.1∈dE p2:=by
       split at he
       ·rw[←eB t2.init p2 (by rw[←dA,lE,dA];exact hfj)];exact List.mem_map.2 ⟨e,he,rfl⟩
       ·rw[←eB t2 p2 hfj];exact List.mem_map.2 ⟨e,he,rfl⟩
      have eU:e.1<n:=hK.mids_lt _ (by rw[dE];exact List.mem_cons_of_mem _ (jO ps j p2 h2 _ hm))
      rw[List.nodup_cons] at nd2
      have cF:=aCP ps nd2.2 j x p2 q' h2 hq hjx e.1 hm
      rw[Hp.get_trunc _ _ _ (by omega),gk _ (by omega),if_neg fun h=>cF (jE t q' _ h),g3 _ eU]
      refine aRX j t2 p2 h1 h2 e ?_
      have:(j∈seen++[x])=(j∈seen):=by simp[hjx]
      simp only[this] at he
      exact he
    ·rw[vU k,i4,i4,aNS k,aCL hrn,hrw k]
     simp only[List.map_cons,List.map_nil,List.mem_singleton]
     constructor
     ·rintro ((h|⟨h,h2⟩)|⟨h,h2,h3⟩)
      ·rcases h with h|h
       ·exact .inl h
       ·exact .inr (.inl h)
      ·omega
      ·exact .inr (.inr h2)
     ·rintro (h|h|h)
      ·exact .inl (.inl (.inl h))
      ·exact .inl (.inl (.inr h))
      ·refine .inr ⟨aRP k h,h,?_⟩
       have hm:=jE t q' k h
       rw[←eB t.init q' (by rw[←dA,lE,dA];exact hLt.fit)] at hm
       obtain ⟨e,he,rfl⟩:=List.mem_map.1 hm
       rw[hrm e he];rfl
  ·refine ⟨[],_,_,_,?_,by simp,fun k h1 _=>?_,fun j t p h1 h2 e he=>?_,fun k=>?_,rfl⟩
   ·exact List.Perm.refl _
   ·rw[Hp.get_set_ne _ _ _ _ (by omega)]
   ·rw[if_neg (by simp)] at he
    have hin:e∈oF (.mk c ms sb) (.mk a ps):=by rw[oF];exact List.mem_cons_of_mem _ ((sS _ _ _).2 ⟨j,t,p,h1,h2,he⟩)
    obtain ⟨g1,g2⟩:=hK.me e hin
    have hm:e.1∈dE p:=by rw[←eB t p (qH sb ps j t p hfl h1 h2)];exact List.mem_map.2 ⟨e,he,rfl⟩
    rw[Hp.get_set_ne _ _ _ _ (by omega),lD _ g1 (.inl (nsub _ (jO ps j p h2 _ hm)).2.2)]
    exact g2
   ·rw[i4]
    simp only[List.map_cons,List.map_nil,List.mem_singleton,List.not_mem_nil,false_and,exists_false,or_false]
    constructor
    ·rintro (h|⟨h1,h2⟩)
     ·exact h
     ·omega
    ·exact fun h=> .inl h
  ·intro env hpf cf wlf aVY _ aZq aZr
   have aZs:a.im∉dY ps:=fun h=>(nsub _ h).2.2 rfl
   have hgf:∀ k,k<n→hpf.get k=G k:=fun k hk=>by
    rw[aZq k,if_neg (by omega),if_pos (show k<n+1 by omega)]
   show (Ex.normal=Ex.normal∨_)∧_
   refine ⟨.inl rfl,[],.tuple [],[],rfl,rfl,rfl,rfl,fun k=>?_,fun k h1 h2=>?_,fun e he=>?_⟩
   ·show k∈wlf↔_
    rw[aZr k,rE,List.mem_append,iT k]
    by_cases hm0:c.mems=[]
    ·rw[if_pos hm0]
     rw[hm0] at kP
     simp at kP
     simp[kP]
    ·have:0<c.mems.length:=List.length_pos_iff.2 hm0
     rw[if_neg hm0]
     simp[show 0<i by omega]
   ·show hpf.get k=_
    rw[hgf k h1]
    rw[rE,List.mem_append] at h2
    by_cases hm:k∈dY ps
    ·rw[←lW (hJ sb) ps aIa] at hm
     obtain ⟨e,he,rfl⟩:=List.mem_map.1 hm
     have h3:=zK sb ps e he fun h=>h2 (.inr h)
     rw[hGm e he]
     exact ((hK.me e (by rw[oF];exact List.mem_cons_of_mem _ h3)).2).symm
    ·rw[hGn k hm]
     refine lD k h1 ?_
     by_cases hk:k=a.im
     ·right
      by_cases hm0:c.mems=[]
      ·rw[kP,hm0];rfl
      ·exact absurd (.inl (by rw[if_neg hm0,hk];simp)) h2
     ·exact .inl hk
   ·show hpf.get e.1=_
    rw[oF,List.mem_cons] at he
    rcases he with he|he
    ·subst he
     rw[hgf _ lm,hGn _ aZs];exact hm'
    ·have hk:e.1∈dY ps:=by rw[←lW (hJ sb) ps aIa];exact List.mem_map.2 ⟨e,he,rfl⟩
     rw[hgf _ (hK.mids_lt _ (by rw[dE];exact List.mem_cons_of_mem _ hk)),hGm e he]
 obtain ⟨v,u,h1,rfl,h3,h4,h5⟩:=main
 refine ⟨_,h1,rfl,rfl,h3,fun k hk hw=>?_,fun e he=>?_⟩
 ·show (Hp.trunc n u.hp).get k=_
  rw[Hp.get_trunc _ _ _ hk];exact h4 k hk hw
 ·show (Hp.trunc n u.hp).get e.1=_
  have hfi:fit (Trn.init (.mk c ms sb)) (.mk a ps):=by rw[←dA,lE,dA];exact hK.fit
  have hm:e.1∈dE (.mk a ps):=by rw[←eB _ _ hfi];exact List.mem_map.2 ⟨e,he,rfl⟩
  rw[Hp.get_trunc _ _ _ (hK.mids_lt _ hm)];exact h5 e he
end Go.Ac
end
section
set_option maxRecDepth 4000
namespace Go.Ac
open Go.Proofs
theorem Lies.upS {en:List En} {t u:Trn} {p:Pt} {hp bB:Hp} {n:Nat} (h:Lies en t p hp n) (hb:u.bare=t.bare) (hf:∀ k,k<n→k∈lT p→bB.get k=hp.get k) (hm:∀ q,q∈oF u p→bB.get q.1=some q.2):Lies en u p bB n:=by
 have fA:Go.Ac.fit u p:=by rw[←dA,hb,dA];exact h.fit
 refine ⟨fA,h.nd,fun q hq=>?_,fun q hq=>?_⟩
 ·rw[←wS,hb,wS] at hq
  obtain ⟨h1,h2⟩:=h.st q hq
  exact ⟨h1,(hf _ h1 (by rw[←qZ en t p h.fit];exact List.mem_map.2 ⟨q,hq,rfl⟩)).trans h2⟩
 ·refine ⟨h.mids_lt _ ?_,hm q hq⟩
  rw[←eB u p fA];exact List.mem_map.2 ⟨q,hq,rfl⟩
structure EA (en:List En) (c:Cl) (pb:Pb) (ps:List Pt) (v gv:Nat) (s:Es) (hp:Hp) (n:Nat):Prop where
 li:Lies en (.mk c s.ms s.sb) (.mk pb ps) hp n
 va:hp.get v=some ⟨gv,false,[fW eI s.vs]⟩
 lv:v<n
 ds:v∉lT (.mk pb ps)
 dm:v∉dE (.mk pb ps)
def aIP (pb:Pb) (v gv:Nat):Pa:=⟨pb.x,pb.gx,pb.im,pb.gm,pb.ii,pb.gi,v,gv⟩
section
variable {en:List En} {c:Cl} {pb:Pb} {ps:List Pt} {v gv:Nat} {s:Es} {hp bB:Hp} {n n':Nat}
theorem EA.mono (h:EA en c pb ps v gv s hp n) (ha:Ag n hp bB) (hn:n≤n'):EA en c pb ps v gv s bB n':=
 ⟨h.li.mono ha hn,(ha _ h.lv).trans h.va,Nat.lt_of_lt_of_le h.lv hn,h.ds,h.dm⟩
theorem EA.ob (h:EA en c pb ps v gv s hp n):pb.x<n∧hp.get pb.x=some (oO pb.gx en c pb.im pb.gm pb.ii pb.gi):=h.li.st (pb.x,oO pb.gx en c pb.im pb.gm pb.ii pb.gi) (by rw[yI];simp)
theorem EA.io (h:EA en c pb ps v gv s hp n):pb.ii<n∧hp.get pb.ii=some ⟨pb.gi,false,[fW eP (gT c ps)]⟩:=h.li.st (pb.ii,⟨pb.gi,false,[fW eP (gT c ps)]⟩) (by rw[yI];simp)
theorem EA.mo (h:EA en c pb ps v gv s hp n):pb.im<n∧hp.get pb.im=some ⟨pb.gm,false,[fW eI s.ms]⟩:=h.li.me (pb.im,⟨pb.gm,false,[fW eI s.ms]⟩) (by rw[oF];simp)
theorem EA.ra (h:EA en c pb ps v gv s hp n):RA (aIP pb v gv) en c s.ms s.vs hp n:=⟨h.ob.2,h.mo.2,h.va,h.ob.1,h.mo.1,h.lv⟩
theorem EA.vne (h:EA en c pb ps v gv s hp n):v≠pb.x∧v≠pb.ii∧v≠pb.im:=by
 have h1:=h.ds
 have h2:=h.dm
 rw[lT] at h1
 rw[dE] at h2
 exact ⟨fun e=>h1 (by simp[e]),fun e=>h1 (by simp[e]),fun e=>h2 (by simp[e])⟩
theorem EA.mlt (h:EA en c pb ps v gv s hp n):∀ k,k∈dE (.mk pb ps)→k<n:=h.li.mids_lt
theorem EA.setV (h:EA en c pb ps v gv s hp n) {vs':List (Tx×Int)} (hg:∀ id,id<n→bB.get id=if id=v then some ⟨gv,false,[fW eI vs']⟩ else hp.get id):EA en c pb ps v gv { s with vs:=vs' } bB n:=by
 refine ⟨h.li.upS rfl (fun k hk hs=>?_) fun q hq=>?_,?_,h.lv,h.ds,h.dm⟩
 ·rw[hg k hk,if_neg (fun e:k=v=>h.ds (by rw[←e];exact hs))]
 ·obtain ⟨h1,h2⟩:=h.li.me q hq
  rw[hg _ h1,if_neg,h2]
  intro e
  have:q.1∈dE (.mk pb ps):=by rw[←eB _ _ h.li.fit];exact List.mem_map.2 ⟨q,hq,rfl⟩
  exact h.dm (e▸this)
 ·rw[hg v h.lv,if_pos rfl]
theorem EA.setM (h:EA en c pb ps v gv s hp n) {ms':List (Tx×Int)} (hg:∀ id,id<n→bB.get id=if id=pb.im then some ⟨pb.gm,false,[fW eI ms']⟩ else hp.get id):EA en c pb ps v gv { s with ms:=ms' } bB n:=by
 have hnm:pb.im∉dY ps:=by
  have:=h.li.nd
  unfold Pt.nd at this
  rw[dE,List.nodup_append,List.nodup_cons] at this
  exact this.2.1.1
 have fA:=h.li.fit
 rw[fit] at fA
 refine ⟨h.li.upd (by rw[Trn.bare,Trn.bare]) (fun k hk hm=>?_) fun q hq=>?_,?_,h.lv,h.ds,h.dm⟩
 ·rw[hg k hk,if_neg]
  intro e;exact hm (by rw[dE];simp[e])
 ·rw[oF,List.mem_cons] at hq
  rcases hq with hq|hq
  ·subst hq;rw[hg _ h.mo.1,if_pos rfl]
  ·obtain ⟨h1,h2⟩:=h.li.me q (by rw[oF];exact List.mem_cons_of_mem _ hq)
   rw[hg _ h1,if_neg,h2]
   intro e
   have:q.1∈dY ps:=by rw[←lW s.sb ps fA.2];exact List.mem_map.2 ⟨q,hq,rfl⟩
   rw[e] at this;exact hnm this
 ·rw[hg v h.lv,if_neg h.vne.2.2];exact h.va
theorem EA.setS (h:EA en c pb ps v gv s hp n) {i:Nat} {t u:Trn} {q:Pt} (ht:s.sb[i]?=some t) (hq:ps[i]?=some q) (hb:u.bare=t.bare) (hf:∀ id,id<n→id∉dE q→bB.get id=hp.get id) (hm:∀ e,e∈oF u q→bB.get e.1=some e.2):EA en c pb ps v gv { s with sb:=s.sb.set i u } bB n:=by
 have mB:(pb.im::dY ps).Nodup:=by
  have:=h.li.nd
  unfold Pt.nd at this
  rw[dE,List.nodup_append] at this
  exact this.2.1
 rw[List.nodup_cons] at mB
 have fA:=h.li.fit
 rw[fit] at fA
 refine ⟨h.li.upd (by rw[Trn.bare,Trn.bare,aAt ht hb]) (fun k hk hm=>hf k hk fun h2=>hm (by rw[dE];exact List.mem_cons_of_mem _ (jO ps i q hq k h2))) fun e he=>?_,?_,h.lv,h.ds,h.dm⟩
 ·rw[oF,List.mem_cons] at he
  rcases he with he|he
  ·subst he
   rw[hf _ h.mo.1 fun h2=>mB.1 (jO ps i q hq _ h2)];exact h.mo.2
  ·obtain ⟨j,t2,p2,h1,h2,h3⟩:=(sS _ _ _).1 he
   rw[List.getElem?_set] at h1
   split at h1
   ·rename_i hij
    subst hij
    split at h1
    ·simp only[Option.some.injEq] at h1
     subst h1
     rw[hq] at h2
     simp only[Option.some.injEq] at h2
     subst h2
     exact hm e h3
    ·cases h1
   ·rename_i hij
    obtain ⟨g1,g2⟩:=h.li.me e (by rw[oF];exact List.mem_cons_of_mem _ ((sS _ _ _).2 ⟨j,t2,p2,h1,h2,h3⟩))
    have hk:e.1∈dE p2:=by rw[←eB t2 p2 (qH s.sb ps j t2 p2 fA.2 h1 h2)];exact List.mem_map.2 ⟨e,h3,rfl⟩
    rw[hf _ g1 (aCP ps mB.2 j i p2 q h2 hq (fun e=>hij e.symm) _ hk)]
    exact g2
 ·rw[hf v h.lv fun h2=>h.dm (by rw[dE];exact List.mem_cons_of_mem _ (jO ps i q hq v h2))];exact h.va
theorem EA.setA (h:EA en c pb ps v gv s hp n) {s':Es} (hb:e8 s'.sb=e8 s.sb) (hf:∀ id,id<n→id≠v→id∉dE (.mk pb ps)→bB.get id=hp.get id) (hv:bB.get v=some ⟨gv,false,[fW eI s'.vs]⟩) (hm:∀ e,e∈oF (.mk c s'.ms s'.sb) (.mk pb ps)→bB.get e.1=some e.2):EA en c pb ps v gv s' bB n:=by
 refine ⟨h.li.upS (by rw[Trn.bare,Trn.bare,hb]) (fun k hk hs=>hf k hk (fun e=>h.ds (e▸hs)) fun hm2=>?_) hm,hv,h.lv,h.ds,h.dm⟩
 exact (List.nodup_append.1 h.li.nd).2.2 _ hs _ hm2 rfl
end
end Go.Ac
end
