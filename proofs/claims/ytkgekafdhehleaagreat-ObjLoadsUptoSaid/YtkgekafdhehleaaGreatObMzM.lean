/- What a statement assigns under a nil context: the reference's. -/
import Derived.Test.YtkgekafdhehleaaGreatObVM
set_option linter.unusedVariables false
set_option linter.unusedSimpArgs false
section
set_option maxRecDepth 4000
namespace Go.Ac
open Go.Proofs
mutual
def wG (o:Oc) (c:Cl):List Pr→List Y→Y→Int
 | cx,bf,.mk k nm t r outs args brs=>
  if aU (.mk k nm t r outs args brs)=false then 5
  else if k=1 then (if (eF ⟨o,c,bf,cx⟩ r).2≠0 then (eF ⟨o,c,bf,cx⟩ r).2 else jJ ⟨o,c,bf,cx⟩ nm (eF ⟨o,c,bf,cx⟩ r).1)
  else if k=2 then (if (eF ⟨o,c,bf,cx⟩ r).2≠0 then (eF ⟨o,c,bf,cx⟩ r).2 else if eO c.mems nm=0 then 6 else if eO c.mems nm≠(eF ⟨o,c,bf,cx⟩ r).1 then 10 else 0)
  else if k=3 then (if dF c nm=0 then 6 else if mG ⟨o,c,bf,cx⟩ nm=false then 22 else if t≠dF c nm∨dF c nm=2 then 10 else if (brs.length:Int)≠fG o.en (dF c nm) then 9 else uY o c cx bf nm 0 brs)
  else if k=4 then aDY ⟨o,c,bf,cx⟩ (.mk k nm t r outs args brs)
  else if (fD c.ins o.cl nm).2=false then 6 else 0
def fU (o:Oc) (c:Cl):List Pr→List Y→List Y→Int
 | _,_,[]=>0
 | cx,bf,y::r=>if wG o c cx bf y≠0 then wG o c cx bf y else fU o c cx (bf++[y]) r
def uY (o:Oc) (c:Cl):List Pr→List Y→Tx→Nat→List (List Y)→Int
 | _,_,_,_,[]=>0
 | cx,bf,nm,k,b::r=>if fU o c (cx++[⟨nm,k⟩]) bf b≠0 then fU o c (cx++[⟨nm,k⟩]) bf b else uY o c cx bf nm (k+1) r
end
theorem aAJ (o:Oc) (c:Cl) (cx:List Pr) (bf:List Y) (y:Y):wG o c cx bf y=
  if aU y=false then 5
  else if y.k=1 then (if (eF ⟨o,c,bf,cx⟩ y.r).2≠0 then (eF ⟨o,c,bf,cx⟩ y.r).2 else jJ ⟨o,c,bf,cx⟩ y.nm (eF ⟨o,c,bf,cx⟩ y.r).1)
  else if y.k=2 then (if (eF ⟨o,c,bf,cx⟩ y.r).2≠0 then (eF ⟨o,c,bf,cx⟩ y.r).2 else if eO c.mems y.nm=0 then 6 else if eO c.mems y.nm≠(eF ⟨o,c,bf,cx⟩ y.r).1 then 10 else 0)
  else if y.k=3 then (if dF c y.nm=0 then 6 else if mG ⟨o,c,bf,cx⟩ y.nm=false then 22 else if y.t≠dF c y.nm∨dF c y.nm=2 then 10 else if (y.brs.length:Int)≠fG o.en (dF c y.nm) then 9 else uY o c cx bf y.nm 0 y.brs)
  else if y.k=4 then aDY ⟨o,c,bf,cx⟩ y
  else if (fD c.ins o.cl y.nm).2=false then 6 else 0:=by cases y;rw[wG];rfl
def zM (w:Pl) (y:Y):Int:=if dF w.c y.nm=0 then 6 else if mG w y.nm=false then 22 else if y.t≠dF w.c y.nm∨dF w.c y.nm=2 then 10 else if (y.brs.length:Int)≠fG w.o.en (dF w.c y.nm) then 9 else uY w.o w.c w.cx w.bf y.nm 0 y.brs
theorem WOK.upd {w:Pl} (h:WOK w) {bf:List Y} {cx:List Pr} (hb:cx.length+iG bf≤8388608):WOK ⟨w.o,w.c,bf,cx⟩:=⟨h.inn,h.out,h.loc,h.mems,h.ins,h.cl,hb⟩
theorem pD (l:List Y):∀ r∈dM l,r.length=12:=by rw[pF];intro r hr;obtain ⟨x,_,rfl⟩:=List.mem_map.1 hr;rw[aC];rfl
theorem aEM (l:List Y) (y:Y):dM l++[y.cells]=dM (l++[y]):=by simp[pF]
theorem zU (a b:List Y):iG (a++b)=iG a+iG b:=by simp[zX]
theorem aDO {l:List Y} {j:Nat} {y:Y} (h:l[j]?=some y):iG (l.take j)+y.sz≤iG l:=by
 have e:l=l.take j++y::l.drop (j+1):=by rw[←iF h,List.take_append_drop]
 have:iG l=iG (l.take j++y::l.drop (j+1)):=by rw[←e]
 rw[this,zU,iG];omega
theorem Y.ok_eq {y:Y} (h:y.ok):vB y.t∧y.r.ok∧okX y.args∧okB y.brs:=by cases y;rw[Y.ok] at h;exact h.2
def aIf (N:Nat):Prop:=∀ (w:Pl) (l:List Y),iG l<N→WOK w→(∀ nm,vB (dF w.c nm))→w.cx.length+iG w.bf+iG l≤8388608→okY l→eJ Tryz.prog Ob.cfg 32 [aG w.cells,dL (dM l)]=some (dI (fU w.o w.c w.cx w.bf l))
theorem aTU (r:Nat):Ob.keep 118 r=Ob.k118 r:=by kernel_rfl
theorem aXx (r:Nat):Ob.keep 76 r=Ob.k76 r:=by kernel_rfl
theorem aYc (r:Nat):Ob.keep 32 r=Ob.k32 r:=by kernel_rfl
attribute [local simp] aTU Ob.k118 aXx Ob.k76 aYc Ob.k32
set_option maxHeartbeats 4000000 in
theorem aMi {N:Nat} (ih:aIf N) (w:Pl) (hw:WOK w) (hty:∀ nm,vB (dF w.c nm)) (y:Y) (hN:y.sz<N+1) (oV:w.cx.length+iG w.bf+y.sz≤8388608) (cC:y.ok):eJ Tryz.prog Ob.cfg 118 [aG w.cells,aG y.cells]=some (dI (zM w y)):=by
 rw[Y.sz_eq] at hN oV
 have k2:=s8 y.brs
 have h1:=aMe w y.nm hw.out hw.loc hw.inn
 have h2:=aHK w y.nm hw
 have h3:=aGv w.o.en (dF w.c y.nm) (hty y.nm)
 obtain ⟨ok1,ok2,ok3,ok4⟩:=Y.ok_eq cC
 simp only[aG,Pl.cells,List.map_cons,List.map_nil,dL,dS,dI,dB] at h1 h2 h3
 refine bI Tryz.func118 rfl (by kernel_rfl) rfl rfl ?_
 unfold zM
 by_cases c1:dF w.c y.nm=0
 ·rw[if_pos c1]
  rw[c1] at h1
  refine bA (j5 @aD @aL @aC @aB @h1) ?_
  show a8 _ _ _ _ _
  exact ⟨.inr rfl,_,_,rfl,rfl⟩
 rw[if_neg c1]
 have c1':=eq_false c1
 cases c2:mG w y.nm with
 | false=>
  rw[c2] at h2
  refine bA (j8 @aD @aL @aC @aB @h1 @h2 @c1' @aS) ?_
  show a8 _ _ _ _ _
  exact ⟨.inr rfl,_,_,rfl,rfl⟩
 | true=>
 rw[c2] at h2
 rw[if_neg (by decide)]
 by_cases c3:y.t=dF w.c y.nm
 case neg=>
  have c3':=eq_false c3
  rw[if_pos (.inl c3)]
  refine bA (oR @aD @aL @aC @aB @h1 @h2 @c1' @aS @aV @c3') ?_
  show a8 _ _ _ _ _
  exact ⟨.inr rfl,_,_,rfl,rfl⟩
 have c3':=eq_true c3
 by_cases c4:dF w.c y.nm=2
 ·rw[if_pos (.inr c4)]
  have c4':=eq_true c4
  refine bA (u7 @aD @aL @aC @aB @h1 @h2 @c1' @aS @aV @c3' @c4') ?_
  show a8 _ _ _ _ _
  exact ⟨.inr rfl,_,_,rfl,rfl⟩
 rw[if_neg (fun h=>h.elim (fun h=>h c3) (fun h=>c4 h))]
 have c4':=eq_false c4
 by_cases c5:(y.brs.length:Int)=fG w.o.en (dF w.c y.nm)
 case neg=>
  have c5':=eq_false c5
  rw[if_pos c5]
  refine bA (vM @aD @aL @aC @aB @h1 @h2 @h3 @c1' @aS @aV @c3' @c4' @c5' @aX) ?_
  show a8 _ _ _ _ _
  exact ⟨.inr rfl,_,_,rfl,rfl⟩
 rw[if_neg (fun h=>h c5)]
 have c5':=eq_true c5
 refine bA (vM @aD @aL @aC @aB @h1 @h2 @h3 @c1' @aS @aV @c3' @c4' @c5' @aX) ?_
 apply WP.loop' (I:=fun D s=>∃ j:Nat,j+D=y.brs.length∧uY w.o w.c w.cx w.bf y.nm j (y.brs.drop j)=uY w.o w.c w.cx w.bf y.nm 0 y.brs∧SE [(2,.ptr 0 0 0),(3,.ptr 1 1 0),(6,dI j)] [(0,⟨0,false,w.cells.map .d⟩),(1,⟨1,false,y.cells.map .d⟩)] 2 s) (d:=y.brs.length)
 ·exact ⟨0,by simp,by simp,SE.mk (by simp[dI]) (by simp[Pl.cells,aC])⟩
 clear h1 h2 h3
 rintro D _ ⟨j,hj,hv,cc,rfl⟩
 refine wk (j5 @aB @aA @aL @aC @aX) ?_
 show WP _ _ _ _ _ _
 refine WP.cond _ rfl (fun hb=>?_) (fun hb=>?_)
 ·simp at hb
  have bP:j<y.brs.length:=by omega
  obtain ⟨b,hbj,zR,bV⟩:=bM bP
  have lC:=l9 hbj
  have c9:=bE bP (by omega)
  have hsb:=gR zR
  have hin:=aEC w.cx y.nm j (by omega)
  have hr:=ih ⟨w.o,w.c,w.bf,w.cx++[⟨y.nm,j⟩]⟩ b (by omega) (hw.upd (by simp;omega)) hty (by simp;omega) ((xT _).1 ok4 b zR)
  simp only[aG,Pl.cells,List.map_cons,List.map_nil,dL,dS,dI] at hin hr
  rw[iF hbj,uY] at hv
  by_cases hz:fU w.o w.c (w.cx++[⟨y.nm,j⟩]) w.bf b=0
  case neg=>
   have mK:=eq_false hz
   rw[if_pos hz] at hv
   rw[←hv]
   refine bA (u7 @aB @aA @aL @aC @aX @bV @lC @hin @hr @aV @mK) ?_
   show a8 _ _ _ _ _
   exact ⟨.inr rfl,_,_,rfl,rfl⟩
  rw[if_neg (by simp[hz])] at hv
  rw[hz] at hr
  refine bA (oR @aB @aA @aL @aC @aX @bV @lC @hin @hr @aV) ?_
  refine aY (by simp[c9];exact Is.rfl) ?_
  exact ⟨D - 1,by omega,j+1,by omega,hv,SE.mk (by simp[dI,c9]) (by simp[Pl.cells,aC])⟩
 ·simp at hb
  have eE:j=y.brs.length:=by omega
  rw[eE,List.drop_length,uY] at hv
  rw[←hv]
  refine bA (j4 @aB @aA @aL @aC) ?_
  show a8 _ _ _ _ _
  exact ⟨.inr rfl,_,_,rfl,rfl⟩
set_option maxHeartbeats 4000000 in
theorem aQg {N:Nat} (ih:aIf N) (w:Pl) (hw:WOK w) (hty:∀ nm,vB (dF w.c nm)) (y:Y) (hN:y.sz<N+1) (oV:w.cx.length+iG w.bf+y.sz≤8388608) (cC:y.ok):eJ Tryz.prog Ob.cfg 76 [aG w.cells,aG y.cells]=some (dI (wG w.o w.c w.cx w.bf y)):=by
 have hs:=Y.sz_eq y
 obtain ⟨ok1,ok2,ok3,ok4⟩:=Y.ok_eq cC
 have hf:=aLC y
 have h1:=aJW w hw y.r (by unfold MX;omega) ok2
 have h2:=fun t=>aEV w hw y.nm t
 have h3:=aMR w y.nm hw.mems
 have h4:=aMi ih w hw hty y hN oV cC
 have h5:=aOJ w hw y (by unfold MX;omega) ok3
 have h6:=aEI w y.nm hw.ins hw.cl
 simp only[aG,Pl.cells,aC,aE,List.map_cons,List.map_nil,dL,dS,dI,dB] at hf h1 h2 h3 h4 h5 h6
 refine bI Tryz.func76 rfl (by kernel_rfl) rfl rfl ?_
 rw[aAJ]
 cases c0:aU y with
 | false=>
  rw[c0] at hf
  refine bA (j4 @aD @aL @aC @hf) ?_
  show a8 _ _ _ _ _
  exact ⟨.inr rfl,_,_,rfl,rfl⟩
 | true=>
 rw[c0] at hf
 rw[if_neg (by decide)]
 have hwe:(⟨w.o,w.c,w.bf,w.cx⟩:Pl)=w:=rfl
 by_cases q1:y.k=1
 ·rw[if_pos q1,hwe]
  rw[q1] at hf
  by_cases c1:(eF w y.r).2=0
  ·rw[if_neg (by simp[c1])]
   rw[c1] at h1
   refine bA (j7 @aD @aL @aC @hf @q1 @h1 @h2) ?_
   show a8 _ _ _ _ _
   exact ⟨.inr rfl,_,_,rfl,rfl⟩
  ·rw[if_pos c1]
   have c1':=eq_false c1
   refine bA (j8 @aD @aL @aC @hf @q1 @h1 @c1' @aV) ?_
   show a8 _ _ _ _ _
   exact ⟨.inr rfl,_,_,rfl,rfl⟩
 rw[if_neg q1]
 have q1':=eq_false q1
 by_cases q2:y.k=2
 ·rw[if_pos q2,hwe]
  rw[q2] at hf
  by_cases c1:(eF w y.r).2=0
  case neg=>
   rw[if_pos c1]
   have c1':=eq_false c1
   refine bA (j8 @aD @aL @aC @hf @q2 @h1 @c1' @aV) ?_
   show a8 _ _ _ _ _
   exact ⟨.inr rfl,_,_,rfl,rfl⟩
  rw[if_neg (by simp[c1])]
  rw[c1] at h1
  by_cases c2:eO w.c.mems y.nm=0
  ·rw[if_pos c2]
   rw[c2] at h3
   refine bA (j7 @aD @aL @aC @hf @q2 @h1 @h3) ?_
   show a8 _ _ _ _ _
   exact ⟨.inr rfl,_,_,rfl,rfl⟩
  rw[if_neg c2]
  have c2':=eq_false c2
  by_cases c3:eO w.c.mems y.nm=(eF w y.r).1
  ·rw[if_neg (by simp[c3])]
   have c3':=eq_true c3
   rw[c3] at h3 c2'
   refine bA (oR @aD @aL @aC @hf @q2 @h1 @h3 @c2' @aS @aV) ?_
   show a8 _ _ _ _ _
   exact ⟨.inr rfl,_,_,rfl,rfl⟩
  ·rw[if_pos c3]
   have c3':=eq_false c3
   refine bA (u7 @aD @aL @aC @hf @q2 @h1 @h3 @c2' @c3' @aS @aV) ?_
   show a8 _ _ _ _ _
   exact ⟨.inr rfl,_,_,rfl,rfl⟩
 rw[if_neg q2]
 have q2':=eq_false q2
 by_cases q3:y.k=3
 ·rw[if_pos q3,hwe]
  have hc:zM w y=if dF w.c y.nm=0 then 6 else if mG w y.nm=false then 22 else if y.t≠dF w.c y.nm∨dF w.c y.nm=2 then 10 else if (y.brs.length:Int)≠fG w.o.en (dF w.c y.nm) then 9 else uY w.o w.c w.cx w.bf y.nm 0 y.brs:=rfl
  rw[←hc]
  rw[q3] at h4 hf
  refine bA (j6 @aD @aL @aC @hf @q3 @h4) ?_
  show a8 _ _ _ _ _
  exact ⟨.inr rfl,_,_,rfl,rfl⟩
 rw[if_neg q3]
 have q3':=eq_false q3
 by_cases q4:y.k=4
 ·rw[if_pos q4,hwe]
  rw[q4] at h5 hf
  refine bA (j6 @aD @aL @aC @hf @q4 @h5) ?_
  show a8 _ _ _ _ _
  exact ⟨.inr rfl,_,_,rfl,rfl⟩
 rw[if_neg q4]
 have q4':=eq_false q4
 generalize hG:fD w.c.ins w.o.cl y.nm=G at h6 ⊢
 obtain ⟨g,ok⟩:=G
 simp only[Cl.cells,List.map_cons,List.map_nil] at h6
 cases ok with
 | false=>
  refine bA (oR @aD @aL @aC @hf @q1' @q2' @q3' @q4' @aS @h6) ?_
  show a8 _ _ _ _ _
  exact ⟨.inr rfl,_,_,rfl,rfl⟩
 | true=>
  refine bA (oR @aD @aL @aC @hf @q1' @q2' @q3' @q4' @aS @h6) ?_
  show a8 _ _ _ _ _
  exact ⟨.inr rfl,_,_,rfl,rfl⟩
set_option maxHeartbeats 4000000 in
theorem aQs:∀ N,aIf N:=by
 intro N
 induction N with
 | zero=>intro w l h;omega
 | succ N ih=>
 intro w l hN hw hty oV cC
 have k1:=l0 l
 have k2:=l0 w.bf
 have r1:=fun look=>aAM look (pD w.bf)
 have f1:bU w.bf.length 176=true:=by simp[bU];omega
 simp only[cV] at r1
 refine bI Tryz.func32 rfl (by kernel_rfl) rfl rfl ?_
 refine bA (j8 @aD @aL @aA @aH @aI @r1 @f1 @bH) ?_
 apply WP.loop' (I:=fun D s=>∃ j g m:Nat,j+D=l.length∧∃ (c':Nat) (B:List Y),B=w.bf++l.take j∧m=B.length∧fU w.o w.c w.cx B (l.drop j)=fU w.o w.c w.cx w.bf l∧s=⟨[(1,dL (dM l)),(2,.ptr 0 0 0),(5,.osl 1 g 0 m 12 none),(6,dI j)],[(0,⟨0,false,w.cells.map .d⟩),(1,⟨g,false,fl (dM B)⟩)],2,c',0,[]⟩) (d:=l.length)
 ·exact ⟨0,_,_,by simp,_,w.bf,by simp,rfl,by simp,by simp[Pl.cells,dL,dI];exact ⟨rfl,rfl⟩⟩
 rintro D _ ⟨j,g,m,hj,c',B,hB,hm,hv,rfl⟩
 refine wk (j4 @aB @aA @aL @cV) ?_
 show WP _ _ _ _ _ _
 refine WP.cond _ rfl (fun hb=>?_) (fun hb=>?_)
 ·simp at hb
  have bP:j<l.length:=by omega
  obtain ⟨y,hy,vY,bV⟩:=bM bP
  have pW:=oT hy
  have c9:=bE bP (by omega)
  have gK:=aDO hy
  have hBs:iG B=iG w.bf+iG (l.take j):=by rw[hB,zU]
  have kB:=l0 B
  have hr:=aQg ih ⟨w.o,w.c,B,w.cx⟩ (hw.upd (by omega)) hty y (by omega) (by simp only;omega) ((uQ _).1 cC y vY)
  rw[iF hy,fU] at hv
  have r2:=cR (pD B)
  have r3:=cI (pD B)
  have r4:=eN (pD B)
  have r5:=aEM B y
  have r6:=dT (dM B) y.cells
  have f5:bU (m+1) 176=true:=by simp[bU];omega
  rw[cV,←hm] at r2 r3 r4
  rw[r5] at r6
  simp only[aC,List.map_cons,List.map_nil] at r6
  simp only[aG,Pl.cells,aC,List.map_cons,List.map_nil,dI] at hr
  by_cases hz:wG w.o w.c w.cx B y=0
  case neg=>
   have mK:=eq_false hz
   rw[if_pos hz] at hv
   rw[←hv]
   refine bA (j19 @aB @aA @aL @aC @cV @bV @pW @hr @aV @mK @aP @aQ @bG @b8 @cJ @r2 @r3 @r4 @bH) ?_
   show a8 _ _ _ _ _
   exact ⟨.inr rfl,_,_,rfl,rfl⟩
  rw[if_neg (by simp[hz])] at hv
  rw[hz] at hr
  refine bA (j20 @aB @aA @aL @aC @cV @bV @pW @hr @aV @aP @aQ @bG @b8 @cJ @r2 @r3 @r4 @r6 @f5 @bH) ?_
  refine aY (by simp[c9];exact Is.rfl) ?_
  exact ⟨D - 1,by omega,j+1,_,m+1,by omega,_,B++[y],by rw[hB,bL hy];simp,by simp;omega,hv,by simp[Pl.cells,dL,dI,c9];exact ⟨rfl,rfl⟩⟩
 ·simp at hb
  have eE:j=l.length:=by omega
  rw[eE,List.drop_length,fU] at hv
  rw[←hv]
  refine bA (j3 @aB @aA @aL) ?_
  show a8 _ _ _ _ _
  exact ⟨.inr rfl,_,_,rfl,rfl⟩
end Go.Ac
end
section
set_option maxRecDepth 4000
namespace Go.Ac
open Go.Proofs
def cB (en:List En):List Dc→Int
 | []=>0
 | d::r=>if ¬ 0<fG en d.t then 10 else if d.ck≠[] then 5 else cB en r
def Cl.names (c:Cl):List Tx:=c.inn.map Dc.nm++c.out.map Dc.nm++c.loc.map Dc.nm++c.mems.map Mm.nm++c.ins.map Ii.nm
theorem jD (l:List Tx) (x:Tx):eX l++[[.str x]]=eX (l++[x]):=by unfold eX;simp
theorem aXu (r:Nat):Ob.keep 72 r=Ob.k72 r:=by kernel_rfl
theorem aYB (r:Nat):Ob.keep 74 r=Ob.k74 r:=by kernel_rfl
attribute [local simp] aXu Ob.k72 aYB Ob.k74
set_option maxHeartbeats 2000000 in
theorem aFy (en:List En) (l:List Dc) (hl:l.length≤MX) (cC:∀ d,d∈l→d.ok):eJ Tryz.prog Ob.cfg 72 [dL (f9 en),dL (cM l)]=some (dI (cB en l)):=by
 unfold MX at hl
 refine bI Tryz.func72 rfl (by kernel_rfl) rfl rfl ?_
 refine bA (@aA) ?_
 apply WP.loop' (I:=fun D s=>∃ j:Nat,j+D=l.length∧cB en (l.drop j)=cB en l∧SE [(0,dL (f9 en)),(1,dL (cM l)),(5,dI j)] [] 0 s) (d:=l.length)
 ·exact ⟨0,by simp,by simp,SE.mk (by simp[dI,dL]) rfl⟩
 rintro D _ ⟨j,hj,hv,cc,rfl⟩
 refine wk (jn @aB @aA) ?_
 show WP _ _ _ _ _ _
 refine WP.cond _ rfl (fun hb=>?_) (fun hb=>?_)
 ·simp at hb
  have bP:j<l.length:=by omega
  obtain ⟨d,hd,d8,bV⟩:=bM bP
  have cG:=eD hd
  have c9:=bE bP (by omega)
  have hk:=aJM en d.t (cC d d8).1
  simp only[dL,dI,dB] at hk
  rw[iF hd,cB] at hv
  by_cases c1:0<fG en d.t
  case neg=>
   rw[if_pos c1] at hv
   rw[←hv]
   rw[iC c1] at hk
   refine bA (j6 @aB @aA @bV @cG @aR @hk) ?_
   show a8 _ _ _ _ _
   exact ⟨.inr rfl,_,_,rfl,rfl⟩
  rw[kG c1] at hk
  rw[if_neg (by simp[c1])] at hv
  by_cases c2:d.ck=[]
  case neg=>
   rw[if_pos c2] at hv
   rw[←hv]
   refine bA (oR @aB @aA @bV @cG @aR @hk @nJ @qL @g8 @c2) ?_
   show a8 _ _ _ _ _
   exact ⟨.inr rfl,_,_,rfl,rfl⟩
  rw[if_neg (by simp[c2])] at hv
  refine bA (oR @aB @aA @bV @cG @aR @hk @nJ @qL @g8 @c2) ?_
  refine aY (by simp[c9];exact Is.rfl) ?_
  exact ⟨D - 1,by omega,j+1,by omega,hv,SE.mk (by simp[dI,dL,c9]) rfl⟩
 ·simp at hb
  have eE:j=l.length:=by omega
  rw[eE,List.drop_length,cB] at hv
  rw[←hv]
  refine bA (jn @aB @aA) ?_
  show a8 _ _ _ _ _
  exact ⟨.inr rfl,_,_,rfl,rfl⟩
set_option maxHeartbeats 4000000 in
theorem aOH (c:Cl) (hL:c.inn.length+c.out.length+c.loc.length+c.mems.length+c.ins.length≤8388608):eJ Tryz.prog Ob.cfg 74 [aG c.cells]=some (dL (eX c.names)):=by
 refine bI Tryz.func74 rfl (by kernel_rfl) rfl rfl ?_
 refine bA (jn @aD @aK) ?_
 apply WP.loop' (I:=fun D s=>∃ j g m:Nat,j+D=c.inn.length∧∃ (c':Nat) (B:List Tx),B=([]:List Tx)++(c.inn.take j).map Dc.nm∧m=B.length∧s=⟨[(1,.ptr 0 0 0),(3,.osl 1 g 0 m 1 none),(4,dI j)],[(0,⟨0,false,c.cells.map .d⟩),(1,⟨g,false,fl (eX B)⟩)],2,c',0,[]⟩) (d:=c.inn.length)
 ·exact ⟨0,_,_,by simp,_,[],by simp,rfl,by simp[Cl.cells,dL,dI];exact ⟨rfl,⟨rfl,rfl⟩,rfl⟩⟩
 rintro D _ ⟨j,g,m,hj,c',B,hB,hm,rfl⟩
 refine wk (j4 @aB @aA @aK @bT) ?_
 refine WP.cond _ rfl (fun hb=>?_) (fun hb=>?_)
 ·simp at hb
  have bP:j<c.inn.length:=by omega
  obtain ⟨d,hd,d8,bV⟩:=bM bP
  have cG:=eD hd
  have c9:=bE bP (by omega)
  have hBl:B.length=0+j:=by rw[hB];simp;omega
  have r2:=cR (cU B)
  have r3:=cI (cU B)
  have r5:=jD B d.nm
  have r6:=dT (eX B) [.str d.nm]
  have f5:bU (m+1) 16=true:=by simp[bU];omega
  rw[aW,←hm,Nat.mul_one] at r2 r3
  rw[r5] at r6
  simp only[List.map_cons,List.map_nil] at r6
  refine bA (nB @aB @aA @aK @bT @bV @cG @aR @aH @aI @bG @b8 @r2 @r3 @r6 @f5 @bH) ?_
  refine aY (by simp[c9];exact Is.rfl) ?_
  exact ⟨D - 1,by omega,j+1,_,m+1,by omega,_,B++[d.nm],by rw[hB,bL hd];simp,by simp;omega,by simp[Cl.cells,dL,dI,c9];exact ⟨rfl,rfl⟩⟩
 simp at hb
 have eE:j=c.inn.length:=by omega
 rw[eE,List.take_length] at hB
 refine bA (j3 @aB @aA @aK) ?_
 rw[List.nil_append] at hB
 apply WP.loop' (I:=fun D s=>∃ j g m:Nat,j+D=c.out.length∧∃ (c':Nat) (B:List Tx),B=c.inn.map Dc.nm++(c.out.take j).map Dc.nm∧m=B.length∧s=⟨[(1,.ptr 0 0 0),(3,.osl 1 g 0 m 1 none),(5,dI j)],[(0,⟨0,false,c.cells.map .d⟩),(1,⟨g,false,fl (eX B)⟩)],2,c',0,[]⟩) (d:=c.out.length)
 ·exact ⟨0,_,_,by simp,_,B,by simp[hB],hm,by simp[Cl.cells,dL,dI];exact ⟨rfl,rfl⟩⟩
 clear hB hm hj hb B
 rintro D _ ⟨j,g,m,hj,c',B,hB,hm,rfl⟩
 refine wk (j4 @aB @aA @aK @bT) ?_
 refine WP.cond _ rfl (fun hb=>?_) (fun hb=>?_)
 ·simp at hb
  have bP:j<c.out.length:=by omega
  obtain ⟨d,hd,d8,bV⟩:=bM bP
  have cG:=eD hd
  have c9:=bE bP (by omega)
  have hBl:B.length=c.inn.length+j:=by rw[hB];simp;omega
  have r2:=cR (cU B)
  have r3:=cI (cU B)
  have r5:=jD B d.nm
  have r6:=dT (eX B) [.str d.nm]
  have f5:bU (m+1) 16=true:=by simp[bU];omega
  rw[aW,←hm,Nat.mul_one] at r2 r3
  rw[r5] at r6
  simp only[List.map_cons,List.map_nil] at r6
  refine bA (nB @aB @aA @aK @bT @bV @cG @aR @aH @aI @bG @b8 @r2 @r3 @r6 @f5 @bH) ?_
  refine aY (by simp[c9];exact Is.rfl) ?_
  exact ⟨D - 1,by omega,j+1,_,m+1,by omega,_,B++[d.nm],by rw[hB,bL hd];simp,by simp;omega,by simp[Cl.cells,dL,dI,c9];exact ⟨rfl,rfl⟩⟩
 simp at hb
 have eE:j=c.out.length:=by omega
 rw[eE,List.take_length] at hB
 refine bA (j3 @aB @aA @aK) ?_
 apply WP.loop' (I:=fun D s=>∃ j g m:Nat,j+D=c.loc.length∧∃ (c':Nat) (B:List Tx),B=c.inn.map Dc.nm++c.out.map Dc.nm++(c.loc.take j).map Dc.nm∧m=B.length∧s=⟨[(1,.ptr 0 0 0),(3,.osl 1 g 0 m 1 none),(6,dI j)],[(0,⟨0,false,c.cells.map .d⟩),(1,⟨g,false,fl (eX B)⟩)],2,c',0,[]⟩) (d:=c.loc.length)
 ·exact ⟨0,_,_,by simp,_,B,by simp[hB],hm,by simp[Cl.cells,dL,dI];exact ⟨rfl,rfl⟩⟩
 clear hB hm hj hb B
 rintro D _ ⟨j,g,m,hj,c',B,hB,hm,rfl⟩
 refine wk (j4 @aB @aA @aK @bT) ?_
 refine WP.cond _ rfl (fun hb=>?_) (fun hb=>?_)
 ·simp at hb
  have bP:j<c.loc.length:=by omega
  obtain ⟨d,hd,d8,bV⟩:=bM bP
  have cG:=eD hd
  have c9:=bE bP (by omega)
  have hBl:B.length=c.inn.length+c.out.length+j:=by rw[hB];simp;omega
  have r2:=cR (cU B)
  have r3:=cI (cU B)
  have r5:=jD B d.nm
  have r6:=dT (eX B) [.str d.nm]
  have f5:bU (m+1) 16=true:=by simp[bU];omega
  rw[aW,←hm,Nat.mul_one] at r2 r3
  rw[r5] at r6
  simp only[List.map_cons,List.map_nil] at r6
  refine bA (nB @aB @aA @aK @bT @bV @cG @aR @aH @aI @bG @b8 @r2 @r3 @r6 @f5 @bH) ?_
  refine aY (by simp[c9];exact Is.rfl) ?_
  exact ⟨D - 1,by omega,j+1,_,m+1,by omega,_,B++[d.nm],by rw[hB,bL hd];simp,by simp;omega,by simp[Cl.cells,dL,dI,c9];exact ⟨rfl,rfl⟩⟩
 simp at hb
 have eE:j=c.loc.length:=by omega
 rw[eE,List.take_length] at hB
 refine bA (j3 @aB @aA @aK) ?_
 apply WP.loop' (I:=fun D s=>∃ j g m:Nat,j+D=c.mems.length∧∃ (c':Nat) (B:List Tx),B=c.inn.map Dc.nm++c.out.map Dc.nm++c.loc.map Dc.nm++(c.mems.take j).map Mm.nm∧m=B.length∧s=⟨[(1,.ptr 0 0 0),(3,.osl 1 g 0 m 1 none),(7,dI j)],[(0,⟨0,false,c.cells.map .d⟩),(1,⟨g,false,fl (eX B)⟩)],2,c',0,[]⟩) (d:=c.mems.length)
 ·exact ⟨0,_,_,by simp,_,B,by simp[hB],hm,by simp[Cl.cells,dL,dI];exact ⟨rfl,rfl⟩⟩
 clear hB hm hj hb B
 rintro D _ ⟨j,g,m,hj,c',B,hB,hm,rfl⟩
 refine wk (j4 @aB @aA @aK @jC) ?_
 refine WP.cond _ rfl (fun hb=>?_) (fun hb=>?_)
 ·simp at hb
  have bP:j<c.mems.length:=by omega
  obtain ⟨d,hd,d8,bV⟩:=bM bP
  have cG:=kI hd
  have c9:=bE bP (by omega)
  have hBl:B.length=c.inn.length+c.out.length+c.loc.length+j:=by rw[hB];simp;omega
  have r2:=cR (cU B)
  have r3:=cI (cU B)
  have r5:=jD B d.nm
  have r6:=dT (eX B) [.str d.nm]
  have f5:bU (m+1) 16=true:=by simp[bU];omega
  rw[aW,←hm,Nat.mul_one] at r2 r3
  rw[r5] at r6
  simp only[List.map_cons,List.map_nil] at r6
  refine bA (nB @aB @aA @aK @jC @bV @cG @Mm.cells.eq_1 @aH @aI @bG @b8 @r2 @r3 @r6 @f5 @bH) ?_
  refine aY (by simp[c9];exact Is.rfl) ?_
  exact ⟨D - 1,by omega,j+1,_,m+1,by omega,_,B++[d.nm],by rw[hB,bL hd];simp,by simp;omega,by simp[Cl.cells,dL,dI,c9];exact ⟨rfl,rfl⟩⟩
 simp at hb
 have eE:j=c.mems.length:=by omega
 rw[eE,List.take_length] at hB
 refine bA (j3 @aB @aA @aK) ?_
 apply WP.loop' (I:=fun D s=>∃ j g m:Nat,j+D=c.ins.length∧∃ (c':Nat) (B:List Tx),B=c.inn.map Dc.nm++c.out.map Dc.nm++c.loc.map Dc.nm++c.mems.map Mm.nm++(c.ins.take j).map Ii.nm∧m=B.length∧s=⟨[(1,.ptr 0 0 0),(3,.osl 1 g 0 m 1 none),(8,dI j)],[(0,⟨0,false,c.cells.map .d⟩),(1,⟨g,false,fl (eX B)⟩)],2,c',0,[]⟩) (d:=c.ins.length)
 ·exact ⟨0,_,_,by simp,_,B,by simp[hB],hm,by simp[Cl.cells,dL,dI];exact ⟨rfl,rfl⟩⟩
 clear hB hm hj hb B
 rintro D _ ⟨j,g,m,hj,c',B,hB,hm,rfl⟩
 refine wk (j4 @aB @aA @aK @lU) ?_
 refine WP.cond _ rfl (fun hb=>?_) (fun hb=>?_)
 ·simp at hb
  have bP:j<c.ins.length:=by omega
  obtain ⟨d,hd,d8,bV⟩:=bM bP
  have cG:=nP hd
  have c9:=bE bP (by omega)
  have hBl:B.length=c.inn.length+c.out.length+c.loc.length+c.mems.length+j:=by rw[hB];simp;omega
  have r2:=cR (cU B)
  have r3:=cI (cU B)
  have r5:=jD B d.nm
  have r6:=dT (eX B) [.str d.nm]
  have f5:bU (m+1) 16=true:=by simp[bU];omega
  rw[aW,←hm,Nat.mul_one] at r2 r3
  rw[r5] at r6
  simp only[List.map_cons,List.map_nil] at r6
  refine bA (nB @aB @aA @aK @lU @bV @cG @Ii.cells.eq_1 @aH @aI @bG @b8 @r2 @r3 @r6 @f5 @bH) ?_
  refine aY (by simp[c9];exact Is.rfl) ?_
  exact ⟨D - 1,by omega,j+1,_,m+1,by omega,_,B++[d.nm],by rw[hB,bL hd];simp,by simp;omega,by simp[Cl.cells,dL,dI,c9];exact ⟨rfl,rfl⟩⟩
 simp at hb
 have eE:j=c.ins.length:=by omega
 rw[eE,List.take_length] at hB
 refine bA (j3 @aB @aA @aK) ?_
 have hc:=fun look hl=>jA (look:=look) (id:=1) (g:=g) (ro:=false) (cap:=none) (cU B) hl
 rw[aW,←hm] at hc
 have hBn:B=c.names:=hB
 rw[←hBn]
 exact ⟨.inr rfl,_,[1],rfl,hc _ rfl⟩
end Go.Ac
end
section
set_option maxRecDepth 4000
namespace Go.Ac
open Go.Proofs
def tS:List Tx→List Tx→Bool
 | _,[]=>false
 | pre,x::r=>decide (x∈pre)||tS (pre++[x]) r
def nZ (en:List En) (m:Mm):Bool:=decide (0<fG en m.t)&&gB en m.t m.ini
def aAD (o:Oc) (i:Nat) (c:Cl):Int:=
 if (o.cl.take i).any (fun d=>decide (d.nm=c.nm))=true then 7
 else if cB o.en c.inn≠0 then cB o.en c.inn
 else if cB o.en c.out≠0 then cB o.en c.out
 else if cB o.en c.loc≠0 then cB o.en c.loc
 else if c.mems.any (fun m=> !nZ o.en m)=true then 10
 else if tS [] c.names=true then 7
 else if c.ins.any (fun x=> !(dC (o.cl.take i) x.cl).2)=true then 6 else 0
theorem wZ (l:List Cl):∀ r∈gJ l,r.length=7:=by unfold gJ;intro r hr;obtain ⟨x,_,rfl⟩:=List.mem_map.1 hr;rfl
theorem aFc (l:List Cl) (j:Nat):(gJ l).take j=gJ (l.take j):=by unfold gJ;rw[List.map_take]
theorem uV {α:Type} {p:α→Bool} {l:List α} (h:l.all (fun a=> !p a)=true):l.any p=false:=by
 rw[List.any_eq_false];intro x hx;simpa using List.all_eq_true.1 h x hx
structure CLen (c:Cl):Prop where
 sum:c.inn.length+c.out.length+c.loc.length+c.mems.length+c.ins.length≤8388608
theorem aWE (r:Nat):Ob.keep 31 r=Ob.k31 r:=by kernel_rfl
attribute [local simp] aWE Ob.k31
set_option maxHeartbeats 8000000 in
theorem aQn (o:Oc) (i:Nat) (c:Cl) (hci:o.cl[i]?=some c) (hn:o.cl.length≤8388608) (hL:CLen c) (cC:c.ok):eJ Tryz.prog Ob.cfg 31 [aG o.cells,dI i]=some (dI (aAD o i c)):=by
 have hL:=hL.sum
 have wB:i<o.cl.length:=(List.getElem?_eq_some_iff.1 hci).1
 have aZi:=kX wB
 have aZj:=lH hci
 have d1:=aFy o.en c.inn (by unfold MX;omega) cC.inn
 have d2:=aFy o.en c.out (by unfold MX;omega) cC.out
 have d3:=aFy o.en c.loc (by unfold MX;omega) cC.loc
 have hnm:=aOH c hL
 simp only[aG,Cl.cells,List.map_cons,List.map_nil,dL,dI] at d1 d2 d3 hnm
 refine bI Tryz.func31 rfl (by kernel_rfl) rfl rfl ?_
 unfold aAD
 refine bA (j7 @aD @aJ @aB @aA @aZi @aZj @aK) ?_
 apply WP.loop' (I:=fun D s=>∃ k:Nat,k+D=i∧(o.cl.take k).all (fun d=> !decide (d.nm=c.nm))=true∧SE [(1,dI i),(2,.ptr 0 0 0),(5,.ptr 1 1 0),(6,dI k)] [(0,⟨0,false,o.cells.map .d⟩),(1,⟨1,false,c.cells.map .d⟩)] 2 s) (d:=i)
 ·exact ⟨0,by simp,by simp,SE.mk (by simp[dI]) (by simp[Oc.cells,Cl.cells])⟩
 rintro D _ ⟨k,hk,cF,cc,rfl⟩
 refine wk (j4 @aB @aA @aJ @aK) ?_
 show WP _ _ _ _ _ _
 refine WP.cond _ rfl (fun hb=>?_) (fun hb=>?_)
 ·simp at hb
  have bP:k<o.cl.length:=by omega
  have lY:k<i:=by omega
  obtain ⟨d,hd,d8,bV⟩:=bM bP
  have cG:=lH hd
  have uD:=bE bP (by omega)
  have hs:=bZ (p:=fun d:Cl=> !decide (d.nm=c.nm)) hd
  by_cases hq:d.nm=c.nm
  ·have g9:=eq_true hq
   have hdt:d∈o.cl.take i:=by rw[List.mem_iff_getElem?];exact ⟨k,by rw[List.getElem?_take,if_pos lY];exact hd⟩
   rw[if_pos (List.any_eq_true.2 ⟨d,hdt,by simp[hq]⟩)]
   refine bA (j8 @aB @aA @aJ @aK @bV @cG @bF @g9) ?_
   show a8 _ _ _ _ _
   exact ⟨.inr rfl,_,_,rfl,rfl⟩
  ·have g9:=eq_false hq
   refine bA (j8 @aB @aA @aJ @aK @bV @cG @bF @g9) ?_
   refine aY (by simp[uD];exact Is.rfl) ?_
   exact ⟨D - 1,by omega,k+1,by omega,by rw[hs,cF,decide_eq_false hq];rfl,SE.mk (by simp[dI,dL,uD]) (by simp[Oc.cells,Cl.cells])⟩
 simp at hb
 have uG:k=i:=by omega
 rw[uG] at cF
 rw[if_neg (by rw[uV (p:=fun d:Cl=>decide (d.nm=c.nm)) cF];simp)]
 clear cF uG hb hk
 by_cases e1:cB o.en c.inn=0
 case neg=>
  have e1':=eq_false e1
  rw[if_pos e1]
  refine bA (j8 @aB @aA @aJ @aK @d1 @e1' @aS @aV) ?_
  show a8 _ _ _ _ _
  exact ⟨.inr rfl,_,_,rfl,rfl⟩
 rw[if_neg (by simp[e1])]
 rw[e1] at d1
 by_cases e2:cB o.en c.out=0
 case neg=>
  have e2':=eq_false e2
  rw[if_pos e2]
  refine bA (j9 @aB @aA @aJ @aK @d1 @d2 @e2' @aS @aV) ?_
  show a8 _ _ _ _ _
  exact ⟨.inr rfl,_,_,rfl,rfl⟩
 rw[if_neg (by simp[e2])]
 rw[e2] at d2
 by_cases e3:cB o.en c.loc=0
 case neg=>
  have e3':=eq_false e3
  rw[if_pos e3]
  refine bA (oR @aB @aA @aJ @aK @d1 @d2 @d3 @e3' @aS @aV) ?_
  show a8 _ _ _ _ _
  exact ⟨.inr rfl,_,_,rfl,rfl⟩
 rw[if_neg (by simp[e3])]
 rw[e3] at d3
 refine bA (j7 @aB @aA @aJ @aK @d1 @d2 @d3) ?_
 clear d1 d2 d3
 apply WP.loop' (I:=fun D s=>∃ k:Nat,k+D=c.mems.length∧(c.mems.take k).all (fun m=> !(!nZ o.en m))=true∧SE [(1,dI i),(2,.ptr 0 0 0),(5,.ptr 1 1 0),(8,dI k)] [(0,⟨0,false,o.cells.map .d⟩),(1,⟨1,false,c.cells.map .d⟩)] 2 s) (d:=c.mems.length)
 ·exact ⟨0,by simp,by simp,SE.mk (by simp[dI]) (by simp[Oc.cells,Cl.cells])⟩
 rintro D _ ⟨k,hk,cF,cc,rfl⟩
 refine wk (j5 @aB @aA @aJ @aK @jC) ?_
 show WP _ _ _ _ _ _
 refine WP.cond _ rfl (fun hb=>?_) (fun hb=>?_)
 ·simp at hb
  have bP:k<c.mems.length:=by omega
  obtain ⟨d,hd,d8,bV⟩:=bM bP
  have cG:=kI hd
  have uD:=bE bP (by omega)
  have hs:=bZ (p:=fun m:Mm=> !(!nZ o.en m)) hd
  have h1:=aJM o.en d.t (cC.mems d d8).1
  have h2:=aKi o.en d.t d.ini (cC.mems d d8).1
  simp only[dL,dI,dB] at h1 h2
  by_cases c1:0<fG o.en d.t
  case neg=>
   rw[iC c1] at h1
   rw[if_pos (List.any_eq_true.2 ⟨d,d8,by simp[nZ,iC c1]⟩)]
   refine bA (j9 @aB @aA @aJ @aK @Mm.cells.eq_1 @jC @bV @cG @h1) ?_
   show a8 _ _ _ _ _
   exact ⟨.inr rfl,_,_,rfl,rfl⟩
  rw[kG c1] at h1
  cases c2:gB o.en d.t d.ini with
  | false=>
   rw[c2] at h2
   rw[if_pos (List.any_eq_true.2 ⟨d,d8,by simp[nZ,c2]⟩)]
   refine bA (oR @aB @aA @aJ @aK @Mm.cells.eq_1 @jC @bV @cG @h1 @h2) ?_
   show a8 _ _ _ _ _
   exact ⟨.inr rfl,_,_,rfl,rfl⟩
  | true=>
   rw[c2] at h2
   refine bA (oR @aB @aA @aJ @aK @Mm.cells.eq_1 @jC @bV @cG @h1 @h2) ?_
   refine aY (by simp[uD];exact Is.rfl) ?_
   exact ⟨D - 1,by omega,k+1,by omega,by rw[hs,cF];simp[nZ,kG c1,c2],SE.mk (by simp[dI,dL,uD]) (by simp[Oc.cells,Cl.cells])⟩
 simp at hb
 have uG:k=c.mems.length:=by omega
 rw[uG,List.take_length] at cF
 rw[if_neg (by rw[uV (p:=fun m:Mm=> !nZ o.en m) cF];simp)]
 clear cF uG hb hk
 refine bA (j5 @aB @aA @aJ @aK @hnm) ?_
 have hnl:c.names.length≤8388608:=by unfold Cl.names;simp;omega
 apply WP.loop' (I:=fun D s=>∃ k:Nat,k+D=c.names.length∧tS (c.names.take k) (c.names.drop k)=tS [] c.names∧SE [(1,dI i),(2,.ptr 0 0 0),(5,.ptr 1 1 0),(9,dL (eX c.names)),(10,dI k)] [(0,⟨0,false,o.cells.map .d⟩),(1,⟨1,false,c.cells.map .d⟩)] 2 s) (d:=c.names.length)
 ·exact ⟨0,by simp,by simp,SE.mk (by simp[dI,dL]) (by simp[Oc.cells,Cl.cells])⟩
 rintro D _ ⟨k,hk,cF,cc,rfl⟩
 refine wk (j5 @aB @aA @aJ @aK @aW) ?_
 show WP _ _ _ _ _ _
 refine WP.cond _ rfl (fun hb=>?_) (fun hb=>?_)
 ·simp at hb
  have bP:k<c.names.length:=by omega
  obtain ⟨d,hd,d8,bV⟩:=bM bP
  have cG:=sW hd
  have uD:=bE bP (by omega)
  have h75:=aKw (c.names.take k) d (by unfold MX;rw[List.length_take];omega)
  have yY:=fun look e b z=>oA look e b z (cU c.names) (j:=k) (by rw[aW];omega)
  have etk:=aBo c.names k
  simp only[dL,dS,dB] at h75
  rw[iF hd,tS] at cF
  by_cases c7:d∈c.names.take k
  ·rw[kG c7] at h75 cF
   rw[Bool.true_or] at cF
   rw[if_pos cF.symm]
   refine bA (oR @aB @aA @aJ @aK @aW @bV @cG @yY @etk @h75) ?_
   show a8 _ _ _ _ _
   exact ⟨.inr rfl,_,_,rfl,rfl⟩
  ·rw[iC c7] at h75 cF
   rw[Bool.false_or,←bL hd] at cF
   refine bA (oR @aB @aA @aJ @aK @aW @bV @cG @yY @etk @h75) ?_
   refine aY (by simp[uD];exact Is.rfl) ?_
   exact ⟨D - 1,by omega,k+1,by omega,cF,SE.mk (by simp[dI,dL,uD]) (by simp[Oc.cells,Cl.cells])⟩
 simp at hb
 have uG:k=c.names.length:=by omega
 rw[uG,List.drop_length,tS] at cF
 rw[if_neg (by rw[←cF];simp)]
 clear cF uG hb hk
 refine bA (j4 @aB @aA @aJ @aK) ?_
 apply WP.loop' (I:=fun D s=>∃ k:Nat,k+D=c.ins.length∧(c.ins.take k).all (fun x=> !(!(dC (o.cl.take i) x.cl).2))=true∧SE [(1,dI i),(2,.ptr 0 0 0),(5,.ptr 1 1 0),(11,dI k)] [(0,⟨0,false,o.cells.map .d⟩),(1,⟨1,false,c.cells.map .d⟩)] 2 s) (d:=c.ins.length)
 ·exact ⟨0,by simp,by simp,SE.mk (by simp[dI]) (by simp[Oc.cells,Cl.cells])⟩
 rintro D _ ⟨k,hk,cF,cc,rfl⟩
 refine wk (j5 @aB @aA @aJ @aK @lU) ?_
 show WP _ _ _ _ _ _
 refine WP.cond _ rfl (fun hb=>?_) (fun hb=>?_)
 ·simp at hb
  have bP:k<c.ins.length:=by omega
  obtain ⟨d,hd,d8,bV⟩:=bM bP
  have cG:=nP hd
  have uD:=bE bP (by omega)
  have hs:=bZ (p:=fun x:Ii=> !(!(dC (o.cl.take i) x.cl).2)) hd
  have h51:=aAA ⟨[],o.cl.take i⟩ d.cl (by simp only[List.length_take];unfold MX;omega)
  have yY:=fun look e b z=>oA look e b z (wZ o.cl) (j:=i) (by rw[nK];omega)
  have etk:=aFc o.cl i
  have he0:f9 []=[]:=rfl
  generalize hG:dC (o.cl.take i) d.cl=G at h51
  obtain ⟨g,ok⟩:=G
  have hs2:(!(!(dC (o.cl.take i) d.cl).2))=ok:=by rw[hG];simp
  simp only[aG,Oc.cells,Cl.cells,List.map_cons,List.map_nil,dS,dB,he0] at h51
  cases ok with
  | false=>
   rw[if_pos (List.any_eq_true.2 ⟨d,d8,by rw[hG];rfl⟩)]
   refine bA (sG @aB @aA @aJ @aK @Ii.cells.eq_1 @lU @bV @cG @yY @etk @h51 @aH @aI @aP @aQ @b8 @pH) ?_
   show a8 _ _ _ _ _
   exact ⟨.inr rfl,_,_,rfl,rfl⟩
  | true=>
   refine bA (sG @aB @aA @aJ @aK @Ii.cells.eq_1 @lU @bV @cG @yY @etk @h51 @aH @aI @aP @aQ @b8 @pH) ?_
   refine aY (by simp[uD];exact Is.rfl) ?_
   exact ⟨D - 1,by omega,k+1,by omega,by rw[hs,cF,hs2];rfl,SE.mk (by simp[dI,dL,uD]) (by simp[Oc.cells,Cl.cells])⟩
 simp at hb
 have uG:k=c.ins.length:=by omega
 rw[uG,List.take_length] at cF
 rw[if_neg (by rw[uV (p:=fun x:Ii=> !(dC (o.cl.take i) x.cl).2) cF];simp)]
 refine bA (j4 @aB @aA @aJ @aK) ?_
 show a8 _ _ _ _ _
 exact ⟨.inr rfl,_,_,rfl,rfl⟩
end Go.Ac
end
section
set_option maxRecDepth 4000
namespace Go.Ac
open Go.Proofs
attribute [local simp] aPw Ob.k121 aSv Ob.k33 aVc Ob.k77
set_option maxHeartbeats 1000000 in
theorem aJr (nm:Tx) (k:Nat):eJ Tryz.prog Ob.cfg 121 [.full [],dS nm,dI k]=some (dL (iJ [⟨nm,k⟩])):=by
 have f1:bU 0 24=true:=rfl
 have f2:bU 1 24=true:=rfl
 have r1:∀ look,iU look 2 (.full [])=some (0,[],[]):=fun look=>rfl
 refine bI Tryz.func121 rfl (by kernel_rfl) rfl rfl ?_
 refine bA (u7 @aA @aM @aB @f1 @f2 @r1 @aH @aI @aP @aQ @bH) ?_
 exact ⟨.inr rfl,_,[0],rfl,rfl⟩
set_option maxHeartbeats 4000000 in
theorem aIy {x:Tx} {all:Bool} (y:Y) (hb0:y.sz≤8388607):eJ Tryz.prog Ob.cfg 77 [aG y.cells,dS x,.full [],dB all]=some (dB (asY x all [] y)):=by
 rw[Y.sz_eq] at hb0
 have k1:=oU y.outs
 have k2:=s8 y.brs
 have ho:=aKw y.outs x (by unfold MX;omega)
 simp only[dL,dS,dB] at ho
 rw[aJq]
 refine bI Tryz.func77 rfl (by kernel_rfl) rfl rfl ?_
 by_cases q1:y.k=1
 ·rw[if_pos q1]
  refine bA (j8 @aD @aC @aA @aM @aF @aS @bF @q1) ?_
  show a8 _ _ _ _ _
  exact ⟨.inr rfl,_,_,rfl,rfl⟩
 rw[if_neg q1]
 by_cases q4:y.k=4
 ·rw[if_pos q4]
  refine bA (j9 @aD @aC @aA @aM @aF @aS @bF @q4 @ho) ?_
  show a8 _ _ _ _ _
  exact ⟨.inr rfl,_,_,rfl,rfl⟩
 rw[if_neg q4]
 by_cases q3:y.k=3
 case neg=>
  rw[if_neg q3]
  refine bA (j9 @aD @aC @aA @aM @aF @aS @q1 @q4 @q3) ?_
  show a8 _ _ _ _ _
  exact ⟨.inr rfl,_,_,rfl,rfl⟩
 rw[if_pos q3]
 simp only[List.find?_nil]
 refine bA (j7 @aD @aC @aA @aM @aF @aS @q3) ?_
 apply WP.loop' (I:=fun D s=>SE [(1,dS x),(2,.full []),(3,dB all),(4,.ptr 0 0 0),(9,dI 0)] [(0,⟨0,false,y.cells.map .d⟩)] 1 s) (d:=0)
 ·exact SE.mk (by simp[dI,dL,dS,dB]) (by simp[aC,q3])
 rintro D _ ⟨cc,rfl⟩
 refine bA (j5 @aB @aA @aM @aF @aC) ?_
 apply WP.loop' (I:=fun D s=>∃ i n:Nat,i+D=y.brs.length∧n=yJ x all [] y.nm 0 (y.brs.take i)∧SE [(1,dS x),(2,.full []),(3,dB all),(4,.ptr 0 0 0),(10,dI n),(11,dI i)] [(0,⟨0,false,y.cells.map .d⟩)] 1 s) (d:=y.brs.length)
 ·exact ⟨0,0,by simp,by simp[yJ],SE.mk (by simp[dI,dL,dS,dB]) (by simp[aC])⟩
 rintro D2 _ ⟨i,n,hi,hn,cc2,rfl⟩
 refine wk (j5 @aB @aA @aM @aF @aC) ?_
 show WP _ _ _ _ _ _
 refine WP.cond _ rfl (fun hb=>?_) (fun hb=>?_)
 ·simp at hb
  have hc':i<y.brs.length:=by omega
  obtain ⟨b,xG,zR,uH⟩:=bM hc'
  have lC:=l9 xG
  have hw2:=bE hc' (by omega)
  have hin:=aJr y.nm i
  have hr:=aIo x all _ b [⟨y.nm,i⟩] (Nat.lt_succ_self _) (by have:=gR zR;simp;omega)
  have jP:y.brs.take (i+1)=y.brs.take i++[b]:=bL xG
  have hcn:=aAd x all [] y.nm (y.brs.take i) 0 b
  rw[←jP,←hn,List.length_take,Nat.min_eq_left (by omega),Nat.zero_add,List.nil_append] at hcn
  have hnl:=aAj x all [] y.nm (y.brs.take i) 0
  rw[←hn] at hnl
  have aZh:n≤y.brs.length:=by rw[List.length_take] at hnl;omega
  have hwn:IntKind.i64.wrap ((n:Int)+1)=((n+1:Nat):Int):=by rw[aEA] <;> omega
  simp only[dL,dS,dB,dI] at hin hr
  cases he:vQ x all [⟨y.nm,i⟩] b with
  | true=>
   rw[he] at hr hcn
   refine bA (j9 @aB @aA @aM @aF @aC @uH @lC @hin @hr) ?_
   refine aY (by simp[hw2,hwn];exact Is.rfl) ?_
   exact ⟨D2 - 1,by omega,i+1,n+1,by omega,by rw[hcn];simp,SE.mk (by simp[dI,dL,dS,dB,hw2,hwn]) (by simp[aC])⟩
  | false=>
   rw[he] at hr hcn
   refine bA (j9 @aB @aA @aM @aF @aC @uH @lC @hin @hr) ?_
   refine aY (by simp[hw2];exact Is.rfl) ?_
   exact ⟨D2 - 1,by omega,i+1,n,by omega,by rw[hcn];simp,SE.mk (by simp[dI,dL,dS,dB,hw2]) (by simp[aC])⟩
 ·simp at hb
  have kP:i=y.brs.length:=by omega
  rw[kP,List.take_length] at hn
  simp only[←hn]
  cases all with
  | true=>
   by_cases hnn:n=y.brs.length
   ·have e1:((n:Int)=y.brs.length)=True:=eq_true (by omega)
    refine bA (j8 @aB @aA @aM @aF @aC @aS @e1 @hnn) ?_
    exact ⟨.inr rfl,_,_,rfl,by simp[hnn];rfl⟩
   ·have e1:((n:Int)=y.brs.length)=False:=eq_false (by omega)
    refine bA (j8 @aB @aA @aM @aF @aC @aS @e1 @hnn) ?_
    exact ⟨.inr rfl,_,_,rfl,by simp[hnn];rfl⟩
  | false=>
   refine bA (j6 @aB @aA @aM @aF @aC @aS) ?_
   exact ⟨.inr rfl,_,_,rfl,by simp;rfl⟩
set_option maxHeartbeats 1000000 in
theorem aPf (x:Tx) (all:Bool) (l:List Y) (hb0:iG l≤8388607):eJ Tryz.prog Ob.cfg 33 [dL (dM l),dS x,.full [],dB all]=some (dB (vQ x all [] l)):=by
 have k1:=l0 l
 refine bI Tryz.func33 rfl (by kernel_rfl) rfl rfl ?_
 rw[z8]
 refine bA (j3 @aA @aM @aF) ?_
 apply WP.loop' (I:=fun D s=>∃ j:Nat,j+D=l.length∧(l.take j).all (fun y=> !asY x all [] y)=true∧SE [(0,dL (dM l)),(1,dS x),(2,.full []),(3,dB all),(9,dI j)] [] 0 s) (d:=l.length)
 ·exact ⟨0,by simp,by simp,SE.mk (by simp[dI,dL,dS,dB]) rfl⟩
 rintro D _ ⟨j,hj,cF,cc,rfl⟩
 refine wk (j4 @aB @aA @aM @aF) ?_
 show WP _ _ _ _ _ _
 refine WP.cond _ rfl (fun hb=>?_) (fun hb=>?_)
 ·simp at hb
  have bP:j<l.length:=by omega
  obtain ⟨y,hy,vY,bV⟩:=bM bP
  have pW:=oT hy
  have hw:=bE bP (by omega)
  have hs:=bZ (p:=fun y=> !asY x all [] y) hy
  have hr:=aIy (x:=x) (all:=all) y (by have:=nS vY;omega)
  simp only[aG,aC,List.map_cons,List.map_nil,dL,dS,dB] at hr
  cases he:asY x all [] y with
  | true=>
   rw[he] at hr
   have ha:l.any (asY x all [])=true:=List.any_eq_true.2 ⟨y,vY,he⟩
   rw[ha]
   refine bA (j8 @aB @aA @aM @aF @aC @bV @pW @hr) ?_
   show a8 _ _ _ _ _
   exact ⟨.inr rfl,_,_,rfl,rfl⟩
  | false=>
   rw[he] at hr hs
   refine bA (j8 @aB @aA @aM @aF @aC @bV @pW @hr) ?_
   refine aY (by simp[hw];exact Is.rfl) ?_
   exact ⟨D - 1,by omega,j+1,by omega,by rw[hs,cF];rfl,SE.mk (by simp[dI,dL,dS,dB,hw]) rfl⟩
 ·simp at hb
  have eE:j=l.length:=by omega
  rw[eE,List.take_length] at cF
  have ha:l.any (asY x all [])=false:=by
   cases aRS:l.any (asY x all []) with
   | false=>rfl
   | true=>
    obtain ⟨y,hy,hye⟩:=List.any_eq_true.1 aRS
    have:=List.all_eq_true.1 cF y hy
    rw[hye] at this;cases this
  rw[ha]
  refine bA (j4 @aB @aA @aM @aF) ?_
  show a8 _ _ _ _ _
  exact ⟨.inr rfl,_,_,rfl,rfl⟩
end Go.Ac
end
