/- What a statement assigns under a nil context: the reference's. -/
import Derived.Test.YtkgekafdhehleaaGreatObVM
set_option linter.unusedVariables false
set_option linter.unusedSimpArgs false
section
set_option maxRecDepth 4000
namespace Go.Ac
open Go.Proofs
mutual
def wA (o:Oc) (c:Cl):List Pr→List Y→Y→Int
 | cx,bf,.mk k nm t r outs args brs=>
  if aU (.mk k nm t r outs args brs)=false then 5
  else if k=1 then (if (eB ⟨o,c,bf,cx⟩ r).2≠0 then (eB ⟨o,c,bf,cx⟩ r).2 else jB ⟨o,c,bf,cx⟩ nm (eB ⟨o,c,bf,cx⟩ r).1)
  else if k=2 then (if (eB ⟨o,c,bf,cx⟩ r).2≠0 then (eB ⟨o,c,bf,cx⟩ r).2 else if eK c.mems nm=0 then 6 else if eK c.mems nm≠(eB ⟨o,c,bf,cx⟩ r).1 then 10 else 0)
  else if k=3 then (if cZ c nm=0 then 6 else if lO ⟨o,c,bf,cx⟩ nm=false then 22 else if t≠cZ c nm∨cZ c nm=2 then 10 else if (brs.length:Int)≠fC o.en (cZ c nm) then 9 else uJ o c cx bf nm 0 brs)
  else if k=4 then aCT ⟨o,c,bf,cx⟩ (.mk k nm t r outs args brs)
  else if (e9 c.ins o.cl nm).2=false then 6 else 0
def fR (o:Oc) (c:Cl):List Pr→List Y→List Y→Int
 | _,_,[]=>0
 | cx,bf,y::r=>if wA o c cx bf y≠0 then wA o c cx bf y else fR o c cx (bf++[y]) r
def uJ (o:Oc) (c:Cl):List Pr→List Y→Tx→Nat→List (List Y)→Int
 | _,_,_,_,[]=>0
 | cx,bf,nm,k,b::r=>if fR o c (cx++[⟨nm,k⟩]) bf b≠0 then fR o c (cx++[⟨nm,k⟩]) bf b else uJ o c cx bf nm (k+1) r
end
theorem zC (o:Oc) (c:Cl) (cx:List Pr) (bf:List Y) (y:Y):wA o c cx bf y=
  if aU y=false then 5
  else if y.k=1 then (if (eB ⟨o,c,bf,cx⟩ y.r).2≠0 then (eB ⟨o,c,bf,cx⟩ y.r).2 else jB ⟨o,c,bf,cx⟩ y.nm (eB ⟨o,c,bf,cx⟩ y.r).1)
  else if y.k=2 then (if (eB ⟨o,c,bf,cx⟩ y.r).2≠0 then (eB ⟨o,c,bf,cx⟩ y.r).2 else if eK c.mems y.nm=0 then 6 else if eK c.mems y.nm≠(eB ⟨o,c,bf,cx⟩ y.r).1 then 10 else 0)
  else if y.k=3 then (if cZ c y.nm=0 then 6 else if lO ⟨o,c,bf,cx⟩ y.nm=false then 22 else if y.t≠cZ c y.nm∨cZ c y.nm=2 then 10 else if (y.brs.length:Int)≠fC o.en (cZ c y.nm) then 9 else uJ o c cx bf y.nm 0 y.brs)
  else if y.k=4 then aCT ⟨o,c,bf,cx⟩ y
  else if (e9 c.ins o.cl y.nm).2=false then 6 else 0:=by cases y;rw[wA];rfl
def yI (w:Pl) (y:Y):Int:=if cZ w.c y.nm=0 then 6 else if lO w y.nm=false then 22 else if y.t≠cZ w.c y.nm∨cZ w.c y.nm=2 then 10 else if (y.brs.length:Int)≠fC w.o.en (cZ w.c y.nm) then 9 else uJ w.o w.c w.cx w.bf y.nm 0 y.brs
theorem WOK.upd {w:Pl} (h:WOK w) {bf:List Y} {cx:List Pr} (hb:cx.length+hH bf≤8388608):WOK ⟨w.o,w.c,bf,cx⟩:=⟨h.inn,h.out,h.loc,h.mems,h.ins,h.cl,hb⟩
theorem oG (l:List Y):∀ r∈dJ l,r.length=12:=by rw[oJ];intro r hr;obtain ⟨x,_,rfl⟩:=List.mem_map.1 hr;rw[aC];rfl
theorem aDS (l:List Y) (y:Y):dJ l++[y.cells]=dJ (l++[y]):=by simp[oJ]
theorem zE (a b:List Y):hH (a++b)=hH a+hH b:=by simp[aAj]
theorem aCY {l:List Y} {j:Nat} {y:Y} (h:l[j]?=some y):hH (l.take j)+y.sz≤hH l:=by
 have e:l=l.take j++y::l.drop (j+1):=by rw[←g8 h,List.take_append_drop]
 have:hH l=hH (l.take j++y::l.drop (j+1)):=by rw[←e]
 rw[this,zE,hH];omega
theorem Y.ok_eq {y:Y} (h:y.ok):u9 y.t∧y.r.ok∧okX y.args∧okB y.brs:=by cases y;rw[Y.ok] at h;exact h.2
def aIw (N:Nat):Prop:=∀ (w:Pl) (l:List Y),hH l<N→WOK w→(∀ nm,u9 (cZ w.c nm))→w.cx.length+hH w.bf+hH l≤8388608→okY l→d7 Tryz.prog Ob.cfg 32 [aG w.cells,dL (dJ l)]=some (dI (fR w.o w.c w.cx w.bf l))
theorem aUv (r:Nat):Ob.keep 118 r=Ob.k118 r:=by kernel_rfl
theorem aWo (r:Nat):Ob.keep 76 r=Ob.k76 r:=by kernel_rfl
theorem aXy (r:Nat):Ob.keep 32 r=Ob.k32 r:=by kernel_rfl
attribute [local simp] aUv Ob.k118 aWo Ob.k76 aXy Ob.k32
set_option maxHeartbeats 4000000 in
theorem aLc {N:Nat} (ih:aIw N) (w:Pl) (hw:WOK w) (hty:∀ nm,u9 (cZ w.c nm)) (y:Y) (hN:y.sz<N+1) (oE:w.cx.length+hH w.bf+y.sz≤8388608) (cE:y.ok):d7 Tryz.prog Ob.cfg 118 [aG w.cells,aG y.cells]=some (dI (yI w y)):=by
 rw[Y.sz_eq] at hN oE
 have k2:=rZ y.brs
 have h1:=aLP w y.nm hw.out hw.loc hw.inn
 have h2:=aGr w y.nm hw
 have h3:=aFf w.o.en (cZ w.c y.nm) (hty y.nm)
 obtain ⟨ok1,ok2,ok3,ok4⟩:=Y.ok_eq cE
 simp only[aG,Pl.cells,List.map_cons,List.map_nil,dL,dS,dI,dB] at h1 h2 h3
 refine bF Tryz.func118 rfl (by kernel_rfl) rfl rfl ?_
 unfold yI
 by_cases c1:cZ w.c y.nm=0
 ·rw[if_pos c1]
  rw[c1] at h1
  refine a9 (j5 @aD @aK @aC @aB @h1) ?_
  show a7 _ _ _ _ _
  exact ⟨.inr rfl,_,_,rfl,rfl⟩
 rw[if_neg c1]
 have c1':=eq_false c1
 cases c2:lO w y.nm with
 | false=>
  rw[c2] at h2
  refine a9 (j8 @aD @aK @aC @aB @h1 @h2 @c1' @aS) ?_
  show a7 _ _ _ _ _
  exact ⟨.inr rfl,_,_,rfl,rfl⟩
 | true=>
 rw[c2] at h2
 rw[if_neg (by decide)]
 by_cases c3:y.t=cZ w.c y.nm
 case neg=>
  have c3':=eq_false c3
  rw[if_pos (.inl c3)]
  refine a9 (nW @aD @aK @aC @aB @h1 @h2 @c1' @aS @aV @c3') ?_
  show a7 _ _ _ _ _
  exact ⟨.inr rfl,_,_,rfl,rfl⟩
 have c3':=eq_true c3
 by_cases c4:cZ w.c y.nm=2
 ·rw[if_pos (.inr c4)]
  have c4':=eq_true c4
  refine a9 (uQ @aD @aK @aC @aB @h1 @h2 @c1' @aS @aV @c3' @c4') ?_
  show a7 _ _ _ _ _
  exact ⟨.inr rfl,_,_,rfl,rfl⟩
 rw[if_neg (fun h=>h.elim (fun h=>h c3) (fun h=>c4 h))]
 have c4':=eq_false c4
 by_cases c5:(y.brs.length:Int)=fC w.o.en (cZ w.c y.nm)
 case neg=>
  have c5':=eq_false c5
  rw[if_pos c5]
  refine a9 (uN @aD @aK @aC @aB @h1 @h2 @h3 @c1' @aS @aV @c3' @c4' @c5' @aX) ?_
  show a7 _ _ _ _ _
  exact ⟨.inr rfl,_,_,rfl,rfl⟩
 rw[if_neg (fun h=>h c5)]
 have c5':=eq_true c5
 refine a9 (uN @aD @aK @aC @aB @h1 @h2 @h3 @c1' @aS @aV @c3' @c4' @c5' @aX) ?_
 apply WP.loop' (I:=fun D s=>∃ j:Nat,j+D=y.brs.length∧uJ w.o w.c w.cx w.bf y.nm j (y.brs.drop j)=uJ w.o w.c w.cx w.bf y.nm 0 y.brs∧SE [(2,.ptr 0 0 0),(3,.ptr 1 1 0),(6,dI j)] [(0,⟨0,false,w.cells.map .d⟩),(1,⟨1,false,y.cells.map .d⟩)] 2 s) (d:=y.brs.length)
 ·exact ⟨0,by simp,by simp,SE.mk (by simp[dI]) (by simp[Pl.cells,aC])⟩
 clear h1 h2 h3
 rintro D _ ⟨j,hj,hv,cc,rfl⟩
 refine wk (j5 @aB @aA @aK @aC @aX) ?_
 show WP _ _ _ _ _ _
 refine WP.cond _ rfl (fun hb=>?_) (fun hb=>?_)
 ·simp at hb
  have bR:j<y.brs.length:=by omega
  obtain ⟨b,hbj,yU,bS⟩:=bL bR
  have kL:=lH hbj
  have dH:=bG bR (by omega)
  have hsb:=gJ yU
  have hin:=aEe w.cx y.nm j (by omega)
  have hr:=ih ⟨w.o,w.c,w.bf,w.cx++[⟨y.nm,j⟩]⟩ b (by omega) (hw.upd (by simp;omega)) hty (by simp;omega) ((wQ _).1 ok4 b yU)
  simp only[aG,Pl.cells,List.map_cons,List.map_nil,dL,dS,dI] at hin hr
  rw[g8 hbj,uJ] at hv
  by_cases hz:fR w.o w.c (w.cx++[⟨y.nm,j⟩]) w.bf b=0
  case neg=>
   have lV:=eq_false hz
   rw[if_pos hz] at hv
   rw[←hv]
   refine a9 (uQ @aB @aA @aK @aC @aX @bS @kL @hin @hr @aV @lV) ?_
   show a7 _ _ _ _ _
   exact ⟨.inr rfl,_,_,rfl,rfl⟩
  rw[if_neg (by simp[hz])] at hv
  rw[hz] at hr
  refine a9 (nW @aB @aA @aK @aC @aX @bS @kL @hin @hr @aV) ?_
  refine aY (by simp[dH];exact Is.rfl) ?_
  exact ⟨D - 1,by omega,j+1,by omega,hv,SE.mk (by simp[dI,dH]) (by simp[Pl.cells,aC])⟩
 ·simp at hb
  have eM:j=y.brs.length:=by omega
  rw[eM,List.drop_length,uJ] at hv
  rw[←hv]
  refine a9 (j4 @aB @aA @aK @aC) ?_
  show a7 _ _ _ _ _
  exact ⟨.inr rfl,_,_,rfl,rfl⟩
set_option maxHeartbeats 4000000 in
theorem aPt {N:Nat} (ih:aIw N) (w:Pl) (hw:WOK w) (hty:∀ nm,u9 (cZ w.c nm)) (y:Y) (hN:y.sz<N+1) (oE:w.cx.length+hH w.bf+y.sz≤8388608) (cE:y.ok):d7 Tryz.prog Ob.cfg 76 [aG w.cells,aG y.cells]=some (dI (wA w.o w.c w.cx w.bf y)):=by
 have hs:=Y.sz_eq y
 obtain ⟨ok1,ok2,ok3,ok4⟩:=Y.ok_eq cE
 have hf:=aKD y
 have h1:=aJS w hw y.r (by unfold MX;omega) ok2
 have h2:=fun t=>aEy w hw y.nm t
 have h3:=aLY w y.nm hw.mems
 have h4:=aLc ih w hw hty y hN oE cE
 have h5:=aOh w hw y (by unfold MX;omega) ok3
 have h6:=aEw w y.nm hw.ins hw.cl
 simp only[aG,Pl.cells,aC,aE,List.map_cons,List.map_nil,dL,dS,dI,dB] at hf h1 h2 h3 h4 h5 h6
 refine bF Tryz.func76 rfl (by kernel_rfl) rfl rfl ?_
 rw[zC]
 cases c0:aU y with
 | false=>
  rw[c0] at hf
  refine a9 (j4 @aD @aK @aC @hf) ?_
  show a7 _ _ _ _ _
  exact ⟨.inr rfl,_,_,rfl,rfl⟩
 | true=>
 rw[c0] at hf
 rw[if_neg (by decide)]
 have hwe:(⟨w.o,w.c,w.bf,w.cx⟩:Pl)=w:=rfl
 by_cases q1:y.k=1
 ·rw[if_pos q1,hwe]
  rw[q1] at hf
  by_cases c1:(eB w y.r).2=0
  ·rw[if_neg (by simp[c1])]
   rw[c1] at h1
   refine a9 (j7 @aD @aK @aC @hf @q1 @h1 @h2) ?_
   show a7 _ _ _ _ _
   exact ⟨.inr rfl,_,_,rfl,rfl⟩
  ·rw[if_pos c1]
   have c1':=eq_false c1
   refine a9 (j8 @aD @aK @aC @hf @q1 @h1 @c1' @aV) ?_
   show a7 _ _ _ _ _
   exact ⟨.inr rfl,_,_,rfl,rfl⟩
 rw[if_neg q1]
 have q1':=eq_false q1
 by_cases q2:y.k=2
 ·rw[if_pos q2,hwe]
  rw[q2] at hf
  by_cases c1:(eB w y.r).2=0
  case neg=>
   rw[if_pos c1]
   have c1':=eq_false c1
   refine a9 (j8 @aD @aK @aC @hf @q2 @h1 @c1' @aV) ?_
   show a7 _ _ _ _ _
   exact ⟨.inr rfl,_,_,rfl,rfl⟩
  rw[if_neg (by simp[c1])]
  rw[c1] at h1
  by_cases c2:eK w.c.mems y.nm=0
  ·rw[if_pos c2]
   rw[c2] at h3
   refine a9 (j7 @aD @aK @aC @hf @q2 @h1 @h3) ?_
   show a7 _ _ _ _ _
   exact ⟨.inr rfl,_,_,rfl,rfl⟩
  rw[if_neg c2]
  have c2':=eq_false c2
  by_cases c3:eK w.c.mems y.nm=(eB w y.r).1
  ·rw[if_neg (by simp[c3])]
   have c3':=eq_true c3
   rw[c3] at h3 c2'
   refine a9 (nW @aD @aK @aC @hf @q2 @h1 @h3 @c2' @aS @aV) ?_
   show a7 _ _ _ _ _
   exact ⟨.inr rfl,_,_,rfl,rfl⟩
  ·rw[if_pos c3]
   have c3':=eq_false c3
   refine a9 (uQ @aD @aK @aC @hf @q2 @h1 @h3 @c2' @c3' @aS @aV) ?_
   show a7 _ _ _ _ _
   exact ⟨.inr rfl,_,_,rfl,rfl⟩
 rw[if_neg q2]
 have q2':=eq_false q2
 by_cases q3:y.k=3
 ·rw[if_pos q3,hwe]
  have hc:yI w y=if cZ w.c y.nm=0 then 6 else if lO w y.nm=false then 22 else if y.t≠cZ w.c y.nm∨cZ w.c y.nm=2 then 10 else if (y.brs.length:Int)≠fC w.o.en (cZ w.c y.nm) then 9 else uJ w.o w.c w.cx w.bf y.nm 0 y.brs:=rfl
  rw[←hc]
  rw[q3] at h4 hf
  refine a9 (j6 @aD @aK @aC @hf @q3 @h4) ?_
  show a7 _ _ _ _ _
  exact ⟨.inr rfl,_,_,rfl,rfl⟩
 rw[if_neg q3]
 have q3':=eq_false q3
 by_cases q4:y.k=4
 ·rw[if_pos q4,hwe]
  rw[q4] at h5 hf
  refine a9 (j6 @aD @aK @aC @hf @q4 @h5) ?_
  show a7 _ _ _ _ _
  exact ⟨.inr rfl,_,_,rfl,rfl⟩
 rw[if_neg q4]
 have q4':=eq_false q4
 generalize hG:e9 w.c.ins w.o.cl y.nm=G at h6 ⊢
 obtain ⟨g,ok⟩:=G
 simp only[Cl.cells,List.map_cons,List.map_nil] at h6
 cases ok with
 | false=>
  refine a9 (nW @aD @aK @aC @hf @q1' @q2' @q3' @q4' @aS @h6) ?_
  show a7 _ _ _ _ _
  exact ⟨.inr rfl,_,_,rfl,rfl⟩
 | true=>
  refine a9 (nW @aD @aK @aC @hf @q1' @q2' @q3' @q4' @aS @h6) ?_
  show a7 _ _ _ _ _
  exact ⟨.inr rfl,_,_,rfl,rfl⟩
set_option maxHeartbeats 4000000 in
theorem aPU:∀ N,aIw N:=by
 intro N
 induction N with
 | zero=>intro w l h;omega
 | succ N ih=>
 intro w l hN hw hty oE cE
 have k1:=lJ l
 have k2:=lJ w.bf
 have r1:=fun look=>aAi look (oG w.bf)
 have f1:bT w.bf.length 176=true:=by simp[bT];omega
 simp only[cQ] at r1
 refine bF Tryz.func32 rfl (by kernel_rfl) rfl rfl ?_
 refine a9 (j8 @aD @aK @aA @aH @aI @r1 @f1 @bJ) ?_
 apply WP.loop' (I:=fun D s=>∃ j g m:Nat,j+D=l.length∧∃ (c':Nat) (B:List Y),B=w.bf++l.take j∧m=B.length∧fR w.o w.c w.cx B (l.drop j)=fR w.o w.c w.cx w.bf l∧s=⟨[(1,dL (dJ l)),(2,.ptr 0 0 0),(5,.osl 1 g 0 m 12 none),(6,dI j)],[(0,⟨0,false,w.cells.map .d⟩),(1,⟨g,false,fl (dJ B)⟩)],2,c',0,[]⟩) (d:=l.length)
 ·exact ⟨0,_,_,by simp,_,w.bf,by simp,rfl,by simp,by simp[Pl.cells,dL,dI];exact ⟨rfl,rfl⟩⟩
 rintro D _ ⟨j,g,m,hj,c',B,hB,hm,hv,rfl⟩
 refine wk (j4 @aB @aA @aK @cQ) ?_
 show WP _ _ _ _ _ _
 refine WP.cond _ rfl (fun hb=>?_) (fun hb=>?_)
 ·simp at hb
  have bR:j<l.length:=by omega
  obtain ⟨y,hy,vF,bS⟩:=bL bR
  have pD:=oA hy
  have dH:=bG bR (by omega)
  have gB:=aCY hy
  have hBs:hH B=hH w.bf+hH (l.take j):=by rw[hB,zE]
  have kB:=lJ B
  have hr:=aPt ih ⟨w.o,w.c,B,w.cx⟩ (hw.upd (by omega)) hty y (by omega) (by simp only;omega) ((uP _).1 cE y vF)
  rw[g8 hy,fR] at hv
  have r2:=cT (oG B)
  have r3:=cL (oG B)
  have r4:=eJ (oG B)
  have r5:=aDS B y
  have r6:=dW (dJ B) y.cells
  have f5:bT (m+1) 176=true:=by simp[bT];omega
  rw[cQ,←hm] at r2 r3 r4
  rw[r5] at r6
  simp only[aC,List.map_cons,List.map_nil] at r6
  simp only[aG,Pl.cells,aC,List.map_cons,List.map_nil,dI] at hr
  by_cases hz:wA w.o w.c w.cx B y=0
  case neg=>
   have lV:=eq_false hz
   rw[if_pos hz] at hv
   rw[←hv]
   refine a9 (j19 @aB @aA @aK @aC @cQ @bS @pD @hr @aV @lV @aQ @aR @bI @b8 @cG @r2 @r3 @r4 @bJ) ?_
   show a7 _ _ _ _ _
   exact ⟨.inr rfl,_,_,rfl,rfl⟩
  rw[if_neg (by simp[hz])] at hv
  rw[hz] at hr
  refine a9 (j20 @aB @aA @aK @aC @cQ @bS @pD @hr @aV @aQ @aR @bI @b8 @cG @r2 @r3 @r4 @r6 @f5 @bJ) ?_
  refine aY (by simp[dH];exact Is.rfl) ?_
  exact ⟨D - 1,by omega,j+1,_,m+1,by omega,_,B++[y],by rw[hB,bM hy];simp,by simp;omega,hv,by simp[Pl.cells,dL,dI,dH];exact ⟨rfl,rfl⟩⟩
 ·simp at hb
  have eM:j=l.length:=by omega
  rw[eM,List.drop_length,fR] at hv
  rw[←hv]
  refine a9 (j3 @aB @aA @aK) ?_
  show a7 _ _ _ _ _
  exact ⟨.inr rfl,_,_,rfl,rfl⟩
end Go.Ac
end
section
set_option maxRecDepth 4000
namespace Go.Ac
open Go.Proofs
def b9 (en:List En):List Dc→Int
 | []=>0
 | d::r=>if ¬ 0<fC en d.t then 10 else if d.ck≠[] then 5 else b9 en r
def Cl.names (c:Cl):List Tx:=c.inn.map Dc.nm++c.out.map Dc.nm++c.loc.map Dc.nm++c.mems.map Mm.nm++c.ins.map Ii.nm
theorem iT (l:List Tx) (x:Tx):eT l++[[.str x]]=eT (l++[x]):=by unfold eT;simp
theorem aXJ (r:Nat):Ob.keep 72 r=Ob.k72 r:=by kernel_rfl
theorem aXa (r:Nat):Ob.keep 74 r=Ob.k74 r:=by kernel_rfl
attribute [local simp] aXJ Ob.k72 aXa Ob.k74
set_option maxHeartbeats 2000000 in
theorem aFN (en:List En) (l:List Dc) (hl:l.length≤MX) (cE:∀ d,d∈l→d.ok):d7 Tryz.prog Ob.cfg 72 [dL (fW en),dL (cM l)]=some (dI (b9 en l)):=by
 unfold MX at hl
 refine bF Tryz.func72 rfl (by kernel_rfl) rfl rfl ?_
 refine a9 (@aA) ?_
 apply WP.loop' (I:=fun D s=>∃ j:Nat,j+D=l.length∧b9 en (l.drop j)=b9 en l∧SE [(0,dL (fW en)),(1,dL (cM l)),(5,dI j)] [] 0 s) (d:=l.length)
 ·exact ⟨0,by simp,by simp,SE.mk (by simp[dI,dL]) rfl⟩
 rintro D _ ⟨j,hj,hv,cc,rfl⟩
 refine wk (jn @aB @aA) ?_
 show WP _ _ _ _ _ _
 refine WP.cond _ rfl (fun hb=>?_) (fun hb=>?_)
 ·simp at hb
  have bR:j<l.length:=by omega
  obtain ⟨d,hd,d9,bS⟩:=bL bR
  have cF:=d6 hd
  have dH:=bG bR (by omega)
  have hk:=aJE en d.t (cE d d9).1
  simp only[dL,dI,dB] at hk
  rw[g8 hd,b9] at hv
  by_cases c1:0<fC en d.t
  case neg=>
   rw[if_pos c1] at hv
   rw[←hv]
   rw[gY c1] at hk
   refine a9 (j6 @aB @aA @bS @cF @aP @hk) ?_
   show a7 _ _ _ _ _
   exact ⟨.inr rfl,_,_,rfl,rfl⟩
  rw[jT c1] at hk
  rw[if_neg (by simp[c1])] at hv
  by_cases c2:d.ck=[]
  case neg=>
   rw[if_pos c2] at hv
   rw[←hv]
   refine a9 (nW @aB @aA @bS @cF @aP @hk @mJ @pY @gP @c2) ?_
   show a7 _ _ _ _ _
   exact ⟨.inr rfl,_,_,rfl,rfl⟩
  rw[if_neg (by simp[c2])] at hv
  refine a9 (nW @aB @aA @bS @cF @aP @hk @mJ @pY @gP @c2) ?_
  refine aY (by simp[dH];exact Is.rfl) ?_
  exact ⟨D - 1,by omega,j+1,by omega,hv,SE.mk (by simp[dI,dL,dH]) rfl⟩
 ·simp at hb
  have eM:j=l.length:=by omega
  rw[eM,List.drop_length,b9] at hv
  rw[←hv]
  refine a9 (jn @aB @aA) ?_
  show a7 _ _ _ _ _
  exact ⟨.inr rfl,_,_,rfl,rfl⟩
set_option maxHeartbeats 4000000 in
theorem aNZ (c:Cl) (hL:c.inn.length+c.out.length+c.loc.length+c.mems.length+c.ins.length≤8388608):d7 Tryz.prog Ob.cfg 74 [aG c.cells]=some (dL (eT c.names)):=by
 refine bF Tryz.func74 rfl (by kernel_rfl) rfl rfl ?_
 refine a9 (jn @aD @aJ) ?_
 apply WP.loop' (I:=fun D s=>∃ j g m:Nat,j+D=c.inn.length∧∃ (c':Nat) (B:List Tx),B=([]:List Tx)++(c.inn.take j).map Dc.nm∧m=B.length∧s=⟨[(1,.ptr 0 0 0),(3,.osl 1 g 0 m 1 none),(4,dI j)],[(0,⟨0,false,c.cells.map .d⟩),(1,⟨g,false,fl (eT B)⟩)],2,c',0,[]⟩) (d:=c.inn.length)
 ·exact ⟨0,_,_,by simp,_,[],by simp,rfl,by simp[Cl.cells,dL,dI];exact ⟨rfl,⟨rfl,rfl⟩,rfl⟩⟩
 rintro D _ ⟨j,g,m,hj,c',B,hB,hm,rfl⟩
 refine wk (j4 @aB @aA @aJ @bP) ?_
 refine WP.cond _ rfl (fun hb=>?_) (fun hb=>?_)
 ·simp at hb
  have bR:j<c.inn.length:=by omega
  obtain ⟨d,hd,d9,bS⟩:=bL bR
  have cF:=d6 hd
  have dH:=bG bR (by omega)
  have hBl:B.length=0+j:=by rw[hB];simp;omega
  have r2:=cT (cP B)
  have r3:=cL (cP B)
  have r5:=iT B d.nm
  have r6:=dW (eT B) [.str d.nm]
  have f5:bT (m+1) 16=true:=by simp[bT];omega
  rw[aW,←hm,Nat.mul_one] at r2 r3
  rw[r5] at r6
  simp only[List.map_cons,List.map_nil] at r6
  refine a9 (mX @aB @aA @aJ @bP @bS @cF @aP @aH @aI @bI @b8 @r2 @r3 @r6 @f5 @bJ) ?_
  refine aY (by simp[dH];exact Is.rfl) ?_
  exact ⟨D - 1,by omega,j+1,_,m+1,by omega,_,B++[d.nm],by rw[hB,bM hd];simp,by simp;omega,by simp[Cl.cells,dL,dI,dH];exact ⟨rfl,rfl⟩⟩
 simp at hb
 have eM:j=c.inn.length:=by omega
 rw[eM,List.take_length] at hB
 refine a9 (j3 @aB @aA @aJ) ?_
 rw[List.nil_append] at hB
 apply WP.loop' (I:=fun D s=>∃ j g m:Nat,j+D=c.out.length∧∃ (c':Nat) (B:List Tx),B=c.inn.map Dc.nm++(c.out.take j).map Dc.nm∧m=B.length∧s=⟨[(1,.ptr 0 0 0),(3,.osl 1 g 0 m 1 none),(5,dI j)],[(0,⟨0,false,c.cells.map .d⟩),(1,⟨g,false,fl (eT B)⟩)],2,c',0,[]⟩) (d:=c.out.length)
 ·exact ⟨0,_,_,by simp,_,B,by simp[hB],hm,by simp[Cl.cells,dL,dI];exact ⟨rfl,rfl⟩⟩
 clear hB hm hj hb B
 rintro D _ ⟨j,g,m,hj,c',B,hB,hm,rfl⟩
 refine wk (j4 @aB @aA @aJ @bP) ?_
 refine WP.cond _ rfl (fun hb=>?_) (fun hb=>?_)
 ·simp at hb
  have bR:j<c.out.length:=by omega
  obtain ⟨d,hd,d9,bS⟩:=bL bR
  have cF:=d6 hd
  have dH:=bG bR (by omega)
  have hBl:B.length=c.inn.length+j:=by rw[hB];simp;omega
  have r2:=cT (cP B)
  have r3:=cL (cP B)
  have r5:=iT B d.nm
  have r6:=dW (eT B) [.str d.nm]
  have f5:bT (m+1) 16=true:=by simp[bT];omega
  rw[aW,←hm,Nat.mul_one] at r2 r3
  rw[r5] at r6
  simp only[List.map_cons,List.map_nil] at r6
  refine a9 (mX @aB @aA @aJ @bP @bS @cF @aP @aH @aI @bI @b8 @r2 @r3 @r6 @f5 @bJ) ?_
  refine aY (by simp[dH];exact Is.rfl) ?_
  exact ⟨D - 1,by omega,j+1,_,m+1,by omega,_,B++[d.nm],by rw[hB,bM hd];simp,by simp;omega,by simp[Cl.cells,dL,dI,dH];exact ⟨rfl,rfl⟩⟩
 simp at hb
 have eM:j=c.out.length:=by omega
 rw[eM,List.take_length] at hB
 refine a9 (j3 @aB @aA @aJ) ?_
 apply WP.loop' (I:=fun D s=>∃ j g m:Nat,j+D=c.loc.length∧∃ (c':Nat) (B:List Tx),B=c.inn.map Dc.nm++c.out.map Dc.nm++(c.loc.take j).map Dc.nm∧m=B.length∧s=⟨[(1,.ptr 0 0 0),(3,.osl 1 g 0 m 1 none),(6,dI j)],[(0,⟨0,false,c.cells.map .d⟩),(1,⟨g,false,fl (eT B)⟩)],2,c',0,[]⟩) (d:=c.loc.length)
 ·exact ⟨0,_,_,by simp,_,B,by simp[hB],hm,by simp[Cl.cells,dL,dI];exact ⟨rfl,rfl⟩⟩
 clear hB hm hj hb B
 rintro D _ ⟨j,g,m,hj,c',B,hB,hm,rfl⟩
 refine wk (j4 @aB @aA @aJ @bP) ?_
 refine WP.cond _ rfl (fun hb=>?_) (fun hb=>?_)
 ·simp at hb
  have bR:j<c.loc.length:=by omega
  obtain ⟨d,hd,d9,bS⟩:=bL bR
  have cF:=d6 hd
  have dH:=bG bR (by omega)
  have hBl:B.length=c.inn.length+c.out.length+j:=by rw[hB];simp;omega
  have r2:=cT (cP B)
  have r3:=cL (cP B)
  have r5:=iT B d.nm
  have r6:=dW (eT B) [.str d.nm]
  have f5:bT (m+1) 16=true:=by simp[bT];omega
  rw[aW,←hm,Nat.mul_one] at r2 r3
  rw[r5] at r6
  simp only[List.map_cons,List.map_nil] at r6
  refine a9 (mX @aB @aA @aJ @bP @bS @cF @aP @aH @aI @bI @b8 @r2 @r3 @r6 @f5 @bJ) ?_
  refine aY (by simp[dH];exact Is.rfl) ?_
  exact ⟨D - 1,by omega,j+1,_,m+1,by omega,_,B++[d.nm],by rw[hB,bM hd];simp,by simp;omega,by simp[Cl.cells,dL,dI,dH];exact ⟨rfl,rfl⟩⟩
 simp at hb
 have eM:j=c.loc.length:=by omega
 rw[eM,List.take_length] at hB
 refine a9 (j3 @aB @aA @aJ) ?_
 apply WP.loop' (I:=fun D s=>∃ j g m:Nat,j+D=c.mems.length∧∃ (c':Nat) (B:List Tx),B=c.inn.map Dc.nm++c.out.map Dc.nm++c.loc.map Dc.nm++(c.mems.take j).map Mm.nm∧m=B.length∧s=⟨[(1,.ptr 0 0 0),(3,.osl 1 g 0 m 1 none),(7,dI j)],[(0,⟨0,false,c.cells.map .d⟩),(1,⟨g,false,fl (eT B)⟩)],2,c',0,[]⟩) (d:=c.mems.length)
 ·exact ⟨0,_,_,by simp,_,B,by simp[hB],hm,by simp[Cl.cells,dL,dI];exact ⟨rfl,rfl⟩⟩
 clear hB hm hj hb B
 rintro D _ ⟨j,g,m,hj,c',B,hB,hm,rfl⟩
 refine wk (j4 @aB @aA @aJ @lC) ?_
 refine WP.cond _ rfl (fun hb=>?_) (fun hb=>?_)
 ·simp at hb
  have bR:j<c.mems.length:=by omega
  obtain ⟨d,hd,d9,bS⟩:=bL bR
  have cF:=mU hd
  have dH:=bG bR (by omega)
  have hBl:B.length=c.inn.length+c.out.length+c.loc.length+j:=by rw[hB];simp;omega
  have r2:=cT (cP B)
  have r3:=cL (cP B)
  have r5:=iT B d.nm
  have r6:=dW (eT B) [.str d.nm]
  have f5:bT (m+1) 16=true:=by simp[bT];omega
  rw[aW,←hm,Nat.mul_one] at r2 r3
  rw[r5] at r6
  simp only[List.map_cons,List.map_nil] at r6
  refine a9 (mX @aB @aA @aJ @lC @bS @cF @Mm.cells.eq_1 @aH @aI @bI @b8 @r2 @r3 @r6 @f5 @bJ) ?_
  refine aY (by simp[dH];exact Is.rfl) ?_
  exact ⟨D - 1,by omega,j+1,_,m+1,by omega,_,B++[d.nm],by rw[hB,bM hd];simp,by simp;omega,by simp[Cl.cells,dL,dI,dH];exact ⟨rfl,rfl⟩⟩
 simp at hb
 have eM:j=c.mems.length:=by omega
 rw[eM,List.take_length] at hB
 refine a9 (j3 @aB @aA @aJ) ?_
 apply WP.loop' (I:=fun D s=>∃ j g m:Nat,j+D=c.ins.length∧∃ (c':Nat) (B:List Tx),B=c.inn.map Dc.nm++c.out.map Dc.nm++c.loc.map Dc.nm++c.mems.map Mm.nm++(c.ins.take j).map Ii.nm∧m=B.length∧s=⟨[(1,.ptr 0 0 0),(3,.osl 1 g 0 m 1 none),(8,dI j)],[(0,⟨0,false,c.cells.map .d⟩),(1,⟨g,false,fl (eT B)⟩)],2,c',0,[]⟩) (d:=c.ins.length)
 ·exact ⟨0,_,_,by simp,_,B,by simp[hB],hm,by simp[Cl.cells,dL,dI];exact ⟨rfl,rfl⟩⟩
 clear hB hm hj hb B
 rintro D _ ⟨j,g,m,hj,c',B,hB,hm,rfl⟩
 refine wk (j4 @aB @aA @aJ @lD) ?_
 refine WP.cond _ rfl (fun hb=>?_) (fun hb=>?_)
 ·simp at hb
  have bR:j<c.ins.length:=by omega
  obtain ⟨d,hd,d9,bS⟩:=bL bR
  have cF:=pV hd
  have dH:=bG bR (by omega)
  have hBl:B.length=c.inn.length+c.out.length+c.loc.length+c.mems.length+j:=by rw[hB];simp;omega
  have r2:=cT (cP B)
  have r3:=cL (cP B)
  have r5:=iT B d.nm
  have r6:=dW (eT B) [.str d.nm]
  have f5:bT (m+1) 16=true:=by simp[bT];omega
  rw[aW,←hm,Nat.mul_one] at r2 r3
  rw[r5] at r6
  simp only[List.map_cons,List.map_nil] at r6
  refine a9 (mX @aB @aA @aJ @lD @bS @cF @Ii.cells.eq_1 @aH @aI @bI @b8 @r2 @r3 @r6 @f5 @bJ) ?_
  refine aY (by simp[dH];exact Is.rfl) ?_
  exact ⟨D - 1,by omega,j+1,_,m+1,by omega,_,B++[d.nm],by rw[hB,bM hd];simp,by simp;omega,by simp[Cl.cells,dL,dI,dH];exact ⟨rfl,rfl⟩⟩
 simp at hb
 have eM:j=c.ins.length:=by omega
 rw[eM,List.take_length] at hB
 refine a9 (j3 @aB @aA @aJ) ?_
 have hc:=fun look hl=>jH (look:=look) (id:=1) (g:=g) (ro:=false) (cap:=none) (cP B) hl
 rw[aW,←hm] at hc
 have hBn:B=c.names:=hB
 rw[←hBn]
 exact ⟨.inr rfl,_,[1],rfl,hc _ rfl⟩
end Go.Ac
end
section
set_option maxRecDepth 4000
namespace Go.Ac
open Go.Proofs
def s8:List Tx→List Tx→Bool
 | _,[]=>false
 | pre,x::r=>decide (x∈pre)||s8 (pre++[x]) r
def nG (en:List En) (m:Mm):Bool:=decide (0<fC en m.t)&&iG en m.t m.ini
def yW (o:Oc) (i:Nat) (c:Cl):Int:=
 if (o.cl.take i).any (fun d=>decide (d.nm=c.nm))=true then 7
 else if b9 o.en c.inn≠0 then b9 o.en c.inn
 else if b9 o.en c.out≠0 then b9 o.en c.out
 else if b9 o.en c.loc≠0 then b9 o.en c.loc
 else if c.mems.any (fun m=> !nG o.en m)=true then 10
 else if s8 [] c.names=true then 7
 else if c.ins.any (fun x=> !(cX (o.cl.take i) x.cl).2)=true then 6 else 0
theorem vS (l:List Cl):∀ r∈gA l,r.length=7:=by unfold gA;intro r hr;obtain ⟨x,_,rfl⟩:=List.mem_map.1 hr;rfl
theorem aDZ (l:List Cl) (j:Nat):(gA l).take j=gA (l.take j):=by unfold gA;rw[List.map_take]
theorem tX {α:Type} {p:α→Bool} {l:List α} (h:l.all (fun a=> !p a)=true):l.any p=false:=by
 rw[List.any_eq_false];intro x hx;simpa using List.all_eq_true.1 h x hx
structure CLen (c:Cl):Prop where
 sum:c.inn.length+c.out.length+c.loc.length+c.mems.length+c.ins.length≤8388608
theorem aWt (r:Nat):Ob.keep 31 r=Ob.k31 r:=by kernel_rfl
attribute [local simp] aWt Ob.k31
set_option maxHeartbeats 8000000 in
theorem aPn (o:Oc) (i:Nat) (c:Cl) (hci:o.cl[i]?=some c) (hn:o.cl.length≤8388608) (hL:CLen c) (cE:c.ok):d7 Tryz.prog Ob.cfg 31 [aG o.cells,dI i]=some (dI (yW o i c)):=by
 have hL:=hL.sum
 have xX:i<o.cl.length:=(List.getElem?_eq_some_iff.1 hci).1
 have aYv:=m6 xX
 have aYw:=kU hci
 have d1:=aFN o.en c.inn (by unfold MX;omega) cE.inn
 have d2:=aFN o.en c.out (by unfold MX;omega) cE.out
 have d3:=aFN o.en c.loc (by unfold MX;omega) cE.loc
 have hnm:=aNZ c hL
 simp only[aG,Cl.cells,List.map_cons,List.map_nil,dL,dI] at d1 d2 d3 hnm
 refine bF Tryz.func31 rfl (by kernel_rfl) rfl rfl ?_
 unfold yW
 refine a9 (j7 @aD @aL @aB @aA @aYv @aYw @aJ) ?_
 apply WP.loop' (I:=fun D s=>∃ k:Nat,k+D=i∧(o.cl.take k).all (fun d=> !decide (d.nm=c.nm))=true∧SE [(1,dI i),(2,.ptr 0 0 0),(5,.ptr 1 1 0),(6,dI k)] [(0,⟨0,false,o.cells.map .d⟩),(1,⟨1,false,c.cells.map .d⟩)] 2 s) (d:=i)
 ·exact ⟨0,by simp,by simp,SE.mk (by simp[dI]) (by simp[Oc.cells,Cl.cells])⟩
 rintro D _ ⟨k,hk,cD,cc,rfl⟩
 refine wk (j4 @aB @aA @aL @aJ) ?_
 show WP _ _ _ _ _ _
 refine WP.cond _ rfl (fun hb=>?_) (fun hb=>?_)
 ·simp at hb
  have bR:k<o.cl.length:=by omega
  have nJ:k<i:=by omega
  obtain ⟨d,hd,d9,bS⟩:=bL bR
  have cF:=kU hd
  have tQ:=bG bR (by omega)
  have hs:=bZ (p:=fun d:Cl=> !decide (d.nm=c.nm)) hd
  by_cases hq:d.nm=c.nm
  ·have gQ:=eq_true hq
   have hdt:d∈o.cl.take i:=by rw[List.mem_iff_getElem?];exact ⟨k,by rw[List.getElem?_take,if_pos nJ];exact hd⟩
   rw[if_pos (List.any_eq_true.2 ⟨d,hdt,by simp[hq]⟩)]
   refine a9 (j8 @aB @aA @aL @aJ @bS @cF @bE @gQ) ?_
   show a7 _ _ _ _ _
   exact ⟨.inr rfl,_,_,rfl,rfl⟩
  ·have gQ:=eq_false hq
   refine a9 (j8 @aB @aA @aL @aJ @bS @cF @bE @gQ) ?_
   refine aY (by simp[tQ];exact Is.rfl) ?_
   exact ⟨D - 1,by omega,k+1,by omega,by rw[hs,cD,decide_eq_false hq];rfl,SE.mk (by simp[dI,dL,tQ]) (by simp[Oc.cells,Cl.cells])⟩
 simp at hb
 have tU:k=i:=by omega
 rw[tU] at cD
 rw[if_neg (by rw[tX (p:=fun d:Cl=>decide (d.nm=c.nm)) cD];simp)]
 clear cD tU hb hk
 by_cases e1:b9 o.en c.inn=0
 case neg=>
  have e1':=eq_false e1
  rw[if_pos e1]
  refine a9 (j8 @aB @aA @aL @aJ @d1 @e1' @aS @aV) ?_
  show a7 _ _ _ _ _
  exact ⟨.inr rfl,_,_,rfl,rfl⟩
 rw[if_neg (by simp[e1])]
 rw[e1] at d1
 by_cases e2:b9 o.en c.out=0
 case neg=>
  have e2':=eq_false e2
  rw[if_pos e2]
  refine a9 (j9 @aB @aA @aL @aJ @d1 @d2 @e2' @aS @aV) ?_
  show a7 _ _ _ _ _
  exact ⟨.inr rfl,_,_,rfl,rfl⟩
 rw[if_neg (by simp[e2])]
 rw[e2] at d2
 by_cases e3:b9 o.en c.loc=0
 case neg=>
  have e3':=eq_false e3
  rw[if_pos e3]
  refine a9 (nW @aB @aA @aL @aJ @d1 @d2 @d3 @e3' @aS @aV) ?_
  show a7 _ _ _ _ _
  exact ⟨.inr rfl,_,_,rfl,rfl⟩
 rw[if_neg (by simp[e3])]
 rw[e3] at d3
 refine a9 (j7 @aB @aA @aL @aJ @d1 @d2 @d3) ?_
 clear d1 d2 d3
 apply WP.loop' (I:=fun D s=>∃ k:Nat,k+D=c.mems.length∧(c.mems.take k).all (fun m=> !(!nG o.en m))=true∧SE [(1,dI i),(2,.ptr 0 0 0),(5,.ptr 1 1 0),(8,dI k)] [(0,⟨0,false,o.cells.map .d⟩),(1,⟨1,false,c.cells.map .d⟩)] 2 s) (d:=c.mems.length)
 ·exact ⟨0,by simp,by simp,SE.mk (by simp[dI]) (by simp[Oc.cells,Cl.cells])⟩
 rintro D _ ⟨k,hk,cD,cc,rfl⟩
 refine wk (j5 @aB @aA @aL @aJ @lC) ?_
 show WP _ _ _ _ _ _
 refine WP.cond _ rfl (fun hb=>?_) (fun hb=>?_)
 ·simp at hb
  have bR:k<c.mems.length:=by omega
  obtain ⟨d,hd,d9,bS⟩:=bL bR
  have cF:=mU hd
  have tQ:=bG bR (by omega)
  have hs:=bZ (p:=fun m:Mm=> !(!nG o.en m)) hd
  have h1:=aJE o.en d.t (cE.mems d d9).1
  have h2:=aMn o.en d.t d.ini (cE.mems d d9).1
  simp only[dL,dI,dB] at h1 h2
  by_cases c1:0<fC o.en d.t
  case neg=>
   rw[gY c1] at h1
   rw[if_pos (List.any_eq_true.2 ⟨d,d9,by simp[nG,gY c1]⟩)]
   refine a9 (j9 @aB @aA @aL @aJ @Mm.cells.eq_1 @lC @bS @cF @h1) ?_
   show a7 _ _ _ _ _
   exact ⟨.inr rfl,_,_,rfl,rfl⟩
  rw[jT c1] at h1
  cases c2:iG o.en d.t d.ini with
  | false=>
   rw[c2] at h2
   rw[if_pos (List.any_eq_true.2 ⟨d,d9,by simp[nG,c2]⟩)]
   refine a9 (nW @aB @aA @aL @aJ @Mm.cells.eq_1 @lC @bS @cF @h1 @h2) ?_
   show a7 _ _ _ _ _
   exact ⟨.inr rfl,_,_,rfl,rfl⟩
  | true=>
   rw[c2] at h2
   refine a9 (nW @aB @aA @aL @aJ @Mm.cells.eq_1 @lC @bS @cF @h1 @h2) ?_
   refine aY (by simp[tQ];exact Is.rfl) ?_
   exact ⟨D - 1,by omega,k+1,by omega,by rw[hs,cD];simp[nG,jT c1,c2],SE.mk (by simp[dI,dL,tQ]) (by simp[Oc.cells,Cl.cells])⟩
 simp at hb
 have tU:k=c.mems.length:=by omega
 rw[tU,List.take_length] at cD
 rw[if_neg (by rw[tX (p:=fun m:Mm=> !nG o.en m) cD];simp)]
 clear cD tU hb hk
 refine a9 (j5 @aB @aA @aL @aJ @hnm) ?_
 have hnl:c.names.length≤8388608:=by unfold Cl.names;simp;omega
 apply WP.loop' (I:=fun D s=>∃ k:Nat,k+D=c.names.length∧s8 (c.names.take k) (c.names.drop k)=s8 [] c.names∧SE [(1,dI i),(2,.ptr 0 0 0),(5,.ptr 1 1 0),(9,dL (eT c.names)),(10,dI k)] [(0,⟨0,false,o.cells.map .d⟩),(1,⟨1,false,c.cells.map .d⟩)] 2 s) (d:=c.names.length)
 ·exact ⟨0,by simp,by simp,SE.mk (by simp[dI,dL]) (by simp[Oc.cells,Cl.cells])⟩
 rintro D _ ⟨k,hk,cD,cc,rfl⟩
 refine wk (j5 @aB @aA @aL @aJ @aW) ?_
 show WP _ _ _ _ _ _
 refine WP.cond _ rfl (fun hb=>?_) (fun hb=>?_)
 ·simp at hb
  have bR:k<c.names.length:=by omega
  obtain ⟨d,hd,d9,bS⟩:=bL bR
  have cF:=sJ hd
  have tQ:=bG bR (by omega)
  have h75:=aJi (c.names.take k) d (by unfold MX;rw[List.length_take];omega)
  have hsl:=fun look e b z=>nU look e b z (cP c.names) (j:=k) (by rw[aW];omega)
  have etk:=aAR c.names k
  simp only[dL,dS,dB] at h75
  rw[g8 hd,s8] at cD
  by_cases c7:d∈c.names.take k
  ·rw[jT c7] at h75 cD
   rw[Bool.true_or] at cD
   rw[if_pos cD.symm]
   refine a9 (nW @aB @aA @aL @aJ @aW @bS @cF @hsl @etk @h75) ?_
   show a7 _ _ _ _ _
   exact ⟨.inr rfl,_,_,rfl,rfl⟩
  ·rw[gY c7] at h75 cD
   rw[Bool.false_or,←bM hd] at cD
   refine a9 (nW @aB @aA @aL @aJ @aW @bS @cF @hsl @etk @h75) ?_
   refine aY (by simp[tQ];exact Is.rfl) ?_
   exact ⟨D - 1,by omega,k+1,by omega,cD,SE.mk (by simp[dI,dL,tQ]) (by simp[Oc.cells,Cl.cells])⟩
 simp at hb
 have tU:k=c.names.length:=by omega
 rw[tU,List.drop_length,s8] at cD
 rw[if_neg (by rw[←cD];simp)]
 clear cD tU hb hk
 refine a9 (j4 @aB @aA @aL @aJ) ?_
 apply WP.loop' (I:=fun D s=>∃ k:Nat,k+D=c.ins.length∧(c.ins.take k).all (fun x=> !(!(cX (o.cl.take i) x.cl).2))=true∧SE [(1,dI i),(2,.ptr 0 0 0),(5,.ptr 1 1 0),(11,dI k)] [(0,⟨0,false,o.cells.map .d⟩),(1,⟨1,false,c.cells.map .d⟩)] 2 s) (d:=c.ins.length)
 ·exact ⟨0,by simp,by simp,SE.mk (by simp[dI]) (by simp[Oc.cells,Cl.cells])⟩
 rintro D _ ⟨k,hk,cD,cc,rfl⟩
 refine wk (j5 @aB @aA @aL @aJ @lD) ?_
 show WP _ _ _ _ _ _
 refine WP.cond _ rfl (fun hb=>?_) (fun hb=>?_)
 ·simp at hb
  have bR:k<c.ins.length:=by omega
  obtain ⟨d,hd,d9,bS⟩:=bL bR
  have cF:=pV hd
  have tQ:=bG bR (by omega)
  have hs:=bZ (p:=fun x:Ii=> !(!(cX (o.cl.take i) x.cl).2)) hd
  have h51:=zF ⟨[],o.cl.take i⟩ d.cl (by simp only[List.length_take];unfold MX;omega)
  have hsl:=fun look e b z=>nU look e b z (vS o.cl) (j:=i) (by rw[mY];omega)
  have etk:=aDZ o.cl i
  have he0:fW []=[]:=rfl
  generalize hG:cX (o.cl.take i) d.cl=G at h51
  obtain ⟨g,ok⟩:=G
  have hs2:(!(!(cX (o.cl.take i) d.cl).2))=ok:=by rw[hG];simp
  simp only[aG,Oc.cells,Cl.cells,List.map_cons,List.map_nil,dS,dB,he0] at h51
  cases ok with
  | false=>
   rw[if_pos (List.any_eq_true.2 ⟨d,d9,by rw[hG];rfl⟩)]
   refine a9 (sS @aB @aA @aL @aJ @Ii.cells.eq_1 @lD @bS @cF @hsl @etk @h51 @aH @aI @aQ @aR @b8 @oK) ?_
   show a7 _ _ _ _ _
   exact ⟨.inr rfl,_,_,rfl,rfl⟩
  | true=>
   refine a9 (sS @aB @aA @aL @aJ @Ii.cells.eq_1 @lD @bS @cF @hsl @etk @h51 @aH @aI @aQ @aR @b8 @oK) ?_
   refine aY (by simp[tQ];exact Is.rfl) ?_
   exact ⟨D - 1,by omega,k+1,by omega,by rw[hs,cD,hs2];rfl,SE.mk (by simp[dI,dL,tQ]) (by simp[Oc.cells,Cl.cells])⟩
 simp at hb
 have tU:k=c.ins.length:=by omega
 rw[tU,List.take_length] at cD
 rw[if_neg (by rw[tX (p:=fun x:Ii=> !(cX (o.cl.take i) x.cl).2) cD];simp)]
 refine a9 (j4 @aB @aA @aL @aJ) ?_
 show a7 _ _ _ _ _
 exact ⟨.inr rfl,_,_,rfl,rfl⟩
end Go.Ac
end
section
set_option maxRecDepth 4000
namespace Go.Ac
open Go.Proofs
attribute [local simp] aOW Ob.k121 aUD Ob.k33 aSQ Ob.k77
set_option maxHeartbeats 1000000 in
theorem aHN (nm:Tx) (k:Nat):d7 Tryz.prog Ob.cfg 121 [.full [],dS nm,dI k]=some (dL (iB [⟨nm,k⟩])):=by
 have f1:bT 0 24=true:=rfl
 have f2:bT 1 24=true:=rfl
 have r1:∀ look,iM look 2 (.full [])=some (0,[],[]):=fun look=>rfl
 refine bF Tryz.func121 rfl (by kernel_rfl) rfl rfl ?_
 refine a9 (uQ @aA @aM @aB @f1 @f2 @r1 @aH @aI @aQ @aR @bJ) ?_
 exact ⟨.inr rfl,_,[0],rfl,rfl⟩
set_option maxHeartbeats 4000000 in
theorem aIL {x:Tx} {all:Bool} (y:Y) (hb0:y.sz≤8388607):d7 Tryz.prog Ob.cfg 77 [aG y.cells,dS x,.full [],dB all]=some (dB (asY x all [] y)):=by
 rw[Y.sz_eq] at hb0
 have k1:=oB y.outs
 have k2:=rZ y.brs
 have ho:=aJi y.outs x (by unfold MX;omega)
 simp only[dL,dS,dB] at ho
 rw[aHx]
 refine bF Tryz.func77 rfl (by kernel_rfl) rfl rfl ?_
 by_cases q1:y.k=1
 ·rw[if_pos q1]
  refine a9 (j8 @aD @aC @aA @aM @aF @aS @bE @q1) ?_
  show a7 _ _ _ _ _
  exact ⟨.inr rfl,_,_,rfl,rfl⟩
 rw[if_neg q1]
 by_cases q4:y.k=4
 ·rw[if_pos q4]
  refine a9 (j9 @aD @aC @aA @aM @aF @aS @bE @q4 @ho) ?_
  show a7 _ _ _ _ _
  exact ⟨.inr rfl,_,_,rfl,rfl⟩
 rw[if_neg q4]
 by_cases q3:y.k=3
 case neg=>
  rw[if_neg q3]
  refine a9 (j9 @aD @aC @aA @aM @aF @aS @q1 @q4 @q3) ?_
  show a7 _ _ _ _ _
  exact ⟨.inr rfl,_,_,rfl,rfl⟩
 rw[if_pos q3]
 simp only[List.find?_nil]
 refine a9 (j7 @aD @aC @aA @aM @aF @aS @q3) ?_
 apply WP.loop' (I:=fun D s=>SE [(1,dS x),(2,.full []),(3,dB all),(4,.ptr 0 0 0),(9,dI 0)] [(0,⟨0,false,y.cells.map .d⟩)] 1 s) (d:=0)
 ·exact SE.mk (by simp[dI,dL,dS,dB]) (by simp[aC,q3])
 rintro D _ ⟨cc,rfl⟩
 refine a9 (j5 @aB @aA @aM @aF @aC) ?_
 apply WP.loop' (I:=fun D s=>∃ i n:Nat,i+D=y.brs.length∧n=xL x all [] y.nm 0 (y.brs.take i)∧SE [(1,dS x),(2,.full []),(3,dB all),(4,.ptr 0 0 0),(10,dI n),(11,dI i)] [(0,⟨0,false,y.cells.map .d⟩)] 1 s) (d:=y.brs.length)
 ·exact ⟨0,0,by simp,by simp[xL],SE.mk (by simp[dI,dL,dS,dB]) (by simp[aC])⟩
 rintro D2 _ ⟨i,n,hi,hn,cc2,rfl⟩
 refine wk (j5 @aB @aA @aM @aF @aC) ?_
 show WP _ _ _ _ _ _
 refine WP.cond _ rfl (fun hb=>?_) (fun hb=>?_)
 ·simp at hb
  have hc':i<y.brs.length:=by omega
  obtain ⟨b,wL,yU,tV⟩:=bL hc'
  have kL:=lH wL
  have hw2:=bG hc' (by omega)
  have hin:=aHN y.nm i
  have hr:=aIN x all _ b [⟨y.nm,i⟩] (Nat.lt_succ_self _) (by have:=gJ yU;simp;omega)
  have pC:y.brs.take (i+1)=y.brs.take i++[b]:=bM wL
  have hcn:=z7 x all [] y.nm (y.brs.take i) 0 b
  rw[←pC,←hn,List.length_take,Nat.min_eq_left (by omega),Nat.zero_add,List.nil_append] at hcn
  have hnl:=zV x all [] y.nm (y.brs.take i) 0
  rw[←hn] at hnl
  have aYu:n≤y.brs.length:=by rw[List.length_take] at hnl;omega
  have hwn:IntKind.i64.wrap ((n:Int)+1)=((n+1:Nat):Int):=by rw[aEr] <;> omega
  simp only[dL,dS,dB,dI] at hin hr
  cases he:u6 x all [⟨y.nm,i⟩] b with
  | true=>
   rw[he] at hr hcn
   refine a9 (j9 @aB @aA @aM @aF @aC @tV @kL @hin @hr) ?_
   refine aY (by simp[hw2,hwn];exact Is.rfl) ?_
   exact ⟨D2 - 1,by omega,i+1,n+1,by omega,by rw[hcn];simp,SE.mk (by simp[dI,dL,dS,dB,hw2,hwn]) (by simp[aC])⟩
  | false=>
   rw[he] at hr hcn
   refine a9 (j9 @aB @aA @aM @aF @aC @tV @kL @hin @hr) ?_
   refine aY (by simp[hw2];exact Is.rfl) ?_
   exact ⟨D2 - 1,by omega,i+1,n,by omega,by rw[hcn];simp,SE.mk (by simp[dI,dL,dS,dB,hw2]) (by simp[aC])⟩
 ·simp at hb
  have nE:i=y.brs.length:=by omega
  rw[nE,List.take_length] at hn
  simp only[←hn]
  cases all with
  | true=>
   by_cases hnn:n=y.brs.length
   ·have e1:((n:Int)=y.brs.length)=True:=eq_true (by omega)
    refine a9 (j8 @aB @aA @aM @aF @aC @aS @e1 @hnn) ?_
    exact ⟨.inr rfl,_,_,rfl,by simp[hnn];rfl⟩
   ·have e1:((n:Int)=y.brs.length)=False:=eq_false (by omega)
    refine a9 (j8 @aB @aA @aM @aF @aC @aS @e1 @hnn) ?_
    exact ⟨.inr rfl,_,_,rfl,by simp[hnn];rfl⟩
  | false=>
   refine a9 (j6 @aB @aA @aM @aF @aC @aS) ?_
   exact ⟨.inr rfl,_,_,rfl,by simp;rfl⟩
set_option maxHeartbeats 1000000 in
theorem aOg (x:Tx) (all:Bool) (l:List Y) (hb0:hH l≤8388607):d7 Tryz.prog Ob.cfg 33 [dL (dJ l),dS x,.full [],dB all]=some (dB (u6 x all [] l)):=by
 have k1:=lJ l
 refine bF Tryz.func33 rfl (by kernel_rfl) rfl rfl ?_
 rw[zS]
 refine a9 (j3 @aA @aM @aF) ?_
 apply WP.loop' (I:=fun D s=>∃ j:Nat,j+D=l.length∧(l.take j).all (fun y=> !asY x all [] y)=true∧SE [(0,dL (dJ l)),(1,dS x),(2,.full []),(3,dB all),(9,dI j)] [] 0 s) (d:=l.length)
 ·exact ⟨0,by simp,by simp,SE.mk (by simp[dI,dL,dS,dB]) rfl⟩
 rintro D _ ⟨j,hj,cD,cc,rfl⟩
 refine wk (j4 @aB @aA @aM @aF) ?_
 show WP _ _ _ _ _ _
 refine WP.cond _ rfl (fun hb=>?_) (fun hb=>?_)
 ·simp at hb
  have bR:j<l.length:=by omega
  obtain ⟨y,hy,vF,bS⟩:=bL bR
  have pD:=oA hy
  have hw:=bG bR (by omega)
  have hs:=bZ (p:=fun y=> !asY x all [] y) hy
  have hr:=aIL (x:=x) (all:=all) y (by have:=mM vF;omega)
  simp only[aG,aC,List.map_cons,List.map_nil,dL,dS,dB] at hr
  cases he:asY x all [] y with
  | true=>
   rw[he] at hr
   have ha:l.any (asY x all [])=true:=List.any_eq_true.2 ⟨y,vF,he⟩
   rw[ha]
   refine a9 (j8 @aB @aA @aM @aF @aC @bS @pD @hr) ?_
   show a7 _ _ _ _ _
   exact ⟨.inr rfl,_,_,rfl,rfl⟩
  | false=>
   rw[he] at hr hs
   refine a9 (j8 @aB @aA @aM @aF @aC @bS @pD @hr) ?_
   refine aY (by simp[hw];exact Is.rfl) ?_
   exact ⟨D - 1,by omega,j+1,by omega,by rw[hs,cD];rfl,SE.mk (by simp[dI,dL,dS,dB,hw]) rfl⟩
 ·simp at hb
  have eM:j=l.length:=by omega
  rw[eM,List.take_length] at cD
  have ha:l.any (asY x all [])=false:=by
   cases aRe:l.any (asY x all []) with
   | false=>rfl
   | true=>
    obtain ⟨y,hy,hye⟩:=List.any_eq_true.1 aRe
    have:=List.all_eq_true.1 cD y hy
    rw[hye] at this;cases this
  rw[ha]
  refine a9 (j4 @aB @aA @aM @aF) ?_
  show a7 _ _ _ _ _
  exact ⟨.inr rfl,_,_,rfl,rfl⟩
end Go.Ac
end
