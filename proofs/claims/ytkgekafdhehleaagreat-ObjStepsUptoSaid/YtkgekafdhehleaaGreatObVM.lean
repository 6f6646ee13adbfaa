/- Calls, the reference's. -/
import Derived.Test.YtkgekafdhehleaaGreatObOM
set_option linter.unusedVariables false
set_option linter.unusedSimpArgs false
section
set_option maxRecDepth 4000
namespace Go.Ac
open Go.Proofs
def lO (w:Pl) (nm:Tx):Bool:=decide (fG w.c.inn nm≠0)||u6 nm true w.cx w.bf
def gO (w:Pl) (k o t v:Int) (nm:Tx) (l:List Int):Int×Int:=
 if k=1 then (if iG w.o.en t v then (t,0) else (0,10))
 else if k=2 then (if cZ w.c nm=0 then (0,6) else if lO w nm then (cZ w.c nm,0) else (0,22))
 else if k=12 then (if eK w.c.mems nm=0 then (0,6) else (eK w.c.mems nm,0))
 else if k=3 then jC o l
 else if l.getD 0 0≠1∨l.getD 1 0≠l.getD 2 0 then (0,10) else (l.getD 1 0,0)
mutual
def eV (w:Pl):X→Int×Int
 | .mk k o t v nm args=>if (fV w args).2≠0 then (0,(fV w args).2) else gO w k o t v nm (fV w args).1
def fV (w:Pl):List X→List Int×Int
 | []=>([],0)
 | x::r=>if (eV w x).2≠0 then ([],(eV w x).2) else if (fV w r).2≠0 then ([],(fV w r).2) else ((eV w x).1::(fV w r).1,0)
end
theorem tG (w:Pl) (x:X):eV w x=if (fV w x.args).2≠0 then (0,(fV w x.args).2) else gO w x.k x.o x.t x.v x.nm (fV w x.args).1:=by cases x;rw[eV];rfl
def okK (w:Pl) (x:X):Bool:=decide ((eV w x).2=0)
theorem yP (w:Pl):∀ {l:List X} {j:Nat} {d:X},(l.take j).all (okK w)=true→l[j]?=some d→(eV w d).2≠0→fV w l=([],(eV w d).2)
 | [],j,d,_,h,_=>by simp at h
 | x::r,0,d,_,h,hb=>by simp at h;subst h;rw[fV,if_pos hb]
 | x::r,j+1,d,hn,h,hb=>by
  simp only[List.take_succ_cons,List.all_cons,Bool.and_eq_true] at hn
  have h1:(eV w x).2=0:=by simpa [okK] using hn.1
  have h2:=yP w hn.2 (by simpa using h) hb
  rw[fV,if_neg (by simp[h1]),h2,if_pos hb]
theorem aBg (w:Pl):∀ {l:List X},l.all (okK w)=true→fV w l=(l.map (fun x=>(eV w x).1),0)
 | [],_=>by rw[fV];rfl
 | x::r,hn=>by
  simp only[List.all_cons,Bool.and_eq_true] at hn
  have h1:(eV w x).2=0:=by simpa [okK] using hn.1
  rw[fV,if_neg (by simp[h1]),aBg w hn.2,if_neg (by simp)];rfl
structure WOK (w:Pl):Prop where
 inn:w.c.inn.length≤MX
 out:w.c.out.length≤MX
 loc:w.c.loc.length≤MX
 mems:w.c.mems.length≤MX
 ins:w.c.ins.length≤MX
 cl:w.o.cl.length≤MX
 bf:w.cx.length+hH w.bf≤8388608
theorem X.ok_eq {x:X} (h:x.ok):u9 x.t∧okX x.args:=by cases x;rw[X.ok] at h;exact ⟨h.2.2.1,h.2.2.2.2⟩
theorem zQ {x:X} (h:bQ x=true):x.k=1∨x.k=2∨x.k=12∨x.k=3∨x.k=4:=by
 rw[bU] at h
 unfold cC at h
 by_cases q1:x.k=1;· exact .inl q1
 by_cases q2:x.k=2;· exact .inr (.inl q2)
 by_cases q3:x.k=12;· exact .inr (.inr (.inl q3))
 by_cases q4:x.k=3;· exact .inr (.inr (.inr (.inl q4)))
 by_cases q5:x.k=4;· exact .inr (.inr (.inr (.inr q5)))
 simp[q1,q2,q3,q4,q5] at h
theorem zH {x:X} (h:bQ x=true):x.args.all bQ=true∧(x.k=4→x.args.length=3)∧x.args.length≤3:=by
 rw[bU] at h
 split at h
 ·cases h
 rename_i n hn
 rw[Bool.and_eq_true,bO] at h
 have hl:=of_decide_eq_true h.1
 have hr:=nQ x.o
 refine ⟨h.2,fun hk=>?_,?_⟩
 ·unfold cC at hn
  rw[hk] at hn
  simp at hn
  obtain ⟨_,hn⟩:=hn
  omega
 ·unfold cC at hn
  split at hn
  ·split at hn <;> simp at hn;omega
  split at hn
  ·split at hn <;> simp at hn;omega
  split at hn
  ·split at hn <;> simp at hn;omega
  split at hn
  ·split at hn <;> simp at hn;omega
  ·cases hn
theorem cI (l:List Int):∀ r∈bX l,r.length=1:=by unfold bX;intro r hr;obtain ⟨x,_,rfl⟩:=List.mem_map.1 hr;rfl
theorem iY (l:List Int) (v:Int):bX l++[[.int .i64 v]]=bX (l++[v]):=by unfold bX;simp
theorem aSg (r:Nat):Ob.keep 147 r=Ob.k147 r:=by kernel_rfl
theorem aTd (r:Nat):Ob.keep 144 r=Ob.k144 r:=by kernel_rfl
attribute [local simp] aSg Ob.k147 aTd Ob.k144
set_option maxHeartbeats 1000000 in
theorem aGr (w:Pl) (x:Tx) (hw:WOK w):d7 Tryz.prog Ob.cfg 147 [aG w.cells,dS x]=some (dB (lO w x)):=by
 have a1:=aCf w.c.inn x hw.inn
 have a2:=aIN x true _ w.bf w.cx (Nat.lt_succ_self _) hw.bf
 simp only[dL,dS,dI,dB] at a1 a2
 refine bF Tryz.func147 rfl (by kernel_rfl) rfl rfl ?_
 unfold lO
 by_cases h:fG w.c.inn x=0
 ·rw[h] at a1 ⊢
  refine a9 (j6 @aD @aK @aA @aM @a1 @a2) ?_
  show a7 _ _ _ _ _
  exact ⟨.inr rfl,_,_,rfl,rfl⟩
 ·rw[jT h]
  refine a9 (j8 @aD @aK @aA @aM @a1 @a2 @aV @h) ?_
  show a7 _ _ _ _ _
  exact ⟨.inr rfl,_,_,rfl,rfl⟩
set_option maxHeartbeats 4000000 in
theorem aOm (w:Pl) (hw:WOK w):∀ (N:Nat) (x:X),x.sz<N→bQ x=true→x.ok→d7 Tryz.prog Ob.cfg 144 [aG w.cells,aG x.cells]=some (.tuple [dI (eV w x).1,dI (eV w x).2]):=by
 intro N
 induction N with
 | zero=>intro x h;omega
 | succ N ih=>
 intro x hN hf cE
 obtain ⟨hf1,hf2,hf3⟩:=zH hf
 obtain ⟨jA,nH⟩:=X.ok_eq cE
 have hs0:=X.sz_eq x
 refine bF Tryz.func144 rfl (by kernel_rfl) rfl rfl ?_
 rw[tG]
 refine a9 (j4 @aD @aK @aE @aA) ?_
 apply WP.loop' (I:=fun D s=>∃ j g:Nat,j+D=x.args.length∧(x.args.take j).all (okK w)=true∧∃ (c':Nat) (L:List Int),L=(x.args.take j).map (fun y=>(eV w y).1)∧s=⟨[(2,.ptr 0 0 0),(3,.ptr 1 1 0),(6,.osl 2 g 0 j 1 none),(7,dI j)],[(0,⟨0,false,w.cells.map .d⟩),(1,⟨1,false,x.cells.map .d⟩),(2,⟨g,false,fl (bX L)⟩)],3,c',0,[]⟩) (d:=x.args.length)
 ·exact ⟨0,2,by simp,by simp,3,[],by simp,by simp[Pl.cells,aE];exact ⟨rfl,rfl⟩⟩
 rintro D _ ⟨j,g,hj,cD,c',L,hL,rfl⟩
 refine wk (j5 @aB @aA @aK @aE @aT) ?_
 show WP _ _ _ _ _ _
 refine WP.cond _ rfl (fun hb=>?_) (fun hb=>?_)
 ·simp at hb
  have bR:j<x.args.length:=by omega
  obtain ⟨d,hd,d9,bS⟩:=bL bR
  have cF:=iQ hd
  have dH:=bG bR (by omega)
  have hs:=bZ (p:=okK w) hd
  have hr:=ih d (by have:=dX d9;omega) (List.all_eq_true.1 hf1 d d9) ((uF _).1 nH d d9)
  simp only[aG,Pl.cells,aE,List.map_cons,List.map_nil,dI] at hr
  by_cases hz:(eV w d).2=0
  ·rw[hz] at hr
   have hsn:=bM hd
   have pL:L.length=j:=by rw[hL];simp;omega
   have hLs:(x.args.take (j+1)).map (fun y=>(eV w y).1)=L++[(eV w d).1]:=by rw[hsn,hL];simp
   have r2:=cT (cI L)
   have r3:=cL (cI L)
   have r4:=dW (bX L) [.int .i64 (eV w d).1]
   have r5:=iY L (eV w d).1
   have f5:bT (j+1) 8=true:=by simp[bT];omega
   rw[r5] at r4
   rw[aZ,pL,Nat.mul_one] at r2 r3
   simp only[List.map_cons,List.map_nil] at r4
   refine a9 (mX @aB @aA @aK @aE @aT @bS @cF @hr @aH @aI @bI @bJ @f5 @r2 @r3 @r4) ?_
   refine aY (by simp[dH];exact Is.rfl) ?_
   exact ⟨D - 1,by omega,j+1,_,by omega,by rw[hs,cD];simp[okK,hz],_,_,hLs.symm,by simp[Pl.cells,aE,dH];exact ⟨⟨rfl,rfl⟩,rfl,rfl⟩⟩
  ·have lV:=eq_false hz
   rw[yP w cD hd hz,if_pos hz]
   refine a9 (nW @aB @aA @aK @aE @aT @bS @cF @hr @lV @aV) ?_
   exact ⟨.inr rfl,_,_,rfl,rfl⟩
 ·simp at hb
  have eM:j=x.args.length:=by omega
  rw[eM,List.take_length] at cD
  have hks:=aBg w cD
  rw[hks,if_neg (by simp)]
  have hx:(x.args.take x.args.length).map (fun y=>(eV w y).1)=x.args.map (fun y=>(eV w y).1):=by rw[List.take_length]
  rw[eM,hx] at hL
  rw[←hL]
  have pL:L.length=x.args.length:=by rw[hL];simp
  subst eM
  clear hL hx
  rcases zQ hf with q|q|q|q|q
  ·have hh:=aMn w.o.en x.t x.v jA
   simp only[dL,dI,dB] at hh
   cases hz:iG w.o.en x.t x.v with
   | true=>
    rw[hz] at hh
    simp only[gO,q,hz]
    refine a9 (j6 @aB @aA @aK @aE @q @hh) ?_
    exact ⟨.inr rfl,_,_,rfl,rfl⟩
   | false=>
    rw[hz] at hh
    simp only[gO,q,hz]
    refine a9 (j6 @aB @aA @aK @aE @q @hh) ?_
    exact ⟨.inr rfl,_,_,rfl,rfl⟩
  ·have hg:=aLP w x.nm hw.out hw.loc hw.inn
   have hr:=aGr w x.nm hw
   simp only[aG,Pl.cells,List.map_cons,List.map_nil,dS,dI,dB] at hg hr
   by_cases hz:cZ w.c x.nm=0
   ·rw[hz] at hg
    simp only[gO,q,hz]
    refine a9 (j6 @aB @aA @aK @aE @q @hg) ?_
    exact ⟨.inr rfl,_,_,rfl,rfl⟩
   have lV:=eq_false hz
   cases hy:lO w x.nm with
   | true=>
    rw[hy] at hr
    simp only[gO,q,lV,hy]
    refine a9 (j9 @aB @aA @aK @aE @q @hg @hr @lV @aS) ?_
    exact ⟨.inr rfl,_,_,rfl,rfl⟩
   | false=>
    rw[hy] at hr
    simp only[gO,q,lV,hy]
    refine a9 (j9 @aB @aA @aK @aE @q @hg @hr @lV @aS) ?_
    exact ⟨.inr rfl,_,_,rfl,rfl⟩
  ·have hg:=aLY w x.nm hw.mems
   simp only[aG,Pl.cells,List.map_cons,List.map_nil,dS,dI,dB] at hg
   by_cases hz:eK w.c.mems x.nm=0
   ·rw[hz] at hg
    simp only[gO,q,hz]
    refine a9 (j6 @aB @aA @aK @aE @q @hg) ?_
    exact ⟨.inr rfl,_,_,rfl,rfl⟩
   have lV:=eq_false hz
   simp only[gO,q,lV]
   refine a9 (j8 @aB @aA @aK @aE @q @hg @lV @aS) ?_
   exact ⟨.inr rfl,_,_,rfl,rfl⟩
  ·have hg:=aPP x.o L
   have r2:=cT (cI L)
   have r3:=cL (cI L)
   have r4:=eJ (cI L)
   rw[aZ,Nat.mul_one] at r2 r3
   rw[aZ] at r4
   rw[pL] at r2 r3 r4
   simp only[dL,dI] at hg
   simp only[gO,q]
   refine a9 (uV @aB @aA @aK @aE @q @hg @aQ @aR @bI @b8 @cG @r2 @r3 @r4 @bJ) ?_
   exact ⟨.inr rfl,_,_,rfl,rfl⟩
  ·rw[hf2 q] at pL ⊢
   obtain ⟨a,b,c,rfl⟩:∃ a b c,L=[a,b,c]:=by
    match L,pL with
    | [a,b,c],_=>exact ⟨a,b,c,rfl⟩
   have e:fl (bX [a,b,c])=[.d (.int .i64 a),.d (.int .i64 b),.d (.int .i64 c)]:=rfl
   rw[e]
   by_cases c1:a=1
   case neg=>
    have c1':=eq_false c1
    simp only[gO,q]
    rw[show (if ([a,b,c].getD 0 0≠1∨[a,b,c].getD 1 0≠[a,b,c].getD 2 0) then ((0:Int),(10:Int)) else ([a,b,c].getD 1 0,0))=(0,10) by simp[c1]]
    refine a9 (j8 @aB @aA @aK @aE @q @c1' @aV @jQ.eq_def) ?_
    exact ⟨.inr rfl,_,_,rfl,rfl⟩
   by_cases c2:b=c
   case neg=>
    have c2':=eq_false c2
    simp only[gO,q]
    rw[show (if ([a,b,c].getD 0 0≠1∨[a,b,c].getD 1 0≠[a,b,c].getD 2 0) then ((0:Int),(10:Int)) else ([a,b,c].getD 1 0,0))=(0,10) by simp[c2]]
    refine a9 (j9 @aB @aA @aK @aE @q @c1 @c2' @aV @jQ.eq_def) ?_
    exact ⟨.inr rfl,_,_,rfl,rfl⟩
   simp only[gO,q]
   rw[show (if ([a,b,c].getD 0 0≠1∨[a,b,c].getD 1 0≠[a,b,c].getD 2 0) then ((0:Int),(10:Int)) else ([a,b,c].getD 1 0,0))=(b,0) by simp[c1,c2]]
   subst c1 c2
   refine a9 (j7 @aB @aA @aK @aE @q @aV @jQ.eq_def) ?_
   exact ⟨.inr rfl,_,_,rfl,rfl⟩
end Go.Ac
end
section
set_option maxRecDepth 4000
namespace Go.Ac
open Go.Proofs
def bB (y:Y):Bool:=decide (y.outs≠[])||decide (y.args≠[])
def aU (y:Y):Bool:=
 if y.k=1∨y.k=2 then decide (y.t=0)&& !bB y&&decide (y.brs=[])
 else if y.k=3 then cN y.r&& !bB y
 else if y.k=4 then decide (y.t=0)&&cN y.r&&decide (y.brs=[])
 else if y.k=5 then decide (y.t=0)&&cN y.r&& !bB y&&decide (y.brs=[]) else false
def eB (w:Pl) (x:X):Int×Int:=if bQ x then eV w x else (0,5)
def jB (w:Pl) (nm:Tx) (t:Int):Int:=if j1 w.c nm=0 then 6 else if u6 nm false w.cx w.bf then 7 else if j1 w.c nm≠t then 10 else 0
theorem pY {α:Type} (l:List α):((0:Int)<(l.length:Int))=(l≠[]):=by cases l <;> simp <;> omega
theorem gP {α:Type} (l:List α):(0<l.length)=(l≠[]):=by cases l <;> simp
theorem aSd (r:Nat):Ob.keep 114 r=Ob.k114 r:=by kernel_rfl
theorem aSY (r:Nat):Ob.keep 115 r=Ob.k115 r:=by kernel_rfl
theorem aTj (r:Nat):Ob.keep 116 r=Ob.k116 r:=by kernel_rfl
attribute [local simp] aSd Ob.k114 aSY Ob.k115 aTj Ob.k116
set_option maxHeartbeats 4000000 in
theorem aMM (y:Y) (e1:y.outs≠[]):d7 Tryz.prog Ob.cfg 114 [aG y.cells]=some (dB (aU y)):=by
 have cH:=aET y.r
 simp only[aG,aE,List.map_cons,List.map_nil,dB] at cH
 refine bF Tryz.func114 rfl (by kernel_rfl) rfl rfl ?_
 by_cases q1:y.k=1
 ·skip
  by_cases d1:y.t=0
  case neg=>
   have d1':=eq_false d1
   rw[show aU y=false by simp[aU,bB,e1,q1,d1]]
   refine a9 (uV @aD @aC @aA @aF @aS @bH @pY @gP @aW @aT @aX @cH @e1 @q1 @d1') ?_
   show a7 _ _ _ _ _
   exact ⟨.inr rfl,_,_,rfl,rfl⟩
  have d1':=eq_true d1
  rw[show aU y=false by simp[aU,bB,e1,q1,d1]]
  refine a9 (uV @aD @aC @aA @aF @aS @bH @pY @gP @aW @aT @aX @cH @e1 @q1 @d1') ?_
  show a7 _ _ _ _ _
  exact ⟨.inr rfl,_,_,rfl,rfl⟩
 by_cases q2:y.k=2
 ·skip
  by_cases d1:y.t=0
  case neg=>
   have d1':=eq_false d1
   rw[show aU y=false by simp[aU,bB,e1,q2,d1]]
   refine a9 (uV @aD @aC @aA @aF @aS @bH @pY @gP @aW @aT @aX @cH @e1 @q2 @d1') ?_
   show a7 _ _ _ _ _
   exact ⟨.inr rfl,_,_,rfl,rfl⟩
  have d1':=eq_true d1
  rw[show aU y=false by simp[aU,bB,e1,q2,d1]]
  refine a9 (uV @aD @aC @aA @aF @aS @bH @pY @gP @aW @aT @aX @cH @e1 @q2 @d1') ?_
  show a7 _ _ _ _ _
  exact ⟨.inr rfl,_,_,rfl,rfl⟩
 by_cases q3:y.k=3
 ·skip
  by_cases d3:cN y.r=true
  case neg=>
   have d3':cN y.r=false:=by simpa using d3
   rw[show aU y=false by simp[aU,bB,e1,q3,d3']]
   refine a9 (uV @aD @aC @aA @aF @aS @bH @pY @gP @aW @aT @aX @cH @e1 @q3 @d3') ?_
   show a7 _ _ _ _ _
   exact ⟨.inr rfl,_,_,rfl,rfl⟩
  have d3':=d3
  rw[show aU y=false by simp[aU,bB,e1,q3,d3]]
  refine a9 (uV @aD @aC @aA @aF @aS @bH @pY @gP @aW @aT @aX @cH @e1 @q3 @d3') ?_
  show a7 _ _ _ _ _
  exact ⟨.inr rfl,_,_,rfl,rfl⟩
 by_cases q4:y.k=4
 ·skip
  by_cases d1:y.t=0
  case neg=>
   have d1':=eq_false d1
   rw[show aU y=false by simp[aU,bB,e1,q4,d1]]
   refine a9 (uV @aD @aC @aA @aF @aS @bH @pY @gP @aW @aT @aX @cH @e1 @q4 @d1') ?_
   show a7 _ _ _ _ _
   exact ⟨.inr rfl,_,_,rfl,rfl⟩
  have d1':=eq_true d1
  by_cases d3:cN y.r=true
  case neg=>
   have d3':cN y.r=false:=by simpa using d3
   rw[show aU y=false by simp[aU,bB,e1,q4,d1,d3']]
   refine a9 (mX @aD @aC @aA @aF @aS @bH @pY @gP @aW @aT @aX @cH @e1 @q4 @d1' @d3') ?_
   show a7 _ _ _ _ _
   exact ⟨.inr rfl,_,_,rfl,rfl⟩
  have d3':=d3
  by_cases d2:y.brs=[]
  case neg=>
   have d2':=eq_false d2
   rw[show aU y=false by simp[aU,bB,e1,q4,d1,d3,d2]]
   refine a9 (sS @aD @aC @aA @aF @aS @bH @pY @gP @aW @aT @aX @cH @e1 @q4 @d1' @d3' @d2') ?_
   show a7 _ _ _ _ _
   exact ⟨.inr rfl,_,_,rfl,rfl⟩
  have d2':=eq_true d2
  rw[show aU y=true by simp[aU,bB,e1,q4,d1,d3,d2]]
  refine a9 (sS @aD @aC @aA @aF @aS @bH @pY @gP @aW @aT @aX @cH @e1 @q4 @d1' @d3' @d2') ?_
  show a7 _ _ _ _ _
  exact ⟨.inr rfl,_,_,rfl,rfl⟩
 by_cases q5:y.k=5
 ·skip
  by_cases d1:y.t=0
  case neg=>
   have d1':=eq_false d1
   rw[show aU y=false by simp[aU,bB,e1,q5,d1]]
   refine a9 (uV @aD @aC @aA @aF @aS @bH @pY @gP @aW @aT @aX @cH @e1 @q5 @d1') ?_
   show a7 _ _ _ _ _
   exact ⟨.inr rfl,_,_,rfl,rfl⟩
  have d1':=eq_true d1
  by_cases d3:cN y.r=true
  case neg=>
   have d3':cN y.r=false:=by simpa using d3
   rw[show aU y=false by simp[aU,bB,e1,q5,d1,d3']]
   refine a9 (mX @aD @aC @aA @aF @aS @bH @pY @gP @aW @aT @aX @cH @e1 @q5 @d1' @d3') ?_
   show a7 _ _ _ _ _
   exact ⟨.inr rfl,_,_,rfl,rfl⟩
  have d3':=d3
  rw[show aU y=false by simp[aU,bB,e1,q5,d1,d3]]
  refine a9 (mX @aD @aC @aA @aF @aS @bH @pY @gP @aW @aT @aX @cH @e1 @q5 @d1' @d3') ?_
  show a7 _ _ _ _ _
  exact ⟨.inr rfl,_,_,rfl,rfl⟩
 rw[show aU y=false by simp[aU,bB,e1,q1,q2,q3,q4,q5]]
 refine a9 (u7 @aD @aC @aA @aF @aS @bH @pY @gP @aW @aT @aX @cH @e1 @q1 @q2 @q3 @q4 @q5) ?_
 show a7 _ _ _ _ _
 exact ⟨.inr rfl,_,_,rfl,rfl⟩
set_option maxHeartbeats 4000000 in
theorem aLp (y:Y) (e1:y.outs=[]) (e2:y.args≠[]):d7 Tryz.prog Ob.cfg 114 [aG y.cells]=some (dB (aU y)):=by
 have cH:=aET y.r
 simp only[aG,aE,List.map_cons,List.map_nil,dB] at cH
 refine bF Tryz.func114 rfl (by kernel_rfl) rfl rfl ?_
 by_cases q1:y.k=1
 ·skip
  by_cases d1:y.t=0
  case neg=>
   have d1':=eq_false d1
   rw[show aU y=false by simp[aU,bB,e1,e2,q1,d1]]
   refine a9 (mX @aD @aC @aA @aF @aS @bH @pY @gP @aW @aT @aX @cH @e1 @e2 @q1 @d1') ?_
   show a7 _ _ _ _ _
   exact ⟨.inr rfl,_,_,rfl,rfl⟩
  have d1':=eq_true d1
  rw[show aU y=false by simp[aU,bB,e1,e2,q1,d1]]
  refine a9 (mX @aD @aC @aA @aF @aS @bH @pY @gP @aW @aT @aX @cH @e1 @e2 @q1 @d1') ?_
  show a7 _ _ _ _ _
  exact ⟨.inr rfl,_,_,rfl,rfl⟩
 by_cases q2:y.k=2
 ·skip
  by_cases d1:y.t=0
  case neg=>
   have d1':=eq_false d1
   rw[show aU y=false by simp[aU,bB,e1,e2,q2,d1]]
   refine a9 (mX @aD @aC @aA @aF @aS @bH @pY @gP @aW @aT @aX @cH @e1 @e2 @q2 @d1') ?_
   show a7 _ _ _ _ _
   exact ⟨.inr rfl,_,_,rfl,rfl⟩
  have d1':=eq_true d1
  rw[show aU y=false by simp[aU,bB,e1,e2,q2,d1]]
  refine a9 (mX @aD @aC @aA @aF @aS @bH @pY @gP @aW @aT @aX @cH @e1 @e2 @q2 @d1') ?_
  show a7 _ _ _ _ _
  exact ⟨.inr rfl,_,_,rfl,rfl⟩
 by_cases q3:y.k=3
 ·skip
  by_cases d3:cN y.r=true
  case neg=>
   have d3':cN y.r=false:=by simpa using d3
   rw[show aU y=false by simp[aU,bB,e1,e2,q3,d3']]
   refine a9 (mX @aD @aC @aA @aF @aS @bH @pY @gP @aW @aT @aX @cH @e1 @e2 @q3 @d3') ?_
   show a7 _ _ _ _ _
   exact ⟨.inr rfl,_,_,rfl,rfl⟩
  have d3':=d3
  rw[show aU y=false by simp[aU,bB,e1,e2,q3,d3]]
  refine a9 (mX @aD @aC @aA @aF @aS @bH @pY @gP @aW @aT @aX @cH @e1 @e2 @q3 @d3') ?_
  show a7 _ _ _ _ _
  exact ⟨.inr rfl,_,_,rfl,rfl⟩
 by_cases q4:y.k=4
 ·skip
  by_cases d1:y.t=0
  case neg=>
   have d1':=eq_false d1
   rw[show aU y=false by simp[aU,bB,e1,e2,q4,d1]]
   refine a9 (mX @aD @aC @aA @aF @aS @bH @pY @gP @aW @aT @aX @cH @e1 @e2 @q4 @d1') ?_
   show a7 _ _ _ _ _
   exact ⟨.inr rfl,_,_,rfl,rfl⟩
  have d1':=eq_true d1
  by_cases d3:cN y.r=true
  case neg=>
   have d3':cN y.r=false:=by simpa using d3
   rw[show aU y=false by simp[aU,bB,e1,e2,q4,d1,d3']]
   refine a9 (sS @aD @aC @aA @aF @aS @bH @pY @gP @aW @aT @aX @cH @e1 @e2 @q4 @d1' @d3') ?_
   show a7 _ _ _ _ _
   exact ⟨.inr rfl,_,_,rfl,rfl⟩
  have d3':=d3
  by_cases d2:y.brs=[]
  case neg=>
   have d2':=eq_false d2
   rw[show aU y=false by simp[aU,bB,e1,e2,q4,d1,d3,d2]]
   refine a9 (u7 @aD @aC @aA @aF @aS @bH @pY @gP @aW @aT @aX @cH @e1 @e2 @q4 @d1' @d3' @d2') ?_
   show a7 _ _ _ _ _
   exact ⟨.inr rfl,_,_,rfl,rfl⟩
  have d2':=eq_true d2
  rw[show aU y=true by simp[aU,bB,e1,e2,q4,d1,d3,d2]]
  refine a9 (u7 @aD @aC @aA @aF @aS @bH @pY @gP @aW @aT @aX @cH @e1 @e2 @q4 @d1' @d3' @d2') ?_
  show a7 _ _ _ _ _
  exact ⟨.inr rfl,_,_,rfl,rfl⟩
 by_cases q5:y.k=5
 ·skip
  by_cases d1:y.t=0
  case neg=>
   have d1':=eq_false d1
   rw[show aU y=false by simp[aU,bB,e1,e2,q5,d1]]
   refine a9 (mX @aD @aC @aA @aF @aS @bH @pY @gP @aW @aT @aX @cH @e1 @e2 @q5 @d1') ?_
   show a7 _ _ _ _ _
   exact ⟨.inr rfl,_,_,rfl,rfl⟩
  have d1':=eq_true d1
  by_cases d3:cN y.r=true
  case neg=>
   have d3':cN y.r=false:=by simpa using d3
   rw[show aU y=false by simp[aU,bB,e1,e2,q5,d1,d3']]
   refine a9 (sS @aD @aC @aA @aF @aS @bH @pY @gP @aW @aT @aX @cH @e1 @e2 @q5 @d1' @d3') ?_
   show a7 _ _ _ _ _
   exact ⟨.inr rfl,_,_,rfl,rfl⟩
  have d3':=d3
  rw[show aU y=false by simp[aU,bB,e1,e2,q5,d1,d3]]
  refine a9 (sS @aD @aC @aA @aF @aS @bH @pY @gP @aW @aT @aX @cH @e1 @e2 @q5 @d1' @d3') ?_
  show a7 _ _ _ _ _
  exact ⟨.inr rfl,_,_,rfl,rfl⟩
 rw[show aU y=false by simp[aU,bB,e1,e2,q1,q2,q3,q4,q5]]
 refine a9 (j19 @aD @aC @aA @aF @aS @bH @pY @gP @aW @aT @aX @cH @e1 @e2 @q1 @q2 @q3 @q4 @q5) ?_
 show a7 _ _ _ _ _
 exact ⟨.inr rfl,_,_,rfl,rfl⟩
set_option maxHeartbeats 4000000 in
theorem aML (y:Y) (e1:y.outs=[]) (e2:y.args=[]):d7 Tryz.prog Ob.cfg 114 [aG y.cells]=some (dB (aU y)):=by
 have cH:=aET y.r
 simp only[aG,aE,List.map_cons,List.map_nil,dB] at cH
 refine bF Tryz.func114 rfl (by kernel_rfl) rfl rfl ?_
 by_cases q1:y.k=1
 ·skip
  by_cases d1:y.t=0
  case neg=>
   have d1':=eq_false d1
   rw[show aU y=false by simp[aU,bB,e1,e2,q1,d1]]
   refine a9 (mX @aD @aC @aA @aF @aS @bH @pY @gP @aW @aT @aX @cH @e1 @e2 @q1 @d1') ?_
   show a7 _ _ _ _ _
   exact ⟨.inr rfl,_,_,rfl,rfl⟩
  have d1':=eq_true d1
  by_cases d2:y.brs=[]
  case neg=>
   have d2':=eq_false d2
   rw[show aU y=false by simp[aU,bB,e1,e2,q1,d1,d2]]
   refine a9 (sS @aD @aC @aA @aF @aS @bH @pY @gP @aW @aT @aX @cH @e1 @e2 @q1 @d1' @d2') ?_
   show a7 _ _ _ _ _
   exact ⟨.inr rfl,_,_,rfl,rfl⟩
  have d2':=eq_true d2
  rw[show aU y=true by simp[aU,bB,e1,e2,q1,d1,d2]]
  refine a9 (sS @aD @aC @aA @aF @aS @bH @pY @gP @aW @aT @aX @cH @e1 @e2 @q1 @d1' @d2') ?_
  show a7 _ _ _ _ _
  exact ⟨.inr rfl,_,_,rfl,rfl⟩
 by_cases q2:y.k=2
 ·skip
  by_cases d1:y.t=0
  case neg=>
   have d1':=eq_false d1
   rw[show aU y=false by simp[aU,bB,e1,e2,q2,d1]]
   refine a9 (mX @aD @aC @aA @aF @aS @bH @pY @gP @aW @aT @aX @cH @e1 @e2 @q2 @d1') ?_
   show a7 _ _ _ _ _
   exact ⟨.inr rfl,_,_,rfl,rfl⟩
  have d1':=eq_true d1
  by_cases d2:y.brs=[]
  case neg=>
   have d2':=eq_false d2
   rw[show aU y=false by simp[aU,bB,e1,e2,q2,d1,d2]]
   refine a9 (sS @aD @aC @aA @aF @aS @bH @pY @gP @aW @aT @aX @cH @e1 @e2 @q2 @d1' @d2') ?_
   show a7 _ _ _ _ _
   exact ⟨.inr rfl,_,_,rfl,rfl⟩
  have d2':=eq_true d2
  rw[show aU y=true by simp[aU,bB,e1,e2,q2,d1,d2]]
  refine a9 (sS @aD @aC @aA @aF @aS @bH @pY @gP @aW @aT @aX @cH @e1 @e2 @q2 @d1' @d2') ?_
  show a7 _ _ _ _ _
  exact ⟨.inr rfl,_,_,rfl,rfl⟩
 by_cases q3:y.k=3
 ·skip
  by_cases d3:cN y.r=true
  case neg=>
   have d3':cN y.r=false:=by simpa using d3
   rw[show aU y=false by simp[aU,bB,e1,e2,q3,d3']]
   refine a9 (mX @aD @aC @aA @aF @aS @bH @pY @gP @aW @aT @aX @cH @e1 @e2 @q3 @d3') ?_
   show a7 _ _ _ _ _
   exact ⟨.inr rfl,_,_,rfl,rfl⟩
  have d3':=d3
  rw[show aU y=true by simp[aU,bB,e1,e2,q3,d3]]
  refine a9 (mX @aD @aC @aA @aF @aS @bH @pY @gP @aW @aT @aX @cH @e1 @e2 @q3 @d3') ?_
  show a7 _ _ _ _ _
  exact ⟨.inr rfl,_,_,rfl,rfl⟩
 by_cases q4:y.k=4
 ·skip
  by_cases d1:y.t=0
  case neg=>
   have d1':=eq_false d1
   rw[show aU y=false by simp[aU,bB,e1,e2,q4,d1]]
   refine a9 (mX @aD @aC @aA @aF @aS @bH @pY @gP @aW @aT @aX @cH @e1 @e2 @q4 @d1') ?_
   show a7 _ _ _ _ _
   exact ⟨.inr rfl,_,_,rfl,rfl⟩
  have d1':=eq_true d1
  by_cases d3:cN y.r=true
  case neg=>
   have d3':cN y.r=false:=by simpa using d3
   rw[show aU y=false by simp[aU,bB,e1,e2,q4,d1,d3']]
   refine a9 (sS @aD @aC @aA @aF @aS @bH @pY @gP @aW @aT @aX @cH @e1 @e2 @q4 @d1' @d3') ?_
   show a7 _ _ _ _ _
   exact ⟨.inr rfl,_,_,rfl,rfl⟩
  have d3':=d3
  by_cases d2:y.brs=[]
  case neg=>
   have d2':=eq_false d2
   rw[show aU y=false by simp[aU,bB,e1,e2,q4,d1,d3,d2]]
   refine a9 (u7 @aD @aC @aA @aF @aS @bH @pY @gP @aW @aT @aX @cH @e1 @e2 @q4 @d1' @d3' @d2') ?_
   show a7 _ _ _ _ _
   exact ⟨.inr rfl,_,_,rfl,rfl⟩
  have d2':=eq_true d2
  rw[show aU y=true by simp[aU,bB,e1,e2,q4,d1,d3,d2]]
  refine a9 (u7 @aD @aC @aA @aF @aS @bH @pY @gP @aW @aT @aX @cH @e1 @e2 @q4 @d1' @d3' @d2') ?_
  show a7 _ _ _ _ _
  exact ⟨.inr rfl,_,_,rfl,rfl⟩
 by_cases q5:y.k=5
 ·skip
  by_cases d1:y.t=0
  case neg=>
   have d1':=eq_false d1
   rw[show aU y=false by simp[aU,bB,e1,e2,q5,d1]]
   refine a9 (mX @aD @aC @aA @aF @aS @bH @pY @gP @aW @aT @aX @cH @e1 @e2 @q5 @d1') ?_
   show a7 _ _ _ _ _
   exact ⟨.inr rfl,_,_,rfl,rfl⟩
  have d1':=eq_true d1
  by_cases d3:cN y.r=true
  case neg=>
   have d3':cN y.r=false:=by simpa using d3
   rw[show aU y=false by simp[aU,bB,e1,e2,q5,d1,d3']]
   refine a9 (sS @aD @aC @aA @aF @aS @bH @pY @gP @aW @aT @aX @cH @e1 @e2 @q5 @d1' @d3') ?_
   show a7 _ _ _ _ _
   exact ⟨.inr rfl,_,_,rfl,rfl⟩
  have d3':=d3
  by_cases d2:y.brs=[]
  case neg=>
   have d2':=eq_false d2
   rw[show aU y=false by simp[aU,bB,e1,e2,q5,d1,d3,d2]]
   refine a9 (u7 @aD @aC @aA @aF @aS @bH @pY @gP @aW @aT @aX @cH @e1 @e2 @q5 @d1' @d3' @d2') ?_
   show a7 _ _ _ _ _
   exact ⟨.inr rfl,_,_,rfl,rfl⟩
  have d2':=eq_true d2
  rw[show aU y=true by simp[aU,bB,e1,e2,q5,d1,d3,d2]]
  refine a9 (u7 @aD @aC @aA @aF @aS @bH @pY @gP @aW @aT @aX @cH @e1 @e2 @q5 @d1' @d3' @d2') ?_
  show a7 _ _ _ _ _
  exact ⟨.inr rfl,_,_,rfl,rfl⟩
 rw[show aU y=false by simp[aU,bB,e1,e2,q1,q2,q3,q4,q5]]
 refine a9 (j19 @aD @aC @aA @aF @aS @bH @pY @gP @aW @aT @aX @cH @e1 @e2 @q1 @q2 @q3 @q4 @q5) ?_
 show a7 _ _ _ _ _
 exact ⟨.inr rfl,_,_,rfl,rfl⟩
theorem aKD (y:Y):d7 Tryz.prog Ob.cfg 114 [aG y.cells]=some (dB (aU y)):=by
 by_cases e1:y.outs=[]
 ·by_cases e2:y.args=[]
  ·exact aML y e1 e2
  ·exact aLp y e1 e2
 ·exact aMM y e1
set_option maxHeartbeats 1000000 in
theorem aJS (w:Pl) (hw:WOK w) (x:X) (hx:x.sz≤MX) (cE:x.ok):d7 Tryz.prog Ob.cfg 115 [aG w.cells,aG x.cells]=some (.tuple [dI (eB w x).1,dI (eB w x).2]):=by
 have hf:=aOr _ x (Nat.lt_succ_self _) hx
 refine bF Tryz.func115 rfl (by kernel_rfl) rfl rfl ?_
 unfold eB
 cases hz:bQ x with
 | true=>
  have hk:=aOm w hw _ x (Nat.lt_succ_self _) hz cE
  rw[hz] at hf
  simp only[aG,Pl.cells,aE,List.map_cons,List.map_nil,dB,dI] at hf hk
  refine a9 (j5 @aD @aK @aE @hf @hk) ?_
  exact ⟨.inr rfl,_,_,rfl,rfl⟩
 | false=>
  rw[hz] at hf
  simp only[aG,Pl.cells,aE,List.map_cons,List.map_nil,dB,dI] at hf
  refine a9 (j4 @aD @aK @aE @hf) ?_
  exact ⟨.inr rfl,_,_,rfl,rfl⟩
set_option maxHeartbeats 1000000 in
theorem aEy (w:Pl) (hw:WOK w) (nm:Tx) (t:Int):d7 Tryz.prog Ob.cfg 116 [aG w.cells,dS nm,dI t]=some (dI (jB w nm t)):=by
 have h1:=aIg w nm hw.out hw.loc
 have h2:=aIN nm false _ w.bf w.cx (Nat.lt_succ_self _) hw.bf
 simp only[aG,Pl.cells,List.map_cons,List.map_nil,dL,dS,dI,dB] at h1 h2
 refine bF Tryz.func116 rfl (by kernel_rfl) rfl rfl ?_
 unfold jB
 by_cases c1:j1 w.c nm=0
 ·rw[if_pos c1]
  rw[c1] at h1
  refine a9 (j5 @aD @aK @aM @aB @h1) ?_
  show a7 _ _ _ _ _
  exact ⟨.inr rfl,_,_,rfl,rfl⟩
 rw[if_neg c1]
 have c1':=eq_false c1
 cases c2:u6 nm false w.cx w.bf with
 | true=>
  rw[c2] at h2
  refine a9 (j8 @aD @aK @aM @aB @h1 @h2 @c1' @aS) ?_
  show a7 _ _ _ _ _
  exact ⟨.inr rfl,_,_,rfl,rfl⟩
 | false=>
  rw[c2] at h2
  by_cases c3:j1 w.c nm=t
  ·rw[show (if (false:Bool)=true then (7:Int) else if j1 w.c nm≠t then 10 else 0)=0 by simp[c3]]
   have c3':=eq_true c3
   refine a9 (nW @aD @aK @aM @aB @h1 @h2 @c1' @aS @aV @c3') ?_
   show a7 _ _ _ _ _
   exact ⟨.inr rfl,_,_,rfl,rfl⟩
  ·rw[show (if (false:Bool)=true then (7:Int) else if j1 w.c nm≠t then 10 else 0)=10 by simp[c3]]
   have c3':=eq_false c3
   refine a9 (nW @aD @aK @aM @aB @h1 @h2 @c1' @aS @aV @c3') ?_
   show a7 _ _ _ _ _
   exact ⟨.inr rfl,_,_,rfl,rfl⟩
end Go.Ac
end
section
set_option maxRecDepth 4000
namespace Go.Ac
open Go.Proofs
theorem g8 {α:Type} {l:List α} {j:Nat} {x:α} (h:l[j]?=some x):l.drop j=x::l.drop (j+1):=by
 obtain ⟨hj,rfl⟩:=List.getElem?_eq_some_iff.1 h
 exact List.drop_eq_getElem_cons hj
theorem aAR (l:List Tx) (j:Nat):(eT l).take j=eT (l.take j):=by unfold eT;rw[List.map_take]
theorem nU (look:cA) (e b:Nat) (z:Option (List V)) {sz:Nat} {rows:List (List D)} (hr:∀ r∈rows,r.length=sz) {j:Nat} (h:j≤rows.length):
  wB look ⟨.slice e sz b,1,24,z⟩ (.d (.slice rows)) none (some (.d (.int .i64 j))) none=ret (.d (.slice (rows.take j))):=by
 have ha:rows.all (fun r=>Nat.beq r.length sz)=true:=by rw[List.all_eq_true];intro r hm;rw[hr r hm];exact wX sz
 have e1:zI none 0=some 0:=rfl
 have e2:zI (some (V.d (.int .i64 (j:Int)))) rows.length=some j:=by
  unfold zI;simp
 unfold wB
 simp only[e1,e2,ha]
 rw[if_pos ⟨by omega,h,trivial⟩,List.drop_zero]
theorem cP (l:List Tx):∀ r∈eT l,r.length=1:=by unfold eT;intro r hr;obtain ⟨x,_,rfl⟩:=List.mem_map.1 hr;rfl
def sZ (w:Pl) (x:X) (d:Dc):Int:=if (eB w x).2≠0 then (eB w x).2 else if (eB w x).1≠d.t then 10 else 0
def lW (w:Pl):List X→List Dc→Int
 | x::r,d::s=>if sZ w x d≠0 then sZ w x d else lW w r s
 | _,_=>0
def aBl (w:Pl) (pre:List Tx) (x:Tx) (d:Dc):Int:=if j1 w.c x=0 then 6 else if x∈pre then 7 else jB w x d.t
def rX (w:Pl):List Tx→List Tx→List Dc→Int
 | pre,x::r,d::s=>if aBl w pre x d≠0 then aBl w pre x d else rX w (pre++[x]) r s
 | _,_,_=>0
def aCT (w:Pl) (y:Y):Int:=
 if (e9 w.c.ins w.o.cl y.nm).2=false then 6
 else if y.args.length≠(e9 w.c.ins w.o.cl y.nm).1.inn.length∨y.outs.length≠(e9 w.c.ins w.o.cl y.nm).1.out.length then 9
 else if lW w y.args (e9 w.c.ins w.o.cl y.nm).1.inn≠0 then lW w y.args (e9 w.c.ins w.o.cl y.nm).1.inn
 else rX w [] y.outs (e9 w.c.ins w.o.cl y.nm).1.out
theorem aEi (w:Pl) (l:List Dc):lW w [] l=0:=by cases l <;> rw[lW] <;> simp
theorem aEB (w:Pl) (p:List Tx) (l:List Dc):rX w p [] l=0:=by cases l <;> rw[rX] <;> simp
theorem aRW (r:Nat):Ob.keep 119 r=Ob.k119 r:=by kernel_rfl
attribute [local simp] aRW Ob.k119
set_option maxHeartbeats 4000000 in
theorem aOh (w:Pl) (hw:WOK w) (y:Y) (rI:y.sz≤MX) (cE:okX y.args):d7 Tryz.prog Ob.cfg 119 [aG w.cells,aG y.cells]=some (dI (aCT w y)):=by
 have hc:=aEw w y.nm hw.ins hw.cl
 unfold MX at rI
 rw[Y.sz_eq] at rI
 have k1:=gK y.args
 have k2:=oB y.outs
 have hs5:=fun nm=>aIg w nm hw.out hw.loc
 have ht6:=fun nm t=>aEy w hw nm t
 unfold aCT
 generalize hG:e9 w.c.ins w.o.cl y.nm=G at hc ⊢
 obtain ⟨g,ok⟩:=G
 simp only[aG,Pl.cells,List.map_cons,List.map_nil,dL,dS,dI,dB] at hc hs5 ht6
 refine bF Tryz.func119 rfl (by kernel_rfl) rfl rfl ?_
 cases ok with
 | false=>
  refine a9 (j8 @aD @aK @aC @aA @aM @aB @hc @aJ) ?_
  show a7 _ _ _ _ _
  exact ⟨.inr rfl,_,_,rfl,rfl⟩
 | true=>
 rw[if_neg (by simp)]
 simp only[Cl.cells,List.map_cons,List.map_nil] at hc
 by_cases c1:y.args.length=g.inn.length
 case neg=>
  have c1':((y.args.length:Int)=g.inn.length)=False:=eq_false (by omega)
  have c1'':=eq_false c1
  rw[if_pos (.inl c1)]
  refine a9 (tS @aD @aK @aC @aA @aM @aB @hc @aV @aT @bP @c1' @c1'') ?_
  show a7 _ _ _ _ _
  exact ⟨.inr rfl,_,_,rfl,rfl⟩
 have c1':((y.args.length:Int)=g.inn.length)=True:=eq_true (by omega)
 by_cases c2:y.outs.length=g.out.length
 case neg=>
  have c2':((y.outs.length:Int)=g.out.length)=False:=eq_false (by omega)
  have c2'':=eq_false c2
  rw[if_pos (.inr c2)]
  refine a9 (uN @aD @aK @aC @aA @aM @aB @hc @aV @aT @aW @bP @c1 @c2' @c2'') ?_
  show a7 _ _ _ _ _
  exact ⟨.inr rfl,_,_,rfl,rfl⟩
 rw[if_neg (fun h=>h.elim (fun h=>h c1) (fun h=>h c2))]
 refine a9 (oY @aD @aK @aC @aA @aM @aB @hc @aV @aT @aW @bP @c1 @c2) ?_
 apply WP.loop' (I:=fun D s=>∃ j:Nat,j+D=y.args.length∧lW w (y.args.drop j) (g.inn.drop j)=lW w y.args g.inn∧SE [(2,.ptr 0 0 0),(3,.ptr 1 1 0),(5,.ptr 2 2 0),(7,dI j)] [(0,⟨0,false,w.cells.map .d⟩),(1,⟨1,false,y.cells.map .d⟩),(2,⟨2,false,g.cells.map .d⟩)] 3 s) (d:=y.args.length)
 ·exact ⟨0,by simp,by simp,SE.mk (by simp[dI]) (by simp[Pl.cells,aC,Cl.cells])⟩
 rintro D _ ⟨j,hj,hv,cc,rfl⟩
 refine wk (j6 @aB @aA @aK @aC @aJ @aT) ?_
 show WP _ _ _ _ _ _
 refine WP.cond _ rfl (fun hb=>?_) (fun hb=>?_)
 ·simp at hb
  have bR:j<y.args.length:=by omega
  have kL:j<g.inn.length:=by omega
  obtain ⟨x,hx,hxm,bS⟩:=bL bR
  obtain ⟨d,hd,d9,cY⟩:=bL kL
  have hx':=iQ hx
  have cF:=d6 hd
  have dH:=bG bR (by omega)
  have aRf:=(uF _).1 cE x hxm
  have hr:=aJS w hw x (by have:=dX hxm;unfold MX;omega) aRf
  simp only[aG,Pl.cells,aE,List.map_cons,List.map_nil,dI] at hr
  rw[g8 hx,g8 hd,lW] at hv
  by_cases hz:(eB w x).2=0
  case neg=>
   have lV:=eq_false hz
   have ha:sZ w x d=(eB w x).2:=by unfold sZ;rw[if_pos hz]
   rw[ha,if_pos hz] at hv
   rw[←hv,if_pos hz]
   refine a9 (tS @aB @aA @aK @aC @aJ @aT @bS @hx' @aE @hr @aV @lV) ?_
   show a7 _ _ _ _ _
   exact ⟨.inr rfl,_,_,rfl,rfl⟩
  rw[hz] at hr
  by_cases ht:(eB w x).1=d.t
  case neg=>
   have ht':=eq_false ht
   have ha:sZ w x d=10:=by unfold sZ;rw[if_neg (by simp[hz]),if_pos ht]
   rw[ha,if_pos (by decide)] at hv
   rw[←hv,if_pos (by decide)]
   refine a9 (mX @aB @aA @aK @aC @aJ @aT @bP @bS @cY @hx' @cF @aE @aP @hr @aV @ht') ?_
   show a7 _ _ _ _ _
   exact ⟨.inr rfl,_,_,rfl,rfl⟩
  have ha:sZ w x d=0:=by unfold sZ;rw[if_neg (by simp[hz]),if_neg (by simp[ht])]
  rw[ha,if_neg (by decide)] at hv
  have ht':=eq_true ht
  refine a9 (mX @aB @aA @aK @aC @aJ @aT @bP @bS @cY @hx' @cF @aE @aP @hr @aV @ht') ?_
  refine aY (by simp[dH];exact Is.rfl) ?_
  exact ⟨D - 1,by omega,j+1,by omega,hv,SE.mk (by simp[dI,dH]) (by simp[Pl.cells,aC,Cl.cells])⟩
 ·simp at hb
  have eM:j=y.args.length:=by omega
  rw[eM,List.drop_length,aEi] at hv
  rw[←hv,if_neg (by decide)]
  refine a9 (j5 @aB @aA @aK @aC @aJ) ?_
  apply WP.loop' (I:=fun D s=>∃ j:Nat,j+D=y.outs.length∧rX w (y.outs.take j) (y.outs.drop j) (g.out.drop j)=rX w [] y.outs g.out∧SE [(2,.ptr 0 0 0),(3,.ptr 1 1 0),(5,.ptr 2 2 0),(10,dI j)] [(0,⟨0,false,w.cells.map .d⟩),(1,⟨1,false,y.cells.map .d⟩),(2,⟨2,false,g.cells.map .d⟩)] 3 s) (d:=y.outs.length)
  ·exact ⟨0,by simp,by simp,SE.mk (by simp[dI]) (by simp[Pl.cells,aC,Cl.cells])⟩
  clear hv hj eM hb
  rintro D2 _ ⟨j,hj,hv,cc2,rfl⟩
  refine wk (j6 @aB @aA @aK @aC @aJ @aW) ?_
  show WP _ _ _ _ _ _
  refine WP.cond _ rfl (fun hb=>?_) (fun hb=>?_)
  ·simp at hb
   have bR:j<y.outs.length:=by omega
   have kL:j<g.out.length:=by omega
   obtain ⟨x,hx,hxm,bS⟩:=bL bR
   obtain ⟨d,hd,d9,cY⟩:=bL kL
   have hx':=sJ hx
   have cF:=d6 hd
   have dH:=bG bR (by omega)
   have h5:=hs5 x
   have h6:=ht6 x d.t
   have h75:=aJi (y.outs.take j) x (by unfold MX;rw[List.length_take];omega)
   simp only[dL,dS,dB] at h75
   rw[g8 hx,g8 hd,rX] at hv
   have vD:=bM hx
   have hsl:=fun look e b z=>nU look e b z (cP y.outs) (j:=j) (by rw[aW];omega)
   have etk:=aAR y.outs j
   by_cases c5:j1 w.c x=0
   ·have ha:aBl w (y.outs.take j) x d=6:=by unfold aBl;rw[if_pos c5]
    rw[ha,if_pos (by decide)] at hv
    rw[←hv]
    rw[c5] at h5
    refine a9 (j9 @aB @aA @aK @aC @aJ @aW @bS @hx' @h5) ?_
    show a7 _ _ _ _ _
    exact ⟨.inr rfl,_,_,rfl,rfl⟩
   have c5':=eq_false c5
   by_cases c7:x∈y.outs.take j
   ·have ha:aBl w (y.outs.take j) x d=7:=by unfold aBl;rw[if_neg c5,if_pos c7]
    rw[ha,if_pos (by decide)] at hv
    rw[←hv]
    rw[jT c7] at h75
    refine a9 (uN @aB @aA @aK @aC @aJ @aW @bS @hx' @h5 @c5' @aS @hsl @etk @h75) ?_
    show a7 _ _ _ _ _
    exact ⟨.inr rfl,_,_,rfl,rfl⟩
   rw[gY c7] at h75
   have ha:aBl w (y.outs.take j) x d=jB w x d.t:=by unfold aBl;rw[if_neg c5,if_neg c7]
   rw[ha,←vD] at hv
   by_cases c6:jB w x d.t=0
   case neg=>
    have c6':=eq_false c6
    rw[if_pos c6] at hv
    rw[←hv]
    refine a9 (j21 @aB @aA @aK @aC @aJ @aP @aW @bP @bS @hx' @cY @cF @h5 @h6 @c5' @c6' @aS @aV @hsl @etk @h75) ?_
    show a7 _ _ _ _ _
    exact ⟨.inr rfl,_,_,rfl,rfl⟩
   rw[if_neg (by simp[c6])] at hv
   rw[c6] at h6
   refine a9 (j20 @aB @aA @aK @aC @aJ @aP @aW @bP @bS @hx' @cY @cF @h5 @h6 @c5' @aS @aV @hsl @etk @h75) ?_
   refine aY (by simp[dH];exact Is.rfl) ?_
   exact ⟨D2 - 1,by omega,j+1,by omega,hv,SE.mk (by simp[dI,dH]) (by simp[Pl.cells,aC,Cl.cells])⟩
  ·simp at hb
   have eM:j=y.outs.length:=by omega
   rw[eM,List.drop_length,aEB] at hv
   rw[←hv]
   refine a9 (j5 @aB @aA @aK @aC @aJ) ?_
   show a7 _ _ _ _ _
   exact ⟨.inr rfl,_,_,rfl,rfl⟩
end Go.Ac
end
