/- Calls, the reference's. -/
import Derived.Test.YtkgekafdhehleaaGreatObOM
set_option linter.unusedVariables false
set_option linter.unusedSimpArgs false
section
set_option maxRecDepth 4000
namespace Go.Ac
open Go.Proofs
def mG (w:Pl) (nm:Tx):Bool:=decide (fI w.c.inn nm≠0)||vQ nm true w.cx w.bf
def gY (w:Pl) (k o t v:Int) (nm:Tx) (l:List Int):Int×Int:=
 if k=1 then (if gB w.o.en t v then (t,0) else (0,10))
 else if k=2 then (if dF w.c nm=0 then (0,6) else if mG w nm then (dF w.c nm,0) else (0,22))
 else if k=12 then (if eO w.c.mems nm=0 then (0,6) else (eO w.c.mems nm,0))
 else if k=3 then jM o l
 else if l.getD 0 0≠1∨l.getD 1 0≠l.getD 2 0 then (0,10) else (l.getD 1 0,0)
mutual
def eZ (w:Pl):X→Int×Int
 | .mk k o t v nm args=>if (gA w args).2≠0 then (0,(gA w args).2) else gY w k o t v nm (gA w args).1
def gA (w:Pl):List X→List Int×Int
 | []=>([],0)
 | x::r=>if (eZ w x).2≠0 then ([],(eZ w x).2) else if (gA w r).2≠0 then ([],(gA w r).2) else ((eZ w x).1::(gA w r).1,0)
end
theorem uA (w:Pl) (x:X):eZ w x=if (gA w x.args).2≠0 then (0,(gA w x.args).2) else gY w x.k x.o x.t x.v x.nm (gA w x.args).1:=by cases x;rw[eZ];rfl
def okK (w:Pl) (x:X):Bool:=decide ((eZ w x).2=0)
theorem zF (w:Pl):∀ {l:List X} {j:Nat} {d:X},(l.take j).all (okK w)=true→l[j]?=some d→(eZ w d).2≠0→gA w l=([],(eZ w d).2)
 | [],j,d,_,h,_=>by simp at h
 | x::r,0,d,_,h,hb=>by simp at h;subst h;rw[gA,if_pos hb]
 | x::r,j+1,d,hn,h,hb=>by
  simp only[List.take_succ_cons,List.all_cons,Bool.and_eq_true] at hn
  have h1:(eZ w x).2=0:=by simpa [okK] using hn.1
  have h2:=zF w hn.2 (by simpa using h) hb
  rw[gA,if_neg (by simp[h1]),h2,if_pos hb]
theorem aBv (w:Pl):∀ {l:List X},l.all (okK w)=true→gA w l=(l.map (fun x=>(eZ w x).1),0)
 | [],_=>by rw[gA];rfl
 | x::r,hn=>by
  simp only[List.all_cons,Bool.and_eq_true] at hn
  have h1:(eZ w x).2=0:=by simpa [okK] using hn.1
  rw[gA,if_neg (by simp[h1]),aBv w hn.2,if_neg (by simp)];rfl
structure WOK (w:Pl):Prop where
 inn:w.c.inn.length≤MX
 out:w.c.out.length≤MX
 loc:w.c.loc.length≤MX
 mems:w.c.mems.length≤MX
 ins:w.c.ins.length≤MX
 cl:w.o.cl.length≤MX
 bf:w.cx.length+iG w.bf≤8388608
theorem X.ok_eq {x:X} (h:x.ok):vB x.t∧okX x.args:=by cases x;rw[X.ok] at h;exact ⟨h.2.2.1,h.2.2.2.2⟩
theorem aAC {x:X} (h:bS x=true):x.k=1∨x.k=2∨x.k=12∨x.k=3∨x.k=4:=by
 rw[bX] at h
 unfold cH at h
 by_cases q1:x.k=1;· exact .inl q1
 by_cases q2:x.k=2;· exact .inr (.inl q2)
 by_cases q3:x.k=12;· exact .inr (.inr (.inl q3))
 by_cases q4:x.k=3;· exact .inr (.inr (.inr (.inl q4)))
 by_cases q5:x.k=4;· exact .inr (.inr (.inr (.inr q5)))
 simp[q1,q2,q3,q4,q5] at h
theorem aAz {x:X} (h:bS x=true):x.args.all bS=true∧(x.k=4→x.args.length=3)∧x.args.length≤3:=by
 rw[bX] at h
 split at h
 ·cases h
 rename_i n hn
 rw[Bool.and_eq_true,bR] at h
 have hl:=of_decide_eq_true h.1
 have hr:=oG x.o
 refine ⟨h.2,fun hk=>?_,?_⟩
 ·unfold cH at hn
  rw[hk] at hn
  simp at hn
  obtain ⟨_,hn⟩:=hn
  omega
 ·unfold cH at hn
  split at hn
  ·split at hn <;> simp at hn;omega
  split at hn
  ·split at hn <;> simp at hn;omega
  split at hn
  ·split at hn <;> simp at hn;omega
  split at hn
  ·split at hn <;> simp at hn;omega
  ·cases hn
theorem b7 (l:List Int):∀ r∈bQ l,r.length=1:=by unfold bQ;intro r hr;obtain ⟨x,_,rfl⟩:=List.mem_map.1 hr;rfl
theorem g7 (l:List Int) (v:Int):bQ l++[[.int .i64 v]]=bQ (l++[v]):=by unfold bQ;simp
theorem aSu (r:Nat):Ob.keep 147 r=Ob.k147 r:=by kernel_rfl
theorem aVe (r:Nat):Ob.keep 144 r=Ob.k144 r:=by kernel_rfl
attribute [local simp] aSu Ob.k147 aVe Ob.k144
set_option maxHeartbeats 1000000 in
theorem aHK (w:Pl) (x:Tx) (hw:WOK w):eJ Tryz.prog Ob.cfg 147 [aG w.cells,dS x]=some (dB (mG w x)):=by
 have a1:=aCA w.c.inn x hw.inn
 have a2:=aIo x true _ w.bf w.cx (Nat.lt_succ_self _) hw.bf
 simp only[dL,dS,dI,dB] at a1 a2
 refine bI Tryz.func147 rfl (by kernel_rfl) rfl rfl ?_
 unfold mG
 by_cases h:fI w.c.inn x=0
 ·rw[h] at a1 ⊢
  refine bA (j6 @aD @aL @aA @aM @a1 @a2) ?_
  show a8 _ _ _ _ _
  exact ⟨.inr rfl,_,_,rfl,rfl⟩
 ·rw[kG h]
  refine bA (j8 @aD @aL @aA @aM @a1 @a2 @aV @h) ?_
  show a8 _ _ _ _ _
  exact ⟨.inr rfl,_,_,rfl,rfl⟩
set_option maxHeartbeats 4000000 in
theorem aPh (w:Pl) (hw:WOK w):∀ (N:Nat) (x:X),x.sz<N→bS x=true→x.ok→eJ Tryz.prog Ob.cfg 144 [aG w.cells,aG x.cells]=some (.tuple [dI (eZ w x).1,dI (eZ w x).2]):=by
 intro N
 induction N with
 | zero=>intro x h;omega
 | succ N ih=>
 intro x hN hf cC
 obtain ⟨hf1,hf2,hf3⟩:=aAz hf
 obtain ⟨jI,n8⟩:=X.ok_eq cC
 have hs0:=X.sz_eq x
 refine bI Tryz.func144 rfl (by kernel_rfl) rfl rfl ?_
 rw[uA]
 refine bA (j4 @aD @aL @aE @aA) ?_
 apply WP.loop' (I:=fun D s=>∃ j g:Nat,j+D=x.args.length∧(x.args.take j).all (okK w)=true∧∃ (c':Nat) (L:List Int),L=(x.args.take j).map (fun y=>(eZ w y).1)∧s=⟨[(2,.ptr 0 0 0),(3,.ptr 1 1 0),(6,.osl 2 g 0 j 1 none),(7,dI j)],[(0,⟨0,false,w.cells.map .d⟩),(1,⟨1,false,x.cells.map .d⟩),(2,⟨g,false,fl (bQ L)⟩)],3,c',0,[]⟩) (d:=x.args.length)
 ·exact ⟨0,2,by simp,by simp,3,[],by simp,by simp[Pl.cells,aE];exact ⟨rfl,rfl⟩⟩
 rintro D _ ⟨j,g,hj,cF,c',L,hL,rfl⟩
 refine wk (j5 @aB @aA @aL @aE @aT) ?_
 show WP _ _ _ _ _ _
 refine WP.cond _ rfl (fun hb=>?_) (fun hb=>?_)
 ·simp at hb
  have bP:j<x.args.length:=by omega
  obtain ⟨d,hd,d8,bV⟩:=bM bP
  have cG:=i8 hd
  have c9:=bE bP (by omega)
  have hs:=bZ (p:=okK w) hd
  have hr:=ih d (by have:=dZ d8;omega) (List.all_eq_true.1 hf1 d d8) ((u9 _).1 n8 d d8)
  simp only[aG,Pl.cells,aE,List.map_cons,List.map_nil,dI] at hr
  by_cases hz:(eZ w d).2=0
  ·rw[hz] at hr
   have y6:=bL hd
   have nT:L.length=j:=by rw[hL];simp;omega
   have hLs:(x.args.take (j+1)).map (fun y=>(eZ w y).1)=L++[(eZ w d).1]:=by rw[y6,hL];simp
   have r2:=cR (b7 L)
   have r3:=cI (b7 L)
   have r4:=dT (bQ L) [.int .i64 (eZ w d).1]
   have r5:=g7 L (eZ w d).1
   have f5:bU (j+1) 8=true:=by simp[bU];omega
   rw[r5] at r4
   rw[aZ,nT,Nat.mul_one] at r2 r3
   simp only[List.map_cons,List.map_nil] at r4
   refine bA (nB @aB @aA @aL @aE @aT @bV @cG @hr @aH @aI @bG @bH @f5 @r2 @r3 @r4) ?_
   refine aY (by simp[c9];exact Is.rfl) ?_
   exact ⟨D - 1,by omega,j+1,_,by omega,by rw[hs,cF];simp[okK,hz],_,_,hLs.symm,by simp[Pl.cells,aE,c9];exact ⟨⟨rfl,rfl⟩,rfl,rfl⟩⟩
  ·have mK:=eq_false hz
   rw[zF w cF hd hz,if_pos hz]
   refine bA (oR @aB @aA @aL @aE @aT @bV @cG @hr @mK @aV) ?_
   exact ⟨.inr rfl,_,_,rfl,rfl⟩
 ·simp at hb
  have eE:j=x.args.length:=by omega
  rw[eE,List.take_length] at cF
  have hks:=aBv w cF
  rw[hks,if_neg (by simp)]
  have hx:(x.args.take x.args.length).map (fun y=>(eZ w y).1)=x.args.map (fun y=>(eZ w y).1):=by rw[List.take_length]
  rw[eE,hx] at hL
  rw[←hL]
  have nT:L.length=x.args.length:=by rw[hL];simp
  subst eE
  clear hL hx
  rcases aAC hf with q|q|q|q|q
  ·have hh:=aKi w.o.en x.t x.v jI
   simp only[dL,dI,dB] at hh
   cases hz:gB w.o.en x.t x.v with
   | true=>
    rw[hz] at hh
    simp only[gY,q,hz]
    refine bA (j6 @aB @aA @aL @aE @q @hh) ?_
    exact ⟨.inr rfl,_,_,rfl,rfl⟩
   | false=>
    rw[hz] at hh
    simp only[gY,q,hz]
    refine bA (j6 @aB @aA @aL @aE @q @hh) ?_
    exact ⟨.inr rfl,_,_,rfl,rfl⟩
  ·have hg:=aMe w x.nm hw.out hw.loc hw.inn
   have hr:=aHK w x.nm hw
   simp only[aG,Pl.cells,List.map_cons,List.map_nil,dS,dI,dB] at hg hr
   by_cases hz:dF w.c x.nm=0
   ·rw[hz] at hg
    simp only[gY,q,hz]
    refine bA (j6 @aB @aA @aL @aE @q @hg) ?_
    exact ⟨.inr rfl,_,_,rfl,rfl⟩
   have mK:=eq_false hz
   cases hy:mG w x.nm with
   | true=>
    rw[hy] at hr
    simp only[gY,q,mK,hy]
    refine bA (j9 @aB @aA @aL @aE @q @hg @hr @mK @aS) ?_
    exact ⟨.inr rfl,_,_,rfl,rfl⟩
   | false=>
    rw[hy] at hr
    simp only[gY,q,mK,hy]
    refine bA (j9 @aB @aA @aL @aE @q @hg @hr @mK @aS) ?_
    exact ⟨.inr rfl,_,_,rfl,rfl⟩
  ·have hg:=aMR w x.nm hw.mems
   simp only[aG,Pl.cells,List.map_cons,List.map_nil,dS,dI,dB] at hg
   by_cases hz:eO w.c.mems x.nm=0
   ·rw[hz] at hg
    simp only[gY,q,hz]
    refine bA (j6 @aB @aA @aL @aE @q @hg) ?_
    exact ⟨.inr rfl,_,_,rfl,rfl⟩
   have mK:=eq_false hz
   simp only[gY,q,mK]
   refine bA (j8 @aB @aA @aL @aE @q @hg @mK @aS) ?_
   exact ⟨.inr rfl,_,_,rfl,rfl⟩
  ·have hg:=aRv x.o L
   have r2:=cR (b7 L)
   have r3:=cI (b7 L)
   have r4:=eN (b7 L)
   rw[aZ,Nat.mul_one] at r2 r3
   rw[aZ] at r4
   rw[nT] at r2 r3 r4
   simp only[dL,dI] at hg
   simp only[gY,q]
   refine bA (vG @aB @aA @aL @aE @q @hg @aP @aQ @bG @b8 @cJ @r2 @r3 @r4 @bH) ?_
   exact ⟨.inr rfl,_,_,rfl,rfl⟩
  ·rw[hf2 q] at nT ⊢
   obtain ⟨a,b,c,rfl⟩:∃ a b c,L=[a,b,c]:=by
    match L,nT with
    | [a,b,c],_=>exact ⟨a,b,c,rfl⟩
   have e:fl (bQ [a,b,c])=[.d (.int .i64 a),.d (.int .i64 b),.d (.int .i64 c)]:=rfl
   rw[e]
   by_cases c1:a=1
   case neg=>
    have c1':=eq_false c1
    simp only[gY,q]
    rw[show (if ([a,b,c].getD 0 0≠1∨[a,b,c].getD 1 0≠[a,b,c].getD 2 0) then ((0:Int),(10:Int)) else ([a,b,c].getD 1 0,0))=(0,10) by simp[c1]]
    refine bA (j8 @aB @aA @aL @aE @q @c1' @aV @jR.eq_def) ?_
    exact ⟨.inr rfl,_,_,rfl,rfl⟩
   by_cases c2:b=c
   case neg=>
    have c2':=eq_false c2
    simp only[gY,q]
    rw[show (if ([a,b,c].getD 0 0≠1∨[a,b,c].getD 1 0≠[a,b,c].getD 2 0) then ((0:Int),(10:Int)) else ([a,b,c].getD 1 0,0))=(0,10) by simp[c2]]
    refine bA (j9 @aB @aA @aL @aE @q @c1 @c2' @aV @jR.eq_def) ?_
    exact ⟨.inr rfl,_,_,rfl,rfl⟩
   simp only[gY,q]
   rw[show (if ([a,b,c].getD 0 0≠1∨[a,b,c].getD 1 0≠[a,b,c].getD 2 0) then ((0:Int),(10:Int)) else ([a,b,c].getD 1 0,0))=(b,0) by simp[c1,c2]]
   subst c1 c2
   refine bA (j7 @aB @aA @aL @aE @q @aV @jR.eq_def) ?_
   exact ⟨.inr rfl,_,_,rfl,rfl⟩
end Go.Ac
end
section
set_option maxRecDepth 4000
namespace Go.Ac
open Go.Proofs
def bC (y:Y):Bool:=decide (y.outs≠[])||decide (y.args≠[])
def aU (y:Y):Bool:=
 if y.k=1∨y.k=2 then decide (y.t=0)&& !bC y&&decide (y.brs=[])
 else if y.k=3 then cO y.r&& !bC y
 else if y.k=4 then decide (y.t=0)&&cO y.r&&decide (y.brs=[])
 else if y.k=5 then decide (y.t=0)&&cO y.r&& !bC y&&decide (y.brs=[]) else false
def eF (w:Pl) (x:X):Int×Int:=if bS x then eZ w x else (0,5)
def jJ (w:Pl) (nm:Tx) (t:Int):Int:=if kN w.c nm=0 then 6 else if vQ nm false w.cx w.bf then 7 else if kN w.c nm≠t then 10 else 0
theorem qL {α:Type} (l:List α):((0:Int)<(l.length:Int))=(l≠[]):=by cases l <;> simp <;> omega
theorem g8 {α:Type} (l:List α):(0<l.length)=(l≠[]):=by cases l <;> simp
theorem aSP (r:Nat):Ob.keep 114 r=Ob.k114 r:=by kernel_rfl
theorem aUe (r:Nat):Ob.keep 115 r=Ob.k115 r:=by kernel_rfl
theorem aSh (r:Nat):Ob.keep 116 r=Ob.k116 r:=by kernel_rfl
attribute [local simp] aSP Ob.k114 aUe Ob.k115 aSh Ob.k116
set_option maxHeartbeats 4000000 in
theorem aMN (y:Y) (e1:y.outs≠[]):eJ Tryz.prog Ob.cfg 114 [aG y.cells]=some (dB (aU y)):=by
 have cK:=aFJ y.r
 simp only[aG,aE,List.map_cons,List.map_nil,dB] at cK
 refine bI Tryz.func114 rfl (by kernel_rfl) rfl rfl ?_
 by_cases q1:y.k=1
 ·skip
  by_cases d1:y.t=0
  case neg=>
   have d1':=eq_false d1
   rw[show aU y=false by simp[aU,bC,e1,q1,d1]]
   refine bA (vG @aD @aC @aA @aF @aS @bJ @qL @g8 @aW @aT @aX @cK @e1 @q1 @d1') ?_
   show a8 _ _ _ _ _
   exact ⟨.inr rfl,_,_,rfl,rfl⟩
  have d1':=eq_true d1
  rw[show aU y=false by simp[aU,bC,e1,q1,d1]]
  refine bA (vG @aD @aC @aA @aF @aS @bJ @qL @g8 @aW @aT @aX @cK @e1 @q1 @d1') ?_
  show a8 _ _ _ _ _
  exact ⟨.inr rfl,_,_,rfl,rfl⟩
 by_cases q2:y.k=2
 ·skip
  by_cases d1:y.t=0
  case neg=>
   have d1':=eq_false d1
   rw[show aU y=false by simp[aU,bC,e1,q2,d1]]
   refine bA (vG @aD @aC @aA @aF @aS @bJ @qL @g8 @aW @aT @aX @cK @e1 @q2 @d1') ?_
   show a8 _ _ _ _ _
   exact ⟨.inr rfl,_,_,rfl,rfl⟩
  have d1':=eq_true d1
  rw[show aU y=false by simp[aU,bC,e1,q2,d1]]
  refine bA (vG @aD @aC @aA @aF @aS @bJ @qL @g8 @aW @aT @aX @cK @e1 @q2 @d1') ?_
  show a8 _ _ _ _ _
  exact ⟨.inr rfl,_,_,rfl,rfl⟩
 by_cases q3:y.k=3
 ·skip
  by_cases d3:cO y.r=true
  case neg=>
   have d3':cO y.r=false:=by simpa using d3
   rw[show aU y=false by simp[aU,bC,e1,q3,d3']]
   refine bA (vG @aD @aC @aA @aF @aS @bJ @qL @g8 @aW @aT @aX @cK @e1 @q3 @d3') ?_
   show a8 _ _ _ _ _
   exact ⟨.inr rfl,_,_,rfl,rfl⟩
  have d3':=d3
  rw[show aU y=false by simp[aU,bC,e1,q3,d3]]
  refine bA (vG @aD @aC @aA @aF @aS @bJ @qL @g8 @aW @aT @aX @cK @e1 @q3 @d3') ?_
  show a8 _ _ _ _ _
  exact ⟨.inr rfl,_,_,rfl,rfl⟩
 by_cases q4:y.k=4
 ·skip
  by_cases d1:y.t=0
  case neg=>
   have d1':=eq_false d1
   rw[show aU y=false by simp[aU,bC,e1,q4,d1]]
   refine bA (vG @aD @aC @aA @aF @aS @bJ @qL @g8 @aW @aT @aX @cK @e1 @q4 @d1') ?_
   show a8 _ _ _ _ _
   exact ⟨.inr rfl,_,_,rfl,rfl⟩
  have d1':=eq_true d1
  by_cases d3:cO y.r=true
  case neg=>
   have d3':cO y.r=false:=by simpa using d3
   rw[show aU y=false by simp[aU,bC,e1,q4,d1,d3']]
   refine bA (nB @aD @aC @aA @aF @aS @bJ @qL @g8 @aW @aT @aX @cK @e1 @q4 @d1' @d3') ?_
   show a8 _ _ _ _ _
   exact ⟨.inr rfl,_,_,rfl,rfl⟩
  have d3':=d3
  by_cases d2:y.brs=[]
  case neg=>
   have d2':=eq_false d2
   rw[show aU y=false by simp[aU,bC,e1,q4,d1,d3,d2]]
   refine bA (sG @aD @aC @aA @aF @aS @bJ @qL @g8 @aW @aT @aX @cK @e1 @q4 @d1' @d3' @d2') ?_
   show a8 _ _ _ _ _
   exact ⟨.inr rfl,_,_,rfl,rfl⟩
  have d2':=eq_true d2
  rw[show aU y=true by simp[aU,bC,e1,q4,d1,d3,d2]]
  refine bA (sG @aD @aC @aA @aF @aS @bJ @qL @g8 @aW @aT @aX @cK @e1 @q4 @d1' @d3' @d2') ?_
  show a8 _ _ _ _ _
  exact ⟨.inr rfl,_,_,rfl,rfl⟩
 by_cases q5:y.k=5
 ·skip
  by_cases d1:y.t=0
  case neg=>
   have d1':=eq_false d1
   rw[show aU y=false by simp[aU,bC,e1,q5,d1]]
   refine bA (vG @aD @aC @aA @aF @aS @bJ @qL @g8 @aW @aT @aX @cK @e1 @q5 @d1') ?_
   show a8 _ _ _ _ _
   exact ⟨.inr rfl,_,_,rfl,rfl⟩
  have d1':=eq_true d1
  by_cases d3:cO y.r=true
  case neg=>
   have d3':cO y.r=false:=by simpa using d3
   rw[show aU y=false by simp[aU,bC,e1,q5,d1,d3']]
   refine bA (nB @aD @aC @aA @aF @aS @bJ @qL @g8 @aW @aT @aX @cK @e1 @q5 @d1' @d3') ?_
   show a8 _ _ _ _ _
   exact ⟨.inr rfl,_,_,rfl,rfl⟩
  have d3':=d3
  rw[show aU y=false by simp[aU,bC,e1,q5,d1,d3]]
  refine bA (nB @aD @aC @aA @aF @aS @bJ @qL @g8 @aW @aT @aX @cK @e1 @q5 @d1' @d3') ?_
  show a8 _ _ _ _ _
  exact ⟨.inr rfl,_,_,rfl,rfl⟩
 rw[show aU y=false by simp[aU,bC,e1,q1,q2,q3,q4,q5]]
 refine bA (vP @aD @aC @aA @aF @aS @bJ @qL @g8 @aW @aT @aX @cK @e1 @q1 @q2 @q3 @q4 @q5) ?_
 show a8 _ _ _ _ _
 exact ⟨.inr rfl,_,_,rfl,rfl⟩
set_option maxHeartbeats 4000000 in
theorem aNg (y:Y) (e1:y.outs=[]) (e2:y.args≠[]):eJ Tryz.prog Ob.cfg 114 [aG y.cells]=some (dB (aU y)):=by
 have cK:=aFJ y.r
 simp only[aG,aE,List.map_cons,List.map_nil,dB] at cK
 refine bI Tryz.func114 rfl (by kernel_rfl) rfl rfl ?_
 by_cases q1:y.k=1
 ·skip
  by_cases d1:y.t=0
  case neg=>
   have d1':=eq_false d1
   rw[show aU y=false by simp[aU,bC,e1,e2,q1,d1]]
   refine bA (nB @aD @aC @aA @aF @aS @bJ @qL @g8 @aW @aT @aX @cK @e1 @e2 @q1 @d1') ?_
   show a8 _ _ _ _ _
   exact ⟨.inr rfl,_,_,rfl,rfl⟩
  have d1':=eq_true d1
  rw[show aU y=false by simp[aU,bC,e1,e2,q1,d1]]
  refine bA (nB @aD @aC @aA @aF @aS @bJ @qL @g8 @aW @aT @aX @cK @e1 @e2 @q1 @d1') ?_
  show a8 _ _ _ _ _
  exact ⟨.inr rfl,_,_,rfl,rfl⟩
 by_cases q2:y.k=2
 ·skip
  by_cases d1:y.t=0
  case neg=>
   have d1':=eq_false d1
   rw[show aU y=false by simp[aU,bC,e1,e2,q2,d1]]
   refine bA (nB @aD @aC @aA @aF @aS @bJ @qL @g8 @aW @aT @aX @cK @e1 @e2 @q2 @d1') ?_
   show a8 _ _ _ _ _
   exact ⟨.inr rfl,_,_,rfl,rfl⟩
  have d1':=eq_true d1
  rw[show aU y=false by simp[aU,bC,e1,e2,q2,d1]]
  refine bA (nB @aD @aC @aA @aF @aS @bJ @qL @g8 @aW @aT @aX @cK @e1 @e2 @q2 @d1') ?_
  show a8 _ _ _ _ _
  exact ⟨.inr rfl,_,_,rfl,rfl⟩
 by_cases q3:y.k=3
 ·skip
  by_cases d3:cO y.r=true
  case neg=>
   have d3':cO y.r=false:=by simpa using d3
   rw[show aU y=false by simp[aU,bC,e1,e2,q3,d3']]
   refine bA (nB @aD @aC @aA @aF @aS @bJ @qL @g8 @aW @aT @aX @cK @e1 @e2 @q3 @d3') ?_
   show a8 _ _ _ _ _
   exact ⟨.inr rfl,_,_,rfl,rfl⟩
  have d3':=d3
  rw[show aU y=false by simp[aU,bC,e1,e2,q3,d3]]
  refine bA (nB @aD @aC @aA @aF @aS @bJ @qL @g8 @aW @aT @aX @cK @e1 @e2 @q3 @d3') ?_
  show a8 _ _ _ _ _
  exact ⟨.inr rfl,_,_,rfl,rfl⟩
 by_cases q4:y.k=4
 ·skip
  by_cases d1:y.t=0
  case neg=>
   have d1':=eq_false d1
   rw[show aU y=false by simp[aU,bC,e1,e2,q4,d1]]
   refine bA (nB @aD @aC @aA @aF @aS @bJ @qL @g8 @aW @aT @aX @cK @e1 @e2 @q4 @d1') ?_
   show a8 _ _ _ _ _
   exact ⟨.inr rfl,_,_,rfl,rfl⟩
  have d1':=eq_true d1
  by_cases d3:cO y.r=true
  case neg=>
   have d3':cO y.r=false:=by simpa using d3
   rw[show aU y=false by simp[aU,bC,e1,e2,q4,d1,d3']]
   refine bA (sG @aD @aC @aA @aF @aS @bJ @qL @g8 @aW @aT @aX @cK @e1 @e2 @q4 @d1' @d3') ?_
   show a8 _ _ _ _ _
   exact ⟨.inr rfl,_,_,rfl,rfl⟩
  have d3':=d3
  by_cases d2:y.brs=[]
  case neg=>
   have d2':=eq_false d2
   rw[show aU y=false by simp[aU,bC,e1,e2,q4,d1,d3,d2]]
   refine bA (vP @aD @aC @aA @aF @aS @bJ @qL @g8 @aW @aT @aX @cK @e1 @e2 @q4 @d1' @d3' @d2') ?_
   show a8 _ _ _ _ _
   exact ⟨.inr rfl,_,_,rfl,rfl⟩
  have d2':=eq_true d2
  rw[show aU y=true by simp[aU,bC,e1,e2,q4,d1,d3,d2]]
  refine bA (vP @aD @aC @aA @aF @aS @bJ @qL @g8 @aW @aT @aX @cK @e1 @e2 @q4 @d1' @d3' @d2') ?_
  show a8 _ _ _ _ _
  exact ⟨.inr rfl,_,_,rfl,rfl⟩
 by_cases q5:y.k=5
 ·skip
  by_cases d1:y.t=0
  case neg=>
   have d1':=eq_false d1
   rw[show aU y=false by simp[aU,bC,e1,e2,q5,d1]]
   refine bA (nB @aD @aC @aA @aF @aS @bJ @qL @g8 @aW @aT @aX @cK @e1 @e2 @q5 @d1') ?_
   show a8 _ _ _ _ _
   exact ⟨.inr rfl,_,_,rfl,rfl⟩
  have d1':=eq_true d1
  by_cases d3:cO y.r=true
  case neg=>
   have d3':cO y.r=false:=by simpa using d3
   rw[show aU y=false by simp[aU,bC,e1,e2,q5,d1,d3']]
   refine bA (sG @aD @aC @aA @aF @aS @bJ @qL @g8 @aW @aT @aX @cK @e1 @e2 @q5 @d1' @d3') ?_
   show a8 _ _ _ _ _
   exact ⟨.inr rfl,_,_,rfl,rfl⟩
  have d3':=d3
  rw[show aU y=false by simp[aU,bC,e1,e2,q5,d1,d3]]
  refine bA (sG @aD @aC @aA @aF @aS @bJ @qL @g8 @aW @aT @aX @cK @e1 @e2 @q5 @d1' @d3') ?_
  show a8 _ _ _ _ _
  exact ⟨.inr rfl,_,_,rfl,rfl⟩
 rw[show aU y=false by simp[aU,bC,e1,e2,q1,q2,q3,q4,q5]]
 refine bA (j19 @aD @aC @aA @aF @aS @bJ @qL @g8 @aW @aT @aX @cK @e1 @e2 @q1 @q2 @q3 @q4 @q5) ?_
 show a8 _ _ _ _ _
 exact ⟨.inr rfl,_,_,rfl,rfl⟩
set_option maxHeartbeats 4000000 in
theorem aLT (y:Y) (e1:y.outs=[]) (e2:y.args=[]):eJ Tryz.prog Ob.cfg 114 [aG y.cells]=some (dB (aU y)):=by
 have cK:=aFJ y.r
 simp only[aG,aE,List.map_cons,List.map_nil,dB] at cK
 refine bI Tryz.func114 rfl (by kernel_rfl) rfl rfl ?_
 by_cases q1:y.k=1
 ·skip
  by_cases d1:y.t=0
  case neg=>
   have d1':=eq_false d1
   rw[show aU y=false by simp[aU,bC,e1,e2,q1,d1]]
   refine bA (nB @aD @aC @aA @aF @aS @bJ @qL @g8 @aW @aT @aX @cK @e1 @e2 @q1 @d1') ?_
   show a8 _ _ _ _ _
   exact ⟨.inr rfl,_,_,rfl,rfl⟩
  have d1':=eq_true d1
  by_cases d2:y.brs=[]
  case neg=>
   have d2':=eq_false d2
   rw[show aU y=false by simp[aU,bC,e1,e2,q1,d1,d2]]
   refine bA (sG @aD @aC @aA @aF @aS @bJ @qL @g8 @aW @aT @aX @cK @e1 @e2 @q1 @d1' @d2') ?_
   show a8 _ _ _ _ _
   exact ⟨.inr rfl,_,_,rfl,rfl⟩
  have d2':=eq_true d2
  rw[show aU y=true by simp[aU,bC,e1,e2,q1,d1,d2]]
  refine bA (sG @aD @aC @aA @aF @aS @bJ @qL @g8 @aW @aT @aX @cK @e1 @e2 @q1 @d1' @d2') ?_
  show a8 _ _ _ _ _
  exact ⟨.inr rfl,_,_,rfl,rfl⟩
 by_cases q2:y.k=2
 ·skip
  by_cases d1:y.t=0
  case neg=>
   have d1':=eq_false d1
   rw[show aU y=false by simp[aU,bC,e1,e2,q2,d1]]
   refine bA (nB @aD @aC @aA @aF @aS @bJ @qL @g8 @aW @aT @aX @cK @e1 @e2 @q2 @d1') ?_
   show a8 _ _ _ _ _
   exact ⟨.inr rfl,_,_,rfl,rfl⟩
  have d1':=eq_true d1
  by_cases d2:y.brs=[]
  case neg=>
   have d2':=eq_false d2
   rw[show aU y=false by simp[aU,bC,e1,e2,q2,d1,d2]]
   refine bA (sG @aD @aC @aA @aF @aS @bJ @qL @g8 @aW @aT @aX @cK @e1 @e2 @q2 @d1' @d2') ?_
   show a8 _ _ _ _ _
   exact ⟨.inr rfl,_,_,rfl,rfl⟩
  have d2':=eq_true d2
  rw[show aU y=true by simp[aU,bC,e1,e2,q2,d1,d2]]
  refine bA (sG @aD @aC @aA @aF @aS @bJ @qL @g8 @aW @aT @aX @cK @e1 @e2 @q2 @d1' @d2') ?_
  show a8 _ _ _ _ _
  exact ⟨.inr rfl,_,_,rfl,rfl⟩
 by_cases q3:y.k=3
 ·skip
  by_cases d3:cO y.r=true
  case neg=>
   have d3':cO y.r=false:=by simpa using d3
   rw[show aU y=false by simp[aU,bC,e1,e2,q3,d3']]
   refine bA (nB @aD @aC @aA @aF @aS @bJ @qL @g8 @aW @aT @aX @cK @e1 @e2 @q3 @d3') ?_
   show a8 _ _ _ _ _
   exact ⟨.inr rfl,_,_,rfl,rfl⟩
  have d3':=d3
  rw[show aU y=true by simp[aU,bC,e1,e2,q3,d3]]
  refine bA (nB @aD @aC @aA @aF @aS @bJ @qL @g8 @aW @aT @aX @cK @e1 @e2 @q3 @d3') ?_
  show a8 _ _ _ _ _
  exact ⟨.inr rfl,_,_,rfl,rfl⟩
 by_cases q4:y.k=4
 ·skip
  by_cases d1:y.t=0
  case neg=>
   have d1':=eq_false d1
   rw[show aU y=false by simp[aU,bC,e1,e2,q4,d1]]
   refine bA (nB @aD @aC @aA @aF @aS @bJ @qL @g8 @aW @aT @aX @cK @e1 @e2 @q4 @d1') ?_
   show a8 _ _ _ _ _
   exact ⟨.inr rfl,_,_,rfl,rfl⟩
  have d1':=eq_true d1
  by_cases d3:cO y.r=true
  case neg=>
   have d3':cO y.r=false:=by simpa using d3
   rw[show aU y=false by simp[aU,bC,e1,e2,q4,d1,d3']]
   refine bA (sG @aD @aC @aA @aF @aS @bJ @qL @g8 @aW @aT @aX @cK @e1 @e2 @q4 @d1' @d3') ?_
   show a8 _ _ _ _ _
   exact ⟨.inr rfl,_,_,rfl,rfl⟩
  have d3':=d3
  by_cases d2:y.brs=[]
  case neg=>
   have d2':=eq_false d2
   rw[show aU y=false by simp[aU,bC,e1,e2,q4,d1,d3,d2]]
   refine bA (vP @aD @aC @aA @aF @aS @bJ @qL @g8 @aW @aT @aX @cK @e1 @e2 @q4 @d1' @d3' @d2') ?_
   show a8 _ _ _ _ _
   exact ⟨.inr rfl,_,_,rfl,rfl⟩
  have d2':=eq_true d2
  rw[show aU y=true by simp[aU,bC,e1,e2,q4,d1,d3,d2]]
  refine bA (vP @aD @aC @aA @aF @aS @bJ @qL @g8 @aW @aT @aX @cK @e1 @e2 @q4 @d1' @d3' @d2') ?_
  show a8 _ _ _ _ _
  exact ⟨.inr rfl,_,_,rfl,rfl⟩
 by_cases q5:y.k=5
 ·skip
  by_cases d1:y.t=0
  case neg=>
   have d1':=eq_false d1
   rw[show aU y=false by simp[aU,bC,e1,e2,q5,d1]]
   refine bA (nB @aD @aC @aA @aF @aS @bJ @qL @g8 @aW @aT @aX @cK @e1 @e2 @q5 @d1') ?_
   show a8 _ _ _ _ _
   exact ⟨.inr rfl,_,_,rfl,rfl⟩
  have d1':=eq_true d1
  by_cases d3:cO y.r=true
  case neg=>
   have d3':cO y.r=false:=by simpa using d3
   rw[show aU y=false by simp[aU,bC,e1,e2,q5,d1,d3']]
   refine bA (sG @aD @aC @aA @aF @aS @bJ @qL @g8 @aW @aT @aX @cK @e1 @e2 @q5 @d1' @d3') ?_
   show a8 _ _ _ _ _
   exact ⟨.inr rfl,_,_,rfl,rfl⟩
  have d3':=d3
  by_cases d2:y.brs=[]
  case neg=>
   have d2':=eq_false d2
   rw[show aU y=false by simp[aU,bC,e1,e2,q5,d1,d3,d2]]
   refine bA (vP @aD @aC @aA @aF @aS @bJ @qL @g8 @aW @aT @aX @cK @e1 @e2 @q5 @d1' @d3' @d2') ?_
   show a8 _ _ _ _ _
   exact ⟨.inr rfl,_,_,rfl,rfl⟩
  have d2':=eq_true d2
  rw[show aU y=true by simp[aU,bC,e1,e2,q5,d1,d3,d2]]
  refine bA (vP @aD @aC @aA @aF @aS @bJ @qL @g8 @aW @aT @aX @cK @e1 @e2 @q5 @d1' @d3' @d2') ?_
  show a8 _ _ _ _ _
  exact ⟨.inr rfl,_,_,rfl,rfl⟩
 rw[show aU y=false by simp[aU,bC,e1,e2,q1,q2,q3,q4,q5]]
 refine bA (j19 @aD @aC @aA @aF @aS @bJ @qL @g8 @aW @aT @aX @cK @e1 @e2 @q1 @q2 @q3 @q4 @q5) ?_
 show a8 _ _ _ _ _
 exact ⟨.inr rfl,_,_,rfl,rfl⟩
theorem aLC (y:Y):eJ Tryz.prog Ob.cfg 114 [aG y.cells]=some (dB (aU y)):=by
 by_cases e1:y.outs=[]
 ·by_cases e2:y.args=[]
  ·exact aLT y e1 e2
  ·exact aNg y e1 e2
 ·exact aMN y e1
set_option maxHeartbeats 1000000 in
theorem aJW (w:Pl) (hw:WOK w) (x:X) (hx:x.sz≤MX) (cC:x.ok):eJ Tryz.prog Ob.cfg 115 [aG w.cells,aG x.cells]=some (.tuple [dI (eF w x).1,dI (eF w x).2]):=by
 have hf:=aOh _ x (Nat.lt_succ_self _) hx
 refine bI Tryz.func115 rfl (by kernel_rfl) rfl rfl ?_
 unfold eF
 cases hz:bS x with
 | true=>
  have hk:=aPh w hw _ x (Nat.lt_succ_self _) hz cC
  rw[hz] at hf
  simp only[aG,Pl.cells,aE,List.map_cons,List.map_nil,dB,dI] at hf hk
  refine bA (j5 @aD @aL @aE @hf @hk) ?_
  exact ⟨.inr rfl,_,_,rfl,rfl⟩
 | false=>
  rw[hz] at hf
  simp only[aG,Pl.cells,aE,List.map_cons,List.map_nil,dB,dI] at hf
  refine bA (j4 @aD @aL @aE @hf) ?_
  exact ⟨.inr rfl,_,_,rfl,rfl⟩
set_option maxHeartbeats 1000000 in
theorem aEV (w:Pl) (hw:WOK w) (nm:Tx) (t:Int):eJ Tryz.prog Ob.cfg 116 [aG w.cells,dS nm,dI t]=some (dI (jJ w nm t)):=by
 have h1:=aIU w nm hw.out hw.loc
 have h2:=aIo nm false _ w.bf w.cx (Nat.lt_succ_self _) hw.bf
 simp only[aG,Pl.cells,List.map_cons,List.map_nil,dL,dS,dI,dB] at h1 h2
 refine bI Tryz.func116 rfl (by kernel_rfl) rfl rfl ?_
 unfold jJ
 by_cases c1:kN w.c nm=0
 ·rw[if_pos c1]
  rw[c1] at h1
  refine bA (j5 @aD @aL @aM @aB @h1) ?_
  show a8 _ _ _ _ _
  exact ⟨.inr rfl,_,_,rfl,rfl⟩
 rw[if_neg c1]
 have c1':=eq_false c1
 cases c2:vQ nm false w.cx w.bf with
 | true=>
  rw[c2] at h2
  refine bA (j8 @aD @aL @aM @aB @h1 @h2 @c1' @aS) ?_
  show a8 _ _ _ _ _
  exact ⟨.inr rfl,_,_,rfl,rfl⟩
 | false=>
  rw[c2] at h2
  by_cases c3:kN w.c nm=t
  ·rw[show (if (false:Bool)=true then (7:Int) else if kN w.c nm≠t then 10 else 0)=0 by simp[c3]]
   have c3':=eq_true c3
   refine bA (oR @aD @aL @aM @aB @h1 @h2 @c1' @aS @aV @c3') ?_
   show a8 _ _ _ _ _
   exact ⟨.inr rfl,_,_,rfl,rfl⟩
  ·rw[show (if (false:Bool)=true then (7:Int) else if kN w.c nm≠t then 10 else 0)=10 by simp[c3]]
   have c3':=eq_false c3
   refine bA (oR @aD @aL @aM @aB @h1 @h2 @c1' @aS @aV @c3') ?_
   show a8 _ _ _ _ _
   exact ⟨.inr rfl,_,_,rfl,rfl⟩
end Go.Ac
end
section
set_option maxRecDepth 4000
namespace Go.Ac
open Go.Proofs
theorem iF {α:Type} {l:List α} {j:Nat} {x:α} (h:l[j]?=some x):l.drop j=x::l.drop (j+1):=by
 obtain ⟨hj,rfl⟩:=List.getElem?_eq_some_iff.1 h
 exact List.drop_eq_getElem_cons hj
theorem aBo (l:List Tx) (j:Nat):(eX l).take j=eX (l.take j):=by unfold eX;rw[List.map_take]
theorem oA (look:cA) (e b:Nat) (z:Option (List V)) {sz:Nat} {rows:List (List D)} (hr:∀ r∈rows,r.length=sz) {j:Nat} (h:j≤rows.length):
  rQ look ⟨.slice e sz b,1,24,z⟩ (.d (.slice rows)) none (some (.d (.int .i64 j))) none=ret (.d (.slice (rows.take j))):=by
 have ha:rows.all (fun r=>Nat.beq r.length sz)=true:=by rw[List.all_eq_true];intro r hm;rw[hr r hm];exact tW sz
 have e1:yV none 0=some 0:=rfl
 have e2:yV (some (V.d (.int .i64 (j:Int)))) rows.length=some j:=by
  unfold yV;simp
 unfold rQ
 simp only[e1,e2,ha]
 rw[if_pos ⟨by omega,h,trivial⟩,List.drop_zero]
theorem cU (l:List Tx):∀ r∈eX l,r.length=1:=by unfold eX;intro r hr;obtain ⟨x,_,rfl⟩:=List.mem_map.1 hr;rfl
def tZ (w:Pl) (x:X) (d:Dc):Int:=if (eF w x).2≠0 then (eF w x).2 else if (eF w x).1≠d.t then 10 else 0
def mN (w:Pl):List X→List Dc→Int
 | x::r,d::s=>if tZ w x d≠0 then tZ w x d else mN w r s
 | _,_=>0
def aBA (w:Pl) (pre:List Tx) (x:Tx) (d:Dc):Int:=if kN w.c x=0 then 6 else if x∈pre then 7 else jJ w x d.t
def s9 (w:Pl):List Tx→List Tx→List Dc→Int
 | pre,x::r,d::s=>if aBA w pre x d≠0 then aBA w pre x d else s9 w (pre++[x]) r s
 | _,_,_=>0
def aDY (w:Pl) (y:Y):Int:=
 if (fD w.c.ins w.o.cl y.nm).2=false then 6
 else if y.args.length≠(fD w.c.ins w.o.cl y.nm).1.inn.length∨y.outs.length≠(fD w.c.ins w.o.cl y.nm).1.out.length then 9
 else if mN w y.args (fD w.c.ins w.o.cl y.nm).1.inn≠0 then mN w y.args (fD w.c.ins w.o.cl y.nm).1.inn
 else s9 w [] y.outs (fD w.c.ins w.o.cl y.nm).1.out
theorem aEz (w:Pl) (l:List Dc):mN w [] l=0:=by cases l <;> rw[mN] <;> simp
theorem aFa (w:Pl) (p:List Tx) (l:List Dc):s9 w p [] l=0:=by cases l <;> rw[s9] <;> simp
theorem aTl (r:Nat):Ob.keep 119 r=Ob.k119 r:=by kernel_rfl
attribute [local simp] aTl Ob.k119
set_option maxHeartbeats 4000000 in
theorem aOJ (w:Pl) (hw:WOK w) (y:Y) (rW:y.sz≤MX) (cC:okX y.args):eJ Tryz.prog Ob.cfg 119 [aG w.cells,aG y.cells]=some (dI (aDY w y)):=by
 have hc:=aEI w y.nm hw.ins hw.cl
 unfold MX at rW
 rw[Y.sz_eq] at rW
 have k1:=gV y.args
 have k2:=oU y.outs
 have hs5:=fun nm=>aIU w nm hw.out hw.loc
 have ht6:=fun nm t=>aEV w hw nm t
 unfold aDY
 generalize hG:fD w.c.ins w.o.cl y.nm=G at hc ⊢
 obtain ⟨g,ok⟩:=G
 simp only[aG,Pl.cells,List.map_cons,List.map_nil,dL,dS,dI,dB] at hc hs5 ht6
 refine bI Tryz.func119 rfl (by kernel_rfl) rfl rfl ?_
 cases ok with
 | false=>
  refine bA (j8 @aD @aL @aC @aA @aM @aB @hc @aK) ?_
  show a8 _ _ _ _ _
  exact ⟨.inr rfl,_,_,rfl,rfl⟩
 | true=>
 rw[if_neg (by simp)]
 simp only[Cl.cells,List.map_cons,List.map_nil] at hc
 by_cases c1:y.args.length=g.inn.length
 case neg=>
  have c1':((y.args.length:Int)=g.inn.length)=False:=eq_false (by omega)
  have c1'':=eq_false c1
  rw[if_pos (.inl c1)]
  refine bA (qJ @aD @aL @aC @aA @aM @aB @hc @aV @aT @bT @c1' @c1'') ?_
  show a8 _ _ _ _ _
  exact ⟨.inr rfl,_,_,rfl,rfl⟩
 have c1':((y.args.length:Int)=g.inn.length)=True:=eq_true (by omega)
 by_cases c2:y.outs.length=g.out.length
 case neg=>
  have c2':((y.outs.length:Int)=g.out.length)=False:=eq_false (by omega)
  have c2'':=eq_false c2
  rw[if_pos (.inr c2)]
  refine bA (vM @aD @aL @aC @aA @aM @aB @hc @aV @aT @aW @bT @c1 @c2' @c2'') ?_
  show a8 _ _ _ _ _
  exact ⟨.inr rfl,_,_,rfl,rfl⟩
 rw[if_neg (fun h=>h.elim (fun h=>h c1) (fun h=>h c2))]
 refine bA (o9 @aD @aL @aC @aA @aM @aB @hc @aV @aT @aW @bT @c1 @c2) ?_
 apply WP.loop' (I:=fun D s=>∃ j:Nat,j+D=y.args.length∧mN w (y.args.drop j) (g.inn.drop j)=mN w y.args g.inn∧SE [(2,.ptr 0 0 0),(3,.ptr 1 1 0),(5,.ptr 2 2 0),(7,dI j)] [(0,⟨0,false,w.cells.map .d⟩),(1,⟨1,false,y.cells.map .d⟩),(2,⟨2,false,g.cells.map .d⟩)] 3 s) (d:=y.args.length)
 ·exact ⟨0,by simp,by simp,SE.mk (by simp[dI]) (by simp[Pl.cells,aC,Cl.cells])⟩
 rintro D _ ⟨j,hj,hv,cc,rfl⟩
 refine wk (j6 @aB @aA @aL @aC @aK @aT) ?_
 show WP _ _ _ _ _ _
 refine WP.cond _ rfl (fun hb=>?_) (fun hb=>?_)
 ·simp at hb
  have bP:j<y.args.length:=by omega
  have lC:j<g.inn.length:=by omega
  obtain ⟨x,hx,hxm,bV⟩:=bM bP
  obtain ⟨d,hd,d8,c8⟩:=bM lC
  have hx':=i8 hx
  have cG:=eD hd
  have c9:=bE bP (by omega)
  have aRT:=(u9 _).1 cC x hxm
  have hr:=aJW w hw x (by have:=dZ hxm;unfold MX;omega) aRT
  simp only[aG,Pl.cells,aE,List.map_cons,List.map_nil,dI] at hr
  rw[iF hx,iF hd,mN] at hv
  by_cases hz:(eF w x).2=0
  case neg=>
   have mK:=eq_false hz
   have ha:tZ w x d=(eF w x).2:=by unfold tZ;rw[if_pos hz]
   rw[ha,if_pos hz] at hv
   rw[←hv,if_pos hz]
   refine bA (qJ @aB @aA @aL @aC @aK @aT @bV @hx' @aE @hr @aV @mK) ?_
   show a8 _ _ _ _ _
   exact ⟨.inr rfl,_,_,rfl,rfl⟩
  rw[hz] at hr
  by_cases ht:(eF w x).1=d.t
  case neg=>
   have ht':=eq_false ht
   have ha:tZ w x d=10:=by unfold tZ;rw[if_neg (by simp[hz]),if_pos ht]
   rw[ha,if_pos (by decide)] at hv
   rw[←hv,if_pos (by decide)]
   refine bA (nB @aB @aA @aL @aC @aK @aT @bT @bV @c8 @hx' @cG @aE @aR @hr @aV @ht') ?_
   show a8 _ _ _ _ _
   exact ⟨.inr rfl,_,_,rfl,rfl⟩
  have ha:tZ w x d=0:=by unfold tZ;rw[if_neg (by simp[hz]),if_neg (by simp[ht])]
  rw[ha,if_neg (by decide)] at hv
  have ht':=eq_true ht
  refine bA (nB @aB @aA @aL @aC @aK @aT @bT @bV @c8 @hx' @cG @aE @aR @hr @aV @ht') ?_
  refine aY (by simp[c9];exact Is.rfl) ?_
  exact ⟨D - 1,by omega,j+1,by omega,hv,SE.mk (by simp[dI,c9]) (by simp[Pl.cells,aC,Cl.cells])⟩
 ·simp at hb
  have eE:j=y.args.length:=by omega
  rw[eE,List.drop_length,aEz] at hv
  rw[←hv,if_neg (by decide)]
  refine bA (j5 @aB @aA @aL @aC @aK) ?_
  apply WP.loop' (I:=fun D s=>∃ j:Nat,j+D=y.outs.length∧s9 w (y.outs.take j) (y.outs.drop j) (g.out.drop j)=s9 w [] y.outs g.out∧SE [(2,.ptr 0 0 0),(3,.ptr 1 1 0),(5,.ptr 2 2 0),(10,dI j)] [(0,⟨0,false,w.cells.map .d⟩),(1,⟨1,false,y.cells.map .d⟩),(2,⟨2,false,g.cells.map .d⟩)] 3 s) (d:=y.outs.length)
  ·exact ⟨0,by simp,by simp,SE.mk (by simp[dI]) (by simp[Pl.cells,aC,Cl.cells])⟩
  clear hv hj eE hb
  rintro D2 _ ⟨j,hj,hv,cc2,rfl⟩
  refine wk (j6 @aB @aA @aL @aC @aK @aW) ?_
  show WP _ _ _ _ _ _
  refine WP.cond _ rfl (fun hb=>?_) (fun hb=>?_)
  ·simp at hb
   have bP:j<y.outs.length:=by omega
   have lC:j<g.out.length:=by omega
   obtain ⟨x,hx,hxm,bV⟩:=bM bP
   obtain ⟨d,hd,d8,c8⟩:=bM lC
   have hx':=sW hx
   have cG:=eD hd
   have c9:=bE bP (by omega)
   have h5:=hs5 x
   have h6:=ht6 x d.t
   have h75:=aKw (y.outs.take j) x (by unfold MX;rw[List.length_take];omega)
   simp only[dL,dS,dB] at h75
   rw[iF hx,iF hd,s9] at hv
   have vV:=bL hx
   have yY:=fun look e b z=>oA look e b z (cU y.outs) (j:=j) (by rw[aW];omega)
   have etk:=aBo y.outs j
   by_cases c5:kN w.c x=0
   ·have ha:aBA w (y.outs.take j) x d=6:=by unfold aBA;rw[if_pos c5]
    rw[ha,if_pos (by decide)] at hv
    rw[←hv]
    rw[c5] at h5
    refine bA (j9 @aB @aA @aL @aC @aK @aW @bV @hx' @h5) ?_
    show a8 _ _ _ _ _
    exact ⟨.inr rfl,_,_,rfl,rfl⟩
   have c5':=eq_false c5
   by_cases c7:x∈y.outs.take j
   ·have ha:aBA w (y.outs.take j) x d=7:=by unfold aBA;rw[if_neg c5,if_pos c7]
    rw[ha,if_pos (by decide)] at hv
    rw[←hv]
    rw[kG c7] at h75
    refine bA (vM @aB @aA @aL @aC @aK @aW @bV @hx' @h5 @c5' @aS @yY @etk @h75) ?_
    show a8 _ _ _ _ _
    exact ⟨.inr rfl,_,_,rfl,rfl⟩
   rw[iC c7] at h75
   have ha:aBA w (y.outs.take j) x d=jJ w x d.t:=by unfold aBA;rw[if_neg c5,if_neg c7]
   rw[ha,←vV] at hv
   by_cases c6:jJ w x d.t=0
   case neg=>
    have c6':=eq_false c6
    rw[if_pos c6] at hv
    rw[←hv]
    refine bA (j21 @aB @aA @aL @aC @aK @aR @aW @bT @bV @hx' @c8 @cG @h5 @h6 @c5' @c6' @aS @aV @yY @etk @h75) ?_
    show a8 _ _ _ _ _
    exact ⟨.inr rfl,_,_,rfl,rfl⟩
   rw[if_neg (by simp[c6])] at hv
   rw[c6] at h6
   refine bA (j20 @aB @aA @aL @aC @aK @aR @aW @bT @bV @hx' @c8 @cG @h5 @h6 @c5' @aS @aV @yY @etk @h75) ?_
   refine aY (by simp[c9];exact Is.rfl) ?_
   exact ⟨D2 - 1,by omega,j+1,by omega,hv,SE.mk (by simp[dI,c9]) (by simp[Pl.cells,aC,Cl.cells])⟩
  ·simp at hb
   have eE:j=y.outs.length:=by omega
   rw[eE,List.drop_length,aFa] at hv
   rw[←hv]
   refine bA (j5 @aB @aA @aL @aC @aK) ?_
   show a8 _ _ _ _ _
   exact ⟨.inr rfl,_,_,rfl,rfl⟩
end Go.Ac
end
