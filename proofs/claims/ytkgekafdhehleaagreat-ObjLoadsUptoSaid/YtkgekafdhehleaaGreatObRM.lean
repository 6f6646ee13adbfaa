/- From the given reading of the arguments to object code as data. -/
import Derived.Test.YtkgekafdhehleaaGreatAcTx
import Derived.Test.YtkgekafdhehleaaGreatObE
import Derived.Test.YtkgekafdhehleaaGreatRows
import Derived.Deep.Slices
import Derived.ChangeArms
import Derived.RowKit3
import Derived.ReadAgain
import Derived.ChangeStays
set_option linter.unusedVariables false
set_option linter.unusedSimpArgs false
section
set_option maxRecDepth 4000
namespace Go.Ac
open Go.Proofs
theorem zG {α:Type} {F:α→V} {f:FuncId} {fn:Func} {body:Code} {vs:List V} (hf:Tryz.prog.funcs[f]?=some fn) (hb:fn.body=some body) (cC:(Nat.ble vs.length fn.ntmps&&fL fn.ntmps body)=true) (vX:Ob.cfg.thr f=false) (hF:∀ b,(d7 fF (F b)).isSome=true)
  (h:WP Tryz.prog Ob.cfg f body ⟨dG 0 vs,[],0,0,0,[]⟩ (fun e t=>∃ b,a8 Tryz.prog fn (F b) e t)):∃ b,eJ Tryz.prog Ob.cfg f vs=some (F b):=by
 obtain ⟨e,t,hr,b,hq⟩:=h
 exact ⟨b,bI hf hb cC vX (hF b) ⟨e,t,hr,hq⟩⟩
theorem aXd (r:Nat):Ob.keep 63 r=Ob.k63 r:=by kernel_rfl
theorem aXN (r:Nat):Ob.keep 59 r=Ob.k59 r:=by kernel_rfl
theorem aYw (r:Nat):Ob.keep 27 r=Ob.k27 r:=by kernel_rfl
theorem aUv (r:Nat):Ob.keep 26 r=Ob.k26 r:=by kernel_rfl
theorem kf9 (r:Nat):Ob.keep 9 r=Ob.k9 r:=by kernel_rfl
attribute [local simp] aXd Ob.k63 aXN Ob.k59 aYw Ob.k27 aUv Ob.k26 kf9 Ob.k9
set_option maxHeartbeats 1000000 in
theorem w63:∀ (N:Nat) (x:X) (m:Int),x.sz<N→x.sz≤MX→∃ n,eJ Tryz.prog Ob.cfg 63 [aG x.cells,dI m]=some (dI n):=by
 intro N
 induction N with
 | zero=>intro x m h;omega
 | succ N ih=>
 intro x m hN lS
 rw[X.sz_eq] at hN lS
 have l1:=gV x.args
 unfold MX at lS
 refine zG Tryz.func63 rfl (by kernel_rfl) rfl (fun _=>rfl) ?_
 refine bA (j3 @aD @aE @aB) ?_
 apply WP.loop' (I:=fun D s=>∃ (j:Nat) (k:Int),j+D=x.args.length∧SE [(1,dI m),(2,.ptr 0 0 0),(5,dI k),(6,dI j)] [(0,⟨0,false,x.cells.map .d⟩)] 1 s) (d:=x.args.length)
 ·exact ⟨0,1,by simp,SE.mk (by simp[dI]) (by simp[aE])⟩
 rintro D _ ⟨j,k,hj,cc,rfl⟩
 by_cases bP:j<x.args.length
 ·have c1:((j:Int)<x.args.length)=True:=eq_true (by omega)
  have c1':(j<x.args.length)=True:=eq_true bP
  by_cases hk:k<m
  ·have c2:=eq_true hk
   obtain ⟨y,hy,vY,bV⟩:=bM bP
   have pW:=i8 hy
   have hw:=bE bP (by omega)
   obtain ⟨r,hr⟩:=ih y (IntKind.i64.wrap (m - k)) (by have:=dZ vY;omega) (by have:=dZ vY;unfold MX;omega)
   simp only[aG,aE,List.map_cons,List.map_nil,dI] at hr
   refine bA (j5 @aB @aE @c1 @c1' @c2) ?_
   refine bA (j5 @aB @aE @bV @pW @hr) ?_
   refine aY (by simp[hw];exact Is.rfl) ?_
   exact ⟨D - 1,by omega,j+1,_,by omega,SE.mk (by simp[dI,hw];rfl) (by simp[aE])⟩
  ·have c2:=eq_false hk
   refine bA (oR @aB @aE @c1 @c1' @c2 @aLr.eq_def @aBc.eq_1 @aBc.eq_2 @aBc.eq_3 @aBc.eq_4) ?_
   exact ⟨_,.inr rfl,_,_,rfl,rfl⟩
 ·have c1:((j:Int)<x.args.length)=False:=eq_false (by omega)
  have c1':(j<x.args.length)=False:=eq_false bP
  refine bA (j9 @aB @aE @c1 @c1' @aLr.eq_def @aBc.eq_1 @aBc.eq_2 @aBc.eq_3 @aBc.eq_4) ?_
  exact ⟨_,.inr rfl,_,_,rfl,rfl⟩
set_option maxHeartbeats 1000000 in
theorem w59 (l:List Dc) (m:Int) (lS:szD l≤MX):∃ n,eJ Tryz.prog Ob.cfg 59 [dL (cM l),dI m]=some (dI n):=by
 have l1:=lG l
 unfold MX at lS
 refine zG Tryz.func59 rfl (by kernel_rfl) rfl (fun _=>rfl) ?_
 refine bA (jn @aA @aB) ?_
 apply WP.loop' (I:=fun D s=>∃ (j:Nat) (k:Int),j+D=l.length∧SE [(0,dL (cM l)),(1,dI m),(5,dI k),(6,dI j)] [] 0 s) (d:=l.length)
 ·exact ⟨0,_,by simp,SE.mk (by simp[dI,dL];rfl) rfl⟩
 rintro D _ ⟨j,k,hj,cc,rfl⟩
 by_cases bP:j<l.length
 ·have c1:((j:Int)<l.length)=True:=eq_true (by omega)
  have c1':(j<l.length)=True:=eq_true bP
  by_cases hk:k<m
  ·have c2:=eq_true hk
   obtain ⟨y,hy,vY,bV⟩:=bM bP
   have pW:=eD hy
   have hw:=bE bP (by omega)
   refine bA (j5 @aB @aA @c1 @c1' @c2) ?_
   refine bA (j5 @aB @aA @aR @bV @pW) ?_
   refine aY (by simp[hw];exact Is.rfl) ?_
   exact ⟨D - 1,by omega,j+1,_,by omega,SE.mk (by simp[dI,dL,hw];rfl) rfl⟩
  ·have c2:=eq_false hk
   refine bA (j5 @aB @aA @c1 @c1' @c2) ?_
   exact ⟨_,.inr rfl,_,_,rfl,rfl⟩
 ·have c1:((j:Int)<l.length)=False:=eq_false (by omega)
  have c1':(j<l.length)=False:=eq_false bP
  refine bA (j4 @aB @aA @c1 @c1') ?_
  exact ⟨_,.inr rfl,_,_,rfl,rfl⟩
theorem w60 (m:Int):eJ Tryz.prog Ob.cfg 60 [dL [],dI m]=some (dI 0):=aKa 40 (by kernel_rfl)
theorem w61 (m:Int):eJ Tryz.prog Ob.cfg 61 [dL [],dI m]=some (dI 0):=aKa 40 (by kernel_rfl)
theorem w62 (m:Int):eJ Tryz.prog Ob.cfg 62 [dL [],dI m]=some (dI 0):=aKa 40 (by kernel_rfl)
set_option maxHeartbeats 2000000 in
theorem w27:∀ (N:Nat) (l:List Y) (m:Int),iG l<N→iG l≤MX→∃ n,eJ Tryz.prog Ob.cfg 27 [dL (dM l),dI m]=some (dI n):=by
 intro N
 induction N with
 | zero=>intro x m h;omega
 | succ N ih=>
 intro l m hN lS
 have l1:=l0 l
 unfold MX at lS
 refine zG Tryz.func27 rfl (by kernel_rfl) rfl (fun _=>rfl) ?_
 refine bA (jn @aA @aB) ?_
 apply WP.loop' (I:=fun D s=>∃ (j:Nat) (k:Int),j+D=l.length∧SE [(0,dL (dM l)),(1,dI m),(5,dI k),(6,dI j)] [] 0 s) (d:=l.length)
 ·exact ⟨0,_,by simp,SE.mk (by simp[dI,dL];rfl) rfl⟩
 rintro D _ ⟨j,k,hj,cc,rfl⟩
 by_cases bP:j<l.length
 case neg=>
  have c1:((j:Int)<l.length)=False:=eq_false (by omega)
  have c1':(j<l.length)=False:=eq_false bP
  refine bA (j4 @aB @aA @c1 @c1') ?_
  exact ⟨_,.inr rfl,_,_,rfl,rfl⟩
 have c1:((j:Int)<l.length)=True:=eq_true (by omega)
 have c1':(j<l.length)=True:=eq_true bP
 by_cases hk:k<m
 case neg=>
  have c2:=eq_false hk
  refine bA (j5 @aB @aA @c1 @c1' @c2) ?_
  exact ⟨_,.inr rfl,_,_,rfl,rfl⟩
 have c2:=eq_true hk
 obtain ⟨y,hy,vY,bV⟩:=bM bP
 have pW:=oT hy
 have hw:=bE bP (by omega)
 have m1:=nS vY
 rw[Y.sz_eq] at m1
 have k3:=gV y.args
 have k5:=s8 y.brs
 obtain ⟨r,hr⟩:=w63 (y.r.sz+1) y.r m (by omega) (by unfold MX;omega)
 simp only[aG,aE,List.map_cons,List.map_nil,dI] at hr
 refine bA (j5 @aB @aA @c1 @c1' @c2) ?_
 refine bA (j6 @aB @aA @aC @bV @pW @hr) ?_
 apply WP.loop' (I:=fun D s=>∃ (i:Nat) (k:Int) (ga c:Nat),i+D=y.args.length∧s=⟨[(0,dL (dM l)),(1,dI m),(5,dI k),(6,dI j),(7,.ptr 0 ga 0),(8,dI i)],[(0,⟨ga,false,y.cells.map .d⟩)],1,c,0,[]⟩) (d:=y.args.length)
 ·exact ⟨0,_,_,_,by simp,bK (by simp[dI,dL] <;> exact ⟨rfl,rfl⟩) (by simp[aC])⟩
 rintro D2 _ ⟨i,k2,ga,c,hi,rfl⟩
 by_cases cG:i<y.args.length∧k2<m
 ·obtain ⟨hd1,hd2⟩:=cG
  have e1:((i:Int)<y.args.length)=True:=eq_true (by omega)
  have e1':(i<y.args.length)=True:=eq_true hd1
  have e2:=eq_true hd2
  obtain ⟨u,hu,hum,hiu⟩:=bM hd1
  have hu':=i8 hu
  have hw2:=bE hd1 (by omega)
  obtain ⟨r2,hr2⟩:=w63 (u.sz+1) u m (by omega) (by have:=dZ hum;unfold MX;omega)
  simp only[aG,aE,List.map_cons,List.map_nil,dI] at hr2
  refine bA (j6 @aB @aA @aC @e1 @e1' @e2) ?_
  refine bA (j7 @aB @aA @aC @hiu @hu' @aE @hr2) ?_
  refine aY (by simp[hw2];exact Is.rfl) ?_
  exact ⟨D2 - 1,by omega,i+1,_,ga,_,by omega,bK (by simp[dI,dL];rfl) (by simp[aC])⟩
 have hor:(((i:Int)<y.args.length)=True∧(i<y.args.length)=True∧(k2<m)=False)∨(((i:Int)<y.args.length)=False∧(i<y.args.length)=False):=by
  by_cases hd1:i<y.args.length
  ·exact .inl ⟨eq_true (by omega),eq_true hd1,eq_false (fun h=>cG ⟨hd1,h⟩)⟩
  ·exact .inr ⟨eq_false (by omega),eq_false hd1⟩
 rcases hor with ⟨e1,e1',e2⟩|⟨e1,e1'⟩
 refine bA (j6 @aB @aA @aC @e1 @e1' @e2) ?_
 rotate_left
 refine bA (j5 @aB @aA @aC @e1 @e1') ?_
 all_goals
  refine WP.loop' (I:=fun D s=>∃ (i:Nat) (k:Int) (ga c:Nat),i+D=y.brs.length∧s=⟨[(0,dL (dM l)),(1,dI m),(5,dI k),(6,dI j),(7,.ptr 0 ga 0),(9,dI i)],[(0,⟨ga,false,y.cells.map .d⟩)],1,c,0,[]⟩) y.brs.length ?_ ?_
  ·exact ⟨0,_,_,_,by simp,bK (by simp[dI,dL] <;> exact ⟨rfl,rfl⟩) (by simp[aC])⟩
  rintro D3 _ ⟨p,k3,ga,c,hp,rfl⟩
  by_cases hd1:p<y.brs.length
  case neg=>
   have f1:((p:Int)<y.brs.length)=False:=eq_false (by omega)
   have f1':(p<y.brs.length)=False:=eq_false hd1
   refine bA (j5 @aB @aA @aC @f1 @f1') ?_
   refine aY (by simp[hw];exact Is.rfl) ?_
   exact ⟨D - 1,by omega,j+1,_,by omega,SE.mk (by simp[dI,dL];rfl) rfl⟩
  have f1:((p:Int)<y.brs.length)=True:=eq_true (by omega)
  have f1':(p<y.brs.length)=True:=eq_true hd1
  by_cases hd2:k3<m
  case neg=>
   have f2:=eq_false hd2
   refine bA (j6 @aB @aA @aC @f1 @f1' @f2) ?_
   refine aY (by simp[hw];exact Is.rfl) ?_
   exact ⟨D - 1,by omega,j+1,_,by omega,SE.mk (by simp[dI,dL];rfl) rfl⟩
  have f2:=eq_true hd2
  obtain ⟨u,hu,hum,hiu⟩:=bM hd1
  have hu':=l9 hu
  have hw3:=bE hd1 (by omega)
  obtain ⟨r3,hr3⟩:=ih u (IntKind.i64.wrap (m - k3)) (by have:=gR hum;omega) (by have:=gR hum;unfold MX;omega)
  simp only[dL,dI] at hr3
  refine bA (j6 @aB @aA @aC @f1 @f1' @f2) ?_
  refine bA (j6 @aB @aA @aC @hiu @hu' @hr3) ?_
  refine aY (by simp[hw3];exact Is.rfl) ?_
  exact ⟨D3 - 1,by omega,p+1,_,ga,_,by omega,bK (by simp[dI,dL];rfl) (by simp[aC])⟩
end Go.Ac
end
section
set_option maxRecDepth 4000
namespace Go.Ac
open Go.Proofs
attribute [local simp] aUv Ob.k26 kf9 Ob.k9
set_option maxHeartbeats 1000000 in
theorem aSr (l:List En) (lS:szE l≤MX):∃ n,eJ Tryz.prog Ob.cfg 26 [pE l,dI 600]=some (dI n):=by
 have l1:=aCO l
 unfold MX at lS
 unfold pE
 refine zG Tryz.func26 rfl (by kernel_rfl) rfl (fun _=>rfl) ?_
 refine bA (jn @aA @aB) ?_
 apply WP.loop' (I:=fun D s=>∃ (j:Nat) (k:Int),j+D=l.length∧SE [(1,dI 600),(2,.ptr 0 0 0),(5,dI k),(6,dI j)] [(0,⟨0,false,[.d (.slice (f9 l)),.d (.slice [])]⟩)] 1 s) (d:=l.length)
 ·exact ⟨0,_,by simp,SE.mk (by simp[dI,dL];rfl) rfl⟩
 rintro D _ ⟨j,k,hj,cc,rfl⟩
 by_cases cG:j<l.length∧k<600
 ·obtain ⟨bP,hk⟩:=cG
  have c1:((j:Int)<l.length)=True:=eq_true (by omega)
  have c1':(j<l.length)=True:=eq_true bP
  have c2:=eq_true hk
  obtain ⟨y,hy,vY,bV⟩:=bM bP
  have pW:=yB hy
  have hw:=bE bP (by omega)
  refine bA (j5 @aB @aA @c1 @c1' @c2) ?_
  refine bA (j5 @aB @aA @En.cells.eq_1 @bV @pW) ?_
  refine aY (by simp[hw];exact Is.rfl) ?_
  exact ⟨D - 1,by omega,j+1,_,by omega,SE.mk (by simp[dI,dL];rfl) rfl⟩
 have hor:(((j:Int)<l.length)=True∧(j<l.length)=True∧(k<600)=False)∨(((j:Int)<l.length)=False∧(j<l.length)=False):=by
  by_cases hd1:j<l.length
  ·exact .inl ⟨eq_true (by omega),eq_true hd1,eq_false (fun h=>cG ⟨hd1,h⟩)⟩
  ·exact .inr ⟨eq_false (by omega),eq_false hd1⟩
 rcases hor with ⟨e1,e1',e2⟩|⟨e1,e1'⟩
 refine bA (j5 @aB @aA @e1 @e1' @e2) ?_
 rotate_left
 refine bA (j4 @aB @aA @e1 @e1') ?_
 all_goals
  refine WP.loop' (I:=fun D s=>∃ (k:Int) (c:Nat),s=⟨[(1,dI 600),(2,.ptr 0 0 0),(5,dI k),(7,dI 0)],[(0,⟨0,false,[.d (.slice (f9 l)),.d (.slice [])]⟩)],1,c,0,[]⟩) 0 ?_ ?_
  ·exact ⟨_,_,by simp[dI];exact ⟨rfl,rfl⟩⟩
  rintro D _ ⟨k,c,rfl⟩
  refine bA (jn @aB @aA) ?_
  exact ⟨_,.inr rfl,_,_,rfl,rfl⟩
theorem bH (a b:Nat):Nat.ble a b=decide (a≤b):=by
 by_cases h:a≤b
 ·rw[Nat.ble_eq_true_of_le h];simp[h]
 ·cases hb:Nat.ble a b with
  | false=>simp[h]
  | true=>exact absurd (Nat.le_of_ble_eq_true hb) h
theorem bG (look:cA) (id g off len sz:Nat) (cap:Option Nat):toD look xA (.osl id g off len sz cap)=match live look id g with
  | some o=>match Nat.ble (off+len*sz) o.cells.length,iH (toD look 4611686018427387903) ((o.cells.drop off).take (len*sz)) with
   | true,some (ds,r)=>some (.slice (eL sz len ds),id::r)
   | _,_=>none
  | none=>none:=Eq.trans rfl rfl
theorem b8 (look:cA) (f:Nat) (x:D):toD look f (.d x)=some (x,[]):=by cases f <;> rfl
theorem pH (look:cA) (f:Nat) (x:List (List D)):toD look f (.full x)=some (.slice x,[]):=by cases f <;> rfl
def nD (a b c:List Dc):List D:=[.str [],.slice (cM a),.slice (cM b),.slice (cM c),.slice [],.slice [],.slice [],.slice []]
def pN (a b c:List Dc):V:= .agg [.d (.slice []),.d (.slice [nD a b c])]
set_option maxHeartbeats 2000000 in
theorem aUV (a b c:List Dc) (ha:szD a≤MX) (hb0:szD b≤MX) (hc0:szD c≤MX):∃ n,eJ Tryz.prog Ob.cfg 26 [pN a b c,dI 600]=some (dI n):=by
 unfold pN nD
 obtain ⟨r1,h1⟩:=w59 a 600 ha
 obtain ⟨r2,h2⟩:=w59 b 600 hb0
 obtain ⟨r3,h3⟩:=w59 c 600 hc0
 have h4:=w60 600
 have h5:=w61 600
 have h6:=w62
 simp only[dL,dI] at h1 h2 h3 h4 h5 h6
 refine zG Tryz.func26 rfl (by kernel_rfl) rfl (fun _=>rfl) ?_
 refine bA (jn @aA @aB) ?_
 apply WP.loop' (I:=fun D s=>∃ cc,s=⟨[(1,dI 600),(2,.ptr 0 0 0),(5,dI 1),(6,dI 0)],[(0,⟨0,false,[.d (.slice []),.d (.slice [[.str [],.slice (cM a),.slice (cM b),.slice (cM c),.slice [],.slice [],.slice [],.slice []]])]⟩)],1,cc,0,[]⟩) (d:=0)
 ·exact ⟨_,by simp[dI];exact ⟨by rfl,rfl⟩⟩
 rintro D _ ⟨cc,rfl⟩
 refine bA (jn @aA @aB) ?_
 apply WP.loop' (I:=fun D s=>∃ (j:Nat) (k:Int) (cc:Nat),j+D=1∧(j=0→k=1)∧s=⟨[(1,dI 600),(2,.ptr 0 0 0),(5,dI k),(7,dI j)],[(0,⟨0,false,[.d (.slice []),.d (.slice [[.str [],.slice (cM a),.slice (cM b),.slice (cM c),.slice [],.slice [],.slice [],.slice []]])]⟩)],1,cc,0,[]⟩) (d:=1)
 ·exact ⟨0,1,_,by simp,by simp,by simp[dI];rfl⟩
 rintro D _ ⟨j,k,cc,hj,hk,rfl⟩
 by_cases hj0:j=0
 ·subst hj0
  obtain rfl:=hk rfl
  refine bA (j6 @aB @h1 @h2 @h3 @h4 @h5) ?_
  show WP _ _ _ _ _ _
  refine WP.cond _ rfl (fun hb=>?_) (fun hb=>?_)
  ·refine bA (jn @aB @h6) ?_
   refine aY (by simp;exact Is.rfl) ?_
   exact ⟨0,by omega,1,_,_,by omega,by simp,by simp[dI];exact ⟨⟨rfl,by rfl⟩,rfl⟩⟩
  ·refine bA (@aB) ?_
   refine aY (by simp;exact Is.rfl) ?_
   exact ⟨0,by omega,1,_,_,by omega,by simp,by simp[dI];exact ⟨⟨rfl,by rfl⟩,rfl⟩⟩
 ·have:j=1:=by omega
  subst this
  refine bA (@aB) ?_
  exact ⟨_,.inr rfl,_,_,rfl,rfl⟩
set_option maxHeartbeats 4000000 in
theorem aLq (x:Oc) (ha:x.sz≤MX):∃ b,eJ Tryz.prog Ob.cfg 9 [aG x.cells]=some (dB b):=by
 unfold Oc.sz MX at ha
 have l1:=l7 x.cl
 obtain ⟨r0,h0⟩:=aSr x.en (by unfold MX;omega)
 simp only[pE,dI] at h0
 refine zG Tryz.func9 rfl (by kernel_rfl) rfl (fun _=>rfl) ?_
 refine bA (j4 @aD @aJ @aB @h0) ?_
 apply WP.loop' (I:=fun D s=>∃ (j:Nat) (k i:Int),j+D=x.cl.length∧SE [(1,.ptr 0 0 0),(3,dI k),(4,dI i),(5,dI j)] [(0,⟨0,false,x.cells.map .d⟩)] 1 s) (d:=x.cl.length)
 ·exact ⟨0,_,0,by simp,SE.mk (by simp[dI];rfl) (by simp[Oc.cells])⟩
 rintro D _ ⟨j,k,i,hj,cc,rfl⟩
 by_cases cG:j<x.cl.length∧k<600
 ·obtain ⟨bP,hk⟩:=cG
  have c1:((j:Int)<x.cl.length)=True:=eq_true (by omega)
  have c1':(j<x.cl.length)=True:=eq_true bP
  have c2:=eq_true hk
  obtain ⟨y,hy,vY,bV⟩:=bM bP
  have pW:=lH hy
  have hw:=bE bP (by omega)
  have m1:=qE vY
  unfold Cl.sz at m1
  obtain ⟨r1,h1⟩:=aUV y.inn y.out y.loc (by unfold MX;omega) (by unfold MX;omega) (by unfold MX;omega)
  obtain ⟨r2,h2⟩:=w27 (iG y.step+1) y.step 600 (by omega) (by unfold MX;omega)
  simp only[pN,nD,dL,dI] at h1 h2
  refine bA (j6 @aB @aA @aJ @c1 @c1' @c2) ?_
  refine bA (j20 @aB @aA @aJ @aK @bV @pW @h1 @h2 @aH @aI @aP @aQ @bG @b8 @pH @iH.eq_1 @iH.eq_2 @eL.eq_1 @eL.eq_2 @bH) ?_
  refine aY (by simp[hw];exact Is.rfl) ?_
  exact ⟨D - 1,by omega,j+1,_,_,by omega,SE.mk (by simp[dI,dL];exact ⟨rfl,rfl⟩) (by simp[Oc.cells])⟩
 have hor:(((j:Int)<x.cl.length)=True∧(j<x.cl.length)=True∧(k<600)=False)∨(((j:Int)<x.cl.length)=False∧(j<x.cl.length)=False):=by
  by_cases hd1:j<x.cl.length
  ·exact .inl ⟨eq_true (by omega),eq_true hd1,eq_false (fun h=>cG ⟨hd1,h⟩)⟩
  ·exact .inr ⟨eq_false (by omega),eq_false hd1⟩
 by_cases hq:k≥600
 ·have q:=eq_true hq
  have q':(600≤k)=True:=q
  rcases hor with ⟨e1,e1',e2⟩|⟨e1,e1'⟩
  ·refine bA (j8 @aB @aA @aJ @e1 @e1' @e2 @q @q') ?_
   exact ⟨_,.inr rfl,_,_,rfl,rfl⟩
  ·refine bA (j7 @aB @aA @aJ @e1 @e1' @q @q') ?_
   exact ⟨_,.inr rfl,_,_,rfl,rfl⟩
 ·have q:=eq_false hq
  have q':(600≤k)=False:=q
  rcases hor with ⟨e1,e1',e2⟩|⟨e1,e1'⟩
  ·exact absurd (by have:=of_eq_false e2;omega) hq
  ·refine bA (j7 @aB @aA @aJ @e1 @e1' @q @q') ?_
   exact ⟨_,.inr rfl,_,_,rfl,rfl⟩
end Go.Ac
end
section
set_option maxRecDepth 4000
namespace Go.Ac
open Go.Proofs Go.ChangeShapes Go.WideShapes Go.RowKit
open Go.Proofs.YtkgekafdhehleaaGreat.Rows (uptoBulk uptoBulkAll)
abbrev noB:Nat→Prop:=fun _=>False
def tF (w:World) (ds:List D) (cs:List Value):Prop:=ds.length=cs.length∧∀ (j:Nat) d v,ds[j]?=some d→cs[j]?=some v→RD w noB d v
theorem gP {H:Type} (d:DataW H):1≤uptoBulk d:=by
 cases d with
 | lit l=>cases l <;> simp[uptoBulk]
 | nil=>simp[uptoBulk]
 | ptr d=>simp[uptoBulk]
 | slice elems spare=>simp[uptoBulk]
 | agg parts=>simp[uptoBulk]
 | iface t d=>simp[uptoBulk]
 | map entries=>simp[uptoBulk]
 | held h=>simp[uptoBulk]
section
variable {H:Type} {enc:TypeId×Value→H} {w:World}
theorem aHb {α:Type} [Inhabited α] (p:Nat→α→Prop) (n:Nat) (h:∀ i,i<n→∃ x,p i x):∃ l:List α,l.length=n∧∀ i x,l[i]?=some x→p i x:=by
 have:∀ i,∃ x,i<n→p i x:=fun i=>by
  by_cases hi:i<n
  ·obtain ⟨x,hx⟩:=h i hi;exact ⟨x,fun _=>hx⟩
  ·exact ⟨default,fun h=>absurd h hi⟩
 obtain ⟨f,hf⟩:=Classical.axiomOfChoice this
 refine ⟨(List.range n).map f,by simp,fun i x hi=>?_⟩
 rw[List.getElem?_map] at hi
 by_cases hin:i<n
 ·rw[List.getElem?_range hin] at hi
  simp at hi
  subst hi
  exact hf i hin
 ·rw[List.getElem?_eq_none (by simp;omega)] at hi
  simp at hi
theorem aNu {α:Type} (sz:α→Nat) (K:Nat):∀ (l:List α) (es:List (DataW H×List MemPlace)),l.length=es.length→(∀ (i:Nat) x e,l[i]?=some x→es[i]?=some e→sz x≤K*uptoBulk e.1)→(l.map sz).sum≤K*uptoBulkAll (es.map (·.1))
 | [],es,h,_=>by simp
 | x::l,[],h,_=>by simp at h
 | x::l,e::es,h,hi=>by
  have h1:=hi 0 x e rfl rfl
  have h2:=aNu sz K l es (by simpa using h) (fun i x e hx he=>hi (i+1) x e (by simpa using hx) (by simpa using he))
  simp only[List.map_cons,List.sum_cons,uptoBulkAll,Nat.mul_add]
  omega
theorem iN {α:Type} [Inhabited α] (en:α→List D) (sz:α→Nat) (Pr:α→Prop) (K n:Nat) {t e nE:Nat} {cs:List Value} {x:DataW H×List MemPlace} (ht:Tryz.prog.underlying t=some (.slice e)) (hc:Tryz.prog.cellsOf e=n) (hn:0<n) (e9:∀ y,(en y).length=n)
  (hel:∀ fuel',fuel' < nE→∀ cs x,DataW.trod enc Tryz.prog w 0 (fun _=>true) true fuel' e cs=some x→∃ y,tF w (en y) cs∧sz y≤K*uptoBulk x.1∧Pr y)
  (h:DataW.trod enc Tryz.prog w 0 (fun _=>true) true nE t cs=some x):∃ (l:List α) (v:Value),cs=[v]∧RD w noB (.slice (l.map en)) v∧(l.map sz).sum≤K*(uptoBulk x.1 - 1)∧(∀ y,y∈l→Pr y)∧l.length≤uptoBulk x.1 - 1:=by
 rcases DataW.trod_slice ht h with ⟨rfl,rfl⟩|⟨a,len,cap,elems,rest,m,rfl,rfl,rfl,hb,hl,hm,bAa,aWg,_,_⟩
 ·exact ⟨[],_,rfl,.empty none 0 (Nat.zero_le _),by simp,fun y hy=>(by cases hy),Nat.zero_le _⟩
 ·rw[hc] at aWg
  have key:∀ i,i<len→∃ y:α,∃ cs e,w.cells? 0 (a.add (i*n)) n=some cs∧elems[i]?=some e∧tF w (en y) cs∧sz y≤K*uptoBulk e.1∧Pr y:=fun i hi=>by
   have h1:=aWg i hi
   rw[List.getElem?_eq_getElem (by omega)] at h1
   obtain ⟨cs,h2,h3⟩:=Option.bind_eq_some_iff.1 h1
   obtain ⟨y,h4,h5,h6⟩:=hel m (by omega) _ _ h3
   exact ⟨y,cs,_,h2,List.getElem?_eq_getElem (by omega),h4,h5,h6⟩
  obtain ⟨l,hll,hl2⟩:=aHb _ len key
  refine ⟨l,_,rfl,?_,?_,?_,?_⟩
  ·by_cases h0:len=0
   ·subst h0
    have:l=[]:=List.length_eq_zero_iff.1 hll
    subst this
    exact .empty _ _ hm
   ·have aPO:a.spot=none:=by
     obtain ⟨y,cs,e,h1,_⟩:=key 0 (by omega)
     obtain ⟨_,h2,h3⟩:=World.cells?_some h1
     have h4:=h3 0 hn
     rw[List.getElem?_eq_getElem (by omega)] at h4
     simp only[Nat.zero_mul,Addr.add,if_pos] at h4
     unfold World.cell? at h4
     split at h4
     ·split at h4
      ·cases h4
      ·rename_i hs;simpa using hs
     ·cases h4
    obtain ⟨b,off,sp⟩:=a
    simp only at aPO
    subst aPO
    have aPm:∀ o k,(Addr.mk b o none).add k=⟨b,o+k,none⟩:=fun o k=>by
     unfold Addr.add
     split
     ·rename_i hk;subst hk;rfl
     ·rfl
    have aAN:∀ (i j:Nat) (r:List D) (d:D),(l.map en)[i]?=some r→r[j]?=some d→∃ v,w.cell? ⟨b,off+(i*n+j),none⟩=some v∧RD w noB d v:=fun i j r d hr hd=>by
     rw[List.getElem?_map,Option.map_eq_some_iff] at hr
     obtain ⟨y,hy,rfl⟩:=hr
     obtain ⟨cs,e,h1,_,h3,_,_⟩:=hl2 i y hy
     obtain ⟨_,h4,h5⟩:=World.cells?_some h1
     have hj:j<n:=by
      have:=(List.getElem?_eq_some_iff.1 hd).1
      rwa [e9] at this
     have h6:=h5 j hj
     rw[aPm,aPm,List.getElem?_eq_getElem (by omega)] at h6
     rw[Nat.add_assoc] at h6
     have h7:j<cs.length:=by omega
     exact ⟨cs[j],h6,h3.2 j d _ hd (List.getElem?_eq_getElem h7)⟩
    rw[show len=(l.map en).length by simp[hll]]
    have hx:∀ q:Nat×Nat,∃ v,∀ r d,(l.map en)[q.1]?=some r→r[q.2]?=some d→w.cell? ⟨b,off+(q.1*n+q.2),none⟩=some v∧RD w noB d v:=fun q=>by
     by_cases hq:∃ r d,(l.map en)[q.1]?=some r∧r[q.2]?=some d
     ·obtain ⟨r,d,h1,h2⟩:=hq
      obtain ⟨v,h3,h4⟩:=aAN _ _ r d h1 h2
      refine ⟨v,fun r' d' yN tH=>?_⟩
      rw[h1] at yN
      obtain rfl:=Option.some.inj yN
      rw[h2] at tH
      obtain rfl:=Option.some.inj tH
      exact ⟨h3,h4⟩
     ·exact ⟨default,fun r d h1 h2=>absurd ⟨r,d,h1,h2⟩ hq⟩
    obtain ⟨f,hf⟩:=Classical.axiomOfChoice hx
    refine .slice (l.map en) b off cap n (by simp[hll];exact hl) hm (fun i r hr=>?_) (fun i j=>f (i,j)) (fun i j r d hr hd=>⟨fun h=>h,(hf (i,j) r d hr hd).1⟩) (fun i j r d hr hd=>(hf (i,j) r d hr hd).2)
    rw[List.getElem?_map,Option.map_eq_some_iff] at hr
    obtain ⟨y,_,rfl⟩:=hr
    exact e9 y
  ·have:=aNu sz K l elems (by omega) (fun i x e hx he=>by
    obtain ⟨cs,e',h1,h2,h3,h4,_⟩:=hl2 i x hx
    rw[h2] at he
    obtain rfl:=Option.some.inj he
    exact h4)
   refine Nat.le_trans this (Nat.mul_le_mul_left K ?_)
   simp only[uptoBulk]
   omega
  ·intro y hy
   obtain ⟨i,hi⟩:=List.mem_iff_getElem?.1 hy
   obtain ⟨_,_,_,_,_,_,h⟩:=hl2 i y hi
   exact h
  ·have h1:∀ es:List (DataW H×List MemPlace),es.length≤uptoBulkAll (es.map (·.1)):=fun es=>by
    induction es with
    | nil=>simp[uptoBulkAll]
    | cons a r ih=>have:=gP a.1;simp only[List.map_cons,uptoBulkAll,List.length_cons];omega
   have:=h1 elems
   simp only[uptoBulk]
   omega
theorem cz3:Tryz.prog.cellsOf 3=1:=by kernel_rfl
theorem cz9:Tryz.prog.cellsOf 9=1:=by kernel_rfl
theorem aYG:Tryz.prog.cellsOf 22=1:=by kernel_rfl
theorem aYF:Tryz.prog.cellsOf 23=1:=by kernel_rfl
theorem aTc:Tryz.prog.cellsOf 25=2:=by kernel_rfl
theorem aYd:Tryz.prog.cellsOf 31=1:=by kernel_rfl
theorem aXz:Tryz.prog.cellsOf 32=1:=by kernel_rfl
theorem aXi:Tryz.prog.cellsOf 33=1:=by kernel_rfl
theorem aSJ:Tryz.prog.cellsOf 34=1:=by kernel_rfl
theorem aVm:Tryz.prog.cellsOf 36=7:=by kernel_rfl
theorem aWz:Tryz.prog.cellsOf 40=1:=by kernel_rfl
theorem aXw:Tryz.prog.cellsOf 44=1:=by kernel_rfl
theorem aVl:Tryz.prog.cellsOf 46=3:=by kernel_rfl
theorem aUC:Tryz.prog.cellsOf 64=1:=by kernel_rfl
theorem aRa:Tryz.prog.cellsOf 70=6:=by kernel_rfl
theorem aTo:Tryz.prog.cellsOf 71=1:=by kernel_rfl
theorem aYs:Tryz.prog.cellsOf 72=1:=by kernel_rfl
theorem aSZ:Tryz.prog.cellsOf 74=12:=by kernel_rfl
theorem aTB:Tryz.prog.cellsOf 76=2:=by kernel_rfl
theorem aPI:Tryz.prog.cellsOf 103=3:=by kernel_rfl
theorem aPx:Tryz.prog.cellsOf 106=2:=by kernel_rfl
theorem aPE:Tryz.prog.cellsOf 156=3:=by kernel_rfl
instance:Inhabited X:=⟨.mk 0 0 0 0 [] []⟩
instance:Inhabited Y:=⟨.mk 0 [] 0 (.mk 0 0 0 0 [] []) [] [] []⟩
instance:Inhabited On:=⟨⟨[],0,0⟩⟩
instance:Inhabited Dc:=⟨⟨[],0,[]⟩⟩
instance:Inhabited En:=⟨⟨[],[]⟩⟩
instance:Inhabited Mm:=⟨⟨[],0,0⟩⟩
instance:Inhabited Ii:=⟨⟨[],[]⟩⟩
instance:Inhabited Cl:=⟨⟨[],[],[],[],[],[],[]⟩⟩
theorem X.cells_len (x:X):x.cells.length=6:=by rw[aE];rfl
theorem Y.cells_len (y:Y):y.cells.length=12:=by rw[aC];rfl
theorem tF.one {d:D} {v:Value} (h:RD w noB d v):tF w [d] [v]:=⟨rfl,fun j d' v' h1 h2=>by
 cases j with
 | zero=>simp at h1 h2;subst h1;subst h2;exact h
 | succ j=>simp at h1⟩
theorem tF.app {d1 d2:List D} {v1 v2:List Value} (h1:tF w d1 v1) (h2:tF w d2 v2):tF w (d1++d2) (v1++v2):=by
 refine ⟨by simp[h1.1,h2.1],fun j d v hd hv=>?_⟩
 by_cases hj:j<d1.length
 ·rw[List.getElem?_append_left hj] at hd
  rw[List.getElem?_append_left (by rw[←h1.1];exact hj)] at hv
  exact h1.2 j d v hd hv
 ·rw[List.getElem?_append_right (by omega)] at hd
  rw[List.getElem?_append_right (by rw[←h1.1];omega),←h1.1] at hv
  exact h2.2 _ d v hd hv
def vB (n:Int):Prop:= -9223372036854775808≤n∧n≤9223372036854775807
theorem pV {n:Int} (h:(Lit.int .i64 n).wf=true):vB n:=by
 simp[Lit.wf,IntKind.min,IntKind.max,IntKind.signed,IntKind.bits] at h
 unfold vB;omega
mutual
def X.ok:X→Prop
 | .mk k o t v _ args=>vB k∧vB o∧vB t∧vB v∧okX args
def okX:List X→Prop
 | []=>True
 | x::r=>x.ok∧okX r
end
mutual
def Y.ok:Y→Prop
 | .mk k _ t r _ args brs=>vB k∧vB t∧r.ok∧okX args∧okB brs
def okY:List Y→Prop
 | []=>True
 | x::r=>x.ok∧okY r
def okB:List (List Y)→Prop
 | []=>True
 | x::r=>okY x∧okB r
end
theorem u9:∀ l:List X,okX l↔∀ x,x∈l→x.ok
 | []=>by simp[okX]
 | x::r=>by simp[okX,u9 r]
theorem uQ:∀ l:List Y,okY l↔∀ x,x∈l→x.ok
 | []=>by simp[okY]
 | x::r=>by simp[okY,uQ r]
theorem xT:∀ l:List (List Y),okB l↔∀ x,x∈l→okY x
 | []=>by simp[okB]
 | x::r=>by simp[okB,xT r]
def On.ok (x:On):Prop:=vB x.t∧vB x.tag
def Dc.ok (x:Dc):Prop:=vB x.t∧∀ c,c∈x.ck→c.ok
def Mm.ok (x:Mm):Prop:=vB x.t∧vB x.ini
structure Cl.ok (x:Cl):Prop where
 inn:∀ d,d∈x.inn→d.ok
 out:∀ d,d∈x.out→d.ok
 loc:∀ d,d∈x.loc→d.ok
 mems:∀ d,d∈x.mems→d.ok
 step:okY x.step
def Oc.ok (x:Oc):Prop:=∀ c,c∈x.cl→c.ok
theorem aPD {f:Nat} {cs:List Value} {x:DataW H×List MemPlace} (h:DataW.trod enc Tryz.prog w 0 (fun _=>true) true f 40 cs=some x):∃ (l:List Int) (v:Value),cs=[v]∧RD w noB (.slice (bQ l)) v∧l.length≤uptoBulk x.1 - 1∧∀ y∈l,vB y:=by
 obtain ⟨l,v,h1,h2,h3,h4,h5⟩:=iN (fun n:Int=>[D.int .i64 n]) (fun _=>0) vB 0 1 Tryz.underlying40 cz3 (by omega) (fun _=>rfl) (fun f' hf cs x hx=>by
  obtain ⟨n,rfl,rfl,hw⟩:=DataW.trod_int Tryz.underlying3 hx
  exact ⟨n,.one (.int _ _),Nat.zero_le _,pV hw⟩) h
 exact ⟨l,v,h1,h2,h5,h4⟩
def aLh (l:List (List Int)):List (List D):=l.map fun r=>[.slice (bQ r)]
theorem aOn {f:Nat} {cs:List Value} {x:DataW H×List MemPlace} (h:DataW.trod enc Tryz.prog w 0 (fun _=>true) true f 30 cs=some x):∃ (l:List (List Int)) (v:Value),cs=[v]∧RD w noB (.slice (aLh l)) v∧l.length≤uptoBulk x.1∧∀ r∈l,r.length≤uptoBulk x.1:=by
 obtain ⟨l,v,h1,h2,h3,h4,h5⟩:=iN (fun r:List Int=>[D.slice (bQ r)]) (fun r=>r.length) (fun _=>True) 1 1 Tryz.underlying30 aWz (by omega) (fun _=>rfl) (fun f' hf cs x hx=>by
  obtain ⟨b,v,rfl,hr,hs,_⟩:=aPD hx
  exact ⟨b,.one hr,by omega,trivial⟩) h
 refine ⟨l,v,h1,h2,by omega,fun r hr=>?_⟩
 have:=vA (f:=fun r:List Int=>r.length) hr
 omega
theorem aPu {f:Nat} {cs:List Value} {x:DataW H×List MemPlace} (h:DataW.trod enc Tryz.prog w 0 (fun _=>true) true f 71 cs=some x):∃ (l:List Tx) (v:Value),cs=[v]∧RD w noB (.slice (eX l)) v∧szS l≤2*(uptoBulk x.1 - 1):=by
 obtain ⟨l,v,h1,h2,h3,_,_⟩:=iN (fun s:Tx=>[D.str s]) szT (fun _=>True) 2 1 Tryz.underlying71 cz9 (by omega) (fun _=>rfl) (fun f' hf cs x hx=>by
  obtain ⟨s,rfl,rfl,_⟩:=DataW.trod_string Tryz.underlying9 hx
  exact ⟨s.data.toList,.one (.str _ _ rfl),by simp[szT,uptoBulk];omega,trivial⟩) h
 exact ⟨l,v,h1,h2,h3⟩
theorem aQh {f:Nat} {cs:List Value} {x:DataW H×List MemPlace} (h:DataW.trod enc Tryz.prog w 0 (fun _=>true) true f 156 cs=some x):∃ y:On,tF w y.cells cs∧y.sz≤2*uptoBulk x.1∧y.ok:=by
 obtain ⟨xs,n,rfl,rfl,hl,wC,hx⟩:=DataW.trod_struct Tryz.underlying156 h
 rw[aPE] at hl
 match cs,hl with
 | [v0,v1,v2],_=>
 have hxn:xs.length=3:=wC
 match xs,hxn with
 | [x0,x1,x2],_=>
 have h0:=hx 0 _ rfl
 have h1:=hx 1 _ rfl
 have h2:=hx 2 _ rfl
 simp[cz3,cz9] at h0 h1 h2
 obtain ⟨n0,e0,rfl,g0⟩:=DataW.trod_string Tryz.underlying9 h0
 obtain ⟨n1,e1,rfl,g1⟩:=DataW.trod_int Tryz.underlying3 h1
 obtain ⟨n2,e2,rfl,g2⟩:=DataW.trod_int Tryz.underlying3 h2
 simp only[List.cons.injEq,and_true] at e0 e1 e2
 subst e0 e1 e2
 refine ⟨⟨n0.data.toList,n1,n2⟩,?_,?_,⟨pV g1,pV g2⟩⟩
 ·simp only[On.cells]
  exact (tF.app (v1:=[_]) (.one (.str _ _ rfl)) (tF.app (v1:=[_]) (.one (.int _ _)) (.one (.int _ _))))
 ·simp only[On.sz,szT,uptoBulk,uptoBulkAll,List.map_cons,List.map_nil]
  omega
theorem aSi {f:Nat} {cs:List Value} {x:DataW H×List MemPlace} (h:DataW.trod enc Tryz.prog w 0 (fun _=>true) true f 44 cs=some x):∃ (l:List On) (v:Value),cs=[v]∧RD w noB (.slice (aOV l)) v∧szO l≤2*(uptoBulk x.1 - 1)∧∀ y,y∈l→y.ok:=by
 obtain ⟨l,v,h1,h2,h3,h4,_⟩:=iN On.cells On.sz (fun y=>y.ok) 2 3 Tryz.underlying44 aPE (by omega) (fun _=>rfl) (fun f' hf cs x hx=>aQh hx) h
 exact ⟨l,v,h1,h2,h3,h4⟩
theorem aQf {f:Nat} {cs:List Value} {x:DataW H×List MemPlace} (h:DataW.trod enc Tryz.prog w 0 (fun _=>true) true f 46 cs=some x):∃ y:Dc,tF w y.cells cs∧y.sz≤2*uptoBulk x.1∧y.ok:=by
 obtain ⟨xs,n,rfl,rfl,hl,wC,hx⟩:=DataW.trod_struct Tryz.underlying46 h
 rw[aVl] at hl
 match cs,hl with
 | [v0,v1,v2],_=>
 have hxn:xs.length=3:=wC
 match xs,hxn with
 | [x0,x1,x2],_=>
 have h0:=hx 0 _ rfl
 have h1:=hx 1 _ rfl
 have h2:=hx 2 _ rfl
 simp[cz3,cz9,aXw] at h0 h1 h2
 obtain ⟨n0,e0,rfl,g0⟩:=DataW.trod_string Tryz.underlying9 h0
 obtain ⟨n1,e1,rfl,g1⟩:=DataW.trod_int Tryz.underlying3 h1
 obtain ⟨n2,w2,e2,r2,s2,g2⟩:=aSi h2
 simp only[List.cons.injEq,and_true] at e0 e1 e2
 subst e0 e1 e2
 refine ⟨⟨n0.data.toList,n1,n2⟩,?_,?_,⟨pV g1,g2⟩⟩
 ·simp only[Dc.cells]
  exact (tF.app (v1:=[_]) (.one (.str _ _ rfl)) (tF.app (v1:=[_]) (.one (.int _ _)) (.one r2)))
 ·have b2:=gP x2.1
  simp only[Dc.sz,szT,uptoBulk,uptoBulkAll,List.map_cons,List.map_nil]
  omega
theorem aMY {f:Nat} {cs:List Value} {x:DataW H×List MemPlace} (h:DataW.trod enc Tryz.prog w 0 (fun _=>true) true f 31 cs=some x):∃ (l:List Dc) (v:Value),cs=[v]∧RD w noB (.slice (cM l)) v∧szD l≤2*(uptoBulk x.1 - 1)∧∀ y,y∈l→y.ok:=by
 obtain ⟨l,v,h1,h2,h3,h4,_⟩:=iN Dc.cells Dc.sz (fun y=>y.ok) 2 3 Tryz.underlying31 aVl (by omega) (fun _=>rfl) (fun f' hf cs x hx=>aQf hx) h
 exact ⟨l,v,h1,h2,h3,h4⟩
theorem aQe {f:Nat} {cs:List Value} {x:DataW H×List MemPlace} (h:DataW.trod enc Tryz.prog w 0 (fun _=>true) true f 76 cs=some x):∃ y:En,tF w y.cells cs∧y.sz≤2*uptoBulk x.1∧True:=by
 obtain ⟨xs,n,rfl,rfl,hl,wC,hx⟩:=DataW.trod_struct Tryz.underlying76 h
 rw[aTB] at hl
 match cs,hl with
 | [v0,v1],_=>
 have hxn:xs.length=2:=wC
 match xs,hxn with
 | [x0,x1],_=>
 have h0:=hx 0 _ rfl
 have h1:=hx 1 _ rfl
 simp[cz9,aTo] at h0 h1
 obtain ⟨n0,e0,rfl,g0⟩:=DataW.trod_string Tryz.underlying9 h0
 obtain ⟨n1,w1,e1,r1,s1⟩:=aPu h1
 simp only[List.cons.injEq,and_true] at e0 e1
 subst e0 e1
 refine ⟨⟨n0.data.toList,n1⟩,?_,?_,trivial⟩
 ·simp only[En.cells]
  exact (tF.app (v1:=[_]) (.one (.str _ _ rfl)) (.one r1))
 ·have b1:=gP x1.1
  simp only[En.sz,szT,uptoBulk,uptoBulkAll,List.map_cons,List.map_nil]
  omega
theorem aSG {f:Nat} {cs:List Value} {x:DataW H×List MemPlace} (h:DataW.trod enc Tryz.prog w 0 (fun _=>true) true f 22 cs=some x):∃ (l:List En) (v:Value),cs=[v]∧RD w noB (.slice (f9 l)) v∧szE l≤2*(uptoBulk x.1 - 1)∧∀ y,y∈l→True:=by
 obtain ⟨l,v,h1,h2,h3,h4,_⟩:=iN En.cells En.sz (fun y=>True) 2 2 Tryz.underlying22 aTB (by omega) (fun _=>rfl) (fun f' hf cs x hx=>aQe hx) h
 exact ⟨l,v,h1,h2,h3,h4⟩
theorem aRk {f:Nat} {cs:List Value} {x:DataW H×List MemPlace} (h:DataW.trod enc Tryz.prog w 0 (fun _=>true) true f 103 cs=some x):∃ y:Mm,tF w y.cells cs∧y.sz≤2*uptoBulk x.1∧y.ok:=by
 obtain ⟨xs,n,rfl,rfl,hl,wC,hx⟩:=DataW.trod_struct Tryz.underlying103 h
 rw[aPI] at hl
 match cs,hl with
 | [v0,v1,v2],_=>
 have hxn:xs.length=3:=wC
 match xs,hxn with
 | [x0,x1,x2],_=>
 have h0:=hx 0 _ rfl
 have h1:=hx 1 _ rfl
 have h2:=hx 2 _ rfl
 simp[cz3,cz9] at h0 h1 h2
 obtain ⟨n0,e0,rfl,g0⟩:=DataW.trod_string Tryz.underlying9 h0
 obtain ⟨n1,e1,rfl,g1⟩:=DataW.trod_int Tryz.underlying3 h1
 obtain ⟨n2,e2,rfl,g2⟩:=DataW.trod_int Tryz.underlying3 h2
 simp only[List.cons.injEq,and_true] at e0 e1 e2
 subst e0 e1 e2
 refine ⟨⟨n0.data.toList,n1,n2⟩,?_,?_,⟨pV g1,pV g2⟩⟩
 ·simp only[Mm.cells]
  exact (tF.app (v1:=[_]) (.one (.str _ _ rfl)) (tF.app (v1:=[_]) (.one (.int _ _)) (.one (.int _ _))))
 ·simp only[Mm.sz,szT,uptoBulk,uptoBulkAll,List.map_cons,List.map_nil]
  omega
theorem aUB {f:Nat} {cs:List Value} {x:DataW H×List MemPlace} (h:DataW.trod enc Tryz.prog w 0 (fun _=>true) true f 32 cs=some x):∃ (l:List Mm) (v:Value),cs=[v]∧RD w noB (.slice (lF l)) v∧szM l≤2*(uptoBulk x.1 - 1)∧∀ y,y∈l→y.ok:=by
 obtain ⟨l,v,h1,h2,h3,h4,_⟩:=iN Mm.cells Mm.sz (fun y=>y.ok) 2 3 Tryz.underlying32 aPI (by omega) (fun _=>rfl) (fun f' hf cs x hx=>aRk hx) h
 exact ⟨l,v,h1,h2,h3,h4⟩
theorem aQK {f:Nat} {cs:List Value} {x:DataW H×List MemPlace} (h:DataW.trod enc Tryz.prog w 0 (fun _=>true) true f 106 cs=some x):∃ y:Ii,tF w y.cells cs∧y.sz≤2*uptoBulk x.1∧True:=by
 obtain ⟨xs,n,rfl,rfl,hl,wC,hx⟩:=DataW.trod_struct Tryz.underlying106 h
 rw[aPx] at hl
 match cs,hl with
 | [v0,v1],_=>
 have hxn:xs.length=2:=wC
 match xs,hxn with
 | [x0,x1],_=>
 have h0:=hx 0 _ rfl
 have h1:=hx 1 _ rfl
 simp[cz9] at h0 h1
 obtain ⟨n0,e0,rfl,g0⟩:=DataW.trod_string Tryz.underlying9 h0
 obtain ⟨n1,e1,rfl,g1⟩:=DataW.trod_string Tryz.underlying9 h1
 simp only[List.cons.injEq,and_true] at e0 e1
 subst e0 e1
 refine ⟨⟨n0.data.toList,n1.data.toList⟩,?_,?_,trivial⟩
 ·simp only[Ii.cells]
  exact (tF.app (v1:=[_]) (.one (.str _ _ rfl)) (.one (.str _ _ rfl)))
 ·simp only[Ii.sz,szT,uptoBulk,uptoBulkAll,List.map_cons,List.map_nil]
  omega
theorem aTx {f:Nat} {cs:List Value} {x:DataW H×List MemPlace} (h:DataW.trod enc Tryz.prog w 0 (fun _=>true) true f 33 cs=some x):∃ (l:List Ii) (v:Value),cs=[v]∧RD w noB (.slice (lV l)) v∧szJ l≤2*(uptoBulk x.1 - 1)∧∀ y,y∈l→True:=by
 obtain ⟨l,v,h1,h2,h3,h4,_⟩:=iN Ii.cells Ii.sz (fun y=>True) 2 2 Tryz.underlying33 aPx (by omega) (fun _=>rfl) (fun f' hf cs x hx=>aQK hx) h
 exact ⟨l,v,h1,h2,h3,h4⟩
def OX (w:World) (enc:TypeId×Value→H) (f:Nat):Prop:=
 (∀ cs x,DataW.trod enc Tryz.prog w 0 (fun _=>true) true f 70 cs=some x→∃ y:X,tF w y.cells cs∧y.sz≤2*uptoBulk x.1∧y.ok)∧
 (∀ cs x,DataW.trod enc Tryz.prog w 0 (fun _=>true) true f 64 cs=some x→∃ (l:List X) (v:Value),cs=[v]∧RD w noB (.slice (gC l)) v∧szX l≤2*(uptoBulk x.1 - 1)∧okX l)
theorem aPz:∀ f,OX w enc f:=by
 intro f
 induction f using Nat.strongRecOn with
 | ind f ih=>
  constructor
  ·intro cs x h
   obtain ⟨xs,n,rfl,rfl,hl,wC,hx⟩:=DataW.trod_struct Tryz.underlying70 h
   rw[aRa] at hl
   match cs,hl with
   | [v0,v1,v2,v3,v4,v5],_=>
   have hx6:xs.length=6:=wC
   match xs,hx6 with
   | [x0,x1,x2,x3,x4,x5],_=>
   have h0:=hx 0 _ rfl
   have h1:=hx 1 _ rfl
   have h2:=hx 2 _ rfl
   have h3:=hx 3 _ rfl
   have h4:=hx 4 _ rfl
   have h5:=hx 5 _ rfl
   simp[cz3,cz9,aUC] at h0 h1 h2 h3 h4 h5
   obtain ⟨n0,e0,rfl,g0⟩:=DataW.trod_int Tryz.underlying3 h0
   obtain ⟨n1,e1,rfl,g1⟩:=DataW.trod_int Tryz.underlying3 h1
   obtain ⟨n2,e2,rfl,g2⟩:=DataW.trod_int Tryz.underlying3 h2
   obtain ⟨n3,e3,rfl,g3⟩:=DataW.trod_int Tryz.underlying3 h3
   obtain ⟨s4,e4,rfl,_⟩:=DataW.trod_string Tryz.underlying9 h4
   obtain ⟨l5,w5,e5,hr5,hs5,ho5⟩:=(ih n (by omega)).2 _ _ h5
   simp only[List.cons.injEq,and_true] at e0 e1 e2 e3 e4 e5
   subst e0 e1 e2 e3 e4 e5
   refine ⟨.mk n0 n1 n2 n3 s4.data.toList l5,?_,?_,?_⟩
   ·simp only[X.cells]
    exact tF.app (.one (.int _ _)) (tF.app (.one (.int _ _)) (tF.app (.one (.int _ _)) (tF.app (.one (.int _ _)) (tF.app (.one (.str _ _ rfl)) (.one hr5)))))
   ·have hb:=gP x5.1
    simp only[X.sz,szT,uptoBulk,uptoBulkAll,List.map_cons,List.map_nil]
    omega
   ·simp only[X.ok]
    exact ⟨pV g0,pV g1,pV g2,pV g3,ho5⟩
  ·intro cs x h
   obtain ⟨l,v,h1,h2,h3,h4,_⟩:=iN X.cells X.sz X.ok 2 6 Tryz.underlying64 aRa (by omega) X.cells_len (fun f' hf cs x hx=>(ih f' hf).1 cs x hx) h
   exact ⟨l,v,h1,by rw[rT];exact h2,by rw[aCy];exact h3,(u9 l).2 h4⟩
def OY (w:World) (enc:TypeId×Value→H) (f:Nat):Prop:=
 (∀ cs x,DataW.trod enc Tryz.prog w 0 (fun _=>true) true f 74 cs=some x→∃ y:Y,tF w y.cells cs∧y.sz≤2*uptoBulk x.1∧y.ok)∧
 (∀ cs x,DataW.trod enc Tryz.prog w 0 (fun _=>true) true f 34 cs=some x→∃ (l:List Y) (v:Value),cs=[v]∧RD w noB (.slice (dM l)) v∧iG l≤2*(uptoBulk x.1 - 1)∧okY l)∧
 (∀ cs x,DataW.trod enc Tryz.prog w 0 (fun _=>true) true f 72 cs=some x→∃ (l:List (List Y)) (v:Value),cs=[v]∧RD w noB (.slice (iL l)) v∧szB l≤2*(uptoBulk x.1 - 1)∧okB l)
theorem aUf:∀ f,OY w enc f:=by
 intro f
 induction f using Nat.strongRecOn with
 | ind f ih=>
  refine ⟨?_,?_,?_⟩
  ·intro cs x h
   obtain ⟨xs,n,rfl,rfl,hl,wC,hx⟩:=DataW.trod_struct Tryz.underlying74 h
   rw[aSZ] at hl
   match cs,hl with
   | [v0,v1,v2,v3,v4,v5,v6,v7,v8,v9,v10,v11],_=>
   have hx6:xs.length=7:=wC
   match xs,hx6 with
   | [x0,x1,x2,x3,x4,x5,x6],_=>
   have h0:=hx 0 _ rfl
   have h1:=hx 1 _ rfl
   have h2:=hx 2 _ rfl
   have h3:=hx 3 _ rfl
   have h4:=hx 4 _ rfl
   have h5:=hx 5 _ rfl
   have h6:=hx 6 _ rfl
   simp[cz3,cz9,aUC,aRa,aTo,aYs] at h0 h1 h2 h3 h4 h5 h6
   obtain ⟨n0,e0,rfl,g0⟩:=DataW.trod_int Tryz.underlying3 h0
   obtain ⟨s1,e1,rfl,_⟩:=DataW.trod_string Tryz.underlying9 h1
   obtain ⟨n2,e2,rfl,g2⟩:=DataW.trod_int Tryz.underlying3 h2
   obtain ⟨r3,hr3,hs3,g3⟩:=(aPz n).1 _ _ h3
   obtain ⟨l4,w4,e4,hr4,hs4⟩:=aPu h4
   obtain ⟨l5,w5,e5,hr5,hs5,g5⟩:=(aPz n).2 _ _ h5
   obtain ⟨l6,w6,e6,hr6,hs6,g6⟩:=(ih n (by omega)).2.2 _ _ h6
   simp only[List.cons.injEq,and_true] at e0 e1 e2 e4 e5 e6
   subst e0 e1 e2 e4 e5 e6
   refine ⟨.mk n0 s1.data.toList n2 r3 l4 l5 l6,?_,?_,?_⟩
   ·simp only[Y.cells]
    exact tF.app (v1:=[_,_,_,_,_,_,_,_,_]) (tF.app (v1:=[_,_,_]) (tF.app (v1:=[_]) (.one (.int _ _)) (tF.app (v1:=[_]) (.one (.str _ _ rfl)) (.one (.int _ _)))) hr3) (tF.app (v1:=[_]) (.one hr4) (tF.app (v1:=[_]) (.one hr5) (.one hr6)))
   ·have b4:=gP x4.1
    have b5:=gP x5.1
    have b6:=gP x6.1
    simp only[Y.sz,szT,uptoBulk,uptoBulkAll,List.map_cons,List.map_nil]
    omega
   ·simp only[Y.ok]
    exact ⟨pV g0,pV g2,g3,g5,g6⟩
  ·intro cs x h
   obtain ⟨l,v,h1,h2,h3,h4,_⟩:=iN Y.cells Y.sz Y.ok 2 12 Tryz.underlying34 aSZ (by omega) Y.cells_len (fun f' hf cs x hx=>(ih f' hf).1 cs x hx) h
   exact ⟨l,v,h1,by rw[pF];exact h2,by rw[zX];exact h3,(uQ l).2 h4⟩
  ·intro cs x h
   obtain ⟨l,v,h1,h2,h3,h4,_⟩:=iN (fun b:List Y=>[D.slice (dM b)]) (fun b=>iG b+1) okY 2 1 Tryz.underlying72 aSJ (by omega) (fun _=>rfl) (fun f' hf cs x hx=>by
    obtain ⟨b,v,rfl,hr,hs,ho⟩:=(ih f' hf).2.1 cs x hx
    have:=gP x.1
    exact ⟨b,.one hr,by omega,ho⟩) h
   exact ⟨l,v,h1,by rw[tQ];exact h2,by rw[aCH];exact h3,(xT l).2 h4⟩
theorem aRF {f:Nat} {cs:List Value} {x:DataW H×List MemPlace} (h:DataW.trod enc Tryz.prog w 0 (fun _=>true) true f 34 cs=some x):∃ (l:List Y) (v:Value),cs=[v]∧RD w noB (.slice (dM l)) v∧iG l≤2*(uptoBulk x.1 - 1)∧okY l:=(aUf f).2.1 _ _ h
theorem aPS {f:Nat} {cs:List Value} {x:DataW H×List MemPlace} (h:DataW.trod enc Tryz.prog w 0 (fun _=>true) true f 36 cs=some x):∃ y:Cl,tF w y.cells cs∧y.sz≤2*uptoBulk x.1∧y.ok:=by
 obtain ⟨xs,n,rfl,rfl,hl,wC,hx⟩:=DataW.trod_struct Tryz.underlying36 h
 rw[aVm] at hl
 match cs,hl with
 | [v0,v1,v2,v3,v4,v5,v6],_=>
 have hxn:xs.length=7:=wC
 match xs,hxn with
 | [x0,x1,x2,x3,x4,x5,x6],_=>
 have h0:=hx 0 _ rfl
 have h1:=hx 1 _ rfl
 have h2:=hx 2 _ rfl
 have h3:=hx 3 _ rfl
 have h4:=hx 4 _ rfl
 have h5:=hx 5 _ rfl
 have h6:=hx 6 _ rfl
 simp[cz9,aYd,aXz,aXi,aSJ] at h0 h1 h2 h3 h4 h5 h6
 obtain ⟨n0,e0,rfl,g0⟩:=DataW.trod_string Tryz.underlying9 h0
 obtain ⟨n1,w1,e1,r1,s1,g1⟩:=aMY h1
 obtain ⟨n2,w2,e2,r2,s2,g2⟩:=aMY h2
 obtain ⟨n3,w3,e3,r3,s3,g3⟩:=aMY h3
 obtain ⟨n4,w4,e4,r4,s4,g4⟩:=aUB h4
 obtain ⟨n5,w5,e5,r5,s5,g5⟩:=aTx h5
 obtain ⟨n6,w6,e6,r6,s6,g6⟩:=aRF h6
 simp only[List.cons.injEq,and_true] at e0 e1 e2 e3 e4 e5 e6
 subst e0 e1 e2 e3 e4 e5 e6
 refine ⟨⟨n0.data.toList,n1,n2,n3,n4,n5,n6⟩,?_,?_,⟨g1,g2,g3,g4,g6⟩⟩
 ·simp only[Cl.cells]
  exact (tF.app (v1:=[_]) (.one (.str _ _ rfl)) (tF.app (v1:=[_]) (.one r1) (tF.app (v1:=[_]) (.one r2) (tF.app (v1:=[_]) (.one r3) (tF.app (v1:=[_]) (.one r4) (tF.app (v1:=[_]) (.one r5) (.one r6)))))))
 ·have b1:=gP x1.1
  have b2:=gP x2.1
  have b3:=gP x3.1
  have b4:=gP x4.1
  have b5:=gP x5.1
  have b6:=gP x6.1
  simp only[Cl.sz,szT,uptoBulk,uptoBulkAll,List.map_cons,List.map_nil]
  omega
theorem aTW {f:Nat} {cs:List Value} {x:DataW H×List MemPlace} (h:DataW.trod enc Tryz.prog w 0 (fun _=>true) true f 23 cs=some x):∃ (l:List Cl) (v:Value),cs=[v]∧RD w noB (.slice (gJ l)) v∧szC l≤2*(uptoBulk x.1 - 1)∧∀ y,y∈l→y.ok:=by
 obtain ⟨l,v,h1,h2,h3,h4,_⟩:=iN Cl.cells Cl.sz (fun y=>y.ok) 2 7 Tryz.underlying23 aVm (by omega) (fun _=>rfl) (fun f' hf cs x hx=>aPS hx) h
 exact ⟨l,v,h1,h2,h3,h4⟩
theorem aRG {f:Nat} {cs:List Value} {x:DataW H×List MemPlace} (h:DataW.trod enc Tryz.prog w 0 (fun _=>true) true f 25 cs=some x):∃ y:Oc,tF w y.cells cs∧y.sz≤2*uptoBulk x.1∧y.ok:=by
 obtain ⟨xs,n,rfl,rfl,hl,wC,hx⟩:=DataW.trod_struct Tryz.underlying25 h
 rw[aTc] at hl
 match cs,hl with
 | [v0,v1],_=>
 have hxn:xs.length=2:=wC
 match xs,hxn with
 | [x0,x1],_=>
 have h0:=hx 0 _ rfl
 have h1:=hx 1 _ rfl
 simp[aYG,aYF] at h0 h1
 obtain ⟨n0,w0,e0,r0,s0,g0⟩:=aSG h0
 obtain ⟨n1,w1,e1,r1,s1,g1⟩:=aTW h1
 simp only[List.cons.injEq,and_true] at e0 e1
 subst e0 e1
 refine ⟨⟨n0,n1⟩,?_,?_,g1⟩
 ·simp only[Oc.cells]
  exact (tF.app (v1:=[_]) (.one r0) (.one r1))
 ·have b0:=gP x0.1
  have b1:=gP x1.1
  simp only[Oc.sz,szT,uptoBulk,uptoBulkAll,List.map_cons,List.map_nil]
  omega
end
end Go.Ac
end
