/- Names of a class and its maps: plain facts. -/
import Derived.Test.YtkgekafdhehleaaGreatObIxM
set_option linter.unusedVariables false
set_option linter.unusedSimpArgs false
section
set_option maxRecDepth 4000
namespace Go.Ac
open Go.Proofs
attribute [local simp] Hp.get_set cY cE cN bW
theorem aYj (r:Nat):Ob.keep 69 r=Ob.k69 r:=by kernel_rfl
attribute [local simp] aYj Ob.k69
theorem WI.setN {ids0:List Nat} {n0:Nat} {sJ hp:Hp} {wl:List Nat} (h:WI ids0 n0 sJ wl hp) {k:Nat} {o:Ob} (hk:n0≤k):WI ids0 n0 sJ wl (hp.set k o):=
 ⟨h.1,fun j hj hn=>by rw[Hp.get_set_ne _ _ _ _ (by omega)];exact h.2 j hj hn⟩
def gD (o:Oc) (ea:List Cl) (c:Cl):Int:=
 if cB o.en c.inn≠0 then cB o.en c.inn
 else if cB o.en c.out≠0 then cB o.en c.out
 else if cB o.en c.loc≠0 then cB o.en c.loc
 else if c.mems.any (fun m=> !nZ o.en m)=true then 10
 else if tS [] c.names=true then 7
 else if c.ins.any (fun x=> !(dC ea x.cl).2)=true then 6 else 0
theorem aLp (en:List En) (m:Mm):nZ en m=gB en m.t m.ini:=by
 unfold nZ gB
 by_cases h2:m.t=2
 ·rw[if_pos h2,show decide (0<fG en m.t)=true by rw[h2];rfl];rfl
 ·rw[if_neg h2]
  by_cases hp:0<fG en m.t
  ·simp[hp]
  ·simp[hp];omega
theorem mE (en:List En):∀ a b:List Dc,cB en (a++b)=if cB en a≠0 then cB en a else cB en b
 | [],b=>by simp[cB]
 | d::r,b=>by
  rw[List.cons_append,cB,cB,mE en r b]
  split
  ·simp
  ·split
   ·simp
   ·rfl
theorem aDb:∀ (a b p:List Tx),tS p (a++b)=(tS p a||tS (p++a) b)
 | [],b,p=>by simp[tS]
 | x::r,b,p=>by rw[List.cons_append,tS,tS,aDb r b (p++[x])];simp[Bool.or_assoc]
def vJ (l:List Tx):List (Tx×Bool):=l.map fun x=>(x,true)
theorem aMG (l:List Tx) (x:Tx):eS (puts [] (vJ l)) x=if x∈l then some true else none:=by
 suffices h:∀ (l:List Tx) (a:List (Tx×Bool)),eS (puts a (vJ l)) x=if x∈l then some true else eS a x by
  have:=h l [];simpa [eS] using this
 intro l
 induction l with
 | nil=>intro a;simp[vJ,puts]
 | cons y r ih=>
  intro a
  have e:vJ (y::r)=(y,true)::vJ r:=rfl
  rw[e,puts,ih,aDd]
  by_cases h1:x∈r
  ·simp[h1]
  ·by_cases h2:x=y
   ·simp[h2]
   ·simp[h1,h2]
def iV (ea:List Cl) (l:List Ii):List (Tx×Cl):=l.map fun x=>(x.nm,(dC ea x.cl).1)
structure KD (ic iv ip im ii:Nat):Prop where
 c:ic≠ii
 v:iv≠ii
 p:ip≠ii
 m:im≠ii
section
variable {ic gc iv gv ip gp im gm ii gi:Nat} {o:Oc} {ea:List Cl} {c:Cl} {lv lm:List (Tx×Int)} {lp:List (Tx×Bool)}
set_option maxHeartbeats 8000000 in
theorem aIO (hen:∀ t,oL o.en t=decide (0<fG o.en t)) (hea:ea.length≤MX) (hL:CLen c) (cC:c.ok) (hp:Hp) (n cc:Nat) (hD:KD ic iv ip im ii) (hK:KG ic gc iv gv ip gp im gm ii gi o ea c lv lp lm [] hp n):
  yL Tryz.prog Ob.cfg 69 [.ptr ic gc 0] hp n cc (dI (gD o ea c)) [ii] (fun bB=>gD o ea c=0→KG ic gc iv gv ip gp im gm ii gi o ea c lv lp lm (puts [] (iV ea c.ins)) bB n):=by
 have hLs:=hL.sum
 have eH:=hK.co
 have nc:=nf hK.lc
 have ni:=nf hK.li
 have hlc:=hK.lc
 refine oP Tryz.func69 rfl (by kernel_rfl) rfl ?_
 refine fK (j8 @aN @aO @aB @aA @eH @nc @aH @aI) ?_
 apply WP.loop' (I:=fun D s=>∃ (j c':Nat) (wl:List Nat) (bB:Hp),j+D=3∧(0<j→cB o.en c.inn=0)∧(1<j→cB o.en c.out=0)∧(2<j→cB o.en c.loc=0)∧WI [] n hp wl bB∧s=⟨[(0,.ptr ic gc 0),(32,.agg [dL (cM c.inn),dL (cM c.out),dL (cM c.loc)]),(33,dI j)],bB,n,c',n,wl⟩) (d:=3)
 ·exact ⟨0,_,_,_,by simp,by simp,by simp,by simp,WI.refl,bK (by simp[dI,dL]) rfl⟩
 rintro D _ ⟨j,c',wl,bB,hj,d0,d1,d2,d6,rfl⟩
 have eH:=(d6.frame hlc (by simp)).trans hK.co
 obtain rfl|rfl|rfl|rfl:j=0∨j=1∨j=2∨j=3:=by omega
 ·refine fK (j5 @aB @aA @eH @nc @jR.eq_def) ?_
  apply WP.loop' (I:=fun D s=>∃ (i c':Nat) (wl:List Nat) (bB:Hp),i+D=c.inn.length∧cB o.en (c.inn.take i)=0∧WI [] n hp wl bB∧s=⟨[(0,.ptr ic gc 0),(32,.agg [dL (cM c.inn),dL (cM c.out),dL (cM c.loc)]),(33,dI 0),(36,dL (cM c.inn)),(37,dI c.inn.length),(38,dI i)],bB,n,c',n,wl⟩) (d:=c.inn.length)
  ·exact ⟨0,_,_,_,by simp,by simp[cB],d6,bK (by simp[dI,dL]) rfl⟩
  clear d6 eH
  rintro D2 _ ⟨i,c',wl,bB,hi,hdw,d6,rfl⟩
  have eH:=(d6.frame hlc (by simp)).trans hK.co
  refine aDJ (j4 @aB @aA @eH @nc) ?_
  show WP _ _ _ _ _ _
  refine WP.cond _ rfl (fun hb=>?_) (fun hb=>?_)
  ·simp at hb
   have bP:i<c.inn.length:=by omega
   obtain ⟨d,hd,d8,bV⟩:=bM bP
   have cG:=eD hd
   have c9:=bE bP (by omega)
   have vV:=bL hd
   have aJC:d.ok:=cC.inn d d8
   obtain ⟨nm0,rY⟩:=aFB o.en d.t aJC.1
   rw[hen] at rY
   simp only[dL,dI,dS,dB] at rY
   have yO:=mE o.en (c.inn.take i) [d]
   rw[←vV,hdw,if_neg (by simp)] at yO
   have gW:=mE o.en (c.inn.take (i+1)) (c.inn.drop (i+1))
   rw[List.take_append_drop,yO] at gW
   by_cases h1:0<fG o.en d.t
   case neg=>
    have yN:=eq_false h1
    have hv:cB o.en [d]=10:=by rw[cB,if_pos h1]
    rw[hv,if_pos (by decide)] at gW
    have hz:cB o.en c.inn≠0:=by rw[gW];decide
    have hdp:gD o ea c=10:=by rw[show gD o ea c=cB o.en c.inn by unfold gD;rw[if_pos hz],gW]
    rw[hdp]
    rw[decide_eq_false h1] at rY
    refine fK (oR @aB @aA @eH @nc @bV @cG @aR @aH @aI @rY) ?_
    exact ⟨.inr rfl,_,[],rfl,rfl,rfl,(by repeat' (first|exact d6|exact d6.mono (by simp)|exact WI.refl|(refine WI.trunc ?_ (by omega))|(refine WI.set ?_ (.inr (by omega)))|(refine WI.setN ?_ (by omega))|(refine WI.set ?_ (.inl (by simp))))),fun h0=>absurd h0 (by decide)⟩
   rw[decide_eq_true h1] at rY
   by_cases h2:d.ck=[]
   case neg=>
    have tH:(0<d.ck.length)=True:=eq_true (by cases vD:d.ck with|nil=>exact absurd vD h2|cons a r=>simp)
    have aEh:((0:Int)<(d.ck.length:Int))=True:=eq_true (by have:=tH;simp at this;omega)
    have hv:cB o.en [d]=5:=by rw[cB,if_neg (by simp[h1]),if_pos h2]
    rw[hv,if_pos (by decide)] at gW
    have hz:cB o.en c.inn≠0:=by rw[gW];decide
    have hdp:gD o ea c=5:=by rw[show gD o ea c=cB o.en c.inn by unfold gD;rw[if_pos hz],gW]
    rw[hdp]
    refine fK (o9 @aB @aA @eH @nc @bV @cG @aR @aH @aI @rY @tH @aEh @nJ) ?_
    exact ⟨.inr rfl,_,[],rfl,rfl,rfl,(by repeat' (first|exact d6|exact d6.mono (by simp)|exact WI.refl|(refine WI.trunc ?_ (by omega))|(refine WI.set ?_ (.inr (by omega)))|(refine WI.setN ?_ (by omega))|(refine WI.set ?_ (.inl (by simp))))),fun h0=>absurd h0 (by decide)⟩
   have hv:cB o.en [d]=0:=by rw[cB,if_neg (by simp[h1]),if_neg (by simp[h2]),cB]
   have tH:(0<d.ck.length)=False:=by rw[h2];simp
   have aEh:((0:Int)<(d.ck.length:Int))=False:=by rw[h2];simp
   refine fK (o9 @aB @aA @eH @nc @bV @cG @aR @aH @aI @rY @tH @aEh @nJ) ?_
   refine aY (by simp[-a9,c9];exact Is.rfl) ?_
   exact ⟨D2 - 1,by omega,i+1,_,_,_,by omega,by rw[yO,hv],(by repeat' (first|exact d6|exact d6.mono (by simp)|exact WI.refl|(refine WI.trunc ?_ (by omega))|(refine WI.set ?_ (.inr (by omega)))|(refine WI.setN ?_ (by omega))|(refine WI.set ?_ (.inl (by simp))))),bK (by simp[dI,dL,c9]) rfl⟩
  simp at hb
  have kP:i=c.inn.length:=by omega
  rw[kP,List.take_length] at hdw
  refine fK (jn @aB @aA) ?_
  refine aY (by simp[-a9];exact Is.rfl) ?_
  exact ⟨2,by omega,1,_,_,_,by omega,fun _=>hdw,fun h=>absurd h (by omega),fun h=>absurd h (by omega),(by repeat' (first|exact d6|exact d6.mono (by simp)|exact WI.refl|(refine WI.trunc ?_ (by omega))|(refine WI.set ?_ (.inr (by omega)))|(refine WI.setN ?_ (by omega))|(refine WI.set ?_ (.inl (by simp))))),bK (by simp[dI,dL];try decide) rfl⟩
 ·refine fK (j5 @aB @aA @eH @nc @jR.eq_def) ?_
  apply WP.loop' (I:=fun D s=>∃ (i c':Nat) (wl:List Nat) (bB:Hp),i+D=c.out.length∧cB o.en (c.out.take i)=0∧WI [] n hp wl bB∧s=⟨[(0,.ptr ic gc 0),(32,.agg [dL (cM c.inn),dL (cM c.out),dL (cM c.loc)]),(33,dI 1),(36,dL (cM c.out)),(37,dI c.out.length),(38,dI i)],bB,n,c',n,wl⟩) (d:=c.out.length)
  ·exact ⟨0,_,_,_,by simp,by simp[cB],d6,bK (by simp[dI,dL]) rfl⟩
  clear d6 eH
  rintro D2 _ ⟨i,c',wl,bB,hi,hdw,d6,rfl⟩
  have eH:=(d6.frame hlc (by simp)).trans hK.co
  refine aDJ (j4 @aB @aA @eH @nc) ?_
  show WP _ _ _ _ _ _
  refine WP.cond _ rfl (fun hb=>?_) (fun hb=>?_)
  ·simp at hb
   have bP:i<c.out.length:=by omega
   obtain ⟨d,hd,d8,bV⟩:=bM bP
   have cG:=eD hd
   have c9:=bE bP (by omega)
   have vV:=bL hd
   have aJC:d.ok:=cC.out d d8
   obtain ⟨nm0,rY⟩:=aFB o.en d.t aJC.1
   rw[hen] at rY
   simp only[dL,dI,dS,dB] at rY
   have yO:=mE o.en (c.out.take i) [d]
   rw[←vV,hdw,if_neg (by simp)] at yO
   have gW:=mE o.en (c.out.take (i+1)) (c.out.drop (i+1))
   rw[List.take_append_drop,yO] at gW
   by_cases h1:0<fG o.en d.t
   case neg=>
    have yN:=eq_false h1
    have hv:cB o.en [d]=10:=by rw[cB,if_pos h1]
    rw[hv,if_pos (by decide)] at gW
    have hz:cB o.en c.out≠0:=by rw[gW];decide
    have hdp:gD o ea c=10:=by rw[show gD o ea c=cB o.en c.out by unfold gD;rw[if_neg (by simp[d0 (by omega)]),if_pos hz],gW]
    rw[hdp]
    rw[decide_eq_false h1] at rY
    refine fK (oR @aB @aA @eH @nc @bV @cG @aR @aH @aI @rY) ?_
    exact ⟨.inr rfl,_,[],rfl,rfl,rfl,(by repeat' (first|exact d6|exact d6.mono (by simp)|exact WI.refl|(refine WI.trunc ?_ (by omega))|(refine WI.set ?_ (.inr (by omega)))|(refine WI.setN ?_ (by omega))|(refine WI.set ?_ (.inl (by simp))))),fun h0=>absurd h0 (by decide)⟩
   rw[decide_eq_true h1] at rY
   by_cases h2:d.ck=[]
   case neg=>
    have tH:(0<d.ck.length)=True:=eq_true (by cases vD:d.ck with|nil=>exact absurd vD h2|cons a r=>simp)
    have aEh:((0:Int)<(d.ck.length:Int))=True:=eq_true (by have:=tH;simp at this;omega)
    have hv:cB o.en [d]=5:=by rw[cB,if_neg (by simp[h1]),if_pos h2]
    rw[hv,if_pos (by decide)] at gW
    have hz:cB o.en c.out≠0:=by rw[gW];decide
    have hdp:gD o ea c=5:=by rw[show gD o ea c=cB o.en c.out by unfold gD;rw[if_neg (by simp[d0 (by omega)]),if_pos hz],gW]
    rw[hdp]
    refine fK (o9 @aB @aA @eH @nc @bV @cG @aR @aH @aI @rY @tH @aEh @nJ) ?_
    exact ⟨.inr rfl,_,[],rfl,rfl,rfl,(by repeat' (first|exact d6|exact d6.mono (by simp)|exact WI.refl|(refine WI.trunc ?_ (by omega))|(refine WI.set ?_ (.inr (by omega)))|(refine WI.setN ?_ (by omega))|(refine WI.set ?_ (.inl (by simp))))),fun h0=>absurd h0 (by decide)⟩
   have hv:cB o.en [d]=0:=by rw[cB,if_neg (by simp[h1]),if_neg (by simp[h2]),cB]
   have tH:(0<d.ck.length)=False:=by rw[h2];simp
   have aEh:((0:Int)<(d.ck.length:Int))=False:=by rw[h2];simp
   refine fK (o9 @aB @aA @eH @nc @bV @cG @aR @aH @aI @rY @tH @aEh @nJ) ?_
   refine aY (by simp[-a9,c9];exact Is.rfl) ?_
   exact ⟨D2 - 1,by omega,i+1,_,_,_,by omega,by rw[yO,hv],(by repeat' (first|exact d6|exact d6.mono (by simp)|exact WI.refl|(refine WI.trunc ?_ (by omega))|(refine WI.set ?_ (.inr (by omega)))|(refine WI.setN ?_ (by omega))|(refine WI.set ?_ (.inl (by simp))))),bK (by simp[dI,dL,c9]) rfl⟩
  simp at hb
  have kP:i=c.out.length:=by omega
  rw[kP,List.take_length] at hdw
  refine fK (jn @aB @aA) ?_
  refine aY (by simp[-a9];exact Is.rfl) ?_
  exact ⟨1,by omega,2,_,_,_,by omega,fun _=>d0 (by omega),fun _=>hdw,fun h=>absurd h (by omega),(by repeat' (first|exact d6|exact d6.mono (by simp)|exact WI.refl|(refine WI.trunc ?_ (by omega))|(refine WI.set ?_ (.inr (by omega)))|(refine WI.setN ?_ (by omega))|(refine WI.set ?_ (.inl (by simp))))),bK (by simp[dI,dL];try decide) rfl⟩
 ·refine fK (j5 @aB @aA @eH @nc @jR.eq_def) ?_
  apply WP.loop' (I:=fun D s=>∃ (i c':Nat) (wl:List Nat) (bB:Hp),i+D=c.loc.length∧cB o.en (c.loc.take i)=0∧WI [] n hp wl bB∧s=⟨[(0,.ptr ic gc 0),(32,.agg [dL (cM c.inn),dL (cM c.out),dL (cM c.loc)]),(33,dI 2),(36,dL (cM c.loc)),(37,dI c.loc.length),(38,dI i)],bB,n,c',n,wl⟩) (d:=c.loc.length)
  ·exact ⟨0,_,_,_,by simp,by simp[cB],d6,bK (by simp[dI,dL]) rfl⟩
  clear d6 eH
  rintro D2 _ ⟨i,c',wl,bB,hi,hdw,d6,rfl⟩
  have eH:=(d6.frame hlc (by simp)).trans hK.co
  refine aDJ (j4 @aB @aA @eH @nc) ?_
  show WP _ _ _ _ _ _
  refine WP.cond _ rfl (fun hb=>?_) (fun hb=>?_)
  ·simp at hb
   have bP:i<c.loc.length:=by omega
   obtain ⟨d,hd,d8,bV⟩:=bM bP
   have cG:=eD hd
   have c9:=bE bP (by omega)
   have vV:=bL hd
   have aJC:d.ok:=cC.loc d d8
   obtain ⟨nm0,rY⟩:=aFB o.en d.t aJC.1
   rw[hen] at rY
   simp only[dL,dI,dS,dB] at rY
   have yO:=mE o.en (c.loc.take i) [d]
   rw[←vV,hdw,if_neg (by simp)] at yO
   have gW:=mE o.en (c.loc.take (i+1)) (c.loc.drop (i+1))
   rw[List.take_append_drop,yO] at gW
   by_cases h1:0<fG o.en d.t
   case neg=>
    have yN:=eq_false h1
    have hv:cB o.en [d]=10:=by rw[cB,if_pos h1]
    rw[hv,if_pos (by decide)] at gW
    have hz:cB o.en c.loc≠0:=by rw[gW];decide
    have hdp:gD o ea c=10:=by rw[show gD o ea c=cB o.en c.loc by unfold gD;rw[if_neg (by simp[d0 (by omega)]),if_neg (by simp[d1 (by omega)]),if_pos hz],gW]
    rw[hdp]
    rw[decide_eq_false h1] at rY
    refine fK (oR @aB @aA @eH @nc @bV @cG @aR @aH @aI @rY) ?_
    exact ⟨.inr rfl,_,[],rfl,rfl,rfl,(by repeat' (first|exact d6|exact d6.mono (by simp)|exact WI.refl|(refine WI.trunc ?_ (by omega))|(refine WI.set ?_ (.inr (by omega)))|(refine WI.setN ?_ (by omega))|(refine WI.set ?_ (.inl (by simp))))),fun h0=>absurd h0 (by decide)⟩
   rw[decide_eq_true h1] at rY
   by_cases h2:d.ck=[]
   case neg=>
    have tH:(0<d.ck.length)=True:=eq_true (by cases vD:d.ck with|nil=>exact absurd vD h2|cons a r=>simp)
    have aEh:((0:Int)<(d.ck.length:Int))=True:=eq_true (by have:=tH;simp at this;omega)
    have hv:cB o.en [d]=5:=by rw[cB,if_neg (by simp[h1]),if_pos h2]
    rw[hv,if_pos (by decide)] at gW
    have hz:cB o.en c.loc≠0:=by rw[gW];decide
    have hdp:gD o ea c=5:=by rw[show gD o ea c=cB o.en c.loc by unfold gD;rw[if_neg (by simp[d0 (by omega)]),if_neg (by simp[d1 (by omega)]),if_pos hz],gW]
    rw[hdp]
    refine fK (o9 @aB @aA @eH @nc @bV @cG @aR @aH @aI @rY @tH @aEh @nJ) ?_
    exact ⟨.inr rfl,_,[],rfl,rfl,rfl,(by repeat' (first|exact d6|exact d6.mono (by simp)|exact WI.refl|(refine WI.trunc ?_ (by omega))|(refine WI.set ?_ (.inr (by omega)))|(refine WI.setN ?_ (by omega))|(refine WI.set ?_ (.inl (by simp))))),fun h0=>absurd h0 (by decide)⟩
   have hv:cB o.en [d]=0:=by rw[cB,if_neg (by simp[h1]),if_neg (by simp[h2]),cB]
   have tH:(0<d.ck.length)=False:=by rw[h2];simp
   have aEh:((0:Int)<(d.ck.length:Int))=False:=by rw[h2];simp
   refine fK (o9 @aB @aA @eH @nc @bV @cG @aR @aH @aI @rY @tH @aEh @nJ) ?_
   refine aY (by simp[-a9,c9];exact Is.rfl) ?_
   exact ⟨D2 - 1,by omega,i+1,_,_,_,by omega,by rw[yO,hv],(by repeat' (first|exact d6|exact d6.mono (by simp)|exact WI.refl|(refine WI.trunc ?_ (by omega))|(refine WI.set ?_ (.inr (by omega)))|(refine WI.setN ?_ (by omega))|(refine WI.set ?_ (.inl (by simp))))),bK (by simp[dI,dL,c9]) rfl⟩
  simp at hb
  have kP:i=c.loc.length:=by omega
  rw[kP,List.take_length] at hdw
  refine fK (jn @aB @aA) ?_
  refine aY (by simp[-a9];exact Is.rfl) ?_
  exact ⟨0,by omega,3,_,_,_,by omega,fun _=>d0 (by omega),fun _=>d1 (by omega),fun _=>hdw,(by repeat' (first|exact d6|exact d6.mono (by simp)|exact WI.refl|(refine WI.trunc ?_ (by omega))|(refine WI.set ?_ (.inr (by omega)))|(refine WI.setN ?_ (by omega))|(refine WI.set ?_ (.inl (by simp))))),bK (by simp[dI,dL];try decide) rfl⟩
 replace d0:=d0 (by omega)
 replace d1:=d1 (by omega)
 replace d2:=d2 (by omega)
 refine fK (j4 @aB @aA @eH @nc) ?_
 apply WP.loop' (I:=fun D s=>∃ (i c':Nat) (wl:List Nat) (bB:Hp),i+D=c.mems.length∧(c.mems.take i).all (fun m=> !(!nZ o.en m))=true∧WI [] n hp wl bB∧s=⟨[(0,.ptr ic gc 0),(64,dL (lF c.mems)),(65,dI c.mems.length),(66,dI i)],bB,n,c',n,wl⟩) (d:=c.mems.length)
 ·exact ⟨0,_,_,_,by simp,by simp,d6,bK (by simp[dI,dL]) rfl⟩
 clear d6 eH hj D
 rintro D _ ⟨i,c',wl,bB,hi,cF,d6,rfl⟩
 have eH:=(d6.frame hlc (by simp)).trans hK.co
 refine aDJ (j4 @aB @aA @eH @nc) ?_
 show WP _ _ _ _ _ _
 refine WP.cond _ rfl (fun hb=>?_) (fun hb=>?_)
 ·simp at hb
  have bP:i<c.mems.length:=by omega
  obtain ⟨d,hd,d8,bV⟩:=bM bP
  have cG:=kI hd
  have c9:=bE bP (by omega)
  have hs:=bZ (p:=fun m=> !(!nZ o.en m)) hd
  have aJC:d.ok:=cC.mems d d8
  have hh:=aKC o.en d.t d.ini aJC.1
  rw[←aLp] at hh
  simp only[dL,dI,dB] at hh
  cases hm:nZ o.en d with
  | false=>
   rw[hm] at hh
   have hdp:gD o ea c=10:=by unfold gD;rw[if_neg (by simp[d0]),if_neg (by simp[d1]),if_neg (by simp[d2]),if_pos (List.any_eq_true.2 ⟨d,d8,by simp[hm]⟩)]
   rw[hdp]
   refine fK (oR @aB @aA @eH @nc @bV @cG @Mm.cells.eq_1 @aH @aI @hh) ?_
   exact ⟨.inr rfl,_,[],rfl,rfl,rfl,(by repeat' (first|exact d6|exact d6.mono (by simp)|exact WI.refl|(refine WI.trunc ?_ (by omega))|(refine WI.set ?_ (.inr (by omega)))|(refine WI.setN ?_ (by omega))|(refine WI.set ?_ (.inl (by simp))))),fun h0=>absurd h0 (by decide)⟩
  | true=>
   rw[hm] at hh
   refine fK (oR @aB @aA @eH @nc @bV @cG @Mm.cells.eq_1 @aH @aI @hh) ?_
   refine aY (by simp[-a9,c9];exact Is.rfl) ?_
   exact ⟨D - 1,by omega,i+1,_,_,_,by omega,by rw[hs,cF,hm];rfl,(by repeat' (first|exact d6|exact d6.mono (by simp)|exact WI.refl|(refine WI.trunc ?_ (by omega))|(refine WI.set ?_ (.inr (by omega)))|(refine WI.setN ?_ (by omega))|(refine WI.set ?_ (.inl (by simp))))),bK (by simp[dI,dL,c9]) rfl⟩
 simp at hb
 have kP:i=c.mems.length:=by omega
 rw[kP,List.take_length] at cF
 have d3:=uV cF
 clear cF hb hi kP
 obtain ⟨F,G,hnm⟩:=fY (C:=fun eW n2=>Ag n hp eW∧n≤n2) (P:=Tryz.prog) (cfg:=Ob.cfg) (f:=107) (vs:=[.ptr ic gc 0]) (v:=dL (eX c.names)) (fun eW n2 c2 hC=>aMF hL eW n2 c2 (hK.ag hC.1 hC.2))
 have aBN:=fun eW n2 c2 a b=>hnm eW n2 c2 ⟨a,b⟩
 have dN:Ag n hp bB=True:=eq_true fun id hi=>d6.frame hi (by simp)
 simp only[dL] at aBN
 refine fK (j7 @aB @aA @eH @nc @rH.eq_1 @aBN @dN) ?_
 have hnl:c.names.length≤8388608:=by unfold Cl.names;simp;omega
 apply WP.loop' (I:=fun D s=>∃ (i c' g:Nat) (wl:List Nat) (bB:Hp),i+D=c.names.length∧tS [] (c.names.take i)=false∧bB.get n=some ⟨g,false,[fW eBo (puts [] (vJ (c.names.take i)))]⟩∧WI [] n hp wl bB∧s=⟨[(0,.ptr ic gc 0),(11,.mp n g),(83,dL (eX c.names)),(84,dI c.names.length),(85,dI i)],bB,n+1,c',n,wl⟩) (d:=c.names.length)
 ·exact ⟨0,_,c',_,_,by simp,by simp[tS],by simp[vJ,puts,fW],(by repeat' (first|exact d6|exact d6.mono (by simp)|exact WI.refl|(refine WI.trunc ?_ (by omega))|(refine WI.set ?_ (.inr (by omega)))|(refine WI.setN ?_ (by omega))|(refine WI.set ?_ (.inl (by simp))))),bK (by simp[dI,dL]) rfl⟩
 clear d6 eH dN
 rintro D _ ⟨i,c',g,wl,bB,hi,cF,aNQ,d6,rfl⟩
 have eH:=(d6.frame hlc (by simp)).trans hK.co
 refine aDJ (j4 @aB @aA @eH @nc) ?_
 show WP _ _ _ _ _ _
 refine WP.cond _ rfl (fun hb=>?_) (fun hb=>?_)
 ·simp at hb
  have bP:i<c.names.length:=by omega
  obtain ⟨x,hx,hxm,bV⟩:=bM bP
  have hx':=sW hx
  have c9:=bE bP (by omega)
  have vV:=bL hx
  have yF:=fun (look:cA) (sz by_:Nat) (zr:Option (List V)) (h:look n=some ⟨g,false,[fW eBo (puts [] (vJ (c.names.take i)))]⟩)=>iO eBo (puts [] (vJ (c.names.take i))) (ok:=false) (z:= .d (.bool false)) (sz:=sz) (by_:=by_) (zr:=zr) (x:=x) h
  rw[aMG] at yF
  have nX:=fun (look:cA) (sz by_:Nat) (zr:Option (List V)) (h:look n=some ⟨g,false,[fW eBo (puts [] (vJ (c.names.take i)))]⟩)=>iM eBo (puts [] (vJ (c.names.take i))) true (w:= .d (.bool true)) (sz:=sz) (by_:=by_) (zr:=zr) (x:=x) rfl h
  have hdu:=aDb (c.names.take i) [x] []
  rw[←vV,cF,List.nil_append,Bool.false_or] at hdu
  have hda:=aDb (c.names.take (i+1)) (c.names.drop (i+1)) []
  rw[List.take_append_drop,hdu] at hda
  by_cases hm:x∈c.names.take i
  ·have hdp:gD o ea c=7:=by
    unfold gD
    rw[if_neg (by simp[d0]),if_neg (by simp[d1]),if_neg (by simp[d2]),if_neg (by rw[d3];decide),if_pos (by rw[hda];simp[tS,hm])]
   rw[hdp]
   simp only[if_pos hm] at yF
   refine fK (qJ @aB @aA @eH @nc @bV @hx' @yF @aNQ @zt4 @eM.eq_1 @eM.eq_2 @eBo.eq_1) ?_
   exact ⟨.inr rfl,_,[],rfl,rfl,rfl,(by repeat' (first|exact d6|exact d6.mono (by simp)|exact WI.refl|(refine WI.trunc ?_ (by omega))|(refine WI.set ?_ (.inr (by omega)))|(refine WI.setN ?_ (by omega))|(refine WI.set ?_ (.inl (by simp))))),fun h0=>absurd h0 (by decide)⟩
  ·simp only[if_neg hm] at yF
   refine fK (qJ @aB @aA @eH @nc @bV @hx' @yF @nX @aNQ @zt4 @eM.eq_1 @eM.eq_2) ?_
   refine aY (by simp[-a9,c9];exact Is.rfl) ?_
   exact ⟨D - 1,by omega,i+1,_,g,_,_,by omega,by rw[hdu];simp[tS,hm],by rw[vV];simp[vJ,fQ],(by repeat' (first|exact d6|exact d6.mono (by simp)|exact WI.refl|(refine WI.trunc ?_ (by omega))|(refine WI.set ?_ (.inr (by omega)))|(refine WI.setN ?_ (by omega))|(refine WI.set ?_ (.inl (by simp))))),bK (by simp[dI,dL,c9]) rfl⟩
 simp at hb
 have kP:i=c.names.length:=by omega
 rw[kP,List.take_length] at cF
 have d4:tS [] c.names≠true:=by rw[cF];decide
 clear cF hb hi kP hnm aBN
 refine fK (j4 @aB @aA @eH @nc) ?_
 apply WP.loop' (I:=fun D s=>∃ (i c':Nat) (wl:List Nat) (bB:Hp),i+D=c.ins.length∧(c.ins.take i).all (fun x=> !(!(dC ea x.cl).2))=true∧bB.get ii=some ⟨gi,false,[fW eC (puts [] (iV ea (c.ins.take i)))]⟩∧WI [ii] n hp wl bB∧s=⟨[(0,.ptr ic gc 0),(99,dL (lV c.ins)),(100,dI c.ins.length),(101,dI i)],bB,n+1,c',n,wl⟩) (d:=c.ins.length)
 ·exact ⟨0,_,_,_,by simp,by simp,by rw[d6.frame hK.li (by simp),hK.ins];rfl,(by repeat' (first|exact d6|exact d6.mono (by simp)|exact WI.refl|(refine WI.trunc ?_ (by omega))|(refine WI.set ?_ (.inr (by omega)))|(refine WI.setN ?_ (by omega))|(refine WI.set ?_ (.inl (by simp))))),bK (by simp[dI,dL]) rfl⟩
 clear d6 eH aNQ
 rintro D _ ⟨i,c',wl,bB,hi,cF,nX,d6,rfl⟩
 have eH:=(d6.frame hlc (by simp;exact hD.c)).trans hK.co
 refine aDJ (j4 @aB @aA @eH @nc) ?_
 show WP _ _ _ _ _ _
 refine WP.cond _ rfl (fun hb=>?_) (fun hb=>?_)
 ·simp at hb
  have bP:i<c.ins.length:=by omega
  obtain ⟨d,hd,d8,bV⟩:=bM bP
  have cG:=nP hd
  have c9:=bE bP (by omega)
  have vV:=bL hd
  have hs:=bZ (p:=fun x:Ii=> !(!(dC ea x.cl).2)) hd
  obtain ⟨F,G,hF⟩:=fY (C:=fun eW n2=>eW.get (n+1)=some ⟨c',false,[dS d.nm,dS d.cl]⟩∧n+1<n2) (P:=Tryz.prog) (cfg:=Ob.cfg) (f:=78) (vs:=[dL (gJ ea),.fn 108 [.ptr (n+1) c' 0]]) (v:= .d (.int .i64 (ixP (fun e:Cl=>decide (e.nm=d.cl)) ea)))
   (fun eW n2 c2 hC=>aMv (p:=fun e:Cl=>decide (e.nm=d.cl)) ea hea eW n2 (fun v hv fX c3 dW=>aOB v fX n2 c3 ((dW (n+1) hC.2).trans hC.1) hC.2) c2)
  have hF':=fun eW n2 c2 a b=>hF eW n2 c2 ⟨a,b⟩
  simp only[dL,dS] at hF'
  rcases wH (fun e:Cl=>decide (e.nm=d.cl)) ea with ⟨k,e,he,hn1,he2⟩|hn1
  ·have hf:dC ea d.cl=(e,true):=by unfold dC;rw[m8 hn1 he he2]
   rw[kZ hn1 he he2] at hF'
   have hkl:k<ea.length:=(List.getElem?_eq_some_iff.1 he).1
   have aZl:=kX hkl
   have he':=lH he
   have hnn:((k:Int)<0)=False:=eq_false (by omega)
   have aZm:=fun (look:cA) (sz by_:Nat) (zr:Option (List V)) (h:look ii=some ⟨gi,false,[fW eC (puts [] (iV ea (c.ins.take i)))]⟩)=>iM eC (puts [] (iV ea (c.ins.take i))) e (w:= .agg [V.d (.str e.nm),V.d (.slice (cM e.inn)),V.d (.slice (cM e.out)),V.d (.slice (cM e.loc)),V.d (.slice (lF e.mems)),V.d (.slice (lV e.ins)),V.d (.slice (dM e.step))]) (sz:=sz) (by_:=by_) (zr:=zr) (x:=d.nm) rfl h
   have hii:=hK.li
   have rZ:(ii<n+2)=True:=eq_true (by omega)
   have hi1:(ii<n+1)=True:=eq_true (by omega)
   refine fK (vP @aB @aA @eH @nc @ni @bV @cG @Ii.cells.eq_1 @aH @aI @hF' @hnn @aZl @he' @aK @nX @aZm @rZ) ?_
   refine aY (by simp[-a9,c9];exact Is.rfl) ?_
   exact ⟨D - 1,by omega,i+1,_,_,_,by omega,by rw[hs,cF,hf];rfl,by rw[vV];simp[iV,fQ,hf,hi1],(by repeat' (first|exact d6|exact d6.mono (by simp)|exact WI.refl|(refine WI.trunc ?_ (by omega))|(refine WI.set ?_ (.inr (by omega)))|(refine WI.setN ?_ (by omega))|(refine WI.set ?_ (.inl (by simp))))),bK (by simp[dI,dL,c9]) rfl⟩
  ·have hf:dC ea d.cl=(clZ,false):=by unfold dC;rw[lL hn1]
   rw[kU hn1] at hF'
   have hdp:gD o ea c=6:=by
    unfold gD
    rw[if_neg (by simp[d0]),if_neg (by simp[d1]),if_neg (by simp[d2]),if_neg (by rw[d3];decide),if_neg d4,if_pos (List.any_eq_true.2 ⟨d,d8,by simp[hf]⟩)]
   rw[hdp]
   refine fK (u7 @aB @aA @eH @nc @ni @bV @cG @Ii.cells.eq_1 @aH @aI @hF') ?_
   exact ⟨.inr rfl,_,[],rfl,rfl,rfl,(by repeat' (first|exact d6|exact d6.mono (by simp)|exact WI.refl|(refine WI.trunc ?_ (by omega))|(refine WI.set ?_ (.inr (by omega)))|(refine WI.setN ?_ (by omega))|(refine WI.set ?_ (.inl (by simp))))),fun h0=>absurd h0 (by decide)⟩
 simp at hb
 have kP:i=c.ins.length:=by omega
 rw[kP,List.take_length] at cF nX
 have hdp:gD o ea c=0:=by
  unfold gD
  rw[if_neg (by simp[d0]),if_neg (by simp[d1]),if_neg (by simp[d2]),if_neg (by rw[d3];decide),if_neg d4,if_neg (by rw[uV cF];decide)]
 rw[hdp]
 refine fK (j4 @aB @aA @eH @nc) ?_
 refine ⟨.inr rfl,_,[],rfl,rfl,rfl,(by repeat' (first|exact d6|exact d6.mono (by simp)|exact WI.refl|(refine WI.trunc ?_ (by omega))|(refine WI.set ?_ (.inr (by omega)))|(refine WI.setN ?_ (by omega))|(refine WI.set ?_ (.inl (by simp))))),fun _=>?_⟩
 have fr:∀ j,j<n→j≠ii→(Hp.trunc n bB).get j=hp.get j:=fun j hj hne=>by rw[Hp.get_trunc _ _ _ hj];exact d6.frame hj (by simp;exact hne)
 exact ⟨(fr _ hK.lc hD.c).trans hK.co,(fr _ hK.lv hD.v).trans hK.vars,(fr _ hK.lp hD.p).trans hK.ports,(fr _ hK.lm hD.m).trans hK.mems,by rw[Hp.get_trunc _ _ _ hK.li];exact nX,hK.lc,hK.lv,hK.lp,hK.lm,hK.li⟩
end
end Go.Ac
end
section
set_option maxRecDepth 4000
namespace Go.Ac
open Go.Proofs
attribute [local simp] Hp.get_set cY cE cN bW
theorem aXX (r:Nat):Ob.keep 30 r=Ob.k30 r:=by kernel_rfl
attribute [local simp] aXX Ob.k30
theorem WP.gen3 {fid:FuncId} {code:Code} {e:oH} {hp:Hp} {n c n0:Nat} {wl:List Nat} {Q:Ex→St→Prop}
  (h:∀ bB c' wl',bB=hp→wl'=wl→WP Tryz.prog Ob.cfg fid code ⟨e,bB,n,c',n0,wl'⟩ Q):WP Tryz.prog Ob.cfg fid code ⟨e,hp,n,c,n0,wl⟩ Q:=h hp c wl rfl rfl
def aFQ (o:Oc) (ea:List Cl) (c:Cl):Int:=
 if ea.any (fun d=>decide (d.nm=c.nm))=true then 7
 else if gD o ea c≠0 then gD o ea c
 else if fU o c [] [] c.step≠0 then fU o c [] [] c.step
 else if c.out.any (fun d=> !vQ d.nm true [] c.step)=true then 22 else 0
structure KF (o:Oc) (ea:List Cl) (c:Cl) (lv:List (Tx×Int)) (lp:List (Tx×Bool)) (lm:List (Tx×Int)) (li:List (Tx×Cl)):Prop where
 vars:∀ x,eS lv x=if dF c x=0 then none else some (dF c x)
 ports:∀ x,eS lp x=if kN c x=0 then none else some true
 mems:∀ x,eS lm x=if eO c.mems x=0 then none else some (eO c.mems x)
 ins:∀ x,eS li x=if (fD c.ins o.cl x).2=true then some (fD c.ins o.cl x).1 else none
 kw:KW o c
 pos:∀ x,dF c x≠0→0<fG o.en (dF c x)
section
variable {ic gc iv gv ip gp im gm ii gi:Nat} {o:Oc} {ea:List Cl} {c:Cl} {lv lm:List (Tx×Int)} {lp:List (Tx×Bool)} {li:List (Tx×Cl)}
theorem KG.at {hp:Hp} {n:Nat} (h:KG ic gc iv gv ip gp im gm ii gi o ea c lv lp lm li hp n) (f:KF o ea c lv lp lm li):KAt ic gc iv gv ip gp im gm ii gi o ea c hp n:=
 ⟨h.co,⟨lv,h.vars,f.vars⟩,⟨lp,h.ports,f.ports⟩,⟨lm,h.mems,f.mems⟩,⟨li,h.ins,f.ins⟩,h.lc,h.lv,h.lp,h.lm,h.li⟩
theorem KG.same {hp bB:Hp} {n:Nat} (h:KG ic gc iv gv ip gp im gm ii gi o ea c lv lp lm li hp n) (hs:∀ j,j<n→(hp.get j).isSome=true→bB.get j=hp.get j):KG ic gc iv gv ip gp im gm ii gi o ea c lv lp lm li bB n:=
 ⟨(hs _ h.lc (by rw[h.co];rfl)).trans h.co,(hs _ h.lv (by rw[h.vars];rfl)).trans h.vars,(hs _ h.lp (by rw[h.ports];rfl)).trans h.ports,(hs _ h.lm (by rw[h.mems];rfl)).trans h.mems,(hs _ h.li (by rw[h.ins];rfl)).trans h.ins,h.lc,h.lv,h.lp,h.lm,h.li⟩
set_option maxHeartbeats 8000000 in
theorem aOM (hen:∀ t,oL o.en t=decide (0<fG o.en t)) (hea:ea.length≤MX) (hL:CLen c) (cC:c.ok) (hst:iG c.step≤8388600) (hp:Hp) (n cc:Nat) (hD:KD ic iv ip im ii) (hK:KG ic gc iv gv ip gp im gm ii gi o ea c lv lp lm [] hp n) (hF:gD o ea c=0→KF o ea c lv lp lm (puts [] (iV ea c.ins))):
  yL Tryz.prog Ob.cfg 30 [.ptr ic gc 0] hp n cc (dI (aFQ o ea c)) [ii] (fun _=>True):=by
 have hLs:=hL.sum
 have eH:=hK.co
 have nc:=nf hK.lc
 have ni:=nf hK.li
 have hlc:=hK.lc
 have vO:=hK.li
 obtain ⟨F1,G1,hF1⟩:=fY (C:=fun eW n2=>Ag n hp eW∧eW.get n=some ⟨cc,false,[.ptr ic gc 0]⟩∧n<n2) (P:=Tryz.prog) (cfg:=Ob.cfg) (f:=67) (vs:=[dL (gJ ea),.fn 68 [.ptr n cc 0]]) (v:= .d (.bool (ea.any fun d=>decide (d.nm=c.nm))))
  (fun eW n2 c2 hC=>aJm (p:=fun d=>decide (d.nm=c.nm)) ea hea eW n2 (fun v hv fX c3 dW=>aOl v fX n2 c3 ((hK.ag hC.1 (by omega)).ag dW (Nat.le_refl _)) ((dW n hC.2.2).trans hC.2.1) hC.2.2) c2)
 have aNR:=fun eW n2 c2 a b d=>hF1 eW n2 c2 ⟨a,b,d⟩
 simp only[dL] at aNR
 refine oP Tryz.func30 rfl (by kernel_rfl) rfl ?_
 have d6:WI [] n hp [] hp:=WI.refl
 unfold aFQ
 cases h7:ea.any (fun d=>decide (d.nm=c.nm)) with
 | true=>
  rw[h7] at aNR
  rw[if_pos rfl]
  refine bN (j7 @aN @aO @aB @aA @eH @nc @aNR) ?_
  exact ⟨.inr rfl,_,[],rfl,rfl,rfl,(WI.refl.set (.inr (Nat.le_refl _))),trivial⟩
 | false=>
 rw[h7] at aNR
 rw[if_neg (by decide)]
 refine bN (j7 @aN @aO @aB @aA @eH @nc @aNR) ?_
 apply WP.gen3
 intro n9 c1 wl1 eG iT
 have jI:n9.get n=some ⟨cc,false,[.ptr ic gc 0]⟩:=by rw[eG];simp
 have aCv:WI [] n hp wl1 n9:=by rw[eG,iT];repeat' (first|exact d6|exact d6.mono (by simp)|exact WI.refl|(refine WI.trunc ?_ (by omega))|(refine WI.set ?_ (.inr (by omega)))|(refine WI.setN ?_ (by omega))|(refine WI.set ?_ (.inl (by simp))))
 have hK1:KG ic gc iv gv ip gp im gm ii gi o ea c lv lp lm [] n9 (n+1):=hK.ag (fun id hi=>aCv.frame hi (by simp)) (by omega)
 clear eG iT d6
 have d6:=aCv
 obtain ⟨q,lZ,hv,hn,rX,lY,lD,yH,mY,dD⟩:=(aIO (cc:=c1) hen hea hL cC n9 (n+1) hD hK1).caller (by intro j hj;simp at hj;omega)
 have hwq:∀ (W:List Nat) (H:Hp),WI [] n hp W H→WI [ii] n hp (a9 n W (sK q (n+1))) (H.sets (sK q (n+1))):=fun W H h=>(h.mono (by simp)).sets fun p bB=> .inl (lY p.1 (List.mem_map.2 ⟨p,bB,rfl⟩))
 simp only[dI] at hv
 by_cases hz:gD o ea c=0
 case neg=>
  have mK:=eq_false hz
  rw[if_pos hz]
  have d6:=hwq _ _ d6
  refine bN (j7 @aB @aA @jI @hv @hn @aV @mK) ?_
  exact ⟨.inr rfl,_,[],rfl,rfl,rfl,(by repeat' (first|exact d6|exact d6.mono (by simp)|exact WI.refl|(refine WI.trunc ?_ (by omega))|(refine WI.set ?_ (.inr (by omega)))|(refine WI.setN ?_ (by omega))|(refine WI.set ?_ (.inl (by simp))))),trivial⟩
 rw[if_neg (by simp[hz])]
 rw[hz] at hv
 have hf:=hF hz
 refine bN (j6 @aB @aA @jI @hv @hn @aV) ?_
 apply WP.gen3
 intro eW c2 wl2 eG iT
 have hK2:KG ic gc iv gv ip gp im gm ii gi o ea c lv lp lm (puts [] (iV ea c.ins)) eW (n+1):=(mY hz).same fun j hj hs=>by rw[eG];exact dD j hj hs
 have n8:eW.get n=some ⟨cc,false,[.ptr ic gc 0]⟩:=by rw[eG,lD n (by omega) (by simp;omega)];exact jI
 have aWh:WI [ii] n hp wl2 eW:=by rw[eG,iT];exact hwq _ _ d6
 clear eG iT d6 aCv lZ rX lY lD mY dD hwq hv hn hK1 jI n9 yH
 have d6:=aWh
 have hKA:=hK2.at hf
 have eH:=hK2.co
 obtain ⟨F2,G2,hr⟩:=(aMO (N:=iG c.step) (ic:=ic) (gc:=gc) (iv:=iv) (gv:=gv) (ip:=ip) (gp:=gp) (im:=im) (gm:=gm) (ii:=ii) (gi:=gi) (ea:=ea) (aRh hf.kw hf.pos _) hf.kw hf.pos c.step (Nat.lt_succ_self _) trivial hst cC.step).fn hKA
 simp only[dI,dL] at hr
 by_cases hl:fU o c [] [] c.step=0
 case neg=>
  have hl':=eq_false hl
  rw[if_pos hl]
  refine bN (oR @aB @aA @n8 @eH @nc @aH @aI @hr @aV @hl') ?_
  exact ⟨.inr rfl,_,[],rfl,rfl,rfl,(by repeat' (first|exact d6|exact d6.mono (by simp)|exact WI.refl|(refine WI.trunc ?_ (by omega))|(refine WI.set ?_ (.inr (by omega)))|(refine WI.setN ?_ (by omega))|(refine WI.set ?_ (.inl (by simp))))),trivial⟩
 rw[if_neg (by simp[hl])]
 rw[hl] at hr
 have hnb:nbB [c.step]=true:=by rw[nbB,aNi hf.pos _ c.step [] [] (Nat.lt_succ_self _) hl,nbB];rfl
 have aWi:=fun nm=>zE nm false [] [c.step] (by simp[MX]) hnb (by simp;omega)
 simp only[pP,dL,dS,dB,show iJ []=[] from rfl,show iL [c.step]=[[.slice (dM c.step)]] from by simp[iL],show [c.step].flatten=c.step from by simp,Bool.not_false] at aWi
 refine bN (qJ @aB @aA @n8 @eH @nc @aH @aI @hr @aV @aP @aQ @iE.eq_def) ?_
 apply WP.loop' (I:=fun D s=>∃ (i c' g1 g2:Nat) (wl:List Nat) (bB:Hp),i+D=c.out.length∧(c.out.take i).all (fun d=> !(!vQ d.nm true [] c.step))=true∧bB.get (n+1)=some ⟨g1,false,[.d (.slice (dM c.step))]⟩∧bB.get (n+2)=some ⟨g2,false,[.full [],.osl (n+1) g1 0 1 1 (some 1)]⟩∧WI [ii] n hp wl bB∧s=⟨[(5,.ptr (n+2) g2 0),(41,dL (cM c.out)),(42,dI c.out.length),(43,dI i)],bB,n+3,c',n,wl⟩) (d:=c.out.length)
 ·exact ⟨0,_,_,_,_,_,by simp,by simp,by simp;rfl,by simp;rfl,(by repeat' (first|exact d6|exact d6.mono (by simp)|exact WI.refl|(refine WI.trunc ?_ (by omega))|(refine WI.set ?_ (.inr (by omega)))|(refine WI.setN ?_ (by omega))|(refine WI.set ?_ (.inl (by simp))))),bK (by simp[dI,dL];try exact ⟨rfl,rfl⟩) rfl⟩
 clear d6 aWh
 rintro D _ ⟨i,c',g1,g2,wl,bB,hi,cF,jI,n8,d6,rfl⟩
 refine iX (jn @aB @aA) ?_
 show WP _ _ _ _ _ _
 refine WP.cond _ rfl (fun hb=>?_) (fun hb=>?_)
 ·simp at hb
  have bP:i<c.out.length:=by omega
  obtain ⟨d,hd,d8,bV⟩:=bM bP
  have cG:=eD hd
  have c9:=bE bP (by omega)
  have hs:=bZ (p:=fun d:Dc=> !(!vQ d.nm true [] c.step)) hd
  have ha:=aWi d.nm
  cases has:vQ d.nm true [] c.step with
  | false=>
   rw[has] at ha
   rw[if_pos (List.any_eq_true.2 ⟨d,d8,by simp[has]⟩)]
   refine bN (sG @aB @aA @bV @cG @aR @aH @aI @jI @n8 @bG @b8 @iH.eq_1 @iH.eq_2 @eL.eq_1 @eL.eq_2 @bH @ha) ?_
   exact ⟨.inr rfl,_,[],rfl,rfl,rfl,(by repeat' (first|exact d6|exact d6.mono (by simp)|exact WI.refl|(refine WI.trunc ?_ (by omega))|(refine WI.set ?_ (.inr (by omega)))|(refine WI.setN ?_ (by omega))|(refine WI.set ?_ (.inl (by simp))))),trivial⟩
  | true=>
   rw[has] at ha
   refine bN (sG @aB @aA @bV @cG @aR @aH @aI @jI @n8 @bG @b8 @iH.eq_1 @iH.eq_2 @eL.eq_1 @eL.eq_2 @bH @ha) ?_
   refine aY (by simp[-a9,c9];exact Is.rfl) ?_
   exact ⟨D - 1,by omega,i+1,_,g1,g2,_,_,by omega,by rw[hs,cF,has];rfl,by simp[jI],by simp[n8],(by repeat' (first|exact d6|exact d6.mono (by simp)|exact WI.refl|(refine WI.trunc ?_ (by omega))|(refine WI.set ?_ (.inr (by omega)))|(refine WI.setN ?_ (by omega))|(refine WI.set ?_ (.inl (by simp))))),bK (by simp[dI,dL,c9]) rfl⟩
 simp at hb
 have kP:i=c.out.length:=by omega
 rw[kP,List.take_length] at cF
 rw[if_neg (by rw[uV cF];decide)]
 refine bN (jn @aB @aA) ?_
 exact ⟨.inr rfl,_,[],rfl,rfl,rfl,(by repeat' (first|exact d6|exact d6.mono (by simp)|exact WI.refl|(refine WI.trunc ?_ (by omega))|(refine WI.set ?_ (.inr (by omega)))|(refine WI.setN ?_ (by omega))|(refine WI.set ?_ (.inl (by simp))))),trivial⟩
end
end Go.Ac
end
section
set_option maxRecDepth 4000
namespace Go.Ac
open Go.Proofs
theorem aAT:∀ (l p:List Tx),tS p l=false→l.Nodup∧∀ x,x∈l→x∉p
 | [],p,_=>⟨List.nodup_nil,fun x h=>by cases h⟩
 | x::r,p,h=>by
  rw[tS,Bool.or_eq_false_iff] at h
  obtain ⟨h1,h2⟩:=aAT r (p++[x]) h.2
  have h0:x∉p:=by simpa using h.1
  refine ⟨List.nodup_cons.2 ⟨fun hm=>absurd (List.mem_append_right p (List.mem_singleton.2 rfl)) (h2 x hm),h1⟩,fun y hy=>?_⟩
  rcases List.mem_cons.1 hy with rfl|hy
  ·exact h0
  ·exact fun hp=>h2 y hy (List.mem_append_left _ hp)
theorem aIN (en:List En):fG en 0=0:=by
 unfold fG eAt inE;simp
theorem uR {en:List En} {t:Int} (h:0<fG en t):t≠0:=fun e=>by rw[e,aIN] at h;omega
theorem aIz {en:List En} (hen:∀ u,u∈en→pI u=false) (t:Int):oL en t=decide (0<fG en t):=by
 unfold oL fG
 by_cases h1:t=1
 ·simp[h1]
 by_cases h2:t=2
 ·simp[h2]
 rw[if_neg h1,if_neg h2]
 cases hi:inE en t with
 | false=>unfold eAt;rw[hi];simp[h1,h2]
 | true=>
  have eU:(t - 3).toNat<en.length:=by unfold inE at hi;simp at hi;omega
  have he:eAt en t=en[(t - 3).toNat]:=by unfold eAt;rw[hi,if_pos rfl];simp[List.getD,eU]
  have hb:=hen _ (List.getElem_mem eU)
  rw[he]
  unfold pI at hb
  simp[h1,h2] at hb ⊢
  have:=hb.1
  cases hq:en[(t - 3).toNat].tags with
  | nil=>exact absurd hq this
  | cons a r=>simp
theorem rB {en:List En}:∀ {l:List Dc},cB en l=0→∀ d,d∈l→0<fG en d.t
 | [],_,d,h=>by cases h
 | e::r,h,d,hd=>by
  rw[cB] at h
  split at h
  ·cases h
  ·rename_i h1
   split at h
   ·cases h
   ·rcases List.mem_cons.1 hd with rfl|hd
    ·omega
    ·exact rB h d hd
section
variable {α:Type}
theorem aGO (x:Tx):∀ (ds l:List (Tx×α)),eS (puts l ds) x=(eS ds.reverse x).or (eS l x)
 | [],l=>by simp[puts,eS]
 | p::r,l=>by
  rw[puts,aGO x r,aDd,List.reverse_cons,wF]
  by_cases h:x=p.1
  ·subst h
   rw[if_pos rfl]
   have:eS [p] p.1=some p.2:=by simp[eS]
   rw[this]
   cases eS r.reverse p.1 <;> simp
  ·rw[if_neg h]
   have:eS [p] x=none:=by
    have hd:decide (p.1=x)=false:=by simp;exact fun e=>h e.symm
    simp[eS,List.find?_cons,hd]
   rw[this]
   cases eS r.reverse x <;> simp
theorem aAG {l:List (Tx×α)} {x:Tx} {v:α} (h:eS l x=some v):(x,v)∈l:=by
 unfold eS at h
 cases hf:List.find? (fun p=>decide (p.1=x)) l with
 | none=>rw[hf] at h;cases h
 | some p=>
  rw[hf] at h
  have h1:=List.mem_of_find?_eq_some hf
  have h2:=List.find?_some hf
  simp at h h2
  rw[←h2,←h];exact h1
theorem aEW {l:List (Tx×α)} {x:Tx} (h:eS l x=none):∀ v,(x,v)∉l:=by
 intro v hm
 unfold eS at h
 simp at h
 exact h x v hm rfl
theorem aKT {l:List (Tx×α)} (hn:(l.map (·.1)).Nodup) {x:Tx} {v w:α} (h1:(x,v)∈l) (h2:(x,w)∈l):v=w:=by
 induction l with
 | nil=>cases h1
 | cons p r ih=>
  rw[List.map_cons,List.nodup_cons] at hn
  rcases List.mem_cons.1 h1 with e1|m1
  ·rcases List.mem_cons.1 h2 with e2|m2
   ·rw[←e1] at e2;exact (Prod.mk.inj e2).2.symm
   ·exact absurd (List.mem_map.2 ⟨_,m2,by rw[←e1]⟩) hn.1
  ·rcases List.mem_cons.1 h2 with e2|m2
   ·exact absurd (List.mem_map.2 ⟨_,m1,by rw[←e2]⟩) hn.1
   ·exact ih hn.2 m1 m2
theorem aIQ {l:List (Tx×α)} (hn:(l.map (·.1)).Nodup) (x:Tx):eS l.reverse x=eS l x:=by
 cases h:eS l x with
 | none=>
  cases h2:eS l.reverse x with
  | none=>rfl
  | some v=>exact absurd (List.mem_reverse.1 (aAG h2)) (aEW h v)
 | some v=>
  cases h2:eS l.reverse x with
  | none=>exact absurd (List.mem_reverse.2 (aAG h)) (aEW h2 v)
  | some w=>rw[aKT hn (List.mem_reverse.1 (aAG h2)) (aAG h)]
theorem xL {l:List (Tx×α)} (hn:(l.map (·.1)).Nodup) (x:Tx):eS (puts [] l) x=eS l x:=by
 rw[aGO,aIQ hn];simp[eS]
end
theorem aGp {l:List Dc} (h:∀ d,d∈l→d.t≠0) (x:Tx):eS (dV l) x=if fI l x=0 then none else some (fI l x):=by
 unfold eS dV fI
 rw[List.find?_map]
 rw[show ((fun p=>decide (p.1=x))∘fun d:Dc=>(d.nm,d.t))=fun d:Dc=>decide (d.nm=x) from rfl]
 cases hf:List.find? (fun d:Dc=>decide (d.nm=x)) l with
 | none=>rfl
 | some d=>
  have:=h d (List.mem_of_find?_eq_some hf)
  simp[this]
theorem aJK {l:List Dc} (h:∀ d,d∈l→d.t≠0) (x:Tx):eS (dP l) x=if fI l x=0 then none else some true:=by
 unfold eS dP fI
 rw[List.find?_map]
 rw[show ((fun p=>decide (p.1=x))∘fun d:Dc=>(d.nm,true))=fun d:Dc=>decide (d.nm=x) from rfl]
 cases hf:List.find? (fun d:Dc=>decide (d.nm=x)) l with
 | none=>rfl
 | some d=>
  have:=h d (List.mem_of_find?_eq_some hf)
  simp[this]
theorem aOO {l:List Mm} (h:∀ d,d∈l→d.t≠0) (x:Tx):eS (mV l) x=if eO l x=0 then none else some (eO l x):=by
 unfold eS mV eO
 rw[List.find?_map]
 rw[show ((fun p=>decide (p.1=x))∘fun d:Mm=>(d.nm,d.t))=fun d:Mm=>decide (d.nm=x) from rfl]
 cases hf:List.find? (fun d:Mm=>decide (d.nm=x)) l with
 | none=>rfl
 | some d=>
  have:=h d (List.mem_of_find?_eq_some hf)
  simp[this]
theorem kC {l:List Dc} {x:Tx} (h:fI l x≠0):∃ d,d∈l∧d.nm=x∧fI l x=d.t:=by
 unfold fI at h ⊢
 cases hf:List.find? (fun d:Dc=>decide (d.nm=x)) l with
 | none=>rw[hf] at h;exact absurd rfl h
 | some d=>exact ⟨d,List.mem_of_find?_eq_some hf,by simpa using List.find?_some hf,rfl⟩
theorem aLB {l:List Dc} (h:∀ d,d∈l→d.t≠0) (x:Tx):l.any (fun d=>decide (d.nm=x))=decide (fI l x≠0):=by
 unfold fI
 cases hf:List.find? (fun d:Dc=>decide (d.nm=x)) l with
 | none=>
  have:=List.find?_eq_none.1 hf
  simp only[ne_eq,not_true_eq_false,decide_false]
  rw[List.any_eq_false];exact this
 | some d=>
  have h1:=h d (List.mem_of_find?_eq_some hf)
  have h2:=List.find?_some hf
  simp only[ne_eq,h1,not_false_eq_true,decide_true]
  exact List.any_eq_true.2 ⟨d,List.mem_of_find?_eq_some hf,h2⟩
theorem aDn {l:List Cl} {i:Nat} {x:Tx} (h:(dC (l.take i) x).2=true):dC l x=dC (l.take i) x:=by
 unfold dC at*
 cases hf:List.find? (fun d:Cl=>decide (d.nm=x)) (l.take i) with
 | none=>rw[hf] at h;cases h
 | some d=>
  have:List.find? (fun d:Cl=>decide (d.nm=x)) l=some d:=by
   rw[←List.take_append_drop i l,List.find?_append,hf];rfl
  rw[this]
set_option maxHeartbeats 1000000 in
theorem aUg {o:Oc} {i:Nat} {c:Cl} (cC:c.ok) (e9:c.inn.length≤MX) (h:gD o (o.cl.take i) c=0):
  KF o (o.cl.take i) c (puts (puts (puts [] (dV c.inn)) (dV c.out)) (dV c.loc)) (puts (puts [] (dP c.out)) (dP c.loc)) (puts [] (mV c.mems)) (puts [] (iV (o.cl.take i) c.ins)):=by
 unfold gD at h
 split at h
 ·rename_i hne;exact absurd h hne
 rename_i e1
 split at h
 ·rename_i hne;exact absurd h hne
 rename_i e2
 split at h
 ·rename_i hne;exact absurd h hne
 rename_i e3
 split at h
 ·cases h
 rename_i e4
 split at h
 ·cases h
 rename_i e5
 split at h
 ·cases h
 rename_i e6
 have s1:=rB (show cB o.en c.inn=0 by simpa using e1)
 have s2:=rB (show cB o.en c.out=0 by simpa using e2)
 have s3:=rB (show cB o.en c.loc=0 by simpa using e3)
 have s4:∀ m,m∈c.mems→m.t≠0:=fun m hm=>by
  have:nZ o.en m=true:=by
   cases hq:nZ o.en m with
   | true=>rfl
   | false=>exact absurd (List.any_eq_true.2 ⟨m,hm,by simp[hq]⟩) e4
  unfold nZ at this
  simp at this
  exact uR this.1
 have s6:∀ x,x∈c.ins→(dC (o.cl.take i) x.cl).2=true:=fun x hx=>by
  cases hq:(dC (o.cl.take i) x.cl).2 with
  | true=>rfl
  | false=>exact absurd (List.any_eq_true.2 ⟨x,hx,by simp[hq]⟩) e6
 have z1:=fun d hd=>uR (s1 d hd)
 have z2:=fun d hd=>uR (s2 d hd)
 have z3:=fun d hd=>uR (s3 d hd)
 have mB:=(aAT c.names [] (by simpa using e5)).1
 unfold Cl.names at mB
 obtain ⟨n1,nI,dI1⟩:=List.nodup_append.1 mB
 obtain ⟨n2,nM,dM1⟩:=List.nodup_append.1 n1
 obtain ⟨n3,nL,dL1⟩:=List.nodup_append.1 n2
 obtain ⟨nN,nO,dO1⟩:=List.nodup_append.1 n3
 have hA:((dV c.inn++dV c.out++dV c.loc).map (·.1)).Nodup:=by
  simpa [dV,Function.comp_def] using n2
 rw[List.append_assoc] at hA
 have hP:((dP c.out++dP c.loc).map (·.1)).Nodup:=by
  have:(c.out.map Dc.nm++c.loc.map Dc.nm).Nodup:=by
   rw[List.append_assoc] at n2
   exact (List.nodup_append.1 n2).2.1
  simpa [dP,Function.comp_def] using this
 have aGC:∀ x,kN c x≠0→fI c.inn x=0:=by
  intro x hs
  by_cases hz:fI c.inn x=0
  ·exact hz
  obtain ⟨d,hd,hdn,_⟩:=kC hz
  have hx:x∈c.inn.map Dc.nm:=List.mem_map.2 ⟨d,hd,hdn⟩
  unfold kN at hs
  split at hs
  ·obtain ⟨e,he,hen,_⟩:=kC hs
   exact absurd rfl (dL1 x (List.mem_append_left _ hx) x (List.mem_map.2 ⟨e,he,hen⟩))
  ·rename_i hs2
   obtain ⟨e,he,hen,_⟩:=kC hs2
   exact absurd rfl (dO1 x hx x (List.mem_map.2 ⟨e,he,hen⟩))
 have sI:∀ x,dF c x≠0→0<fG o.en (dF c x):=by
  intro x hg
  unfold dF at hg ⊢
  split at hg
  ·rename_i h0
   rw[if_pos h0]
   unfold kN at hg ⊢
   split at hg
   ·rename_i h1
    rw[if_pos h1]
    obtain ⟨d,hd,_,e⟩:=kC hg
    rw[e];exact s3 d hd
   ·rename_i h1
    rw[if_neg h1]
    obtain ⟨d,hd,_,e⟩:=kC h1
    rw[e];exact s2 d hd
  ·rename_i h0
   rw[if_neg h0]
   obtain ⟨d,hd,_,e⟩:=kC h0
   rw[e];exact s1 d hd
 refine ⟨fun x=>?_,fun x=>?_,fun x=>?_,fun x=>?_,⟨aLB z1,fun x hs=>?_,aHv cC,e9⟩,sI⟩
 ·rw[←pJ,←pJ,xL hA,wF,wF,aGp z1,aGp z2,aGp z3]
  unfold dF kN
  by_cases h1:fI c.inn x=0 <;> by_cases h2:fI c.out x=0 <;> by_cases h3:fI c.loc x=0 <;> simp[h1,h2,h3]
 ·rw[←pJ,xL hP,wF,aJK z2,aJK z3]
  unfold kN
  by_cases h2:fI c.out x=0 <;> by_cases h3:fI c.loc x=0 <;> simp[h2,h3]
 ·rw[xL (by simpa [mV,Function.comp_def] using nM),aOO s4]
 ·rw[xL (by simpa [iV,Function.comp_def] using nI)]
  unfold eS iV fD
  rw[List.find?_map]
  rw[show ((fun p=>decide (p.1=x))∘fun d:Ii=>(d.nm,(dC (o.cl.take i) d.cl).1))=fun d:Ii=>decide (d.nm=x) from rfl]
  cases hf:List.find? (fun d:Ii=>decide (d.nm=x)) c.ins with
  | none=>rfl
  | some d=>
   have:=s6 d (List.mem_of_find?_eq_some hf)
   have h2:=aDn this
   simp only[Option.map_some,h2,this,if_true]
 ·unfold dF;rw[if_pos (aGC x hs)]
theorem aLl (o:Oc) (i:Nat) (c:Cl):aFQ o (o.cl.take i) c=m5 o i c:=by
 unfold aFQ m5 aAD gD
 cases (o.cl.take i).any (fun d=>decide (d.nm=c.nm)) <;> simp
end Go.Ac
end
