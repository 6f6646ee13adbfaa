/- From a call by data to the given statements: object code, names, rows, memories. -/
import Derived.Test.YtkgekafdhehleaaGreatObRM
import Derived.WalkKit
import Derived.ProofKit
import Derived.OpenShut
import Derived.JoinedCond
import Derived.Below
set_option linter.unusedVariables false
set_option linter.unusedSimpArgs false
section
set_option maxRecDepth 4000
namespace Go.Ac
open Go.Proofs Go.ChangeShapes Go.WideShapes Go.RowKit
open Go.Proofs.YtkgekafdhehleaaGreat (Rows.uptoBulk Rows.uptoBulkAll Rows.uptoSmall)
theorem aOT:aCK Tryz.prog:=by
 have h:(Tryz.prog.funcs.toList.all fun fn=> !(fn.name== "runtime.NumGoroutine"))=true:=by kernel_rfl
 intro f fn hf _
 rw[List.all_eq_true] at h
 have:=h fn (List.mem_of_getElem? (by rw[Array.getElem?_toList];exact hf))
 simpa using this
theorem aOR:∀ f p,Ob.cfg.prim f=some p→nH Tryz.prog f p.1 p.2:=by
 intro f p h
 simp only[aJQ,Ob.prim] at h
 split at h
 ·simp at h;subst h
  exact nH.of (t:=71) (e:=9) Tryz.func80 rfl rfl rfl (by kernel_rfl) (by kernel_rfl) ⟨rfl,rfl,rfl⟩ ⟨rfl,rfl,rfl⟩ ⟨rfl,rfl,rfl⟩ ⟨rfl,rfl,rfl⟩ ⟨rfl,rfl,rfl⟩ ⟨rfl,rfl,rfl⟩ ⟨rfl,rfl,rfl⟩ ⟨rfl,rfl,rfl⟩
 ·simp at h;subst h
  exact nH.of (t:=31) (e:=46) Tryz.func81 rfl rfl rfl (by kernel_rfl) (by kernel_rfl) ⟨rfl,rfl,rfl⟩ ⟨rfl,rfl,rfl⟩ ⟨rfl,rfl,rfl⟩ ⟨rfl,rfl,rfl⟩ ⟨rfl,rfl,rfl⟩ ⟨rfl,rfl,rfl⟩ ⟨rfl,rfl,rfl⟩ ⟨rfl,rfl,rfl⟩
 ·simp at h;subst h
  exact nH.of (t:=32) (e:=103) Tryz.func82 rfl rfl rfl (by kernel_rfl) (by kernel_rfl) ⟨rfl,rfl,rfl⟩ ⟨rfl,rfl,rfl⟩ ⟨rfl,rfl,rfl⟩ ⟨rfl,rfl,rfl⟩ ⟨rfl,rfl,rfl⟩ ⟨rfl,rfl,rfl⟩ ⟨rfl,rfl,rfl⟩ ⟨rfl,rfl,rfl⟩
 ·simp at h;subst h
  exact nH.of (t:=33) (e:=106) Tryz.func83 rfl rfl rfl (by kernel_rfl) (by kernel_rfl) ⟨rfl,rfl,rfl⟩ ⟨rfl,rfl,rfl⟩ ⟨rfl,rfl,rfl⟩ ⟨rfl,rfl,rfl⟩ ⟨rfl,rfl,rfl⟩ ⟨rfl,rfl,rfl⟩ ⟨rfl,rfl,rfl⟩ ⟨rfl,rfl,rfl⟩
 ·simp at h;subst h
  exact nH.of (t:=72) (e:=34) Tryz.func137 rfl rfl rfl (by kernel_rfl) (by kernel_rfl) ⟨rfl,rfl,rfl⟩ ⟨rfl,rfl,rfl⟩ ⟨rfl,rfl,rfl⟩ ⟨rfl,rfl,rfl⟩ ⟨rfl,rfl,rfl⟩ ⟨rfl,rfl,rfl⟩ ⟨rfl,rfl,rfl⟩ ⟨rfl,rfl,rfl⟩
 ·simp at h;subst h
  exact nH.of (t:=132) (e:=214) Tryz.func152 rfl rfl rfl (by kernel_rfl) (by kernel_rfl) ⟨rfl,rfl,rfl⟩ ⟨rfl,rfl,rfl⟩ ⟨rfl,rfl,rfl⟩ ⟨rfl,rfl,rfl⟩ ⟨rfl,rfl,rfl⟩ ⟨rfl,rfl,rfl⟩ ⟨rfl,rfl,rfl⟩ ⟨rfl,rfl,rfl⟩
 ·simp at h
theorem aSB:Pre Tryz.prog Ob.cfg:=⟨aOT,aQV aOR⟩
theorem aUK:Tryz.prog.follows .mixedOrders=true:=by kernel_rfl
abbrev m0 (W:World):M:=⟨fun _=>none,fun _=>none,fun _ g=>g<0,W⟩
theorem RD.m0 {W:World} {d:D} {v:Value} (h:RD W noB d v):RD (m0 W).w ((m0 W).av noB) d v:=h.mono fun b _ hn=>⟨fun hx=>by
 rcases hx with hx|⟨id,o,x,hx,_⟩
 ·exact hx
 ·simp at hx,rfl⟩
theorem aOs {W:World}:∀ g,RV noB (m0 W) (Gl.gv g) (.pointer (some ⟨g,0,none⟩)):=fun g=> .any _
theorem aLm {f:FuncId} {ws:List V} {xs:List Value} {b:Bool} {W:World} (hd:eJ Tryz.prog Ob.cfg f ws=some (.d (.bool b))) (hx:jU noB (m0 W) ws xs):
  Calls Tryz.prog f xs.toArray W fun e W'=>e= .returned (.bool b)∧Grown W W'∧∀ i,i<W.heap.size→W'.heap[i]?=W.heap[i]?:=by
 unfold eJ at hd
 split at hd
 ·rename_i r hr
  split at hd
  ·simp only[Option.some.injEq] at hd
   obtain ⟨K,hK⟩:=aAF hr
   have cC:=(aNd Ob.cfg aSB aUK K).ok (hK K (Nat.le_refl _)) (fun id _=>rfl) (S:=noB) (m:=m0 W) (xs:=xs) rfl rfl
    ⟨aOs,fun id o h=>by simp at h,fun id o h=>by simp at h,fun id o b base h=>by simp at h,fun i j oi oj b x y h=>by simp at h,fun b h=>h.elim⟩ hx
   refine cC.mono fun e W' ⟨x,m',he,hw,bAl,aNW,hRV,_,_⟩=>?_
   rw[hd] at hRV
   have n8:x= .bool b:=by
    cases hRV with
    | d h=>cases h;rfl
   have aPP:∀ i,i<W.heap.size→W'.heap[i]?=W.heap[i]?:=fun i hi=>by
    rw[←hw]
    refine (aNW.keep i hi ?_).2
    rintro (h|⟨id,o,x,h,_⟩)
    ·exact h
    ·simp at h
   refine ⟨by rw[he,n8],⟨⟨by rw[←hw];exact aNW.rest.1,by rw[←hw];exact aNW.rest.2.1,fun i hi=>?_⟩,fun a=>by rw[←hw];exact aNW.rest.2.2 a,by rw[←hw];exact aNW.size⟩,aPP⟩
   rw[aPP i hi]
   exact (World.keptBut_refl W (fun _=>False)).2.2 i hi
  ·simp at hd
 ·simp at hd
theorem aXJ:Kids Tryz.prog (· < Tryz.prog.types.size):=kids_rows (by kernel_rfl) (by kernel_rfl)
theorem full:∀ t e,t<Tryz.prog.types.size→Tryz.prog.underlying t=some (.slice e)→0<Tryz.prog.cellsOf e:=slices_full_of Tryz.prog (by kernel_rfl)
theorem aXM:25<Tryz.prog.types.size:=of_decide_eq_true (by kernel_rfl)
theorem lt9:9<Tryz.prog.types.size:=of_decide_eq_true (by kernel_rfl)
theorem aWO:30<Tryz.prog.types.size:=of_decide_eq_true (by kernel_rfl)
theorem aXO:40<Tryz.prog.types.size:=of_decide_eq_true (by kernel_rfl)
theorem stay {H:Type} {enc:TypeId×Value→H} {W:World} {t:TypeId} {v:Value} {d:DataW H} {ps:List MemPlace} (ht:t<Tryz.prog.types.size) (h:DataW.Trod enc Tryz.prog W 0 (fun _=>true) true t v d ps):
  ∀ (W':World) (sp:Nat→Bool),(∀ i,i<W.heap.size→W'.heap[i]?=W.heap[i]?)→(∀ p∈ps,sp p.block=true)→DataW.Trod enc Tryz.prog W' 0 sp true t v d ps:=fun W' sp hh hs=>by
 obtain ⟨nE,hf⟩:=h
 refine ⟨nE,DataW.trod_stays aXJ (fun {t e} ht=>full t e ht) (fun hh=>by cases hh) ht hf (fun p hp=>?_) hs⟩
 have eU:=DataW.trod_lt nE t _ _ hf p hp
 cases p with
 | cell b off=>simp only[World.sameAt,World.cell?];rw[hh b eU]
 | map b=>simp only[World.sameAt];exact hh b eU
section
variable {H:Type} {enc:TypeId×Value→H} {W:World} {r:Reach} {base:Nat} {v:Value} {d:DataW H} {ps:List MemPlace}
theorem aQH (hv:Value.okWide Tryz.prog W r base 25 v) (h:DataW.Trod enc Tryz.prog W 0 (fun _=>true) true 25 v d ps):∃ x:Oc,x.sz≤2*Rows.uptoBulk d∧x.ok∧RV noB (m0 W) (aG x.cells) v:=by
 obtain ⟨cs,rfl,sC⟩:∃ cs,v= .agg cs∧cs.size=2:=by
  unfold Value.okWide at hv
  rw[Tryz.underlying25] at hv
  obtain ⟨cs,h1,h2,_⟩:=hv
  exact ⟨cs,h1,by rw[h2,aTc]⟩
 obtain ⟨nE,hf⟩:=h
 obtain ⟨x,h1,h2,h3⟩:=aRG hf
 refine ⟨x,h2,h3,.agg (by simp[Oc.cells,sC]) fun j a y hx hy=>?_⟩
 rw[List.getElem?_map,Option.map_eq_some_iff] at hx
 obtain ⟨d,hd,rfl⟩:=hx
 exact .d (h1.2 j d y hd (by simpa [Value.cells] using hy)).m0
end
end Go.Ac
end
section
set_option maxRecDepth 4000
namespace Go.Ac
open Go.Proofs Go.ChangeShapes Go.WideShapes Go.RowKit
open Go.Proofs.YtkgekafdhehleaaGreat (Rows.uptoBulk Rows.uptoBulkAll Rows.uptoSmall)
def dLL (l:List (List Int)):V:= .d (.slice (aLh l))
section
variable {H:Type} {enc:TypeId×Value→H} {W:World} {r:Reach} {base:Nat} {v:Value} {d:DataW H} {ps:List MemPlace}
theorem aRw (hv:Value.okWide Tryz.prog W r base 40 v) (h:DataW.Trod enc Tryz.prog W 0 (fun _=>true) true 40 v d ps):∃ l:List Int,l.length≤Rows.uptoBulk d∧RV noB (m0 W) (dL (bQ l)) v:=by
 obtain ⟨a,len,cap,rfl⟩:=okWide_slice Tryz.underlying40 hv
 obtain ⟨nE,hf⟩:=h
 obtain ⟨l,v',h1,h2,h3,h4⟩:=aPD hf
 have zO:v'= .slice a len cap:=by simpa [Value.cells] using h1.symm
 subst zO
 exact ⟨l,by simp only at h3;omega,.d h2.m0⟩
theorem aQS (hv:Value.okWide Tryz.prog W r base 30 v) (h:DataW.Trod enc Tryz.prog W 0 (fun _=>true) true 30 v d ps):∃ l:List (List Int),l.length≤Rows.uptoBulk d∧(∀ r∈l,r.length≤Rows.uptoBulk d)∧RV noB (m0 W) (dLL l) v:=by
 obtain ⟨a,len,cap,rfl⟩:=okWide_slice Tryz.underlying30 hv
 obtain ⟨nE,hf⟩:=h
 obtain ⟨l,v',h1,h2,h3,h4⟩:=aOn hf
 have zO:v'= .slice a len cap:=by simpa [Value.cells] using h1.symm
 subst zO
 exact ⟨l,h3,h4,.d h2.m0⟩
theorem aSO (hv:Value.okWide Tryz.prog W r base 9 v) (h:DataW.Trod enc Tryz.prog W 0 (fun _=>true) true 9 v d ps):∃ s:Tx,RV noB (m0 W) (dS s) v:=by
 obtain ⟨s,rfl⟩:=okWide_string Tryz.underlying9 hv
 exact ⟨s.data.toList,.d (RD.m0 (.str _ _ rfl))⟩
end
theorem contractSRM {f:FuncId} {fn:Func} {spec:ChangeSpec} (hp:fn.params=#[25,9,30,40]) (hr:fn.resultTypes=#[4]) (aPQ:spec.vars=[]) (aWq:∀ (H:Type) (d0 d1 d2 d3:DataW H),spec.fn H [d0,d1,d2,d3]={ results:=[.lit (.bool true)],args:=[d0,d1,d2,d3] })
  (aZG:∀ (x1:Oc) (s1:Tx) (r1:List (List Int)) (m1:List Int),x1.sz≤2097152→x1.ok→r1.length≤1048576→(∀ r∈r1,r.length≤1048576)→m1.length≤1048576→eJ Tryz.prog Ob.cfg f [aG x1.cells,dS s1,dLL r1,dL (bQ m1)]=some (.d (.bool true)))
  (H:Type) (enc:TypeId×Value→H) (W:World) (base:Nat) (args:Array Value) (ds gs:List (DataW H)) (before:List MemPlace)
  (vW:∀ (j:Nat) t v,fn.params[j]?=some t→args[j]?=some v→Value.okWide Tryz.prog W .any base t v)
  (hW:DataW.Whole enc Tryz.prog fn.params.toList spec.vars false W args.toList ds gs before) (hk:Rows.uptoSmall H (ds++gs)=true):
  Calls Tryz.prog f args W fun e W'=>∃ v,e= .returned v∧spec.post enc Tryz.prog fn false true false false W args v W':=by
 have hW':=hW
 obtain ⟨p,q,hA0,hV,rfl,hfz,mB⟩:=hW
 have hA:DataW.TrodAll enc Tryz.prog W 0 (fun _=>true) true fn.params.toList args.toList ds p:=hA0
 rw[hp] at hA vW
 obtain ⟨v0,vs0,d0,ds0,p0,q0,aFo,rfl,rfl,h0,r0⟩:=trodAll_cons hA
 obtain ⟨v1,vs1,d1,ds1,p1,q1,rfl,rfl,rfl,h1,r1⟩:=trodAll_cons r0
 obtain ⟨v2,vs2,d2,ds2,p2,q2,rfl,rfl,rfl,h2,r2⟩:=trodAll_cons r1
 obtain ⟨v3,vs3,d3,ds3,p3,q3,rfl,rfl,rfl,h3,r3⟩:=trodAll_cons r2
 obtain ⟨rfl,rfl,rfl⟩:=trodAll_nil r3
 obtain rfl:args=#[v0,v1,v2,v3]:=by cases args;simp_all
 rw[aPQ] at hV
 obtain ⟨rfl,rfl⟩:=trodVars_none hV
 have hb:Rows.uptoBulk d0+(Rows.uptoBulk d1+(Rows.uptoBulk d2+(Rows.uptoBulk d3)))≤1048576:=by
  have h1:=of_decide_eq_true hk
  simp only[List.append_nil,Rows.uptoBulkAll] at h1
  omega
 obtain ⟨x1,a0,b0,aZH⟩:=aQH (vW 0 25 v0 rfl rfl) h0
 obtain ⟨s1,aZI⟩:=aSO (vW 1 9 v1 rfl rfl) h1
 obtain ⟨r1,a2,b2,aZJ⟩:=aQS (vW 2 30 v2 rfl rfl) h2
 obtain ⟨m1,a3,aZK⟩:=aRw (vW 3 40 v3 rfl rfl) h3
 have hd:=aZG x1 s1 r1 m1 (by omega) b0 (by omega) (fun r hr=>by have:=b2 r hr;omega) (by omega)
 refine (aLm (xs:=[v0,v1,v2,v3]) hd ⟨rfl,fun j x y hx hy=>?_⟩).mono fun e W' ⟨he,hg,hh⟩=>?_
 ·match j with
  | 0=>simp at hx hy;subst hx;subst hy;exact aZH
  | 1=>simp at hx hy;subst hx;subst hy;exact aZI
  | 2=>simp at hx hy;subst hx;subst hy;exact aZJ
  | 3=>simp at hx hy;subst hx;subst hy;exact aZK
  | j+4=>simp at hx
 subst he
 clear hA0
 simp only[List.append_nil] at hW'
 have hfn:=aWq H d0 d1 d2 d3
 refine ⟨_,rfl,post_of_same (pa:=p0++(p1++(p2++(p3++[])))) (pv:=[]) (by simpa using hW') (fun _ _ _=>?_) (fun sp hs=>?_) (fun _ _=>?_) (by simp) (hg.frame _) hg.2.1 ?_⟩
 ·rw[hr]
  show DataW.TrodAll enc Tryz.prog W' _ _ _ [4] [.bool true] (spec.fn H [d0,d1,d2,d3]).results []
  rw[hfn]
  exact trodAll_cons_mk (shut_bool Tryz.underlying4 _) trodAll_mk0
 ·rw[hp]
  show DataW.TrodAll enc Tryz.prog W' 0 sp true [25,9,30,40] [v0,v1,v2,v3] (spec.fn H [d0,d1,d2,d3]).args (p0++(p1++(p2++(p3++[]))))
  rw[hfn]
  exact trodAll_cons_mk (stay aXM h0 W' sp hh fun p hp=>hs p (by simp[hp])) (trodAll_cons_mk (stay lt9 h1 W' sp hh fun p hp=>hs p (by simp[hp])) (trodAll_cons_mk (stay aWO h2 W' sp hh fun p hp=>hs p (by simp[hp])) (trodAll_cons_mk (stay aXO h3 W' sp hh fun p hp=>hs p (by simp[hp])) trodAll_mk0)))
 ·show DataW.TrodVars enc Tryz.prog W' _ spec.vars (spec.fn H [d0,d1,d2,d3]).vars []
  rw[aPQ,hfn]
  exact rfl
 ·exact ok_one hr rfl (okWide_bool_mk Tryz.underlying4 _)
end Go.Ac
end
