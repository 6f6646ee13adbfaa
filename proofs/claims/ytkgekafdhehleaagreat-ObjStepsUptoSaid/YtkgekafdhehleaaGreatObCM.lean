/- Lists compared. -/
import Derived.Test.YtkgekafdhehleaaGreatAcThM
import Derived.Test.YtkgekafdhehleaaGreatObHn
import Derived.KernelRfl
import Derived.Test.YtkgekafdhehleaaGreatChecked
set_option linter.unusedVariables false
set_option linter.unusedSimpArgs false
section
namespace Go.Ac
variable {P:Program} {cfg:Cfg} {fid:FuncId} {rid:Nat}
def kV [Gl] (P:Program) (cfg:Cfg) (f:FuncId) (vs:List V) (hp:Hp) (n c:Nat) (v:V):Prop:=∃ h' c',m9 P cfg f vs hp n c=some ⟨v,h',n,c',[]⟩
def aEV (P:Program) (fn:Func) (n:Nat) (v:V) (e:Ex) (t:St):Prop:=
 (e= .normal∨e= .ret)∧t.wl=[]∧∃ rs,f9 P t fn.results.toList=some rs∧tup rs=v
theorem iR [Gl] {f:FuncId} {fn:Func} {body:Code} {vs:List V} {v:V} {hp:Hp} {n c:Nat} (hf:P.funcs[f]?=some fn) (hb:fn.body=some body) (cE:(Nat.ble vs.length fn.ntmps&&fH fn.ntmps body)=true)
  (vE:cfg.thr f=false) (gM:∀ look:cA,dZ look v=some (v,[])) (h:WP P cfg f body ⟨dD 0 vs,hp,n,c,n,[]⟩ (aEV P fn n v)):kV P cfg f vs hp n c v:=by
 obtain ⟨e,t,⟨K,hK⟩,he,jF,rs,hrs,aYt⟩:=h
 have aFS:kW (cfg.thr f) n t (tup rs)=some ⟨v,Hp.trunc n t.hp,n,t.c,[]⟩:=by
  unfold kW
  rw[vE,aYt]
  simp only[Bool.false_eq_true,if_false,gM,jF]
  rw[if_pos]
  simp
 refine ⟨Hp.trunc n t.hp,t.c,aAx ⟨K,fun k hk=>?_⟩⟩
 unfold oT fJ
 rw[hf]
 simp only[hb,cE]
 rw[show enter vs hp n c=⟨dD 0 vs,hp,n,c,n,[]⟩ from rfl,hK k hk]
 rcases he with rfl|rfl <;> simp only[aBq,hrs,aFS]
theorem RT.callV [Gl] {fo:Operand} {args:Array Operand} {ts:Array TypeId} {dst:Option Nat} {g:Gd} {r:List PO} {e e':nZ} {hp h':Hp} {n c c' n0:Nat} {wl:List Nat} {f:FuncId} {caps vs:List V} {x:V} {t:St} {qs:List Tq}
  (hg:Is (pO e g) (some true)) (lU:Is (gC e fo) (.fn f caps)) (hpr:Is (cfg.prim f) none) (hvs:Is (args.toList.map (gC e)++caps) vs) (gM:Is (kS (if cfg.thr f then eW else hp.get) vs) none) (hd:Is (m9 P cfg f vs hp n c) (some ⟨x,h',n,c',[]⟩))
  (he:a8 e dst x=e') (h':RT P cfg fid rid r ⟨e',hp,n,c+(c' - c),n0,wl⟩ t qs):
  RT P cfg fid rid (⟨.call ⟨.value fo,args,ts⟩,dst,g⟩::r) ⟨e,hp,n,c,n0,wl⟩ t (⟨[],[],true,c' - c⟩::qs):=by
 unfold Is at*
 have:jW cfg (m9 P cfg) hp n c f vs=some ⟨x,[],[],0,c' - c,true⟩:=by
  unfold jW
  rw[gM]
  simp only[hd,Nat.sub_self,List.range_zero,List.map_nil,List.append_nil,jZ]
 refine RT.wr (v:=x) (wr:=[]) (dn:=0) (dc:=c' - c) ?_ he rfl rfl rfl rfl h'
 show opP P cfg fid rid _ _=_
 unfold opP
 simp only[hg]
 have h2:zL P cfg fid rid ⟨.call ⟨.value fo,args,ts⟩,dst,g⟩ ⟨e,hp,n,c,n0,wl⟩=some ⟨x,[],[],0,c' - c,true⟩:=by
  simp only[zL,lU,hpr]
  rw[hvs,this]
 rw[h2]
 rfl
theorem kV.fn [Gl] {f:FuncId} {vs:List V} {hp:Hp} {n:Nat} {x:V} (h:∀ c,kV P cfg f vs hp n c x):∃ (h':Nat→Hp) (c':Nat→Nat),∀ c,m9 P cfg f vs hp n c=some ⟨x,h' c,n,c' c,[]⟩:=by
 obtain ⟨h1,h2⟩:=Classical.axiomOfChoice h
 obtain ⟨h3,h4⟩:=Classical.axiomOfChoice h2
 exact ⟨h1,h3,h4⟩
theorem eF.v [Gl] {f:FuncId} {vs:List V} {hp:Hp} {n c:Nat} {x:D} (h:eF P cfg f vs hp n c x):kV P cfg f vs hp n c (.d x):=h
def aDG [Gl] (P:Program) (cfg:Cfg) (f:FuncId) (vs:List V) (hp:Hp) (n c:Nat) (v:V) (ids:List Nat) (Φ:Hp→Prop):Prop:=
 ∃ q,m9 P cfg f vs hp n c=some q∧q.v=v∧q.n=n∧WI ids n hp q.wl q.hp∧Φ q.hp
def aSH (P:Program) (fn:Func) (hp:Hp) (n:Nat) (v:V) (ids0:List Nat) (Φ:Hp→Prop) (e:Ex) (t:St):Prop:=
 (e= .normal∨e= .ret)∧∃ rs ids,f9 P t fn.results.toList=some rs∧dZ t.hp.get (tup rs)=some (v,ids)∧(v.flat||ids.all (fun i=>Nat.ble n i))=true∧WI ids0 n hp t.wl t.hp∧Φ (Hp.trunc n t.hp)
theorem wW [Gl] {f:FuncId} {fn:Func} {body:Code} {vs:List V} {hp:Hp} {n c:Nat} {v:V} {ids0:List Nat} {Φ:Hp→Prop} (hf:P.funcs[f]?=some fn) (hb:fn.body=some body) (cE:(Nat.ble vs.length fn.ntmps&&fH fn.ntmps body)=true)
  (vE:cfg.thr f=false) (h:WP P cfg f body ⟨dD 0 vs,hp,n,c,n,[]⟩ (aSH P fn hp n v ids0 Φ)):aDG P cfg f vs hp n c v ids0 Φ:=by
 obtain ⟨w,t,h1,h2⟩:=aFM (Q:=fun w t=>w=v∧WI ids0 n hp t.wl t.hp∧Φ (Hp.trunc n t.hp)) hf hb cE vE (h.mono fun e t ⟨he,rs,ids,a1,a2,a3,a4,a5⟩=>⟨he,rs,v,ids,a1,a2,a3,rfl,a4,a5⟩)
 exact ⟨_,h1,h2.1,rfl,h2.2.1.trunc (Nat.le_refl _),h2.2.2⟩
theorem aDG.caller [Gl] {f:FuncId} {vs:List V} {hp:Hp} {n c:Nat} {v:V} {ids:List Nat} {Φ:Hp→Prop} (h:aDG P cfg f vs hp n c v ids Φ) (aFR:∀ j,j∈ids→j<n):
  ∃ q,m9 P cfg f vs hp n c=some q∧q.v=v∧q.n=n∧(∀ k,k∈(sL q n).map (·.1)→k<n+(q.n - n))∧(∀ k,k∈(sL q n).map (·.1)→k∈ids)∧
   (∀ j,j<n→j∉ids→(hp.sets (sL q n)).get j=hp.get j)∧∃ bD,Φ bD∧∀ j,j<n→(bD.get j).isSome=true→(hp.sets (sL q n)).get j=bD.get j:=by
 obtain ⟨q,h1,h2,h3,h4,h5⟩:=h
 have hk:∀ k,k∈(sL q n).map (·.1)→k∈ids∧k<n:=fun k hk=>by
  have:=aCL (by omega) h4 aFR hk
  rcases this.1 with h|h
  ·exact ⟨h,aFR k h⟩
  ·omega
 exact ⟨q,h1,h2,h3,fun k hk'=>by have:=(hk k hk').2;omega,fun k hk'=>(hk k hk').1,fun j hj hn=>aJf h4 hj hn,q.hp,h5,fun j hj hs=>aGc h4 (by omega) hs⟩
end Go.Ac
end
section
namespace Go.Ac
theorem iZ {α:Sort _} {x:α}:Is x x:=Is.rfl
theorem gS {α:Type _} {x:α} {i:Nat} {l:List α}:(x::l)[i+1]?=l[i]?:=rfl
theorem gZ {α:Type _} {x:α} {l:List α}:(x::l)[0]?=some x:=rfl
structure Hd (G:Prop):Prop where
 out:G
def Wk (L G G':Prop):Prop:=L→Hd G'→G
theorem wk {L:Prop} (hl:L) {G G':Prop} (k:G') (h:Wk L G G':=by
 intro hl hk
 repeat (first
 | apply WP.seq
 | (apply WP.reg;(case hR=>dsimp only [e8,eA,List.map,gS,gZ];exact iZ);(case hr=>(repeat (first
 | (apply RT.op;simp[hl];exact iZ;(try dsimp only [a8]) <;> exact rfl)
 | (apply RT.call;(iterate 2 simp;exact iZ);exact iZ;(iterate 4 simp[hl];exact iZ);simp[Is];(try dsimp only [a8]) <;> exact rfl;simp;exact iZ;simp;exact iZ)
 | (apply RT.wr;simp[hl];exact iZ;(try dsimp only [a8]) <;> exact rfl;simp[hl];exact iZ;(iterate 2 exact iZ);simp;exact iZ)));exact RT.nil);(case hc=>(show _=_;kernel_rfl));(case ht=>simp[hl];exact iZ))
 | apply WP.block|apply WP.skip|apply WP.exit|apply WP.ret)
 exact hk.out):G:=h hl ⟨k⟩
theorem mF {L:Prop} (hl:L) {G G':Prop} (k:G') (h:Wk L G G':=by
 intro hl hk
 repeat (first
 | apply WP.seq
 | (apply WP.reg;(case hR=>dsimp only [e8,eA,List.map,gS,gZ];exact iZ);(case hr=>(repeat (first
 | (apply RT.op;simp[hl];exact iZ;(try dsimp only [a8]) <;> exact rfl)
 | (apply RT.call;(iterate 2 simp;exact iZ);exact iZ;(iterate 4 simp[hl];exact iZ);simp[Is];(try dsimp only [a8]) <;> exact rfl;simp;exact iZ;simp;exact iZ)
 | (apply RT.clone;(iterate 2 simp;exact iZ);exact iZ;(iterate 2 simp[hl];exact iZ);(first|assumption|(simp[bT];omega));(try dsimp only [a8]) <;> exact rfl;simp[hl];exact iZ;simp;exact iZ)
 | (apply RT.callQ;(iterate 2 simp;exact iZ);exact iZ;(iterate 3 simp[hl];exact iZ);(try dsimp only [a8]) <;> exact rfl)
 | (apply RT.wr;simp[hl];exact iZ;(try dsimp only [a8]) <;> exact rfl;simp[hl];exact iZ;(iterate 2 exact iZ);simp;exact iZ)));exact RT.nil);(case hc=>(show _=_;kernel_rfl));(case ht=>simp[hl];exact iZ))
 | apply WP.block|apply WP.skip|apply WP.exit|apply WP.ret)
 exact hk.out):G:=h hl ⟨k⟩
theorem qE {L:Prop} (hl:L) {G G':Prop} (k:G') (h:Wk L G G':=by
 intro hl hk
 repeat (first
 | apply WP.seq
 | (apply WP.reg;(case hR=>dsimp only [e8,eA,List.map,gS,gZ];exact iZ);(case hr=>(repeat (first
 | (apply RT.op;simp[hl];exact iZ;(try dsimp only [a8]) <;> exact rfl)
 | (apply RT.call;(iterate 2 simp;exact iZ);exact iZ;(iterate 4 simp[hl];exact iZ);simp[Is];(try dsimp only [a8]) <;> exact rfl;simp;exact iZ;simp;exact iZ)
 | (apply RT.callV;(iterate 2 simp;exact iZ);exact iZ;(iterate 3 simp[hl];exact iZ);(try dsimp only [a8]) <;> exact rfl)
 | (apply RT.wr;simp[hl];exact iZ;(try dsimp only [a8]) <;> exact rfl;simp[hl];exact iZ;(iterate 2 exact iZ);simp;exact iZ)));exact RT.nil);(case hc=>(show _=_;kernel_rfl));(case ht=>simp[hl];exact iZ))
 | apply WP.block|apply WP.skip|apply WP.exit|apply WP.ret)
 exact hk.out):G:=h hl ⟨k⟩
theorem a9 {L:Prop} (hl:L) {G G':Prop} (k:G') (h:Wk L G G':=by
 intro hl hk
 repeat (first
 | apply WP.seq
 | (apply WP.reg;(case hR=>dsimp only [e8,eA,List.map,gS,gZ];exact iZ);(case hr=>(repeat (first
 | (apply RT.op;simp[hl];exact iZ;(try dsimp only [a8]) <;> exact rfl)
 | (apply RT.call;(iterate 2 simp;exact iZ);exact iZ;(iterate 4 simp[hl];exact iZ);simp[Is];(try dsimp only [a8]) <;> exact rfl;simp;exact iZ;simp;exact iZ)
 | (apply RT.wr;simp[hl];exact iZ;(try dsimp only [a8]) <;> exact rfl;simp[hl];exact iZ;(iterate 2 exact iZ);simp;exact iZ)));exact RT.nil);(case hc=>(show _=_;kernel_rfl));(case ht=>simp[hl];exact iZ))
 | apply WP.block|apply WP.skip|apply WP.exit|apply WP.ret|refine WP.condT rfl ?_|refine WP.condF rfl ?_)
 exact hk.out):G:=h hl ⟨k⟩
theorem qX {L:Prop} (hl:L) {G G':Prop} (k:G') (h:Wk L G G':=by
 intro hl hk
 repeat (first
 | apply WP.seq
 | (apply WP.reg;(case hR=>dsimp only [e8,eA,List.map,gS,gZ];exact iZ);(case hr=>(repeat (first
 | (apply RT.op;simp[hl];exact iZ;(try dsimp only [a8]) <;> exact rfl)
 | (apply RT.call;(iterate 2 simp;exact iZ);exact iZ;(iterate 4 simp[hl];exact iZ);simp[Is];(try dsimp only [a8]) <;> exact rfl;simp;exact iZ;simp;exact iZ)
 | (apply RT.clone;(iterate 2 simp;exact iZ);exact iZ;(iterate 2 simp[hl];exact iZ);(first|assumption|(simp[bT];omega));(try dsimp only [a8]) <;> exact rfl;simp[hl];exact iZ;simp;exact iZ)
 | (apply RT.callQ;(iterate 2 simp;exact iZ);exact iZ;(iterate 3 simp[hl];exact iZ);(try dsimp only [a8]) <;> exact rfl)
 | (apply RT.wr;simp[hl];exact iZ;(try dsimp only [a8]) <;> exact rfl;simp[hl];exact iZ;(iterate 2 exact iZ);simp;exact iZ)));exact RT.nil);(case hc=>(show _=_;kernel_rfl));(case ht=>simp[hl];exact iZ))
 | apply WP.block|apply WP.skip|apply WP.exit|apply WP.ret|refine WP.condT rfl ?_|refine WP.condF rfl ?_)
 exact hk.out):G:=h hl ⟨k⟩
theorem cV {L:Prop} (hl:L) {G G':Prop} (k:G') (h:Wk L G G':=by
 intro hl hk
 repeat (first
 | apply WP.seq
 | (apply WP.reg;(case hR=>dsimp only [e8,eA,List.map,gS,gZ];exact iZ);(case hr=>(repeat (first
 | (apply RT.op;simp[hl];exact iZ;(try dsimp only [a8]) <;> exact rfl)
 | (apply RT.call;(iterate 2 simp;exact iZ);exact iZ;(iterate 4 simp[hl];exact iZ);simp[Is];(try dsimp only [a8]) <;> exact rfl;simp;exact iZ;simp;exact iZ)
 | (apply RT.callV;(iterate 2 simp;exact iZ);exact iZ;(iterate 3 simp[hl];exact iZ);(try dsimp only [a8]) <;> exact rfl)
 | (apply RT.wr;simp[hl];exact iZ;(try dsimp only [a8]) <;> exact rfl;simp[hl];exact iZ;(iterate 2 exact iZ);simp;exact iZ)));exact RT.nil);(case hc=>(show _=_;kernel_rfl));(case ht=>simp[hl];exact iZ))
 | apply WP.block|apply WP.skip|apply WP.exit|apply WP.ret|refine WP.condT rfl ?_|refine WP.condF rfl ?_)
 exact hk.out):G:=h hl ⟨k⟩
end Go.Ac
end
section
namespace Go.Ac
open Go.Proofs
abbrev Tx:=List UInt8
inductive X where
 | mk (k o t v:Int) (nm:Tx) (args:List X)
inductive Y where
 | mk (k:Int) (nm:Tx) (t:Int) (r:X) (outs:List Tx) (args:List X) (brs:List (List Y))
structure On where
 nm:Tx
 t:Int
 tag:Int
structure Dc where
 nm:Tx
 t:Int
 ck:List On
structure En where
 nm:Tx
 tags:List Tx
structure Mm where
 nm:Tx
 t:Int
 ini:Int
structure Ii where
 nm:Tx
 cl:Tx
structure Cl where
 nm:Tx
 inn:List Dc
 out:List Dc
 loc:List Dc
 mems:List Mm
 ins:List Ii
 step:List Y
structure Oc where
 en:List En
 cl:List Cl
def ni (n:Int):D:= .int .i64 n
def dI (n:Int):V:= .d (.int .i64 n)
theorem aB:type_of% @dI.eq_1:=@dI.eq_1
def dB (b:Bool):V:= .d (.bool b)
theorem aF:type_of% @dB.eq_1:=@dB.eq_1
def dS (s:Tx):V:= .d (.str s)
theorem aM:type_of% @dS.eq_1:=@dS.eq_1
def bX (l:List Int):List (List D):=l.map fun n=>[.int .i64 n]
def eT (l:List Tx):List (List D):=l.map fun s=>[.str s]
mutual
def X.cells:X→List D
 | .mk k o t v nm args=>[.int .i64 k,.int .i64 o,.int .i64 t,.int .i64 v,.str nm,.slice (fY args)]
def fY:List X→List (List D)
 | []=>[]
 | x::r=>x.cells::fY r
end
mutual
def Y.cells:Y→List D
 | .mk k nm t r outs args brs=>[.int .i64 k,.str nm,.int .i64 t]++r.cells++[.slice (eT outs),.slice (fY args),.slice (iA brs)]
def dJ:List Y→List (List D)
 | []=>[]
 | y::r=>y.cells::dJ r
def iA:List (List Y)→List (List D)
 | []=>[]
 | b::r=>[.slice (dJ b)]::iA r
end
def On.cells (x:On):List D:=[.str x.nm,.int .i64 x.t,.int .i64 x.tag]
def aNU (l:List On):List (List D):=l.map On.cells
def Dc.cells (x:Dc):List D:=[.str x.nm,.int .i64 x.t,.slice (aNU x.ck)]
theorem aP:type_of% @Dc.cells.eq_1:=@Dc.cells.eq_1
def cM (l:List Dc):List (List D):=l.map Dc.cells
def En.cells (x:En):List D:=[.str x.nm,.slice (eT x.tags)]
def fW (l:List En):List (List D):=l.map En.cells
def Mm.cells (x:Mm):List D:=[.str x.nm,.int .i64 x.t,.int .i64 x.ini]
def lA (l:List Mm):List (List D):=l.map Mm.cells
def Ii.cells (x:Ii):List D:=[.str x.nm,.str x.cl]
def mD (l:List Ii):List (List D):=l.map Ii.cells
def Cl.cells (x:Cl):List D:=[.str x.nm,.slice (cM x.inn),.slice (cM x.out),.slice (cM x.loc),.slice (lA x.mems),.slice (mD x.ins),.slice (dJ x.step)]
theorem aJ:type_of% @Cl.cells.eq_1:=@Cl.cells.eq_1
def gA (l:List Cl):List (List D):=l.map Cl.cells
def Oc.cells (x:Oc):List D:=[.slice (fW x.en),.slice (gA x.cl)]
theorem aL:type_of% @Oc.cells.eq_1:=@Oc.cells.eq_1
def aG (l:List D):V:= .agg (l.map .d)
theorem aD:type_of% @aG.eq_1:=@aG.eq_1
def dL (l:List (List D)):V:= .d (.slice l)
theorem aA:type_of% @dL.eq_1:=@dL.eq_1
def X.k:X→Int|.mk k _ _ _ _ _=>k
def X.o:X→Int|.mk _ o _ _ _ _=>o
def X.t:X→Int|.mk _ _ t _ _ _=>t
def X.v:X→Int|.mk _ _ _ v _ _=>v
def X.nm:X→Tx|.mk _ _ _ _ n _=>n
def X.args:X→List X|.mk _ _ _ _ _ l=>l
def Y.k:Y→Int|.mk k _ _ _ _ _ _=>k
def Y.nm:Y→Tx|.mk _ n _ _ _ _ _=>n
def Y.t:Y→Int|.mk _ _ t _ _ _ _=>t
def Y.r:Y→X|.mk _ _ _ r _ _ _=>r
def Y.outs:Y→List Tx|.mk _ _ _ _ o _ _=>o
def Y.args:Y→List X|.mk _ _ _ _ _ a _=>a
def Y.brs:Y→List (List Y)|.mk _ _ _ _ _ _ b=>b
theorem aE (x:X):x.cells=[.int .i64 x.k,.int .i64 x.o,.int .i64 x.t,.int .i64 x.v,.str x.nm,.slice (fY x.args)]:=by cases x;simp[X.cells,X.k,X.o,X.t,X.v,X.nm,X.args]
theorem aC (y:Y):y.cells=[.int .i64 y.k,.str y.nm,.int .i64 y.t,.int .i64 y.r.k,.int .i64 y.r.o,.int .i64 y.r.t,.int .i64 y.r.v,.str y.r.nm,.slice (fY y.r.args),.slice (eT y.outs),.slice (fY y.args),.slice (iA y.brs)]:=by
 cases y;simp[Y.cells,aE,Y.k,Y.nm,Y.t,Y.r,Y.outs,Y.args,Y.brs]
theorem qP:∀ l:List X,fY l=l.map X.cells
 | []=>by simp[fY]
 | x::r=>by simp[fY,qP r]
theorem oJ:∀ l:List Y,dJ l=l.map Y.cells
 | []=>by simp[dJ]
 | x::r=>by simp[dJ,oJ r]
theorem tM:∀ l:List (List Y),iA l=l.map fun b=>[.slice (dJ b)]
 | []=>by simp[iA]
 | x::r=>by simp[iA,tM r]
theorem aZ (l:List Int):(bX l).length=l.length:=by simp[bX]
theorem c9 {l:List Int} {i:Nat} {y:Int} (h:l[i]?=some y):(bX l)[i]?=some [.int .i64 y]:=by unfold bX;simp[h]
theorem aW (l:List Tx):(eT l).length=l.length:=by simp[eT]
theorem sJ {l:List Tx} {i:Nat} {y:Tx} (h:l[i]?=some y):(eT l)[i]?=some [.str y]:=by unfold eT;simp[h]
theorem aT (l:List X):(fY l).length=l.length:=by simp[qP]
theorem iQ {l:List X} {i:Nat} {y:X} (h:l[i]?=some y):(fY l)[i]?=some y.cells:=by rw[qP];simp[h]
theorem cQ (l:List Y):(dJ l).length=l.length:=by simp[oJ]
theorem oA {l:List Y} {i:Nat} {y:Y} (h:l[i]?=some y):(dJ l)[i]?=some y.cells:=by rw[oJ];simp[h]
theorem aX (l:List (List Y)):(iA l).length=l.length:=by simp[tM]
theorem lH {l:List (List Y)} {i:Nat} {y:(List Y)} (h:l[i]?=some y):(iA l)[i]?=some [.slice (dJ y)]:=by rw[tM];simp[h]
theorem mJ (l:List On):(aNU l).length=l.length:=by simp[aNU]
theorem bP (l:List Dc):(cM l).length=l.length:=by simp[cM]
theorem d6 {l:List Dc} {i:Nat} {y:Dc} (h:l[i]?=some y):(cM l)[i]?=some y.cells:=by unfold cM;simp[h]
theorem zK (l:List En):(fW l).length=l.length:=by simp[fW]
theorem xH {l:List En} {i:Nat} {y:En} (h:l[i]?=some y):(fW l)[i]?=some y.cells:=by unfold fW;simp[h]
theorem lC (l:List Mm):(lA l).length=l.length:=by simp[lA]
theorem mU {l:List Mm} {i:Nat} {y:Mm} (h:l[i]?=some y):(lA l)[i]?=some y.cells:=by unfold lA;simp[h]
theorem lD (l:List Ii):(mD l).length=l.length:=by simp[mD]
theorem pV {l:List Ii} {i:Nat} {y:Ii} (h:l[i]?=some y):(mD l)[i]?=some y.cells:=by unfold mD;simp[h]
theorem mY (l:List Cl):(gA l).length=l.length:=by simp[gA]
theorem kU {l:List Cl} {i:Nat} {y:Cl} (h:l[i]?=some y):(gA l)[i]?=some y.cells:=by unfold gA;simp[h]
def MX:Nat:=1152921504606846976
def szT (s:Tx):Nat:=s.length+1
def szS (l:List Tx):Nat:=(l.map szT).sum
mutual
def X.sz:X→Nat
 | .mk _ _ _ _ nm args=>szT nm+szX args+6
def szX:List X→Nat
 | []=>0
 | x::r=>x.sz+szX r
end
mutual
def Y.sz:Y→Nat
 | .mk _ nm _ r outs args brs=>szT nm+r.sz+szS outs+szX args+szB brs+12
def hH:List Y→Nat
 | []=>0
 | y::r=>y.sz+hH r
def szB:List (List Y)→Nat
 | []=>0
 | b::r=>hH b+1+szB r
end
def On.sz (x:On):Nat:=szT x.nm+3
def szO (l:List On):Nat:=(l.map On.sz).sum
def Dc.sz (x:Dc):Nat:=szT x.nm+szO x.ck+3
def szD (l:List Dc):Nat:=(l.map Dc.sz).sum
def En.sz (x:En):Nat:=szT x.nm+szS x.tags+2
def szE (l:List En):Nat:=(l.map En.sz).sum
def Mm.sz (x:Mm):Nat:=szT x.nm+3
def szM (l:List Mm):Nat:=(l.map Mm.sz).sum
def Ii.sz (x:Ii):Nat:=szT x.nm+szT x.cl+2
def szJ (l:List Ii):Nat:=(l.map Ii.sz).sum
def Cl.sz (x:Cl):Nat:=szT x.nm+szD x.inn+szD x.out+szD x.loc+szM x.mems+szJ x.ins+hH x.step+7
def szC (l:List Cl):Nat:=(l.map Cl.sz).sum
def Oc.sz (x:Oc):Nat:=szE x.en+szC x.cl+2
theorem X.sz_eq (x:X):x.sz=szT x.nm+szX x.args+6:=by cases x;simp[X.sz,X.nm,X.args]
theorem Y.sz_eq (y:Y):y.sz=szT y.nm+y.r.sz+szS y.outs+szX y.args+szB y.brs+12:=by cases y;simp[Y.sz,Y.nm,Y.r,Y.outs,Y.args,Y.brs]
theorem uA {α:Type} {f:α→Nat}:∀ {l:List α} {x:α},x∈l→f x≤(l.map f).sum
 | y::r,x,h=>by
  simp only[List.mem_cons] at h
  simp only[List.map_cons,List.sum_cons]
  rcases h with rfl|h
  ·omega
  ·have:=uA (f:=f) h;omega
theorem oD {α:Type} {f:α→Nat} (hf:∀ x,1≤f x):∀ {l:List α},l.length≤(l.map f).sum
 | []=>by simp
 | y::r=>by have:=oD hf (l:=r);have:=hf y;simp;omega
theorem aCa:∀ l:List X,szX l=(l.map X.sz).sum
 | []=>by simp[szX]
 | x::r=>by simp[szX,aCa r]
theorem aAj:∀ l:List Y,hH l=(l.map Y.sz).sum
 | []=>by simp[hH]
 | x::r=>by simp[hH,aAj r]
theorem aCc:∀ l:List (List Y),szB l=(l.map fun b=>hH b+1).sum
 | []=>by simp[szB]
 | x::r=>by simp[szB,aCc r]
theorem dX {l:List X} {x:X} (h:x∈l):x.sz≤szX l:=by rw[aCa];exact uA h
theorem mM {l:List Y} {x:Y} (h:x∈l):x.sz≤hH l:=by rw[aAj];exact uA h
theorem gJ {l:List (List Y)} {x:List Y} (h:x∈l):hH x<szB l:=by rw[aCc];have h1:=uA (f:=fun b=>hH b+1) h;omega
theorem gK (l:List X):l.length≤szX l:=by rw[aCa];exact oD fun x=>by rw[X.sz_eq];omega
theorem lJ (l:List Y):l.length≤hH l:=by rw[aAj];exact oD fun x=>by rw[Y.sz_eq];omega
theorem rZ (l:List (List Y)):l.length≤szB l:=by rw[aCc];exact oD fun x=>by omega
theorem oB (l:List Tx):l.length≤szS l:=oD fun x=>by unfold szT;omega
theorem kT (l:List Dc):l.length≤szD l:=oD fun x=>by unfold Dc.sz;omega
theorem aNK {l:List En} {x:En} (h:x∈l):En.sz x≤szE l:=uA h
theorem aCg (l:List En):l.length≤szE l:=oD fun x=>by unfold En.sz;omega
theorem uE (l:List Mm):l.length≤szM l:=oD fun x=>by unfold Mm.sz;omega
theorem sG (l:List Ii):l.length≤szJ l:=oD fun x=>by unfold Ii.sz;omega
theorem pS {l:List Cl} {x:Cl} (h:x∈l):Cl.sz x≤szC l:=uA h
theorem lI (l:List Cl):l.length≤szC l:=oD fun x=>by unfold Cl.sz;omega
theorem m6 {i n:Nat} (h:i<n):jQ (i:Int) n=some i:=by
 unfold jQ
 rw[if_pos ⟨by omega,by omega⟩]
 simp
theorem wX (n:Nat):Nat.beq n n=true:=Nat.beq_refl n
noncomputable def fO (t:TypeId):Option (List V):=match cJ Tryz.prog t with|some i=>i.zero|none=>none
theorem ti3:cJ Tryz.prog 3=some ⟨.int .i64,1,8,fO 3⟩:=by kernel_rfl
theorem ti4:cJ Tryz.prog 4=some ⟨.bool,1,1,fO 4⟩:=by kernel_rfl
theorem ti9:cJ Tryz.prog 9=some ⟨.str,1,16,fO 9⟩:=by kernel_rfl
theorem aWl:cJ Tryz.prog 22=some ⟨.slice 76 2 40,1,24,fO 22⟩:=by kernel_rfl
theorem aWn:cJ Tryz.prog 23=some ⟨.slice 36 7 160,1,24,fO 23⟩:=by kernel_rfl
theorem aXk:cJ Tryz.prog 25=some ⟨.struct [(0,1,false),(1,1,false)],2,48,fO 25⟩:=by kernel_rfl
theorem aWE:cJ Tryz.prog 28=some ⟨.int .i64,1,8,fO 28⟩:=by kernel_rfl
theorem aVS:cJ Tryz.prog 30=some ⟨.slice 40 1 24,1,24,fO 30⟩:=by kernel_rfl
theorem aXr:cJ Tryz.prog 31=some ⟨.slice 46 3 48,1,24,fO 31⟩:=by kernel_rfl
theorem aVZ:cJ Tryz.prog 32=some ⟨.slice 103 3 32,1,24,fO 32⟩:=by kernel_rfl
theorem aWk:cJ Tryz.prog 33=some ⟨.slice 106 2 32,1,24,fO 33⟩:=by kernel_rfl
theorem aXB:cJ Tryz.prog 34=some ⟨.slice 74 12 176,1,24,fO 34⟩:=by kernel_rfl
theorem aXE:cJ Tryz.prog 36=some ⟨.struct [(0,1,false),(1,1,false),(2,1,false),(3,1,false),(4,1,false),(5,1,false),(6,1,false)],7,160,fO 36⟩:=by kernel_rfl
theorem aXp:cJ Tryz.prog 37=some ⟨.ptr,1,8,fO 37⟩:=by kernel_rfl
theorem aXd:cJ Tryz.prog 40=some ⟨.slice 3 1 8,1,24,fO 40⟩:=by kernel_rfl
theorem aXD:cJ Tryz.prog 44=some ⟨.slice 156 3 32,1,24,fO 44⟩:=by kernel_rfl
theorem aXR:cJ Tryz.prog 46=some ⟨.struct [(0,1,false),(1,1,false),(2,1,false)],3,48,fO 46⟩:=by kernel_rfl
theorem aWC:cJ Tryz.prog 49=some ⟨.ptr,1,8,fO 49⟩:=by kernel_rfl
theorem aWu:cJ Tryz.prog 59=some ⟨.slice 66 8 184,1,24,fO 59⟩:=by kernel_rfl
theorem aVW:cJ Tryz.prog 61=some ⟨.struct [(0,1,false),(1,1,false)],2,48,fO 61⟩:=by kernel_rfl
theorem aWm:cJ Tryz.prog 62=some ⟨.slice 172 7 96,1,24,fO 62⟩:=by kernel_rfl
theorem aWc:cJ Tryz.prog 63=some ⟨.slice 175 1 24,1,24,fO 63⟩:=by kernel_rfl
theorem aWx:cJ Tryz.prog 64=some ⟨.slice 70 6 72,1,24,fO 64⟩:=by kernel_rfl
theorem aXb:cJ Tryz.prog 66=some ⟨.struct [(0,1,false),(1,1,false),(2,1,false),(3,1,false),(4,1,false),(5,1,false),(6,1,false),(7,1,false)],8,184,fO 66⟩:=by kernel_rfl
theorem aWM:cJ Tryz.prog 70=some ⟨.struct [(0,1,false),(1,1,false),(2,1,false),(3,1,false),(4,1,false),(5,1,false)],6,72,fO 70⟩:=by kernel_rfl
theorem aXx:cJ Tryz.prog 71=some ⟨.slice 9 1 16,1,24,fO 71⟩:=by kernel_rfl
theorem aWb:cJ Tryz.prog 72=some ⟨.slice 34 1 24,1,24,fO 72⟩:=by kernel_rfl
theorem aXG:cJ Tryz.prog 74=some ⟨.struct [(0,1,false),(1,1,false),(2,1,false),(3,6,true),(9,1,false),(10,1,false),(11,1,false)],12,176,fO 74⟩:=by kernel_rfl
theorem aWe:cJ Tryz.prog 76=some ⟨.struct [(0,1,false),(1,1,false)],2,40,fO 76⟩:=by kernel_rfl
theorem aXe:cJ Tryz.prog 77=some ⟨.ptr,1,8,fO 77⟩:=by kernel_rfl
theorem aWG:cJ Tryz.prog 81=some ⟨.slice 195 2 24,1,24,fO 81⟩:=by kernel_rfl
theorem aWq:cJ Tryz.prog 83=some ⟨.struct [(0,2,true),(2,7,true),(9,1,false),(10,1,false)],11,256,fO 83⟩:=by kernel_rfl
theorem aWN:cJ Tryz.prog 89=some ⟨.map 9 3,1,8,fO 89⟩:=by kernel_rfl
theorem aXF:cJ Tryz.prog 90=some ⟨.map 9 37,1,8,fO 90⟩:=by kernel_rfl
theorem aWj:cJ Tryz.prog 92=some ⟨.struct [(0,1,false),(1,7,true),(8,1,false),(9,1,false)],10,200,fO 92⟩:=by kernel_rfl
theorem aSq:cJ Tryz.prog 103=some ⟨.struct [(0,1,false),(1,1,false),(2,1,false)],3,32,fO 103⟩:=by kernel_rfl
theorem aTa:cJ Tryz.prog 106=some ⟨.struct [(0,1,false),(1,1,false)],2,32,fO 106⟩:=by kernel_rfl
theorem aRu:cJ Tryz.prog 113=some ⟨.slice 49 1 8,1,24,fO 113⟩:=by kernel_rfl
theorem aTy:cJ Tryz.prog 115=some ⟨.struct [(0,2,true),(2,7,true),(9,1,false),(10,1,false)],11,256,fO 115⟩:=by kernel_rfl
theorem aSt:cJ Tryz.prog 124=some ⟨.map 9 4,1,8,fO 124⟩:=by kernel_rfl
theorem aRX:cJ Tryz.prog 125=some ⟨.map 9 36,1,8,fO 125⟩:=by kernel_rfl
theorem aRG:cJ Tryz.prog 127=some ⟨.struct [(0,1,false),(1,1,false),(2,7,true),(9,1,false),(10,1,false),(11,1,false),(12,1,false)],13,240,fO 127⟩:=by kernel_rfl
theorem aSM:cJ Tryz.prog 128=some ⟨.array 2 31 1 false,2,48,fO 128⟩:=by kernel_rfl
theorem aUg:cJ Tryz.prog 132=some ⟨.slice 214 2 24,1,24,fO 132⟩:=by kernel_rfl
theorem aUu:cJ Tryz.prog 134=some ⟨.struct [(0,1,false),(1,1,false)],2,48,fO 134⟩:=by kernel_rfl
theorem aTb:cJ Tryz.prog 149=some ⟨.struct [(0,1,false),(1,1,false)],2,16,fO 149⟩:=by kernel_rfl
theorem aRZ:cJ Tryz.prog 156=some ⟨.struct [(0,1,false),(1,1,false),(2,1,false)],3,32,fO 156⟩:=by kernel_rfl
theorem aTo:cJ Tryz.prog 166=some ⟨.ptr,1,8,fO 166⟩:=by kernel_rfl
theorem aTt:cJ Tryz.prog 168=some ⟨.struct [(0,1,false),(1,1,false),(2,1,false)],3,56,fO 168⟩:=by kernel_rfl
theorem aSR:cJ Tryz.prog 172=some ⟨.struct [(0,1,false),(1,6,true)],7,96,fO 172⟩:=by kernel_rfl
theorem aRI:cJ Tryz.prog 173=some ⟨.slice 178 6 136,1,24,fO 173⟩:=by kernel_rfl
theorem aSI:cJ Tryz.prog 175=some ⟨.struct [(0,1,false)],1,24,fO 175⟩:=by kernel_rfl
theorem aUZ:cJ Tryz.prog 176=some ⟨.slice 202 8 88,1,24,fO 176⟩:=by kernel_rfl
theorem aUd:cJ Tryz.prog 178=some ⟨.struct [(0,1,false),(1,1,false),(2,1,false),(3,1,false),(4,1,false),(5,1,false)],6,136,fO 178⟩:=by kernel_rfl
theorem aUU:cJ Tryz.prog 180=some ⟨.array 3 31 1 false,3,72,fO 180⟩:=by kernel_rfl
theorem aUi:cJ Tryz.prog 195=some ⟨.struct [(0,1,false),(1,1,false)],2,24,fO 195⟩:=by kernel_rfl
theorem aSe:cJ Tryz.prog 202=some ⟨.struct [(0,6,true),(6,1,false),(7,1,false)],8,88,fO 202⟩:=by kernel_rfl
theorem aRU:cJ Tryz.prog 214=some ⟨.struct [(0,1,false),(1,1,false)],2,24,fO 214⟩:=by kernel_rfl
theorem aSU:cJ Tryz.prog 234=some ⟨.int .i16,1,2,fO 234⟩:=by kernel_rfl
theorem zz3:fO 3=some [.d (.int .i64 0)]:=by kernel_rfl
theorem zz4:fO 4=some [.d (.bool false)]:=by kernel_rfl
theorem zz9:fO 9=some [.d (.str [])]:=by kernel_rfl
theorem aWO:fO 22=some [.full []]:=by kernel_rfl
theorem aWX:fO 23=some [.full []]:=by kernel_rfl
theorem aWh:fO 25=some [.full [],.full []]:=by kernel_rfl
theorem aXI:fO 28=some [.d (.int .i64 0)]:=by kernel_rfl
theorem aXM:fO 30=some [.full []]:=by kernel_rfl
theorem aWa:fO 31=some [.full []]:=by kernel_rfl
theorem aXj:fO 32=some [.full []]:=by kernel_rfl
theorem aVV:fO 33=some [.full []]:=by kernel_rfl
theorem aYa:fO 34=some [.full []]:=by kernel_rfl
theorem aXo:fO 36=some [.d (.str []),.full [],.full [],.full [],.full [],.full [],.full []]:=by kernel_rfl
theorem aXC:fO 37=some [.con (.pointer none)]:=by kernel_rfl
theorem aXn:fO 40=some [.full []]:=by kernel_rfl
theorem aWZ:fO 44=some [.full []]:=by kernel_rfl
theorem aXz:fO 46=some [.d (.str []),.d (.int .i64 0),.full []]:=by kernel_rfl
theorem aXt:fO 49=some [.con (.pointer none)]:=by kernel_rfl
theorem aWs:fO 59=some [.full []]:=by kernel_rfl
theorem aVU:fO 61=some [.full [],.full []]:=by kernel_rfl
theorem aWg:fO 62=some [.full []]:=by kernel_rfl
theorem aXP:fO 63=some [.full []]:=by kernel_rfl
theorem aWF:fO 64=some [.full []]:=by kernel_rfl
theorem aXZ:fO 66=some [.d (.str []),.full [],.full [],.full [],.full [],.full [],.full [],.full []]:=by kernel_rfl
theorem aXU:fO 70=some [.d (.int .i64 0),.d (.int .i64 0),.d (.int .i64 0),.d (.int .i64 0),.d (.str []),.full []]:=by kernel_rfl
theorem aVR:fO 71=some [.full []]:=by kernel_rfl
theorem aXY:fO 72=some [.full []]:=by kernel_rfl
theorem aWA:fO 74=some [.d (.int .i64 0),.d (.str []),.d (.int .i64 0),.d (.int .i64 0),.d (.int .i64 0),.d (.int .i64 0),.d (.int .i64 0),.d (.str []),.full [],.full [],.full [],.full []]:=by kernel_rfl
theorem aWL:fO 76=some [.d (.str []),.full []]:=by kernel_rfl
theorem aWT:fO 77=some [.con (.pointer none)]:=by kernel_rfl
theorem aXK:fO 81=some [.full []]:=by kernel_rfl
theorem aVP:fO 83=some [.full [],.full [],.d (.str []),.full [],.full [],.full [],.full [],.full [],.full [],.full [],.full []]:=by kernel_rfl
theorem aXT:fO 89=some [.con (.map none)]:=by kernel_rfl
theorem aWU:fO 90=some [.con (.map none)]:=by kernel_rfl
theorem aWH:fO 92=some [.full [],.d (.str []),.full [],.full [],.full [],.full [],.full [],.full [],.con (.map none),.con (.map none)]:=by kernel_rfl
theorem aTm:fO 103=some [.d (.str []),.d (.int .i64 0),.d (.int .i64 0)]:=by kernel_rfl
theorem aSj:fO 106=some [.d (.str []),.d (.str [])]:=by kernel_rfl
theorem aUx:fO 113=some [.full []]:=by kernel_rfl
theorem aUO:fO 115=some [.full [],.full [],.d (.str []),.full [],.full [],.full [],.full [],.full [],.full [],.full [],.full []]:=by kernel_rfl
theorem aSr:fO 124=some [.con (.map none)]:=by kernel_rfl
theorem aSx:fO 125=some [.con (.map none)]:=by kernel_rfl
theorem aSi:fO 127=some [.full [],.full [],.d (.str []),.full [],.full [],.full [],.full [],.full [],.full [],.con (.map none),.con (.map none),.con (.map none),.con (.map none)]:=by kernel_rfl
theorem aUt:fO 128=some [.full [],.full []]:=by kernel_rfl
theorem aTT:fO 132=some [.full []]:=by kernel_rfl
theorem aSL:fO 134=some [.full [],.full []]:=by kernel_rfl
theorem aRA:fO 149=some [.con (.pointer none),.con (.map none)]:=by kernel_rfl
theorem aUz:fO 156=some [.d (.str []),.d (.int .i64 0),.d (.int .i64 0)]:=by kernel_rfl
theorem aSu:fO 166=some [.con (.pointer none)]:=by kernel_rfl
theorem aTX:fO 168=some [.con (.pointer none),.full [],.full []]:=by kernel_rfl
theorem aTi:fO 172=some [.full [],.d (.int .i64 0),.d (.int .i64 0),.d (.int .i64 0),.d (.int .i64 0),.d (.str []),.full []]:=by kernel_rfl
theorem aSK:fO 173=some [.full []]:=by kernel_rfl
theorem aTs:fO 175=some [.full []]:=by kernel_rfl
theorem aRO:fO 176=some [.full []]:=by kernel_rfl
theorem aRY:fO 178=some [.d (.str []),.full [],.full [],.full [],.full [],.full []]:=by kernel_rfl
theorem aUJ:fO 180=some [.full [],.full [],.full []]:=by kernel_rfl
theorem aTS:fO 195=some [.d (.str []),.d (.int .i64 0)]:=by kernel_rfl
theorem aTE:fO 202=some [.d (.int .i64 0),.d (.int .i64 0),.d (.int .i64 0),.d (.int .i64 0),.d (.str []),.full [],.d (.int .i64 0),.d (.bool false)]:=by kernel_rfl
theorem aUL:fO 214=some [.d (.str []),.d (.int .i64 0)]:=by kernel_rfl
theorem aTC:fO 234=some [.d (.int .i16 0)]:=by kernel_rfl
attribute [simp] ti3 ti4 ti9 aWl aWn aXk aWE aVS aXr aVZ aWk aXB aXE aXp aXd aXD aXR aWC aWu aVW aWm aWc aWx aXb aWM aXx aWb aXG aWe aXe aWG aWq aWN aXF aWj aSq aTa aRu aTy aSt aRX aRG aSM aUg aUu aTb aRZ aTo aTt aSR aRI aSI aUZ aUd aUU aUi aSe aRU aSU
attribute [simp] zz3 zz4 zz9 aWO aWX aWh aXI aXM aWa aXj aVV aYa aXo aXC aXn aWZ aXz aXt aWs aVU aWg aXP aWF aXZ aXU aVR aXY aWA aWL aWT aXK aVP aXT aWU aWH aTm aSj aUx aUO aSr aSx aSi aUt aTT aSL aRA aUz aSu aTX aTi aSK aTs aRO aRY aUJ aTS aTE aUL aTC
theorem aRS:nX Tryz.prog 156=some [(0,.str),(1,.int),(2,.int)]:=by kernel_rfl
theorem aSc:nX Tryz.prog 103=some [(0,.str),(1,.int),(2,.int)]:=by kernel_rfl
theorem aSo:nX Tryz.prog 106=some [(0,.str),(1,.str)]:=by kernel_rfl
theorem aJR (f:Nat):Ob.cfg.prim f=Ob.prim f:=rfl
theorem aPZ (f:Nat):Ob.cfg.thr f=Ob.thr f:=rfl
theorem aSv (f r:Nat):Ob.cfg.fz f r=Ob.fz f r:=rfl
theorem aQC (f:Nat):Ob.cfg.own f=Ob.own f:=rfl
theorem aNt (f r:Nat):Ob.cfg.keep f r=Ob.keep f r:=rfl
theorem aPF (f r:Nat):Ob.cfg.mat f r=Ob.mat f r:=rfl
theorem aIo (look:cA) (sz id g off len sz':Nat) (cap:Option Nat):iM look sz (.osl id g off len sz' cap)=match live look id g,Nat.beq sz sz' with
  | some o,true=>match Nat.ble (off+len*sz) o.cells.length with
   | true=>some (len,(o.cells.drop off).take (len*sz),[id])
   | false=>none
  | _,_=>none:=rfl
attribute [simp] aRS aSc aSo aCZ aDq aJR Ob.prim aPZ Ob.thr kS o9 fA mT gW ofD yQ V.flat V.flat2 V.flat1 D.flat gC nZ.get aCB m7 a8 aNI aCR aIl aCd unV
 lQ aFn tC ret lP aEL aFW xR aHe TI.agg aHA nZ.keep aLQ aKR aHw aGu rA
attribute [simp] opP zL pO step jS live wX aID vM V.one yO cl1 mC aSv Ob.fz Hp.get Hp.set Hp.sets bA m6 rD
attribute [simp] Hp.trunc_zero aNv Hp.get_set_self Hp.trunc cut aQC Ob.own aJJ dD
attribute [simp] aPB aAG aHR aAU aNt aPF Ob.mat aUV aIo uG aZ aW aT cQ aX mJ bP zK lC lD mY
theorem aEr {n:Int} (h: -9223372036854775808≤n) (h':n≤9223372036854775807):IntKind.i64.wrap n=n:=uM h h'
end Go.Ac
end
section
set_option maxRecDepth 4000
namespace Go.Ac
open Go.Proofs
theorem aS (a b:Int):(a==b)=decide (a=b):=by by_cases h:a=b <;> simp[h]
theorem aV (a b:Int):(a != b)= !decide (a=b):=by by_cases h:a=b <;> simp[h]
theorem bE (a b:Tx):(a==b)=decide (a=b):=by by_cases h:a=b <;> simp[h]
theorem f7 (a b:Tx):(a != b)= !decide (a=b):=by by_cases h:a=b <;> simp[h]
theorem bM {α:Type} {l:List α} {j:Nat} {x:α} (h:l[j]?=some x):l.take (j+1)=l.take j++[x]:=by rw[List.take_add_one,h];rfl
end Go.Ac
end
