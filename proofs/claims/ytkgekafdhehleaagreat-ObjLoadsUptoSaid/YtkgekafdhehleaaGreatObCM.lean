/- Lists compared. -/
import Derived.Test.YtkgekafdhehleaaGreatAcThM
import Derived.Test.YtkgekafdhehleaaGreatObHn
import Derived.KernelRfl
import Derived.Test.YtkgekafdhehleaaGreatChecked
set_option linter.unusedVariables false
set_option linter.unusedSimpArgs false
section
namespace Go.Ac
variable {P:Program} {cfg:Cfg} {fid:FuncId} {rid:Nat}
def jL [Gl] (P:Program) (cfg:Cfg) (f:FuncId) (vs:List V) (hp:Hp) (n c:Nat) (v:V):Prop:=∃ h' c',nV P cfg f vs hp n c=some ⟨v,h',n,c',[]⟩
def aFK (P:Program) (fn:Func) (n:Nat) (v:V) (e:Ex) (t:St):Prop:=
 (e= .normal∨e= .ret)∧t.wl=[]∧∃ rs,gG P t fn.results.toList=some rs∧tup rs=v
theorem i9 [Gl] {f:FuncId} {fn:Func} {body:Code} {vs:List V} {v:V} {hp:Hp} {n c:Nat} (hf:P.funcs[f]?=some fn) (hb:fn.body=some body) (cC:(Nat.ble vs.length fn.ntmps&&fL fn.ntmps body)=true)
  (vX:cfg.thr f=false) (gI:∀ look:cA,d7 look v=some (v,[])) (h:WP P cfg f body ⟨dG 0 vs,hp,n,c,n,[]⟩ (aFK P fn n v)):jL P cfg f vs hp n c v:=by
 obtain ⟨e,t,⟨K,hK⟩,he,iT,rs,hrs,aZg⟩:=h
 have aGB:lQ (cfg.thr f) n t (tup rs)=some ⟨v,Hp.trunc n t.hp,n,t.c,[]⟩:=by
  unfold lQ
  rw[vX,aZg]
  simp only[Bool.false_eq_true,if_false,gI,iT]
  rw[if_pos]
  simp
 refine ⟨Hp.trunc n t.hp,t.c,aBt ⟨K,fun k hk=>?_⟩⟩
 unfold oW fM
 rw[hf]
 simp only[hb,cC]
 rw[show enter vs hp n c=⟨dG 0 vs,hp,n,c,n,[]⟩ from rfl,hK k hk]
 rcases he with rfl|rfl <;> simp only[aBV,hrs,aGB]
theorem RT.callV [Gl] {fo:Operand} {args:Array Operand} {ts:Array TypeId} {dst:Option Nat} {g:Gd} {r:List PO} {e e':oH} {hp h':Hp} {n c c' n0:Nat} {wl:List Nat} {f:FuncId} {caps vs:List V} {x:V} {t:St} {qs:List Tq}
  (hg:Is (qG e g) (some true)) (mJ:Is (gL e fo) (.fn f caps)) (hpr:Is (cfg.prim f) none) (hvs:Is (args.toList.map (gL e)++caps) vs) (gI:Is (lK (if cfg.thr f then fF else hp.get) vs) none) (hd:Is (nV P cfg f vs hp n c) (some ⟨x,h',n,c',[]⟩))
  (he:a7 e dst x=e') (h':RT P cfg fid rid r ⟨e',hp,n,c+(c' - c),n0,wl⟩ t qs):
  RT P cfg fid rid (⟨.call ⟨.value fo,args,ts⟩,dst,g⟩::r) ⟨e,hp,n,c,n0,wl⟩ t (⟨[],[],true,c' - c⟩::qs):=by
 unfold Is at*
 have:kH cfg (nV P cfg) hp n c f vs=some ⟨x,[],[],0,c' - c,true⟩:=by
  unfold kH
  rw[gI]
  simp only[hd,Nat.sub_self,List.range_zero,List.map_nil,List.append_nil,kL]
 refine RT.wr (v:=x) (wr:=[]) (dn:=0) (dc:=c' - c) ?_ he rfl rfl rfl rfl h'
 show opP P cfg fid rid _ _=_
 unfold opP
 simp only[hg]
 have h2:aAg P cfg fid rid ⟨.call ⟨.value fo,args,ts⟩,dst,g⟩ ⟨e,hp,n,c,n0,wl⟩=some ⟨x,[],[],0,c' - c,true⟩:=by
  simp only[aAg,mJ,hpr]
  rw[hvs,this]
 rw[h2]
 rfl
theorem jL.fn [Gl] {f:FuncId} {vs:List V} {hp:Hp} {n:Nat} {x:V} (h:∀ c,jL P cfg f vs hp n c x):∃ (h':Nat→Hp) (c':Nat→Nat),∀ c,nV P cfg f vs hp n c=some ⟨x,h' c,n,c' c,[]⟩:=by
 obtain ⟨h1,h2⟩:=Classical.axiomOfChoice h
 obtain ⟨h3,h4⟩:=Classical.axiomOfChoice h2
 exact ⟨h1,h3,h4⟩
theorem eK.v [Gl] {f:FuncId} {vs:List V} {hp:Hp} {n c:Nat} {x:D} (h:eK P cfg f vs hp n c x):jL P cfg f vs hp n c (.d x):=h
def yL [Gl] (P:Program) (cfg:Cfg) (f:FuncId) (vs:List V) (hp:Hp) (n c:Nat) (v:V) (ids:List Nat) (Φ:Hp→Prop):Prop:=
 ∃ q,nV P cfg f vs hp n c=some q∧q.v=v∧q.n=n∧WI ids n hp q.wl q.hp∧Φ q.hp
def aUn (P:Program) (fn:Func) (hp:Hp) (n:Nat) (v:V) (ids0:List Nat) (Φ:Hp→Prop) (e:Ex) (t:St):Prop:=
 (e= .normal∨e= .ret)∧∃ rs ids,gG P t fn.results.toList=some rs∧d7 t.hp.get (tup rs)=some (v,ids)∧(v.flat||ids.all (fun i=>Nat.ble n i))=true∧WI ids0 n hp t.wl t.hp∧Φ (Hp.trunc n t.hp)
theorem oP [Gl] {f:FuncId} {fn:Func} {body:Code} {vs:List V} {hp:Hp} {n c:Nat} {v:V} {ids0:List Nat} {Φ:Hp→Prop} (hf:P.funcs[f]?=some fn) (hb:fn.body=some body) (cC:(Nat.ble vs.length fn.ntmps&&fL fn.ntmps body)=true)
  (vX:cfg.thr f=false) (h:WP P cfg f body ⟨dG 0 vs,hp,n,c,n,[]⟩ (aUn P fn hp n v ids0 Φ)):yL P cfg f vs hp n c v ids0 Φ:=by
 obtain ⟨w,t,h1,h2⟩:=aFq (Q:=fun w t=>w=v∧WI ids0 n hp t.wl t.hp∧Φ (Hp.trunc n t.hp)) hf hb cC vX (h.mono fun e t ⟨he,rs,ids,a1,a2,a3,a4,a5⟩=>⟨he,rs,v,ids,a1,a2,a3,rfl,a4,a5⟩)
 exact ⟨_,h1,h2.1,rfl,h2.2.1.trunc (Nat.le_refl _),h2.2.2⟩
theorem yL.caller [Gl] {f:FuncId} {vs:List V} {hp:Hp} {n c:Nat} {v:V} {ids:List Nat} {Φ:Hp→Prop} (h:yL P cfg f vs hp n c v ids Φ) (aGA:∀ j,j∈ids→j<n):
  ∃ q,nV P cfg f vs hp n c=some q∧q.v=v∧q.n=n∧(∀ k,k∈(sK q n).map (·.1)→k<n+(q.n - n))∧(∀ k,k∈(sK q n).map (·.1)→k∈ids)∧
   (∀ j,j<n→j∉ids→(hp.sets (sK q n)).get j=hp.get j)∧∃ bB,Φ bB∧∀ j,j<n→(bB.get j).isSome=true→(hp.sets (sK q n)).get j=bB.get j:=by
 obtain ⟨q,h1,h2,h3,h4,h5⟩:=h
 have hk:∀ k,k∈(sK q n).map (·.1)→k∈ids∧k<n:=fun k hk=>by
  have:=aDl (by omega) h4 aGA hk
  rcases this.1 with h|h
  ·exact ⟨h,aGA k h⟩
  ·omega
 exact ⟨q,h1,h2,h3,fun k hk'=>by have:=(hk k hk').2;omega,fun k hk'=>(hk k hk').1,fun j hj hn=>aJV h4 hj hn,q.hp,h5,fun j hj hs=>aGE h4 (by omega) hs⟩
end Go.Ac
end
section
namespace Go.Ac
theorem iZ {α:Sort _} {x:α}:Is x x:=Is.rfl
theorem gS {α:Type _} {x:α} {i:Nat} {l:List α}:(x::l)[i+1]?=l[i]?:=rfl
theorem gZ {α:Type _} {x:α} {l:List α}:(x::l)[0]?=some x:=rfl
structure Hd (G:Prop):Prop where
 out:G
def Wk (L G G':Prop):Prop:=L→Hd G'→G
theorem wk {L:Prop} (hl:L) {G G':Prop} (k:G') (h:Wk L G G':=by
 intro hl hk
 repeat (first
 | apply WP.seq
 | (apply WP.reg;(case hR=>dsimp only [eV,eA,List.map,gS,gZ];exact iZ);(case hr=>(repeat (first
 | (apply RT.op;simp[hl];exact iZ;(try dsimp only [a7]) <;> exact rfl)
 | (apply RT.call;(iterate 2 simp;exact iZ);exact iZ;(iterate 4 simp[hl];exact iZ);simp[Is];(try dsimp only [a7]) <;> exact rfl;simp;exact iZ;simp;exact iZ)
 | (apply RT.wr;simp[hl];exact iZ;(try dsimp only [a7]) <;> exact rfl;simp[hl];exact iZ;(iterate 2 exact iZ);simp;exact iZ)));exact RT.nil);(case hc=>(show _=_;kernel_rfl));(case ht=>simp[hl];exact iZ))
 | apply WP.block|apply WP.skip|apply WP.exit|apply WP.ret)
 exact hk.out):G:=h hl ⟨k⟩
theorem mW {L:Prop} (hl:L) {G G':Prop} (k:G') (h:Wk L G G':=by
 intro hl hk
 repeat (first
 | apply WP.seq
 | (apply WP.reg;(case hR=>dsimp only [eV,eA,List.map,gS,gZ];exact iZ);(case hr=>(repeat (first
 | (apply RT.op;simp[hl];exact iZ;(try dsimp only [a7]) <;> exact rfl)
 | (apply RT.call;(iterate 2 simp;exact iZ);exact iZ;(iterate 4 simp[hl];exact iZ);simp[Is];(try dsimp only [a7]) <;> exact rfl;simp;exact iZ;simp;exact iZ)
 | (apply RT.clone;(iterate 2 simp;exact iZ);exact iZ;(iterate 2 simp[hl];exact iZ);(first|assumption|(simp[bU];omega));(try dsimp only [a7]) <;> exact rfl;simp[hl];exact iZ;simp;exact iZ)
 | (apply RT.callQ;(iterate 2 simp;exact iZ);exact iZ;(iterate 3 simp[hl];exact iZ);(try dsimp only [a7]) <;> exact rfl)
 | (apply RT.wr;simp[hl];exact iZ;(try dsimp only [a7]) <;> exact rfl;simp[hl];exact iZ;(iterate 2 exact iZ);simp;exact iZ)));exact RT.nil);(case hc=>(show _=_;kernel_rfl));(case ht=>simp[hl];exact iZ))
 | apply WP.block|apply WP.skip|apply WP.exit|apply WP.ret)
 exact hk.out):G:=h hl ⟨k⟩
theorem pS {L:Prop} (hl:L) {G G':Prop} (k:G') (h:Wk L G G':=by
 intro hl hk
 repeat (first
 | apply WP.seq
 | (apply WP.reg;(case hR=>dsimp only [eV,eA,List.map,gS,gZ];exact iZ);(case hr=>(repeat (first
 | (apply RT.op;simp[hl];exact iZ;(try dsimp only [a7]) <;> exact rfl)
 | (apply RT.call;(iterate 2 simp;exact iZ);exact iZ;(iterate 4 simp[hl];exact iZ);simp[Is];(try dsimp only [a7]) <;> exact rfl;simp;exact iZ;simp;exact iZ)
 | (apply RT.callV;(iterate 2 simp;exact iZ);exact iZ;(iterate 3 simp[hl];exact iZ);(try dsimp only [a7]) <;> exact rfl)
 | (apply RT.wr;simp[hl];exact iZ;(try dsimp only [a7]) <;> exact rfl;simp[hl];exact iZ;(iterate 2 exact iZ);simp;exact iZ)));exact RT.nil);(case hc=>(show _=_;kernel_rfl));(case ht=>simp[hl];exact iZ))
 | apply WP.block|apply WP.skip|apply WP.exit|apply WP.ret)
 exact hk.out):G:=h hl ⟨k⟩
theorem bA {L:Prop} (hl:L) {G G':Prop} (k:G') (h:Wk L G G':=by
 intro hl hk
 repeat (first
 | apply WP.seq
 | (apply WP.reg;(case hR=>dsimp only [eV,eA,List.map,gS,gZ];exact iZ);(case hr=>(repeat (first
 | (apply RT.op;simp[hl];exact iZ;(try dsimp only [a7]) <;> exact rfl)
 | (apply RT.call;(iterate 2 simp;exact iZ);exact iZ;(iterate 4 simp[hl];exact iZ);simp[Is];(try dsimp only [a7]) <;> exact rfl;simp;exact iZ;simp;exact iZ)
 | (apply RT.wr;simp[hl];exact iZ;(try dsimp only [a7]) <;> exact rfl;simp[hl];exact iZ;(iterate 2 exact iZ);simp;exact iZ)));exact RT.nil);(case hc=>(show _=_;kernel_rfl));(case ht=>simp[hl];exact iZ))
 | apply WP.block|apply WP.skip|apply WP.exit|apply WP.ret|refine WP.condT rfl ?_|refine WP.condF rfl ?_)
 exact hk.out):G:=h hl ⟨k⟩
theorem rI {L:Prop} (hl:L) {G G':Prop} (k:G') (h:Wk L G G':=by
 intro hl hk
 repeat (first
 | apply WP.seq
 | (apply WP.reg;(case hR=>dsimp only [eV,eA,List.map,gS,gZ];exact iZ);(case hr=>(repeat (first
 | (apply RT.op;simp[hl];exact iZ;(try dsimp only [a7]) <;> exact rfl)
 | (apply RT.call;(iterate 2 simp;exact iZ);exact iZ;(iterate 4 simp[hl];exact iZ);simp[Is];(try dsimp only [a7]) <;> exact rfl;simp;exact iZ;simp;exact iZ)
 | (apply RT.clone;(iterate 2 simp;exact iZ);exact iZ;(iterate 2 simp[hl];exact iZ);(first|assumption|(simp[bU];omega));(try dsimp only [a7]) <;> exact rfl;simp[hl];exact iZ;simp;exact iZ)
 | (apply RT.callQ;(iterate 2 simp;exact iZ);exact iZ;(iterate 3 simp[hl];exact iZ);(try dsimp only [a7]) <;> exact rfl)
 | (apply RT.wr;simp[hl];exact iZ;(try dsimp only [a7]) <;> exact rfl;simp[hl];exact iZ;(iterate 2 exact iZ);simp;exact iZ)));exact RT.nil);(case hc=>(show _=_;kernel_rfl));(case ht=>simp[hl];exact iZ))
 | apply WP.block|apply WP.skip|apply WP.exit|apply WP.ret|refine WP.condT rfl ?_|refine WP.condF rfl ?_)
 exact hk.out):G:=h hl ⟨k⟩
theorem cT {L:Prop} (hl:L) {G G':Prop} (k:G') (h:Wk L G G':=by
 intro hl hk
 repeat (first
 | apply WP.seq
 | (apply WP.reg;(case hR=>dsimp only [eV,eA,List.map,gS,gZ];exact iZ);(case hr=>(repeat (first
 | (apply RT.op;simp[hl];exact iZ;(try dsimp only [a7]) <;> exact rfl)
 | (apply RT.call;(iterate 2 simp;exact iZ);exact iZ;(iterate 4 simp[hl];exact iZ);simp[Is];(try dsimp only [a7]) <;> exact rfl;simp;exact iZ;simp;exact iZ)
 | (apply RT.callV;(iterate 2 simp;exact iZ);exact iZ;(iterate 3 simp[hl];exact iZ);(try dsimp only [a7]) <;> exact rfl)
 | (apply RT.wr;simp[hl];exact iZ;(try dsimp only [a7]) <;> exact rfl;simp[hl];exact iZ;(iterate 2 exact iZ);simp;exact iZ)));exact RT.nil);(case hc=>(show _=_;kernel_rfl));(case ht=>simp[hl];exact iZ))
 | apply WP.block|apply WP.skip|apply WP.exit|apply WP.ret|refine WP.condT rfl ?_|refine WP.condF rfl ?_)
 exact hk.out):G:=h hl ⟨k⟩
end Go.Ac
end
section
namespace Go.Ac
open Go.Proofs
abbrev Tx:=List UInt8
inductive X where
 | mk (k o t v:Int) (nm:Tx) (args:List X)
inductive Y where
 | mk (k:Int) (nm:Tx) (t:Int) (r:X) (outs:List Tx) (args:List X) (brs:List (List Y))
structure On where
 nm:Tx
 t:Int
 tag:Int
structure Dc where
 nm:Tx
 t:Int
 ck:List On
structure En where
 nm:Tx
 tags:List Tx
structure Mm where
 nm:Tx
 t:Int
 ini:Int
structure Ii where
 nm:Tx
 cl:Tx
structure Cl where
 nm:Tx
 inn:List Dc
 out:List Dc
 loc:List Dc
 mems:List Mm
 ins:List Ii
 step:List Y
structure Oc where
 en:List En
 cl:List Cl
def ni (n:Int):D:= .int .i64 n
def dI (n:Int):V:= .d (.int .i64 n)
theorem aB:type_of% @dI.eq_1:=@dI.eq_1
def dB (b:Bool):V:= .d (.bool b)
theorem aF:type_of% @dB.eq_1:=@dB.eq_1
def dS (s:Tx):V:= .d (.str s)
theorem aM:type_of% @dS.eq_1:=@dS.eq_1
def bQ (l:List Int):List (List D):=l.map fun n=>[.int .i64 n]
def eX (l:List Tx):List (List D):=l.map fun s=>[.str s]
mutual
def X.cells:X→List D
 | .mk k o t v nm args=>[.int .i64 k,.int .i64 o,.int .i64 t,.int .i64 v,.str nm,.slice (gC args)]
def gC:List X→List (List D)
 | []=>[]
 | x::r=>x.cells::gC r
end
mutual
def Y.cells:Y→List D
 | .mk k nm t r outs args brs=>[.int .i64 k,.str nm,.int .i64 t]++r.cells++[.slice (eX outs),.slice (gC args),.slice (iL brs)]
def dM:List Y→List (List D)
 | []=>[]
 | y::r=>y.cells::dM r
def iL:List (List Y)→List (List D)
 | []=>[]
 | b::r=>[.slice (dM b)]::iL r
end
def On.cells (x:On):List D:=[.str x.nm,.int .i64 x.t,.int .i64 x.tag]
def aOV (l:List On):List (List D):=l.map On.cells
def Dc.cells (x:Dc):List D:=[.str x.nm,.int .i64 x.t,.slice (aOV x.ck)]
theorem aR:type_of% @Dc.cells.eq_1:=@Dc.cells.eq_1
def cM (l:List Dc):List (List D):=l.map Dc.cells
def En.cells (x:En):List D:=[.str x.nm,.slice (eX x.tags)]
def f9 (l:List En):List (List D):=l.map En.cells
def Mm.cells (x:Mm):List D:=[.str x.nm,.int .i64 x.t,.int .i64 x.ini]
def lF (l:List Mm):List (List D):=l.map Mm.cells
def Ii.cells (x:Ii):List D:=[.str x.nm,.str x.cl]
def lV (l:List Ii):List (List D):=l.map Ii.cells
def Cl.cells (x:Cl):List D:=[.str x.nm,.slice (cM x.inn),.slice (cM x.out),.slice (cM x.loc),.slice (lF x.mems),.slice (lV x.ins),.slice (dM x.step)]
theorem aK:type_of% @Cl.cells.eq_1:=@Cl.cells.eq_1
def gJ (l:List Cl):List (List D):=l.map Cl.cells
def Oc.cells (x:Oc):List D:=[.slice (f9 x.en),.slice (gJ x.cl)]
theorem aJ:type_of% @Oc.cells.eq_1:=@Oc.cells.eq_1
def aG (l:List D):V:= .agg (l.map .d)
theorem aD:type_of% @aG.eq_1:=@aG.eq_1
def dL (l:List (List D)):V:= .d (.slice l)
theorem aA:type_of% @dL.eq_1:=@dL.eq_1
def X.k:X→Int|.mk k _ _ _ _ _=>k
def X.o:X→Int|.mk _ o _ _ _ _=>o
def X.t:X→Int|.mk _ _ t _ _ _=>t
def X.v:X→Int|.mk _ _ _ v _ _=>v
def X.nm:X→Tx|.mk _ _ _ _ n _=>n
def X.args:X→List X|.mk _ _ _ _ _ l=>l
def Y.k:Y→Int|.mk k _ _ _ _ _ _=>k
def Y.nm:Y→Tx|.mk _ n _ _ _ _ _=>n
def Y.t:Y→Int|.mk _ _ t _ _ _ _=>t
def Y.r:Y→X|.mk _ _ _ r _ _ _=>r
def Y.outs:Y→List Tx|.mk _ _ _ _ o _ _=>o
def Y.args:Y→List X|.mk _ _ _ _ _ a _=>a
def Y.brs:Y→List (List Y)|.mk _ _ _ _ _ _ b=>b
theorem aE (x:X):x.cells=[.int .i64 x.k,.int .i64 x.o,.int .i64 x.t,.int .i64 x.v,.str x.nm,.slice (gC x.args)]:=by cases x;simp[X.cells,X.k,X.o,X.t,X.v,X.nm,X.args]
theorem aC (y:Y):y.cells=[.int .i64 y.k,.str y.nm,.int .i64 y.t,.int .i64 y.r.k,.int .i64 y.r.o,.int .i64 y.r.t,.int .i64 y.r.v,.str y.r.nm,.slice (gC y.r.args),.slice (eX y.outs),.slice (gC y.args),.slice (iL y.brs)]:=by
 cases y;simp[Y.cells,aE,Y.k,Y.nm,Y.t,Y.r,Y.outs,Y.args,Y.brs]
theorem rT:∀ l:List X,gC l=l.map X.cells
 | []=>by simp[gC]
 | x::r=>by simp[gC,rT r]
theorem pF:∀ l:List Y,dM l=l.map Y.cells
 | []=>by simp[dM]
 | x::r=>by simp[dM,pF r]
theorem tQ:∀ l:List (List Y),iL l=l.map fun b=>[.slice (dM b)]
 | []=>by simp[iL]
 | x::r=>by simp[iL,tQ r]
theorem aZ (l:List Int):(bQ l).length=l.length:=by simp[bQ]
theorem cP {l:List Int} {i:Nat} {y:Int} (h:l[i]?=some y):(bQ l)[i]?=some [.int .i64 y]:=by unfold bQ;simp[h]
theorem aW (l:List Tx):(eX l).length=l.length:=by simp[eX]
theorem sW {l:List Tx} {i:Nat} {y:Tx} (h:l[i]?=some y):(eX l)[i]?=some [.str y]:=by unfold eX;simp[h]
theorem aT (l:List X):(gC l).length=l.length:=by simp[rT]
theorem i8 {l:List X} {i:Nat} {y:X} (h:l[i]?=some y):(gC l)[i]?=some y.cells:=by rw[rT];simp[h]
theorem cV (l:List Y):(dM l).length=l.length:=by simp[pF]
theorem oT {l:List Y} {i:Nat} {y:Y} (h:l[i]?=some y):(dM l)[i]?=some y.cells:=by rw[pF];simp[h]
theorem aX (l:List (List Y)):(iL l).length=l.length:=by simp[tQ]
theorem l9 {l:List (List Y)} {i:Nat} {y:(List Y)} (h:l[i]?=some y):(iL l)[i]?=some [.slice (dM y)]:=by rw[tQ];simp[h]
theorem nJ (l:List On):(aOV l).length=l.length:=by simp[aOV]
theorem bT (l:List Dc):(cM l).length=l.length:=by simp[cM]
theorem eD {l:List Dc} {i:Nat} {y:Dc} (h:l[i]?=some y):(cM l)[i]?=some y.cells:=by unfold cM;simp[h]
theorem zS (l:List En):(f9 l).length=l.length:=by simp[f9]
theorem yB {l:List En} {i:Nat} {y:En} (h:l[i]?=some y):(f9 l)[i]?=some y.cells:=by unfold f9;simp[h]
theorem jC (l:List Mm):(lF l).length=l.length:=by simp[lF]
theorem kI {l:List Mm} {i:Nat} {y:Mm} (h:l[i]?=some y):(lF l)[i]?=some y.cells:=by unfold lF;simp[h]
theorem lU (l:List Ii):(lV l).length=l.length:=by simp[lV]
theorem nP {l:List Ii} {i:Nat} {y:Ii} (h:l[i]?=some y):(lV l)[i]?=some y.cells:=by unfold lV;simp[h]
theorem nK (l:List Cl):(gJ l).length=l.length:=by simp[gJ]
theorem lH {l:List Cl} {i:Nat} {y:Cl} (h:l[i]?=some y):(gJ l)[i]?=some y.cells:=by unfold gJ;simp[h]
def MX:Nat:=1152921504606846976
def szT (s:Tx):Nat:=s.length+1
def szS (l:List Tx):Nat:=(l.map szT).sum
mutual
def X.sz:X→Nat
 | .mk _ _ _ _ nm args=>szT nm+szX args+6
def szX:List X→Nat
 | []=>0
 | x::r=>x.sz+szX r
end
mutual
def Y.sz:Y→Nat
 | .mk _ nm _ r outs args brs=>szT nm+r.sz+szS outs+szX args+szB brs+12
def iG:List Y→Nat
 | []=>0
 | y::r=>y.sz+iG r
def szB:List (List Y)→Nat
 | []=>0
 | b::r=>iG b+1+szB r
end
def On.sz (x:On):Nat:=szT x.nm+3
def szO (l:List On):Nat:=(l.map On.sz).sum
def Dc.sz (x:Dc):Nat:=szT x.nm+szO x.ck+3
def szD (l:List Dc):Nat:=(l.map Dc.sz).sum
def En.sz (x:En):Nat:=szT x.nm+szS x.tags+2
def szE (l:List En):Nat:=(l.map En.sz).sum
def Mm.sz (x:Mm):Nat:=szT x.nm+3
def szM (l:List Mm):Nat:=(l.map Mm.sz).sum
def Ii.sz (x:Ii):Nat:=szT x.nm+szT x.cl+2
def szJ (l:List Ii):Nat:=(l.map Ii.sz).sum
def Cl.sz (x:Cl):Nat:=szT x.nm+szD x.inn+szD x.out+szD x.loc+szM x.mems+szJ x.ins+iG x.step+7
def szC (l:List Cl):Nat:=(l.map Cl.sz).sum
def Oc.sz (x:Oc):Nat:=szE x.en+szC x.cl+2
theorem X.sz_eq (x:X):x.sz=szT x.nm+szX x.args+6:=by cases x;simp[X.sz,X.nm,X.args]
theorem Y.sz_eq (y:Y):y.sz=szT y.nm+y.r.sz+szS y.outs+szX y.args+szB y.brs+12:=by cases y;simp[Y.sz,Y.nm,Y.r,Y.outs,Y.args,Y.brs]
theorem vA {α:Type} {f:α→Nat}:∀ {l:List α} {x:α},x∈l→f x≤(l.map f).sum
 | y::r,x,h=>by
  simp only[List.mem_cons] at h
  simp only[List.map_cons,List.sum_cons]
  rcases h with rfl|h
  ·omega
  ·have:=vA (f:=f) h;omega
theorem oN {α:Type} {f:α→Nat} (hf:∀ x,1≤f x):∀ {l:List α},l.length≤(l.map f).sum
 | []=>by simp
 | y::r=>by have:=oN hf (l:=r);have:=hf y;simp;omega
theorem aCy:∀ l:List X,szX l=(l.map X.sz).sum
 | []=>by simp[szX]
 | x::r=>by simp[szX,aCy r]
theorem zX:∀ l:List Y,iG l=(l.map Y.sz).sum
 | []=>by simp[iG]
 | x::r=>by simp[iG,zX r]
theorem aCH:∀ l:List (List Y),szB l=(l.map fun b=>iG b+1).sum
 | []=>by simp[szB]
 | x::r=>by simp[szB,aCH r]
theorem dZ {l:List X} {x:X} (h:x∈l):x.sz≤szX l:=by rw[aCy];exact vA h
theorem nS {l:List Y} {x:Y} (h:x∈l):x.sz≤iG l:=by rw[zX];exact vA h
theorem gR {l:List (List Y)} {x:List Y} (h:x∈l):iG x<szB l:=by rw[aCH];have h1:=vA (f:=fun b=>iG b+1) h;omega
theorem gV (l:List X):l.length≤szX l:=by rw[aCy];exact oN fun x=>by rw[X.sz_eq];omega
theorem l0 (l:List Y):l.length≤iG l:=by rw[zX];exact oN fun x=>by rw[Y.sz_eq];omega
theorem s8 (l:List (List Y)):l.length≤szB l:=by rw[aCH];exact oN fun x=>by omega
theorem oU (l:List Tx):l.length≤szS l:=oN fun x=>by unfold szT;omega
theorem lG (l:List Dc):l.length≤szD l:=oN fun x=>by unfold Dc.sz;omega
theorem aOq {l:List En} {x:En} (h:x∈l):En.sz x≤szE l:=vA h
theorem aCO (l:List En):l.length≤szE l:=oN fun x=>by unfold En.sz;omega
theorem u6 (l:List Mm):l.length≤szM l:=oN fun x=>by unfold Mm.sz;omega
theorem sO (l:List Ii):l.length≤szJ l:=oN fun x=>by unfold Ii.sz;omega
theorem qE {l:List Cl} {x:Cl} (h:x∈l):Cl.sz x≤szC l:=vA h
theorem l7 (l:List Cl):l.length≤szC l:=oN fun x=>by unfold Cl.sz;omega
theorem kX {i n:Nat} (h:i<n):jR (i:Int) n=some i:=by
 unfold jR
 rw[if_pos ⟨by omega,by omega⟩]
 simp
theorem tW (n:Nat):Nat.beq n n=true:=Nat.beq_refl n
noncomputable def fR (t:TypeId):Option (List V):=match cL Tryz.prog t with|some i=>i.zero|none=>none
theorem ti3:cL Tryz.prog 3=some ⟨.int .i64,1,8,fR 3⟩:=by kernel_rfl
theorem ti4:cL Tryz.prog 4=some ⟨.bool,1,1,fR 4⟩:=by kernel_rfl
theorem ti9:cL Tryz.prog 9=some ⟨.str,1,16,fR 9⟩:=by kernel_rfl
theorem aXk:cL Tryz.prog 22=some ⟨.slice 76 2 40,1,24,fR 22⟩:=by kernel_rfl
theorem aYz:cL Tryz.prog 23=some ⟨.slice 36 7 160,1,24,fR 23⟩:=by kernel_rfl
theorem aYm:cL Tryz.prog 25=some ⟨.struct [(0,1,false),(1,1,false)],2,48,fR 25⟩:=by kernel_rfl
theorem aXD:cL Tryz.prog 28=some ⟨.int .i64,1,8,fR 28⟩:=by kernel_rfl
theorem aYa:cL Tryz.prog 30=some ⟨.slice 40 1 24,1,24,fR 30⟩:=by kernel_rfl
theorem aYD:cL Tryz.prog 31=some ⟨.slice 46 3 48,1,24,fR 31⟩:=by kernel_rfl
theorem aXT:cL Tryz.prog 32=some ⟨.slice 103 3 32,1,24,fR 32⟩:=by kernel_rfl
theorem aXQ:cL Tryz.prog 33=some ⟨.slice 106 2 32,1,24,fR 33⟩:=by kernel_rfl
theorem aXa:cL Tryz.prog 34=some ⟨.slice 74 12 176,1,24,fR 34⟩:=by kernel_rfl
theorem aYM:cL Tryz.prog 36=some ⟨.struct [(0,1,false),(1,1,false),(2,1,false),(3,1,false),(4,1,false),(5,1,false),(6,1,false)],7,160,fR 36⟩:=by kernel_rfl
theorem aWJ:cL Tryz.prog 37=some ⟨.ptr,1,8,fR 37⟩:=by kernel_rfl
theorem aWx:cL Tryz.prog 40=some ⟨.slice 3 1 8,1,24,fR 40⟩:=by kernel_rfl
theorem aXb:cL Tryz.prog 44=some ⟨.slice 156 3 32,1,24,fR 44⟩:=by kernel_rfl
theorem aWC:cL Tryz.prog 46=some ⟨.struct [(0,1,false),(1,1,false),(2,1,false)],3,48,fR 46⟩:=by kernel_rfl
theorem aYK:cL Tryz.prog 49=some ⟨.ptr,1,8,fR 49⟩:=by kernel_rfl
theorem aYg:cL Tryz.prog 59=some ⟨.slice 66 8 184,1,24,fR 59⟩:=by kernel_rfl
theorem aYL:cL Tryz.prog 61=some ⟨.struct [(0,1,false),(1,1,false)],2,48,fR 61⟩:=by kernel_rfl
theorem aYe:cL Tryz.prog 62=some ⟨.slice 172 7 96,1,24,fR 62⟩:=by kernel_rfl
theorem aXs:cL Tryz.prog 63=some ⟨.slice 175 1 24,1,24,fR 63⟩:=by kernel_rfl
theorem aWL:cL Tryz.prog 64=some ⟨.slice 70 6 72,1,24,fR 64⟩:=by kernel_rfl
theorem aXc:cL Tryz.prog 66=some ⟨.struct [(0,1,false),(1,1,false),(2,1,false),(3,1,false),(4,1,false),(5,1,false),(6,1,false),(7,1,false)],8,184,fR 66⟩:=by kernel_rfl
theorem aXf:cL Tryz.prog 70=some ⟨.struct [(0,1,false),(1,1,false),(2,1,false),(3,1,false),(4,1,false),(5,1,false)],6,72,fR 70⟩:=by kernel_rfl
theorem aYl:cL Tryz.prog 71=some ⟨.slice 9 1 16,1,24,fR 71⟩:=by kernel_rfl
theorem aXF:cL Tryz.prog 72=some ⟨.slice 34 1 24,1,24,fR 72⟩:=by kernel_rfl
theorem aWy:cL Tryz.prog 74=some ⟨.struct [(0,1,false),(1,1,false),(2,1,false),(3,6,true),(9,1,false),(10,1,false),(11,1,false)],12,176,fR 74⟩:=by kernel_rfl
theorem aXj:cL Tryz.prog 76=some ⟨.struct [(0,1,false),(1,1,false)],2,40,fR 76⟩:=by kernel_rfl
theorem aXG:cL Tryz.prog 77=some ⟨.ptr,1,8,fR 77⟩:=by kernel_rfl
theorem aXB:cL Tryz.prog 81=some ⟨.slice 195 2 24,1,24,fR 81⟩:=by kernel_rfl
theorem aYf:cL Tryz.prog 83=some ⟨.struct [(0,2,true),(2,7,true),(9,1,false),(10,1,false)],11,256,fR 83⟩:=by kernel_rfl
theorem aYn:cL Tryz.prog 89=some ⟨.map 9 3,1,8,fR 89⟩:=by kernel_rfl
theorem aXS:cL Tryz.prog 90=some ⟨.map 9 37,1,8,fR 90⟩:=by kernel_rfl
theorem aYC:cL Tryz.prog 92=some ⟨.struct [(0,1,false),(1,7,true),(8,1,false),(9,1,false)],10,200,fR 92⟩:=by kernel_rfl
theorem aVa:cL Tryz.prog 103=some ⟨.struct [(0,1,false),(1,1,false),(2,1,false)],3,32,fR 103⟩:=by kernel_rfl
theorem aSN:cL Tryz.prog 106=some ⟨.struct [(0,1,false),(1,1,false)],2,32,fR 106⟩:=by kernel_rfl
theorem aUh:cL Tryz.prog 113=some ⟨.slice 49 1 8,1,24,fR 113⟩:=by kernel_rfl
theorem aVL:cL Tryz.prog 115=some ⟨.struct [(0,2,true),(2,7,true),(9,1,false),(10,1,false)],11,256,fR 115⟩:=by kernel_rfl
theorem aVD:cL Tryz.prog 124=some ⟨.map 9 4,1,8,fR 124⟩:=by kernel_rfl
theorem aTL:cL Tryz.prog 125=some ⟨.map 9 36,1,8,fR 125⟩:=by kernel_rfl
theorem aTH:cL Tryz.prog 127=some ⟨.struct [(0,1,false),(1,1,false),(2,7,true),(9,1,false),(10,1,false),(11,1,false),(12,1,false)],13,240,fR 127⟩:=by kernel_rfl
theorem aUd:cL Tryz.prog 128=some ⟨.array 2 31 1 false,2,48,fR 128⟩:=by kernel_rfl
theorem aUb:cL Tryz.prog 132=some ⟨.slice 214 2 24,1,24,fR 132⟩:=by kernel_rfl
theorem aVn:cL Tryz.prog 134=some ⟨.struct [(0,1,false),(1,1,false)],2,48,fR 134⟩:=by kernel_rfl
theorem aTw:cL Tryz.prog 149=some ⟨.struct [(0,1,false),(1,1,false)],2,16,fR 149⟩:=by kernel_rfl
theorem aUk:cL Tryz.prog 156=some ⟨.struct [(0,1,false),(1,1,false),(2,1,false)],3,32,fR 156⟩:=by kernel_rfl
theorem aSV:cL Tryz.prog 166=some ⟨.ptr,1,8,fR 166⟩:=by kernel_rfl
theorem aUi:cL Tryz.prog 168=some ⟨.struct [(0,1,false),(1,1,false),(2,1,false)],3,56,fR 168⟩:=by kernel_rfl
theorem aVp:cL Tryz.prog 172=some ⟨.struct [(0,1,false),(1,6,true)],7,96,fR 172⟩:=by kernel_rfl
theorem aTD:cL Tryz.prog 173=some ⟨.slice 178 6 136,1,24,fR 173⟩:=by kernel_rfl
theorem aUJ:cL Tryz.prog 175=some ⟨.struct [(0,1,false)],1,24,fR 175⟩:=by kernel_rfl
theorem aSE:cL Tryz.prog 176=some ⟨.slice 202 8 88,1,24,fR 176⟩:=by kernel_rfl
theorem aUz:cL Tryz.prog 178=some ⟨.struct [(0,1,false),(1,1,false),(2,1,false),(3,1,false),(4,1,false),(5,1,false)],6,136,fR 178⟩:=by kernel_rfl
theorem aTV:cL Tryz.prog 180=some ⟨.array 3 31 1 false,3,72,fR 180⟩:=by kernel_rfl
theorem aUR:cL Tryz.prog 195=some ⟨.struct [(0,1,false),(1,1,false)],2,24,fR 195⟩:=by kernel_rfl
theorem aST:cL Tryz.prog 202=some ⟨.struct [(0,6,true),(6,1,false),(7,1,false)],8,88,fR 202⟩:=by kernel_rfl
theorem aTt:cL Tryz.prog 214=some ⟨.struct [(0,1,false),(1,1,false)],2,24,fR 214⟩:=by kernel_rfl
theorem aSl:cL Tryz.prog 234=some ⟨.int .i16,1,2,fR 234⟩:=by kernel_rfl
theorem zz3:fR 3=some [.d (.int .i64 0)]:=by kernel_rfl
theorem zz4:fR 4=some [.d (.bool false)]:=by kernel_rfl
theorem zz9:fR 9=some [.d (.str [])]:=by kernel_rfl
theorem aWK:fR 22=some [.full []]:=by kernel_rfl
theorem aYy:fR 23=some [.full []]:=by kernel_rfl
theorem aYv:fR 25=some [.full [],.full []]:=by kernel_rfl
theorem aXK:fR 28=some [.d (.int .i64 0)]:=by kernel_rfl
theorem aWX:fR 30=some [.full []]:=by kernel_rfl
theorem aXL:fR 31=some [.full []]:=by kernel_rfl
theorem aXW:fR 32=some [.full []]:=by kernel_rfl
theorem aWF:fR 33=some [.full []]:=by kernel_rfl
theorem aXm:fR 34=some [.full []]:=by kernel_rfl
theorem aWN:fR 36=some [.d (.str []),.full [],.full [],.full [],.full [],.full [],.full []]:=by kernel_rfl
theorem aWS:fR 37=some [.con (.pointer none)]:=by kernel_rfl
theorem aXR:fR 40=some [.full []]:=by kernel_rfl
theorem aYo:fR 44=some [.full []]:=by kernel_rfl
theorem aYt:fR 46=some [.d (.str []),.d (.int .i64 0),.full []]:=by kernel_rfl
theorem aXo:fR 49=some [.con (.pointer none)]:=by kernel_rfl
theorem aXZ:fR 59=some [.full []]:=by kernel_rfl
theorem aYr:fR 61=some [.full [],.full []]:=by kernel_rfl
theorem aYp:fR 62=some [.full []]:=by kernel_rfl
theorem aXr:fR 63=some [.full []]:=by kernel_rfl
theorem aXH:fR 64=some [.full []]:=by kernel_rfl
theorem aYb:fR 66=some [.d (.str []),.full [],.full [],.full [],.full [],.full [],.full [],.full []]:=by kernel_rfl
theorem aYE:fR 70=some [.d (.int .i64 0),.d (.int .i64 0),.d (.int .i64 0),.d (.int .i64 0),.d (.str []),.full []]:=by kernel_rfl
theorem aXE:fR 71=some [.full []]:=by kernel_rfl
theorem aYx:fR 72=some [.full []]:=by kernel_rfl
theorem aWG:fR 74=some [.d (.int .i64 0),.d (.str []),.d (.int .i64 0),.d (.int .i64 0),.d (.int .i64 0),.d (.int .i64 0),.d (.int .i64 0),.d (.str []),.full [],.full [],.full [],.full []]:=by kernel_rfl
theorem aXV:fR 76=some [.d (.str []),.full []]:=by kernel_rfl
theorem aXe:fR 77=some [.con (.pointer none)]:=by kernel_rfl
theorem aXI:fR 81=some [.full []]:=by kernel_rfl
theorem aWD:fR 83=some [.full [],.full [],.d (.str []),.full [],.full [],.full [],.full [],.full [],.full [],.full [],.full []]:=by kernel_rfl
theorem aWW:fR 89=some [.con (.map none)]:=by kernel_rfl
theorem aYq:fR 90=some [.con (.map none)]:=by kernel_rfl
theorem aYh:fR 92=some [.full [],.d (.str []),.full [],.full [],.full [],.full [],.full [],.full [],.con (.map none),.con (.map none)]:=by kernel_rfl
theorem aVI:fR 103=some [.d (.str []),.d (.int .i64 0),.d (.int .i64 0)]:=by kernel_rfl
theorem aUm:fR 106=some [.d (.str []),.d (.str [])]:=by kernel_rfl
theorem aTi:fR 113=some [.full []]:=by kernel_rfl
theorem aUS:fR 115=some [.full [],.full [],.d (.str []),.full [],.full [],.full [],.full [],.full [],.full [],.full [],.full []]:=by kernel_rfl
theorem aVs:fR 124=some [.con (.map none)]:=by kernel_rfl
theorem aTa:fR 125=some [.con (.map none)]:=by kernel_rfl
theorem aVk:fR 127=some [.full [],.full [],.d (.str []),.full [],.full [],.full [],.full [],.full [],.full [],.con (.map none),.con (.map none),.con (.map none),.con (.map none)]:=by kernel_rfl
theorem aUu:fR 128=some [.full [],.full []]:=by kernel_rfl
theorem aTP:fR 132=some [.full []]:=by kernel_rfl
theorem aTh:fR 134=some [.full [],.full []]:=by kernel_rfl
theorem aTp:fR 149=some [.con (.pointer none),.con (.map none)]:=by kernel_rfl
theorem aVu:fR 156=some [.d (.str []),.d (.int .i64 0),.d (.int .i64 0)]:=by kernel_rfl
theorem aUN:fR 166=some [.con (.pointer none)]:=by kernel_rfl
theorem aVj:fR 168=some [.con (.pointer none),.full [],.full []]:=by kernel_rfl
theorem aUr:fR 172=some [.full [],.d (.int .i64 0),.d (.int .i64 0),.d (.int .i64 0),.d (.int .i64 0),.d (.str []),.full []]:=by kernel_rfl
theorem aUA:fR 173=some [.full []]:=by kernel_rfl
theorem aTg:fR 175=some [.full []]:=by kernel_rfl
theorem aVg:fR 176=some [.full []]:=by kernel_rfl
theorem aSM:fR 178=some [.d (.str []),.full [],.full [],.full [],.full [],.full []]:=by kernel_rfl
theorem aSS:fR 180=some [.full [],.full [],.full []]:=by kernel_rfl
theorem aSp:fR 195=some [.d (.str []),.d (.int .i64 0)]:=by kernel_rfl
theorem aTj:fR 202=some [.d (.int .i64 0),.d (.int .i64 0),.d (.int .i64 0),.d (.int .i64 0),.d (.str []),.full [],.d (.int .i64 0),.d (.bool false)]:=by kernel_rfl
theorem aSK:fR 214=some [.d (.str []),.d (.int .i64 0)]:=by kernel_rfl
theorem aUw:fR 234=some [.d (.int .i16 0)]:=by kernel_rfl
attribute [simp] ti3 ti4 ti9 aXk aYz aYm aXD aYa aYD aXT aXQ aXa aYM aWJ aWx aXb aWC aYK aYg aYL aYe aXs aWL aXc aXf aYl aXF aWy aXj aXG aXB aYf aYn aXS aYC aVa aSN aUh aVL aVD aTL aTH aUd aUb aVn aTw aUk aSV aUi aVp aTD aUJ aSE aUz aTV aUR aST aTt aSl
attribute [simp] zz3 zz4 zz9 aWK aYy aYv aXK aWX aXL aXW aWF aXm aWN aWS aXR aYo aYt aXo aXZ aYr aYp aXr aXH aYb aYE aXE aYx aWG aXV aXe aXI aWD aWW aYq aYh aVI aUm aTi aUS aVs aTa aVk aUu aTP aTh aTp aVu aUN aVj aUr aUA aTg aVg aSM aSS aSp aTj aSK aUw
theorem aSU:oC Tryz.prog 156=some [(0,.str),(1,.int),(2,.int)]:=by kernel_rfl
theorem aTT:oC Tryz.prog 103=some [(0,.str),(1,.int),(2,.int)]:=by kernel_rfl
theorem aVt:oC Tryz.prog 106=some [(0,.str),(1,.str)]:=by kernel_rfl
theorem aJQ (f:Nat):Ob.cfg.prim f=Ob.prim f:=rfl
theorem aQC (f:Nat):Ob.cfg.thr f=Ob.thr f:=rfl
theorem aVy (f r:Nat):Ob.cfg.fz f r=Ob.fz f r:=rfl
theorem aRt (f:Nat):Ob.cfg.own f=Ob.own f:=rfl
theorem aOz (f r:Nat):Ob.cfg.keep f r=Ob.keep f r:=rfl
theorem aRd (f r:Nat):Ob.cfg.mat f r=Ob.mat f r:=rfl
theorem aIM (look:cA) (sz id g off len sz':Nat) (cap:Option Nat):iU look sz (.osl id g off len sz' cap)=match live look id g,Nat.beq sz sz' with
  | some o,true=>match Nat.ble (off+len*sz) o.cells.length with
   | true=>some (len,(o.cells.drop off).take (len*sz),[id])
   | false=>none
  | _,_=>none:=rfl
attribute [simp] aSU aTT aVt aDi aDQ aJQ Ob.prim aQC Ob.thr lK pT fE nR hZ ofD toD V.flat V.flat2 V.flat1 D.flat gL oH.get aDI nC a7 aOj aDq aJa aCC unV
 mH aGo tU ret mC aGw aHA yS aGP TI.agg aIg oH.keep aNA aLt aIh aHo qR
attribute [simp] opP aAg qG step kE live tW aIH xD V.one zC cl1 mT aVy Ob.fz Hp.get Hp.set Hp.sets a9 kX rA
attribute [simp] Hp.trunc_zero aOf Hp.get_set_self Hp.trunc cut aRt Ob.own aKr dG
attribute [simp] aRC aBq aIp aAZ aOz aRd Ob.mat aSq aIM uL aZ aW aT cV aX nJ bT zS jC lU nK
theorem aEA {n:Int} (h: -9223372036854775808≤n) (h':n≤9223372036854775807):IntKind.i64.wrap n=n:=uM h h'
end Go.Ac
end
section
set_option maxRecDepth 4000
namespace Go.Ac
open Go.Proofs
theorem aS (a b:Int):(a==b)=decide (a=b):=by by_cases h:a=b <;> simp[h]
theorem aV (a b:Int):(a != b)= !decide (a=b):=by by_cases h:a=b <;> simp[h]
theorem bF (a b:Tx):(a==b)=decide (a=b):=by by_cases h:a=b <;> simp[h]
theorem gF (a b:Tx):(a != b)= !decide (a=b):=by by_cases h:a=b <;> simp[h]
theorem bL {α:Type} {l:List α} {j:Nat} {x:α} (h:l[j]?=some x):l.take (j+1)=l.take j++[x]:=by rw[List.take_add_one,h];rfl
end Go.Ac
end
