/- The abstract machine once more, for closed calls: each operation runs once, the check of drawn regions with numbers as sets. No conditions. -/
import Derived.Test.YtkgekafdhehleaaGreatAcThM
import Derived.KernelRfl
set_option linter.unusedVariables false
set_option linter.unusedSimpArgs false
namespace Go.Ac
variable {P:Program} {cfg:Cfg}
def aQw (all:List Oper):List Nat:=
 all.foldl (fun acc o=>acc++[o.after.toList.foldl (fun s e=>if Region.binds .any e then s ||| ((1 <<< e.on) ||| acc.getD e.on 0) else s) 0]) []
def uN (m:List Nat) (a:List (List Nat)):Prop:=m.length=a.length∧∀ j i,(m.getD j 0).testBit i=true→(a.getD j []).contains i=true
theorem aEF {acc:List Nat} {anc:List (List Nat)} (h:uN acc anc):∀ (l:List Edge) (s:Nat) (t:List Nat),(∀ i,s.testBit i=true→t.contains i=true)→
  ∀ i,(l.foldl (fun s e=>if Region.binds .any e then s ||| ((1 <<< e.on) ||| acc.getD e.on 0) else s) s).testBit i=true→(l.foldl (fun s e=>if Region.binds .any e then e.on::(anc.getD e.on []++s) else s) t).contains i=true
 | [],s,t,hs,i,hi=>hs i hi
 | e::l,s,t,hs,i,hi=>by
  simp only[List.foldl_cons] at hi ⊢
  refine aEF h l _ _ (fun i hi=>?_) i hi
  by_cases hb:Region.binds .any e=true
  ·rw[if_pos hb] at hi ⊢
   rw[Nat.testBit_or,Nat.testBit_or,Bool.or_eq_true,Bool.or_eq_true] at hi
   rw[List.contains_cons,Bool.or_eq_true,List.contains_eq_mem]
   rcases hi with hi|hi|hi
   ·right
    have:=hs i hi
    rw[List.contains_eq_mem] at this
    rw[decide_eq_true_eq] at this ⊢
    exact List.mem_append_right _ this
   ·left
    rw[Nat.shiftLeft_eq,Nat.one_mul,Nat.testBit_two_pow] at hi
    simp only[decide_eq_true_eq] at hi
    subst hi
    exact beq_self_eq_true _
   ·right
    have:=h.2 e.on i hi
    rw[List.contains_eq_mem] at this
    rw[decide_eq_true_eq] at this ⊢
    exact List.mem_append_left _ this
  ·rw[if_neg hb] at hi ⊢
   exact hs i hi
theorem uN.snoc {m:List Nat} {a:List (List Nat)} {x:Nat} {y:List Nat} (h:uN m a) (hx:∀ i,x.testBit i=true→y.contains i=true):uN (m++[x]) (a++[y]):=by
 refine ⟨by simp[h.1],fun j i hj=>?_⟩
 rw[List.getD_eq_getElem?_getD] at hj ⊢
 by_cases h1:j<m.length
 ·rw[List.getElem?_append_left h1] at hj
  rw[List.getElem?_append_left (by rw[←h.1];exact h1),←List.getD_eq_getElem?_getD]
  exact h.2 j i (by rw[List.getD_eq_getElem?_getD];exact hj)
 ·rw[List.getElem?_append_right (by omega)] at hj
  rw[List.getElem?_append_right (by rw[←h.1];omega),←h.1]
  cases hk:j - m.length with
  | zero=>rw[hk] at hj;exact hx i hj
  | succ k=>rw[hk] at hj;simp at hj
theorem aHR:∀ (l:List Oper) (m:List Nat) (a:List (List Nat)),uN m a→
  uN (l.foldl (fun acc o=>acc++[o.after.toList.foldl (fun s e=>if Region.binds .any e then s ||| ((1 <<< e.on) ||| acc.getD e.on 0) else s) 0]) m)
   (l.foldl (fun acc o=>acc++[o.after.toList.foldl (fun s e=>if Region.binds .any e then e.on::(acc.getD e.on []++s) else s) []]) a)
 | [],m,a,h=>h
 | o::l,m,a,h=>by
  simp only[List.foldl_cons]
  exact aHR l _ _ (h.snoc fun i hi=>aEF h o.after.toList 0 [] (fun i hi=>by simp at hi) i hi)
theorem aOo (all:List Oper):uN (aQw all) (anc all):=aHR all [] [] ⟨rfl,fun j i h=>by simp at h⟩
def mQ (all:List Oper):List Oper→List Nat→List Tr→Bool
 | o::r,m::ms,tr=>(tr.zipIdx.all fun p=>m.testBit p.2||qX p.1 (z9 o all))&&mQ all r ms (tr++[z9 o all])
 | [],[],_=>true
 | _,_,_=>false
def aFL:List Nat→Nat→List (Nat×Nat)
 | [],_=>[]
 | m::r,k=>((List.range k).filter fun i=> !m.testBit i).map (fun i=>(i,k))++aFL r (k+1)
theorem w8 {all:List Oper}:∀ {l:List Oper} {m:List Nat} {a:List (List Nat)} {tr:List Tr},uN m a→mQ all l m tr=true→kW all l a tr=true
 | [],[],[],tr,h,hs=>rfl
 | [],_::_,a,tr,h,hs=>by simp[mQ] at hs
 | [],[],x::a,tr,h,hs=>by have:=h.1;simp at this
 | o::l,[],a,tr,h,hs=>by simp[mQ] at hs
 | o::l,x::m,[],tr,h,hs=>by have:=h.1;simp at this
 | o::l,x::m,y::a,tr,h,hs=>by
  simp only[mQ,Bool.and_eq_true] at hs
  simp only[kW,Bool.and_eq_true]
  refine ⟨?_,w8 ⟨by have:=h.1;simpa using this,fun j i hj=>h.2 (j+1) i hj⟩ hs.2⟩
  rw[List.all_eq_true] at hs ⊢
  intro p hp
  have:=hs.1 p hp
  rw[Bool.or_eq_true] at this ⊢
  exact this.imp (fun h1=>h.2 0 p.2 h1) id
theorem aDA:∀ {m:List Nat} {a:List (List Nat)} {k:Nat} {p:Nat×Nat},uN m a→p∈aAi a k→p∈aFL m k
 | [],[],k,p,h,hp=>by simp[aAi] at hp
 | x::m,[],k,p,h,hp=>by simp[aAi] at hp
 | [],y::a,k,p,h,hp=>by have:=h.1;simp at this
 | x::m,y::a,k,p,h,hp=>by
  simp only[aAi,aFL,List.mem_append,List.mem_map,List.mem_filter] at hp ⊢
  rcases hp with ⟨i,⟨h1,h2⟩,h3⟩|hp
  ·refine .inl ⟨i,⟨h1,?_⟩,h3⟩
   cases hb:x.testBit i with
   | false=>rfl
   | true=>
    have:=h.2 0 i hb
    rw[show (y::a).getD 0 []=y from rfl] at this
    rw[this] at h2;simp at h2
  ·exact .inr (aDA ⟨by have:=h.1;simpa using this,fun j i hj=>h.2 (j+1) i hj⟩ hp)
def aMo (all:List Oper):Bool:=sQ all&&mQ all all (aQw all) []
def aJd (ops:Array Oper) (draw:Bool) (qs:List Tq):Bool:=match draw with
 | false=>true
 | true=>aMo ops.toList&&(aFL (aQw ops.toList) 0).all fun p=>lO (qs.getD p.1 aLk) (qs.getD p.2 aLk)
theorem aLy {ops:Array Oper} {draw:Bool} {qs:List Tq} (hl:qs.length=ops.toList.length) (h:aJd ops draw qs=true):Is (aAW ops draw qs) true:=by
 cases draw with
 | false=>rfl
 | true=>
  simp only[aJd,aMo,Bool.and_eq_true] at h
  obtain ⟨⟨h1,h2⟩,h3⟩:=h
  have cC:=aOo ops.toList
  refine cW _ (by unfold aFH;rw[h1,w8 cC h2];rfl) rfl hl ?_
  rw[List.all_eq_true] at h3 ⊢
  exact fun p hp=>h3 p (aDA cC hp)
def runT [Gl] (P:Program) (cfg:Cfg) (call:jB) (fid rid:Nat) (all:List Oper):List Oper→St→Option (St×List Tq)
 | [],s=>some (s,[])
 | o::r,s=>match opW P cfg fid rid call all o s with
  | some q=>match runT P cfg call fid rid all r (s.put o.dst q) with
   | some (t,qs)=>some (t,Tq.of q::qs)
   | none=>none
  | none=>none
def mL [Gl] (P:Program) (cfg:Cfg):Nat→FuncId→Code→St→Option (Ex×St)
 | 0,_,_,_=>none
 | k+1,fid,c,s=>
  match c with
  | .skip=>some (.normal,s)
  | .ret=>some (.ret,s)
  | .exit id=>some (.exit id,s)
  | .seq a b=>match mL P cfg k fid a s with
   | some (.normal,s)=>mL P cfg k fid b s
   | r=>r
  | .cond q a b=>match gL s.env q with
   | .d (.bool true)=>mL P cfg k fid a s
   | .d (.bool false)=>mL P cfg k fid b s
   | _=>none
  | .block id b=>match mL P cfg k fid b s with
   | some (.exit i,s)=>match Nat.beq i id with|true=>some (.normal,s)|false=>some (.exit i,s)
   | r=>r
  | .loop b=>match mL P cfg k fid b s with
   | some (.normal,t)=>mL P cfg k fid (.loop b) (match cfg.own fid with|true=>t|false=>{ t with hp:=Hp.trunc s.n t.hp,n:=s.n })
   | r=>r
  | .region id ops draw=>match runT P cfg (fM P cfg (mL P cfg k)) fid id ops.toList ops.toList s with
   | some (t,qs)=>match aJd ops draw qs with
    | true=>some (.normal,aBq (aIp t (cfg.mat fid id)) (cfg.keep fid id))
    | false=>none
   | none=>none
  | _=>none
def callT [Gl] (P:Program) (cfg:Cfg) (k:Nat):jB:=fM P cfg (mL P cfg k)
def aKh [Gl] (P:Program) (cfg:Cfg) (call:jB):Prop:=∀ f vs hp n c r,call f vs hp n c=some r→nV P cfg f vs hp n c=some r
theorem aHy [Gl] {call:jB} (hc:aKh P cfg call) {hp:Hp} {n c:Nat} {f:FuncId} {vs:List V} {r:Res} (h:kH cfg call hp n c f vs=some r):kH cfg (nV P cfg) hp n c f vs=some r:=by
 unfold kH at h ⊢
 split at h
 ·rename_i ws ids gI
  split at h
  ·rename_i r0 hr0
   simp only[hc _ _ _ _ _ _ hr0]
   exact h
  ·simp at h
 ·rename_i gI
  split at h
  ·rename_i r0 hr0
   simp only[hc _ _ _ _ _ _ hr0]
   exact h
  ·simp at h
theorem aKH [Gl] {call:jB} (hc:aKh P cfg call) {fid rid:Nat} {all:List Oper} {o:Oper} {s:St} {r:Res} (h:opW P cfg fid rid call all o s=some r):opW P cfg fid rid (nV P cfg) all o s=some r:=by
 unfold opW at h ⊢
 split at h
 ·split at h
  ·rename_i q hq
   have:opR P cfg fid rid (nV P cfg) o s=some q:=by
    unfold opR at hq ⊢
    split at hq
    ·rename_i fo args ts ho
     split at hq
     ·rename_i f caps hf
      split at hq
      ·exact hq
      ·exact aHy hc hq
     ·simp at hq
    ·exact hq
   rw[this]
   exact h
  ·simp at h
 ·exact h
 ·simp at h
theorem aKB [Gl] {call:jB} (hc:aKh P cfg call) {fid rid:Nat} {all:List Oper}:∀ {l:List Oper} {s t:St} {qs:List Tq},runT P cfg call fid rid all l s=some (t,qs)→RT P cfg fid rid (l.map (eA all)) s t qs∧qs.length=l.length
 | [],s,t,qs,h=>by simp only[runT,Option.some.injEq,Prod.mk.injEq] at h;obtain ⟨rfl,rfl⟩:=h;exact ⟨.nil,rfl⟩
 | o::r,s,t,qs,h=>by
  simp only[runT] at h
  split at h
  ·rename_i q hq
   split at h
   ·rename_i t' qs' hr
    simp only[Option.some.injEq,Prod.mk.injEq] at h;obtain ⟨rfl,rfl⟩:=h
    obtain ⟨h1,h2⟩:=aKB hc hr
    exact ⟨.cons (by rw[aLU];exact aKH hc hq) h1,by simp[h2]⟩
   ·simp at h
  ·simp at h
theorem aAy [Gl] {run:FuncId→Code→St→Option (Ex×St)} (hr:∀ f c s e t,run f c s=some (e,t)→iQ P cfg f c s e t):aKh P cfg (fM P cfg run):=by
 intro f vs hp n c r h
 unfold fM at h
 split at h
 ·rename_i fn hf
  split at h
  ·rename_i body hb
   split at h
   ·rename_i cC
    cases lR:run f body (enter vs hp n c) with
    | none=>rw[lR] at h;simp[aBV] at h
    | some q=>
     obtain ⟨e,t⟩:=q
     obtain ⟨K,hK⟩:=hr _ _ _ _ _ lR
     rw[lR] at h
     refine aBt ⟨K,fun k hk=>?_⟩
     unfold oW fM
     rw[hf]
     simp only[hb,cC,hK k hk]
     exact h
   ·simp at h
  ·simp at h
 ·simp at h
theorem aDN [Gl]:∀ (k:Nat) (fid:FuncId) (c:Code) (s:St) (e:Ex) (t:St),mL P cfg k fid c s=some (e,t)→iQ P cfg fid c s e t
 | 0,fid,c,s,e,t,h=>by simp[mL] at h
 | k+1,fid,c,s,e,t,h=>by
  have ih:=aDN k
  cases c with
  | skip=>simp[mL] at h;obtain ⟨rfl,rfl⟩:=h;exact .skip
  | ret=>simp[mL] at h;obtain ⟨rfl,rfl⟩:=h;exact .ret
  | exit id=>simp[mL] at h;obtain ⟨rfl,rfl⟩:=h;exact .exit
  | seq a b=>
   simp only[mL] at h
   split at h
   ·rename_i s' ha
    exact (ih _ _ _ _ _ ha).seq (ih _ _ _ _ _ h)
   ·rename_i hn
    exact (ih _ _ _ _ _ h).seq_out (by rintro rfl;exact hn _ h)
  | cond q a b=>
   simp only[mL] at h
   split at h
   ·rename_i hq;exact .cond_true hq (ih _ _ _ _ _ h)
   ·rename_i hq;exact .cond_false hq (ih _ _ _ _ _ h)
   ·simp at h
  | block id b=>
   simp only[mL] at h
   split at h
   ·rename_i i s' hb
    split at h
    ·rename_i hi
     have:=Nat.eq_of_beq_eq_true hi
     subst this
     simp at h;obtain ⟨rfl,rfl⟩:=h
     exact .block_exit (ih _ _ _ _ _ hb)
    ·rename_i hi
     simp at h;obtain ⟨rfl,rfl⟩:=h
     exact .block_other (ih _ _ _ _ _ hb) (by rintro rfl;simp at hi)
   ·rename_i hn
    exact .block (ih _ _ _ _ _ h) (by rintro j rfl;exact hn _ _ h)
  | loop b=>
   simp only[mL] at h
   split at h
   ·rename_i t' hb
    refine .round (ih _ _ _ _ _ hb) ?_
    have:=ih _ _ _ _ _ h
    unfold cut
    cases ho:cfg.own fid with
    | true=>rw[ho] at this;exact this
    | false=>rw[ho] at this;exact this
   ·rename_i hn
    exact .loop_out (ih _ _ _ _ _ h) (by rintro rfl;exact hn _ h)
  | region id ops draw=>
   simp only[mL] at h
   split at h
   ·rename_i t' qs hr
    split at h
    ·rename_i hc
     simp only[Option.some.injEq,Prod.mk.injEq] at h;obtain ⟨rfl,rfl⟩:=h
     obtain ⟨h1,h2⟩:=aKB (aAy ih) hr
     obtain ⟨e',t'',hw,hq⟩:=WP.reg (Q:=fun e u=>e= .normal∧u=aRC cfg fid id t') (hR:=rfl) (hr:=h1) (aLy h2 hc) (ht:=rfl) ⟨rfl,rfl⟩
     obtain ⟨rfl,rfl⟩:=hq
     exact hw
    ·simp at h
   ·simp at h
  | _=>simp[mL] at h
theorem aKS [Gl] {k:Nat} {f:FuncId} {vs:List V} {hp:Hp} {n c:Nat} {r:CR} (h:callT P cfg k f vs hp n c=some r):nV P cfg f vs hp n c=some r:=
 aAy (fun f c s e t h=>aDN k f c s e t h) f vs hp n c r h
theorem aKa [Gl] (k:Nat) {f:FuncId} {vs:List V} {v:V} (h:(match callT P cfg k f vs [] 0 0 with|some r=>(match d7 fF r.v with|some _=>some r.v|none=>none)|none=>none)=some v):eJ P cfg f vs=some v:=by
 split at h
 ·rename_i r hr
  have hl:=aAF (aKS hr)
  split at h
  ·rename_i w hw
   simp only[Option.some.injEq] at h
   subst h
   exact aLV hl (by rw[hw];rfl)
  ·simp at h
 ·simp at h
end Go.Ac
