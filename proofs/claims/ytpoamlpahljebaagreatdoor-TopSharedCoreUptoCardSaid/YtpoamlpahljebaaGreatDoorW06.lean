/- Code by its shape: what a run does not look at is struck (places in the text, most types, edges where no order is drawn). -/
import Derived.StillTail
import Derived.Calls
import Derived.Test.YtpoamlpahljebaaGreatDoorW05
namespace Go.TL.H
open Go
def Yz(o:Oper):TypeId:=match o.op with
 | .call ⟨.builtin _,_,_⟩=>o.type
 | .go _=>o.type
 | .defer _=>o.type
 |_=>0
def stOp(o:Op):Op:=match o with
 | .call ⟨.value f,args,_⟩=> .call ⟨.value f,args, #[]⟩
 |o=>o
def st(k:Bool)(o:Oper):Oper:=⟨o.dst,stOp o.op,Yz o, "",match k with|true=>o.after|false=> #[],o.guard⟩
def norm:Code→Code
 | .region _ ops d=> .region 0 (ops.toList.map (st d)).toArray d
 | .seq a b=> .seq (norm a) (norm b)
 | .cond c a b=> .cond c (norm a) (norm b)
 | .block id c=> .block id (norm c)
 | .loop c=> .loop (norm c)
 | .scope c=> .scope (norm c)
 | .skip=> .skip
 | .exit id=> .exit id
 | .ret=> .ret
 | .label l=> .label l
 | .goto l=> .goto l
 | .refuse w=> .refuse w
 | .rangeFunc f p a b=> .rangeFunc f p a b
theorem Dw(k:Bool)(ρ:Operand→Value)(o:Oper):execOp ρ (st k o)=execOp ρ o:=by
 obtain⟨dst,op,ty,pos,af,g⟩:=o
 cases op
 case call c=>
  obtain⟨cal,args,ts⟩:=c
  cases cal<;>rfl
 all_goals rfl
theorem SX{P:Program}(k:Bool)(o:Oper)(a:Act)(K:Act→World→Prop)(Q:Exit→Act→World→Prop):(st k o).upon P a K Q=o.upon P a K Q:=rfl
theorem R9{P:Program}(k:Bool)(o:Oper)(a:Act)(w:World)(K:Act→World→Prop)(Q:Exit→Act→World→Prop):(st k o).wp P a w K Q=o.wp P a w K Q:=by
 unfold Oper.wp;rw[Dw,SX]
theorem JE{P:Program}(k:Bool)(o:Oper)(a:Act)(w:World):(st k o).asks P a w=o.asks P a w:=by
 unfold Oper.asks;rw[Dw]
theorem BG{k:Bool}{ops:Array Oper}(j:Nat):((ops.toList.map (st k)).toArray)[j]? =(ops[j]?).map (st k):=by simp
theorem qI(k:Bool)(ops:Array Oper)(tmps:Array Value):yielded (ops.toList.map (st k)).toArray tmps=yielded ops tmps:=by
 funext j
 unfold yielded
 rw[BG]
 cases ops[j]? with
 |none=>rfl
 |some o=>rfl
theorem tg(k:Bool)(o:Oper)(y:Nat→Option Bool):Region.wanted (st k o) y=Region.wanted o y:=rfl
theorem xE{P:Program}{k:Bool}{ops:Array Oper}{Q:Exit→Act→World→Prop}:∀(l:List Oper) (a:Act) (w:World),
  wpList P (ops.toList.map (st k)).toArray Q (l.map (st k)) a w→wpList P ops Q l a w
 | [],a,w,h=>h
 |o::l,a,w,h=>by
  simp only[List.map_cons,wpList,tg,qI,R9,JE]at h ⊢
  split
  ·rename_i hw
   rw[if_pos hw]at h
   rcases h with h|h
   ·exact .inl (Oper.wp_mono (fun a w h=>xE l a w h) h)
   ·exact .inr h
  ·rename_i hw
   rw[if_neg hw]at h
   exact xE l _ _ h
theorem vH(ops:Array Oper)(md:Region.Mode)(listed:Array Bool):Region.ready md (ops.toList.map (st true)).toArray listed=Region.ready md ops listed:=by
 unfold Region.ready
 have e:(ops.toList.map (st true)).toArray.size=ops.size:=by simp
 rw[e]
 congr 1
 funext i
 rw[BG]
 cases ops[i]? with
 |none=>rfl
 |some o=>rfl
theorem r7{P:Program}{ops:Array Oper}{md:Region.Mode}{Q:Exit→Act→World→Prop}:∀(fuel:Nat) (listed:Array Bool) (a:Act) (w:World),
  wpAny P md (ops.toList.map (st true)).toArray Q fuel listed a w→wpAny P md ops Q fuel listed a w
 |0,listed,a,w,h=>by
  unfold wpAny at h ⊢;rw[vH]at h;exact h
 |fuel+1,listed,a,w,h=>by
  unfold wpAny at h ⊢
  rw[vH]at h
  refine⟨h.1,fun i hi=>?_⟩
  have:=h.2 i hi
  unfold wpOp at this ⊢
  rw[BG]at this
  cases ho:ops[i]? with
  |none=>simp only[ho,Option.map_none]at this ⊢;exact r7 fuel _ _ _ this
  |some o=>
   simp only[ho,Option.map_some,tg,qI,R9,JE]at this ⊢
   split
   ·rename_i hw
    rw[if_pos hw]at this
    rcases this with h|h
    ·exact .inl (Oper.wp_mono (fun a w h=>r7 fuel _ a w h) h)
    ·exact .inr h
   ·rename_i hw
    rw[if_neg hw]at this
    exact r7 fuel _ _ _ this
def NW(P:Program)(c':Code)(Q:Exit→Act→World→Prop)(a:Act)(w:World):Prop:=∀c,norm c=c'→c.wp P Q a w
section
variable {P:Program} {Q:Exit→Act→World→Prop} {a:Act} {w:World}
theorem NW.mono{c:Code}{Q':Exit→Act→World→Prop}(h:NW P c Q a w)(hq:∀e a w,Q e a w→Q' e a w):NW P c Q' a w:=fun c0 hc=>wp_mono (h c0 hc) hq
theorem cJ(h:Q .normal a w):NW P .skip Q a w:=by
 intro c hc;cases c<;>simp only[norm,reduceCtorEq]at hc;exact wp_skip h
theorem dG(h:Q .ret a w):NW P .ret Q a w:=by
 intro c hc;cases c<;>simp only[norm,reduceCtorEq]at hc;exact wp_ret h
theorem gS{id:Nat}(h:Q (.exit id) a w):NW P (.exit id) Q a w:=by
 intro c hc;cases c<;>simp only[norm,reduceCtorEq,Code.exit.injEq]at hc;subst hc;exact wp_exit h
theorem ai{x y:Code}(h:NW P x (fun e a w=>match e with| .normal=>NW P y Q a w|e=>Q e a w) a w):NW P (.seq x y) Q a w:=by
 intro c hc
 cases c<;>simp only[norm,reduceCtorEq,Code.seq.injEq]at hc
 obtain⟨h1,h2⟩:=hc
 refine wp_seq (wp_mono (h _ h1) ?_)
 intro e a w hq
 cases e<;>first|exact hq|exact hq _ h2
theorem cF{c:Operand}{x y:Code}{t:Bool}(hc:a.eval c= .bool t)(h1:t=true→NW P x Q a w)(h2:t=false→NW P y Q a w):NW P (.cond c x y) Q a w:=by
 intro c0 h0
 cases c0<;>simp only[norm,reduceCtorEq,Code.cond.injEq]at h0
 obtain⟨rfl,e1,e2⟩:=h0
 exact wp_cond_split hc (fun e=>h1 e _ e1) (fun e=>h2 e _ e2)
theorem cH{id:Nat}{x:Code}(h:NW P x (fun e a w=>match e with| .exit id'=>(match Nat.beq id' id with|true=>Q .normal a w|false=>Q (.exit id') a w)|e=>Q e a w) a w):NW P (.block id x) Q a w:=by
 intro c hc
 cases c<;>simp only[norm,reduceCtorEq,Code.block.injEq]at hc
 obtain⟨rfl,h1⟩:=hc
 refine wp_block (wp_mono (h _ h1) ?_)
 intro e a w hq
 cases e with
 |exit id'=>
  simp only[Exit.inBlock]
  simp only at hq
  cases hb:Nat.beq id' _ with
  |true=>rw[if_pos (ZU hb)];simp only[hb]at hq;exact hq
  |false=>rw[if_neg (beq_false hb)];simp only[hb]at hq;exact hq
 |_=>exact hq
theorem gT{x:Code}(I:Nat→Act→World→Prop)(m:Nat)(h0:I m a w)
  (h:∀m a w,I m a w→NW P x (fun e a' w'=>match e with| .normal=>∃m',m'<m∧I m' a' w'|e=>Q e a' w') a w):NW P (.loop x) Q a w:=by
 intro c hc
 cases c<;>simp only[norm,reduceCtorEq,Code.loop.injEq]at hc
 rename_i c
 intro b k cs
 have key:∀m a w,I m a w→∃e a' w',Q e a' w'∧Arrives P (lone (b.at a (.code c:: .inLoop c::k)) cs w) b k cs e a' w':=by
  intro m
  induction m using Nat.strongRecOn with
  |_ m ih=>
   intro a w hI
   obtain⟨e,a₁,w₁,hq,fG⟩:=h m a w hI _ hc b (.inLoop c::k) cs
   cases e with
   |normal=>
    obtain⟨m',av,hI'⟩:=hq
    obtain⟨e₂,a₂,w₂,hq₂,wV⟩:=ih m' av a₁ w₁ hI'
    exact⟨e₂,a₂,w₂,hq₂,.of_steps (Steps.trans fG (.one step_inLoop)) wV⟩
   |exit id=>exact⟨_,a₁,w₁,hq,.pass (x:= .inLoop c) rfl (fun _ _=> .inl (by simp)) fG⟩
   |goto l=>exact⟨_,a₁,w₁,hq,.pass (x:= .inLoop c) rfl (fun _ _=> .inl (by simp)) fG⟩
   |ret=>exact⟨_,a₁,w₁,hq,.pass (x:= .inLoop c) rfl (fun _ _=> .inl (by simp)) fG⟩
   |panic ch=>exact⟨_,a₁,w₁,hq,.pass (x:= .inLoop c) rfl (fun _ _=> .inl (by simp)) fG⟩
   |outgrown=>exact⟨_,a₁,w₁,hq,.pass (x:= .inLoop c) rfl (fun _ _=> .inl (by simp)) fG⟩
 obtain⟨e,a',w',hq,fG⟩:=key m a w h0
 exact⟨e,a',w',hq,.of_steps (.one step_loop) fG⟩
theorem ae{l:List Oper}(h:wpList P l.toArray Q l a w):NW P (.region 0 l.toArray false) Q a w:=by
 intro c hc
 cases c<;>simp only[norm,reduceCtorEq,Code.region.injEq]at hc
 rename_i id ops d
 obtain⟨_,h1,rfl⟩:=hc
 have h1':ops.toList.map (st false)=l:=by
  have:=congrArg Array.toList h1
  simpa using this
 subst h1'
 exact wp_region_list (xE _ _ _ h)
theorem r8{l:List Oper}(k:Nat)(hk:l.length=k)(hm:P.follows .mixedOrders=true)(h:wpAny P .any l.toArray Q k (Array.replicate k false) a {w with drawn:=w.drawn+1}):NW P (.region 0 l.toArray true) Q a w:=by
 subst hk
 intro c hc
 cases c<;>simp only[norm,reduceCtorEq,Code.region.injEq]at hc
 rename_i id ops d
 obtain⟨_,h1,rfl⟩:=hc
 have h1':ops.toList.map (st true)=l:=by
  have:=congrArg Array.toList h1
  simpa using this
 subst h1'
 refine wp_region_any hm (r7 _ _ _ _ ?_)
 simpa using h
theorem JF{l:List Oper}(hm:P.follows .mixedOrders=true)(h:wpAny P .any l.toArray Q l.length (Array.replicate l.length false) a {w with drawn:=w.drawn+1}):NW P (.region 0 l.toArray true) Q a w:=by
 intro c hc
 cases c<;>simp only[norm,reduceCtorEq,Code.region.injEq]at hc
 rename_i id ops d
 obtain⟨_,h1,rfl⟩:=hc
 have h1':ops.toList.map (st true)=l:=by
  have:=congrArg Array.toList h1
  simpa using this
 subst h1'
 refine wp_region_any hm (r7 _ _ _ _ ?_)
 simpa using h
theorem rA{l:List Oper}(n:Nat)(hm:P.follows .mixedOrders=true)(hB:Region.lexTailB .any l.toArray n=true)
  (h:wpStill P l.toArray {w with drawn:=w.drawn+1} (fun a'=>wpList P l.toArray Q (l.drop n) a' {w with drawn:=w.drawn+1}) (l.take n) a):NW P (.region 0 l.toArray true) Q a w:=by
 refine JF hm ?_
 simp only[Region.lexTailB,Bool.and_eq_true,decide_eq_true_eq]at hB
 obtain⟨⟨⟨⟨gO,hn⟩,hs⟩,hc⟩,hlex⟩:=hB
 have ox:n<l.length:=by simpa using hn
 have htl:(l.take n).length=n:=by simp;omega
 have hdl:(l.drop n).length=l.toArray.size - n:=by simp
 have inv0:HeadInv .any l.toArray n (Array.replicate l.toArray.size false):=
  ⟨by simp,fun j oj _ hl=>(by rw[getD_replicate_false]at hl;cases hl),fun t _ ht=>getD_in (by simpa using ht) (getD_replicate_false _ _)⟩
 have H:=wpAnyL_lex (md:= .any) (g:=l.toArray.size - n) gO hs hc hn (l.take n) 0 _ a (fun j hj=>by
  have ow:j<n:=by rw[htl]at hj;exact hj
  simp[ow]) (by simpa using htl) inv0 (by rw[htl];exact hlex) h
 have:=wpAny_of_head (Q':=Q) (g:=l.toArray.size - n) (fun listed a' hL=>by
  have:=wpAny_of_seq (md:= .any) (Q':=Q) (l.drop n) n listed a' {w with drawn:=w.drawn+1} (fun j=>by simp[List.getElem?_drop]) (by rw[hdl];exact hL.1) hL.2
  rwa[hdl]at this) _ _ _ H
 rw[htl,show n+(l.toArray.size - n)=l.toArray.size by omega]at this
 simpa using this
theorem GG{l:List Oper}(hm:P.follows .mixedOrders=true)(hB:Region.lexB .any l.toArray=true)
  (h:wpStill P l.toArray {w with drawn:=w.drawn+1} (fun a'=>Q .normal a' {w with drawn:=w.drawn+1}) l a):NW P (.region 0 l.toArray true) Q a w:=by
 refine JF hm ?_
 simp only[Region.lexB,Bool.and_eq_true]at hB
 have h2:=wpAnyS_lex (md:= .any) (ops:=l.toArray) hB.1 l 0 (Array.replicate l.toArray.size false) a (by simp) (by simpa using hB.2) h
 have:=wpAny_of_still (Q':=Q) (fun a h=>h) _ _ _ h2
 simpa using this
end
structure Body(P:Program)(f:FuncId)(n:Nat)(res:List ResultVar)(c':Code):Prop where
 ok:aP P f=true
 is:∃fn c,P.funcs[f]? =some fn∧fn.body=some c∧norm c=c'∧fn.ntmps=n∧fn.results.toList=res
def RV(P:Program)(res:List ResultVar)(tmps:Array Value)(w:World)(v:Value):Prop:=
 ∃vs,(res.mapM (jR tmps)).run P w= .ok vs w∧v=(match vs with| [x]=>x|xs=> .tuple xs.toArray)
def fin(P:Program)(res:List ResultVar)(R:Value→World→Prop):Exit→Act→World→Prop
 | .normal,a,w=>a.defers=[]∧∃v,RV P res a.tmps w v∧R v w
 | .ret,a,w=>a.defers=[]∧∃v,RV P res a.tmps w v∧R v w
 |_,_,_=>False
def Ret(P:Program)(f:FuncId)(args:List Value)(w:World)(R:Value→World→Prop):Prop:=
 Calls P f args.toArray w fun e w'=>∃v,e= .returned v∧R v w'
theorem Ret.mono{P:Program}{f:FuncId}{args:List Value}{w:World}{R R':Value→World→Prop}(h:Ret P f args w R)(hr:∀v w',R v w'→R' v w'):Ret P f args w R':=
 Calls.mono h fun _ _ ⟨v,he,hR⟩=>⟨v,he,hr _ _ hR⟩
theorem vI{P:Program}{fn:Func}{tmps:Array Value}{w:World}{v:Value}(h:RV P fn.results.toList tmps w v):(results fn tmps).run P w= .ok v w:=by
 obtain⟨vs,h1,rfl⟩:=h
 have hres:results fn tmps=(fn.results.mapM (jR tmps)>>=fun vs=>pure (if h:vs.size=1 then vs[0]else .tuple vs)):=by
  unfold results
  congr 1
 rw[hres,Array.mapM_eq_mapM_toList]
 match vs,h1 with
 | [],h1=>simp[h1]
 | [x],h1=>simp[h1]
 |x::y::r,h1=>simp[h1]
theorem cN{P:Program}{f:FuncId}{n:Nat}{res:List ResultVar}{c':Code}{args:List Value}{w:World}{R:Value→World→Prop}(hB:Body P f n res c')
  (h:NW P c' (fin P res R) {tmps:=args.toArray++Array.replicate (n - args.length) undef,defers:=[]} w):Ret P f args w R:=by
 obtain⟨fn,c,hf,hb,hc,rfl,rfl⟩:=hB.is
 refine calls_of_wp hf hb ?_
 have:=h c hc
 refine wp_mono (by simpa using this) ?_
 intro e a w hq
 cases e with
 |normal=>obtain⟨hd,v,hr,hR⟩:=hq;exact⟨hd,v,vI hr,v,rfl,hR⟩
 |ret=>obtain⟨hd,v,hr,hR⟩:=hq;exact⟨hd,v,vI hr,v,rfl,hR⟩
 |_=>exact hq.elim
end Go.TL.H
namespace Go.TL
def others(LT:List Nat):Tab→List Nat
 | []=>[]
 |(k,_)::r=>match LT.any (Nat.beq k)with|true=>others LT r|false=>k::others LT r
def pick{α:Type}(l:List (Nat×α)):List Nat→List (Nat×α)
 | []=>[]
 |k::ks=>match lk l k with|some x=>(k,x)::pick l ks|none=>pick l ks
theorem jk{α:Type}(l:List (Nat×α)):∀(ks:List Nat) (t:Nat) (x:α),lk (pick l ks) t=some x→lk l t=some x
 | [],t,x,h=>by simp[pick,lk]at h
 |k::ks,t,x,h=>by
  simp only[pick]at h
  cases hk:lk l k with
  |none=>simp only[hk]at h;exact jk l ks t x h
  |some y=>
   simp only[hk,lk]at h
   cases hb:Nat.beq k t with
   |true=>have:=ZU hb;subst this;simp only[hb,ZS]at h;subst h;exact hk
   |false=>simp only[hb]at h;exact jk l ks t x h
theorem pB{α:Type}(l:List (Nat×α)):∀(ks:List Nat) (t:Nat),t∈ks→lk (pick l ks) t=lk l t
 | [],t,h=>by simp at h
 |k::ks,t,h=>by
  simp only[pick]
  by_cases he:k=t
  ·subst he
   cases hk:lk l k with
   |none=>
    simp only
    cases hq:lk (pick l ks) k with
    |none=>rfl
    |some y=>rw[jk l ks k y hq]at hk;cases hk
   |some y=>simp[lk,Nat.beq_refl]
  ·have ht:t∈ks:=by rcases Z1 h with rfl|h;exact absurd rfl he;exact h
   cases hk:lk l k with
   |none=>exact pB l ks t ht
   |some y=>simp only;rw[aw _ _ _ _ (Ne.symm he)];exact pB l ks t ht
def St.keep(L LT:List Nat)(σ:St):St:=
 let σ1:=σ.eM (others LT σ.tab)
 ⟨pick σ1.ah L,pick σ1.tab LT⟩
theorem xF:∀(ks:List Nat) (σ:St) (k:Nat),lk (σ.eM ks).tab k≠none→lk σ.tab k≠none∧k ∉ ks
 | [],_,_,h=>⟨h,by simp⟩
 |j::ks,σ,k,h=>by
  have:=xF ks (σ.kill j) k h
  simp only[St.kill,St.fz,jB]at this
  by_cases he:k=j
  ·subst he;rw[lp]at this;simp at this
  ·rw[cM _ _ _ he]at this
   exact⟨by simpa using this.1,by simp[he,this.2]⟩
theorem vJ(LT:List Nat):∀(T:Tab) (k:Nat),lk T k≠none→k ∉ LT→k∈others LT T
 | [],k,h,_=>by simp[lk]at h
 |(j,x)::r,k,h,hn=>by
   simp only[others]
   simp only[lk]at h
   cases hb:Nat.beq j k with
   |true=>
    have:=ZU hb;subst this
    have:LT.any (Nat.beq j)=false:=by
     cases hq:LT.any (Nat.beq j)with
     |false=>rfl
     |true=>
      obtain⟨y,hy,he⟩:=List.any_eq_true.1 hq
      have:=ZU he;subst this
      exact absurd hy hn
    simp[this]
   |false=>
    simp only[hb]at h
    have:=vJ LT r k h hn
    split<;>simp[this]
theorem KP{C:Ctx}{σ:St}{a:Act}{w:World}(L LT:List Nat)(h:Holds C σ a w):Holds C (σ.keep L LT) a w:=by
 obtain⟨E,h1⟩:=zY (others LT σ.tab) σ h
 refine⟨E,h1.size,h1.defers,fun t sv hl=>h1.ah t sv (jk _ _ _ _ hl),⟨fun k ov hl=>h1.tab.obj k ov (jk _ _ _ _ hl),?_,?_,h1.tab.ext⟩,h1.fr,h1.lo,h1.ids,h1.lL⟩
 ·intro k hl
  cases hq:lk (σ.eM (others LT σ.tab)).tab k with
  |none=>exact h1.tab.dead k hq
  |some ov=>
   exfalso
   have hm:=xF _ _ k (by rw[hq];simp)
   by_cases hk:k∈LT
   ·have:=pB (σ.eM (others LT σ.tab)).tab LT k hk
    simp only[St.keep]at hl
    rw[this,hq]at hl;cases hl
   ·exact hm.2 (vJ LT _ k hm.1 hk)
 ·intro b k ho
  have:=h1.tab.own b k ho
  refine⟨this.1,this.2.1,?_⟩
  have hm:=xF _ _ k this.2.2
  have hk:k∈LT:=by
   by_cases hk:k∈LT
   ·exact hk
   ·exact absurd (vJ LT _ k hm.1 hk) hm.2
  simp only[St.keep]
  rw[pB _ LT k hk];exact this.2.2
theorem PQ{P:Program}{n:Nat}{σ σ':St}(L LT:List Nat)(h:σ.keep L LT=σ'):Imp P n σ σ':=fun _ _ _ _ _ hh=>h▸KP L LT hh
theorem vK{P:Program}{n:Nat}{σ σ':St}(ks:List Nat)(h:σ.freeze ks=some σ'):Imp P n σ σ':=fun _ _ _ _ _ hh=>xl ks σ σ' hh h
theorem Imp.refl{P:Program}{n:Nat}{σ:St}:Imp P n σ σ:=fun _ _ _ _ _ h=>h
theorem Imp.trans{P:Program}{n:Nat}{σ σ1 σ2:St}(h:Imp P n σ σ1)(k:Imp P n σ1 σ2):Imp P n σ σ2:=fun lo w0 E0 a w hh=>k lo w0 E0 a w (h lo w0 E0 a w hh)
abbrev I(n:Int):SV:= .p (.v (.int .i64 n)) true
abbrev B(b:Bool):SV:= .p (.v (.bool b)) true
abbrev S(s:ByteArray):SV:= .p (.v (.string s)) true
abbrev L(rows:List (List PV))(fr:Bool):SV:= .p (.sl rows) fr
abbrev i(n:Int):PV:= .v (.int .i64 n)
abbrev b(b:Bool):PV:= .v (.bool b)
abbrev s(s:ByteArray):PV:= .v (.string s)
end Go.TL
namespace Go.TL
inductive CK where
 |int(k:IntKind)
 |bool
 |str
 |oy
 |any
 |sl(e:TypeId)
 |other
 deriving DecidableEq
def dy:Nat:=2097152
def cu:Nat:=1073741824
def uf:Nat:=64
def jS(e:TypeId):Nat:=match Nat.ble 1000000 e with|true=>1073741824|false=>2097152
theorem xG(e:TypeId):2097152≤jS e:=by unfold jS;split<;>decide
theorem ED(e:TypeId):jS e≤1073741824:=by unfold jS;split<;>decide
theorem I6{e:TypeId}(h:1000000≤e):jS e=1073741824:=by unfold jS;rw[Nat.ble_eq_true_of_le h]
theorem tO{e:TypeId}(h:Nat.ble 1000000 e=false):jS e=2097152:=by unfold jS;rw[h]
def flat(f:TypeId→List CK):List Field→List CK
 | []=>[]
 |x::xs=>f x.type++flat f xs
def gp(P:Program):Nat→TypeId→List CK
 |0,_=>[.other]
 |n+1,t=>match P.underlying t with
  |some (.int k)=>[.int k]
  |some .bool=>[.bool]
  |some .string=>[.str]
  |some (.slice e)=>[.sl e]
  |some (.struct fs)=>flat (gp P n) fs.toList
  |_=>[.other]
def kn:List CK→List CK
 | .other::_=>[]
 |c::r=>c::kn r
 | []=>[]
def PR:List CK→List CK
 | .other::r=> .any::PR r
 |c::r=>c::PR r
 | []=>[]
def cks(P:Program)(t:TypeId):List CK:=
 match P.underlying t,Nat.ble 2000000 t with
 |some _,_=>gp P 8 t
 |none,false=> .str::(match gp P 8 (t - 1000000)with| [.str]=>[.oy]|cs=>PR cs)
 |none,true=>match Nat.ble 3000000 t with|true=>gp P 8 (t - 3000000)|false=>kn (gp P 8 (t - 2000000)).dropLast
inductive WT(P:Program):CK→PV→Prop
 |int (k:IntKind) (n:Int) (h1:k.min≤n) (h2:n≤k.max):WT P (.int k) (.v (.int k n))
 |bool (x:Bool):WT P .bool (.v (.bool x))
 |str (x:ByteArray) (h:x.size≤cu):WT P .str (.v (.string x))
 |oy (x:ByteArray) (h:x.size≤uf):WT P .oy (.v (.string x))
 |any:WT P .any .un
 |sl (e:TypeId) (rows:List (List PV)) (h:rows.length≤jS e) (hl:∀row∈rows,row.length=(cks P e).length)
   (hw:∀(row:List PV),row∈rows→∀(j:Nat) (ck:CK) (x:PV),(cks P e)[j]? =some ck→row[j]? =some x→WT P ck x):WT P (.sl e) (.sl rows)
def WTs(P:Program):List CK→List PV→Prop
 | [],[]=>True
 |c::cs,x::xs=>WT P c x∧WTs P cs xs
 |_,_=>False
theorem ay{P:Program}:∀(cs:List CK) (xs:List PV),WTs P cs xs ↔ xs.length=cs.length∧∀(j:Nat) (ck:CK) (x:PV),cs[j]? =some ck→xs[j]? =some x→WT P ck x
 | [],[]=>by simp[WTs]
 |c::cs,x::xs=>by
  simp only[WTs]
  rw[ay cs xs]
  constructor
  ·rintro⟨h1,h2,h3⟩
   refine⟨by simp[h2],?_⟩
   intro j ck y hc hy
   cases j with
   |zero=>simp at hc hy;subst hc;subst hy;exact h1
   |succ j=>exact h3 j ck y (by simpa using hc) (by simpa using hy)
  ·rintro⟨h1,h2⟩
   exact⟨h2 0 c x rfl rfl,by simpa using h1,fun j ck y hc hy=>h2 (j+1) ck y (by simpa using hc) (by simpa using hy)⟩
 | [],_::_=>by simp[WTs]
 |_::_,[]=>by simp[WTs]
def Ty(P:Program)(t:TypeId)(row:List PV):Prop:=WTs P (cks P t) row
def c9(P:Program)(e:TypeId)(rows:List (List PV)):Prop:=∀row∈rows,Ty P e row
def bK(P:Program)(e:TypeId)(rows:List (List PV)):Prop:=rows.length≤jS e∧c9 P e rows
theorem KQ{P:Program}{e:TypeId}{x:PV}(h:WT P (.sl e) x):∃rows,x= .sl rows∧bK P e rows:=by
 cases h with
 |sl _ rows h hl hw=>exact⟨rows,rfl,h,fun row hr=>(ay _ _).2 ⟨hl row hr,fun j ck x hc hx=>hw row hr j ck x hc hx⟩⟩
theorem bK.wt{P:Program}{e:TypeId}{rows:List (List PV)}(h:bK P e rows):WT P (.sl e) (.sl rows):=
 .sl e rows h.1 (fun row hr=>((ay _ _).1 (h.2 row hr)).1) (fun row hr j ck x hc hx=>((ay _ _).1 (h.2 row hr)).2 j ck x hc hx)
theorem GH{P:Program}{k:IntKind}{x:PV}(h:WT P (.int k) x):∃n,x= .v (.int k n)∧k.min≤n∧n≤k.max:=by
 cases h with|int _ n h1 h2=>exact⟨n,rfl,h1,h2⟩
theorem U3{P:Program}{x:PV}(h:WT P .any x):x= .un:=by cases h;rfl
theorem U4{P:Program}{x:PV}(h:WT P .oy x):∃n,x= .v (.string n)∧n.size≤uf:=by cases h with|oy n h=>exact⟨n,rfl,h⟩
theorem Nv{P:Program}{x:PV}(h:WT P .str x):∃n,x= .v (.string n)∧n.size≤cu:=by
 cases h with|str n h=>exact⟨n,rfl,h⟩
theorem JG{P:Program}{x:PV}(h:WT P .bool x):∃n,x= .v (.bool n):=by
 cases h with|bool n=>exact⟨n,rfl⟩
theorem kC{P:Program}{c:CK}{cs:List CK}{row:List PV}(h:WTs P (c::cs) row):∃x xs,row=x::xs∧WT P c x∧WTs P cs xs:=by
 cases row with
 |nil=>simp[WTs]at h
 |cons x xs=>exact⟨x,xs,rfl,h.1,h.2⟩
theorem rB{P:Program}{row:List PV}(h:WTs P [] row):row=[]:=by
 cases row with
 |nil=>rfl
 |cons x xs=>simp[WTs]at h
theorem Nw{P:Program}{cs:List CK}{row:List PV}(h:WTs P (.int .i64::cs) row):∃(n:Int) (xs:List PV),row=i n::xs∧ -9223372036854775808≤n∧n≤9223372036854775807∧WTs P cs xs:=by
 obtain⟨x,xs,rfl,hx,fH⟩:=kC h
 obtain⟨n,rfl,h1,h2⟩:=GH hx
 exact⟨n,xs,rfl,h1,h2,fH⟩
theorem xH{P:Program}{cs:List CK}{row:List PV}(h:WTs P (.str::cs) row):∃(n:ByteArray) (xs:List PV),row=s n::xs∧n.size≤cu∧WTs P cs xs:=by
 obtain⟨x,xs,rfl,hx,fH⟩:=kC h
 obtain⟨n,rfl,h1⟩:=Nv hx
 exact⟨n,xs,rfl,h1,fH⟩
theorem SY{P:Program}{cs:List CK}{row:List PV}(h:WTs P (.bool::cs) row):∃(n:Bool) (xs:List PV),row=b n::xs∧WTs P cs xs:=by
 obtain⟨x,xs,rfl,hx,fH⟩:=kC h
 obtain⟨n,rfl⟩:=JG hx
 exact⟨n,xs,rfl,fH⟩
theorem U5{P:Program}:WTs P [] []:=trivial
theorem Nx{P:Program}{cs:List CK}{n:ByteArray}{xs:List PV}(h:n.size≤cu)(k:WTs P cs xs):WTs P (.str::cs) (s n::xs):=⟨.str _ h,k⟩
theorem Ty.of{P:Program}{t:TypeId}{cs:List CK}{row:List PV}(hc:cks P t=cs)(h:WTs P cs row):Ty P t row:=by unfold Ty;rw[hc];exact h
theorem Ty.to{P:Program}{t:TypeId}{cs:List CK}{row:List PV}(hc:cks P t=cs)(h:Ty P t row):WTs P cs row:=by unfold Ty at h;rw[hc]at h;exact h
theorem c9.nil{P:Program}{e:TypeId}:c9 P e []:=by intro r h;simp at h
theorem c9.one{P:Program}{e:TypeId}{row:List PV}(h:Ty P e row):c9 P e [row]:=by intro r hr;simp at hr;subst hr;exact h
theorem c9.cons{P:Program}{e:TypeId}{row:List PV}{rows:List (List PV)}(h:Ty P e row)(k:c9 P e rows):c9 P e (row::rows):=by
 intro r hr;rcases Z1 hr with rfl|hr;exact h;exact k r hr
theorem c9.append{P:Program}{e:TypeId}{a b:List (List PV)}(h:c9 P e a)(k:c9 P e b):c9 P e (a++b):=by
 intro r hr;rcases Z0 hr with hr|hr;exact h r hr;exact k r hr
theorem c9.take{P:Program}{e:TypeId}{a:List (List PV)}(h:c9 P e a)(n:Nat):c9 P e (a.take n):=fun r hr=>h r (List.mem_of_mem_take hr)
theorem c9.drop{P:Program}{e:TypeId}{a:List (List PV)}(h:c9 P e a)(n:Nat):c9 P e (a.drop n):=fun r hr=>h r (List.mem_of_mem_drop hr)
theorem bK.nil{P:Program}{e:TypeId}:bK P e []:=⟨Nat.zero_le _,.nil⟩
theorem c9.len{P:Program}{e:TypeId}{rows:List (List PV)}{n:Nat}(h:c9 P e rows)(hn:(cks P e).length=n):∀row∈rows,row.length=n:=fun row hr=>by rw[←hn];exact((ay _ _).1 (h row hr)).1
theorem bK.of{P:Program}{e:TypeId}{rows:List (List PV)}(h:rows.length≤2097152)(k:c9 P e rows):bK P e rows:=⟨Nat.le_trans h (xG e),k⟩
theorem bK.ofC{P:Program}{e:TypeId}{rows:List (List PV)}(he:1000000≤e)(h:rows.length≤1073741824)(k:c9 P e rows):bK P e rows:=⟨by rw[I6 he];exact h,k⟩
theorem bK.real{P:Program}{e:TypeId}{rows:List (List PV)}(h:bK P e rows)(he:Nat.ble 1000000 e=false):rows.length≤dy:=by have:=h.1;rwa[tO he]at this
theorem bK.len{P:Program}{e:TypeId}{rows:List (List PV)}(h:bK P e rows):rows.length≤1073741824:=Nat.le_trans h.1 (ED e)
mutual
def pz:PV→Nat
 | .v (.string x)=>1+x.size
 | .v _=>1
 | .sl rows=>1+rsz rows
 | .rm _ rows=>1+rsz rows
 | .ls rows=>1+rsz rows
 | .un=>1
 | .mp _a rows=>1+rsz rows
def rz:List PV→Nat
 | []=>0
 |x::xs=>pz x+rz xs
def rsz:List (List PV)→Nat
 | []=>0
 |r::rs=>1+rz r+rsz rs
end
theorem Xz(rows:List (List PV)):pz (.sl rows)=1+rsz rows:=by simp[pz]
theorem jl:rz []=0:=by simp[rz]
theorem eA(x:PV)(xs:List PV):rz (x::xs)=pz x+rz xs:=by simp[rz]
theorem nf:rsz []=0:=by simp[rsz]
theorem eY(r:List PV)(rs:List (List PV)):rsz (r::rs)=1+rz r+rsz rs:=by simp[rsz]
theorem BH(a c:List (List PV)):rsz (a++c)=rsz a+rsz c:=by
 induction a with
 |nil=>simp[nf]
 |cons x a ih=>simp only[List.cons_append,eY,ih];omega
theorem GI{rows:List (List PV)}{row:List PV}(h:row∈rows):rz row<rsz rows:=by
 induction rows with
 |nil=>simp at h
 |cons x xs ih=>
  rw[eY]
  rcases Z1 h with rfl|h
  ·omega
  ·have:=ih h;omega
theorem xf(rows:List (List PV)):rows.length≤rsz rows:=by
 induction rows with
 |nil=>simp
 |cons x xs ih=>rw[eY,List.length_cons];omega
theorem I7(rows:List (List PV))(n:Nat):rsz (rows.drop n)≤rsz rows:=by
 induction rows generalizing n with
 |nil=>simp
 |cons x xs ih=>
  cases n with
  |zero=>simp
  |succ n=>simp only[List.drop_succ_cons,eY];have:=ih n;omega
theorem gU{n:Int}(h1: -9223372036854775808≤n)(h2:n≤9223372036854775807):IntKind.wrap .i64 n=n:=by
 unfold IntKind.wrap;simp[IntKind.bits,IntKind.signed];omega
theorem bK.sub{P:Program}{e:TypeId}{rows:List (List PV)}(h:bK P e rows)(m k:Nat):bK P e ((rows.take m).drop k):=
 ⟨Nat.le_trans (by simp;omega) h.1,(h.2.take m).drop k⟩
theorem KR(x:ByteArray)(a c:Nat):(x.extract a c).size≤x.size:=by
 simp[ByteArray.size_extract];omega
theorem BI(n:Int): -9223372036854775808≤IntKind.wrap .i64 n∧IntKind.wrap .i64 n≤9223372036854775807:=by
 unfold IntKind.wrap;simp[IntKind.bits,IntKind.signed];omega
end Go.TL
namespace Go.TL
def sw(a b k:Nat):Nat:=
 match Nat.beq k a with
 |true=>b
 |false=>match Nat.beq k b with
  |true=>a
  |false=>k
theorem Sa(a b k:Nat):sw a b k=if k=a then b else if k=b then a else k:=by
 unfold sw
 cases h:Nat.beq k a with
 |true=>simp[ZU h]
 |false=>
  have h1:=beq_false h
  cases h2:Nat.beq k b with
  |true=>have:=ZU h2;simp[this];intro e;exact absurd (this.trans e) h1
  |false=>have h3:=beq_false h2;simp[h1,h3]
theorem fT(a b k:Nat):sw a b (sw a b k)=k:=by
 simp only[Sa];split<;>(try split)<;>(try split)<;>simp_all
mutual
def SV.rn(π:Nat→Nat):SV→SV
 | .vec j=> .vec (π j)
 | .ptr j off=> .ptr (π j) off
 | .bn j sz i off=> .bn (π j) sz i off
 | .ref j=> .ref (π j)
 | .agg xs=> .agg (rns π xs)
 | .bL xs=> .bL (rns π xs)
 | .fn f first aQ=> .fn f (rns π first) (rns π aQ)
 | .cL t x=> .cL t (SV.rn π x)
 | .u=> .u
 | .p x fr=> .p x fr
 | .pd row off fr=> .pd row off fr
 | .pc rows fr=> .pc rows fr
def rns(π:Nat→Nat):List SV→List SV
 | []=>[]
 |x::xs=>SV.rn π x::rns π xs
end
def OV.rn(π:Nat→Nat):OV→OV
 | .box t cells=> .box t (rns π cells)
 |o=>o
def eo(π:Nat→Nat):Tab→Tab
 | []=>[]
 |(k,x)::r=>(π k,OV.rn π x)::eo π r
def rC(π:Nat→Nat):List (Nat×SV)→List (Nat×SV)
 | []=>[]
 |(t,x)::r=>(t,SV.rn π x)::rC π r
theorem KT(π:Nat→Nat)(l:List (Nat×SV))(t:Nat):lk (rC π l) t=(lk l t).map (SV.rn π):=by
 induction l with
 |nil=>rfl
 |cons h r ih=>obtain⟨j,x⟩:=h;simp only[rC,lk];cases Nat.beq j t<;>simp[ih]
theorem AA(a b:Nat)(l:Tab)(k:Nat):lk (eo (sw a b) l) k=(lk l (sw a b k)).map (OV.rn (sw a b)):=by
 induction l with
 |nil=>rfl
 |cons h r ih=>
  obtain⟨j,x⟩:=h
  simp only[eo,lk]
  have:Nat.beq (sw a b j) k=Nat.beq j (sw a b k):=by
   cases h1:Nat.beq (sw a b j) k with
   |true=>have:=ZU h1;rw[←this,fT];exact(Nat.beq_refl j).symm
   |false=>
    cases h2:Nat.beq j (sw a b k)with
    |false=>rfl
    |true=>have:=ZU h2;subst this;rw[fT,Nat.beq_refl]at h1;cases h1
  rw[this]
  cases Nat.beq j (sw a b k)<;>simp[ih]
def Env.sw(E:Env)(a b:Nat):Env:=⟨fun k=>E.val (Go.TL.sw a b k),fun c=>(E.own c).map (Go.TL.sw a b),E.ext⟩
theorem Env.ug(E:Env)(a b:Nat):(E.sw a b).bad=E.bad:=by
 funext c;apply propext;simp[Env.bad,Env.sw]
theorem Env.Ny(E:Env)(a b c k:Nat):(E.sw a b).own c=some k ↔ E.own c=some (Go.TL.sw a b k):=by
 simp only[Env.sw]
 cases hc:E.own c with
 |none=>simp
 |some j=>
  simp only[Option.map_some,ZS]
  constructor
  ·intro e;rw[←e,fT]
  ·intro e;rw[e,fT]
theorem Env.fT(E:Env)(a b:Nat):(E.sw a b).sw a b=E:=by
 cases E with
 |mk v o x=>
  simp only[Env.sw,Go.TL.fT,Option.map_map]
  congr 1
  funext c
  cases o c with
  |none=>rfl
  |some j=>simp[Go.TL.fT]
mutual
theorem VR.sw{w:World}{E:Env}{lo a b:Nat}:∀(sv:SV) (v:Value),VR w E lo sv v→VR w (E.sw a b) lo (SV.rn (Go.TL.sw a b) sv) v
 | .u,_,_=>by simp[SV.rn,VR]
 | .p x fr,v,h=>by simp only[SV.rn,VR]at h ⊢;rw[Env.ug];exact h
 | .ptr k off,v,h=>by simp only[SV.rn,VR]at h ⊢;obtain⟨c,h1,h2⟩:=h;exact⟨c,by simp[Env.sw,Go.TL.fT,h1],h2⟩
 | .vec k,v,h=>by simp only[SV.rn,VR]at h ⊢;exact⟨by simp[Env.sw,Go.TL.fT,h.1],h.2⟩
 | .bn k sz i off,v,h=>by simp only[SV.rn,VR]at h ⊢;obtain⟨c,n,m,h1,h2⟩:=h;exact⟨c,n,m,by simp[Env.sw,Go.TL.fT,h1],h2⟩
 | .pd row off fr,v,h=>by simp only[SV.rn,VR]at h ⊢;rw[Env.ug];exact h
 | .pc rows fr,v,h=>by simp only[SV.rn,VR]at h ⊢;rw[Env.ug];exact h
 | .agg xs,v,h=>by simp only[SV.rn,VR]at h ⊢;obtain⟨vs,h1,h2⟩:=h;exact⟨vs,h1,VRs.sw xs vs h2⟩
 | .bL xs,v,h=>by simp only[SV.rn,VR]at h ⊢;obtain⟨vs,h1,h2⟩:=h;exact⟨vs,h1,VRs.sw xs vs h2⟩
 | .ref k,v,h=>by simp only[SV.rn,VR]at h ⊢;exact⟨by simp[Env.sw,Go.TL.fT,h.1],h.2⟩
 | .fn f first aQ,v,h=>by simp only[SV.rn,VR]at h ⊢;obtain⟨vs,ws,h1,h2,h3⟩:=h;exact⟨vs,ws,h1,VRs.sw first vs h2,VRs.sw aQ ws h3⟩
 | .cL t x,v,h=>by simp only[SV.rn,VR]at h ⊢;obtain⟨y,h1,h2⟩:=h;exact⟨y,h1,VR.sw x y h2⟩
theorem VRs.sw{w:World}{E:Env}{lo a b:Nat}:∀(xs:List SV) (vs:List Value),VRs w E lo xs vs→VRs w (E.sw a b) lo (rns (Go.TL.sw a b) xs) vs
 | [],[],_=>by simp[rns,VRs]
 |x::xs,v::vs,h=>by simp only[rns];exact bu (VR.sw x v (aH.1 h).1) (VRs.sw xs vs (aH.1 h).2)
 | [],_::_,h=>by simp[VRs]at h
 |_::_,[],h=>by simp[VRs]at h
end
theorem OR.sw{w:World}{E:Env}{lo a b k:Nat}{ov:OV}(h:OR w E lo k ov):OR w (E.sw a b) lo (Go.TL.sw a b k) (OV.rn (Go.TL.sw a b) ov):=by
 have hv:(E.sw a b).val (Go.TL.sw a b k)=E.val k:=by simp[Env.sw,Go.TL.fT]
 have ho:∀c,(E.sw a b).own c=some (Go.TL.sw a b k) ↔ E.own c=some k:=fun c=>by rw[Env.Ny,Go.TL.fT]
 cases ov with
 |box t cells=>obtain⟨c,vs,h1,h2,h3,h4⟩:=h;exact⟨c,vs,hv.trans h1,(ho c).2 h2,h3,VRs.sw cells vs h4⟩
 |vec t sz rows fr=>obtain⟨v,xs,h1,h2,h3,h4,h5⟩:=h;exact⟨v,xs,hv.trans h1,h2,h3,fun g hg=>(ho g).2 (h4 g hg),by rw[Env.ug];exact h5⟩
 |mp a rows fr=>obtain⟨c,es,cl,h1,h2,h3,h4⟩:=h;exact⟨c,es,cl,hv.trans h1,(ho c).2 h2,h3,by rw[Env.ug];exact h4⟩
 |it a rows fr n on=>obtain⟨c,o,h1,h2,h3,h4⟩:=h;exact⟨c,o,hv.trans h1,(ho c).2 h2,h3,by rw[Env.ug];exact h4⟩
theorem bV.sw{w:World}{E:Env}{lo a b:Nat}{T:Tab}(h:bV w E lo T):bV w (E.sw a b) lo (eo (Go.TL.sw a b) T):=by
 refine⟨?_,?_,?_,?_⟩
 ·intro k ov hl
  rw[AA]at hl
  cases hq:lk T (Go.TL.sw a b k)with
  |none=>simp[hq]at hl
  |some o=>
   simp[hq]at hl;subst hl
   have:=OR.sw (a:=a) (b:=b) (h.obj _ _ hq)
   rwa[Go.TL.fT]at this
 ·intro k hl
  rw[AA]at hl
  exact h.dead _ (by simpa using hl)
 ·intro c k ho
  have:=h.own c _ ((Env.Ny E a b c k).1 ho)
  refine⟨this.1,this.2.1,?_⟩
  rw[AA];simpa using this.2.2
 ·intro c hx
  have:=h.ext c hx
  exact⟨this.1,by simp[Env.sw,this.2]⟩
theorem Fr.sw{w w':World}{E E':Env}{a b:Nat}(h:Fr w E w' E'):Fr w (E.sw a b) w' (E'.sw a b):=
 ⟨h.os,h.tape,h.output,h.size,fun c hc hn=>by
  have ox:E.own c=none:=by simpa[Env.sw]using hn
  have:=h.keep c hc ox
  exact⟨this.1,by simp[Env.sw,this.2]⟩,h.ext⟩
theorem JH(a b:Nat):∀xs:List SV,rns (sw a b) (rns (sw a b) xs)=xs:=by
 have key:∀n,∀x:SV,SizeOf.sizeOf x<n→SV.rn (sw a b) (SV.rn (sw a b) x)=x:=by
  intro n
  induction n with
  |zero=>intro x h;omega
  |succ n ih=>
   have ihs:∀xs:List SV,SizeOf.sizeOf xs≤n→rns (sw a b) (rns (sw a b) xs)=xs:=by
    intro xs
    induction xs with
    |nil=>intro _;rfl
    |cons x xs ihx=>
     intro h
     simp at h
     simp only[rns]
     rw[ih x (by omega),ihx (by omega)]
   intro x h
   cases x<;>simp only[SV.rn,fT]<;>simp at h
   ·rw[ihs _ (by omega)]
   ·rw[ihs _ (by omega)]
   ·rw[ihs _ (by omega),ihs _ (by omega)]
   ·rw[ih _ (by omega)]
 intro xs
 induction xs with
 |nil=>rfl
 |cons x xs ih=>simp only[rns];rw[key _ x (Nat.lt_succ_self _),ih]
theorem FnS.sw{P:Program}{f:FuncId}{args:List SV}{T:Tab}{R:SV→Tab→Prop}(a b:Nat)(h:FnS P f args T R):
  FnS P f (rns (Go.TL.sw a b) args) (eo (Go.TL.sw a b) T) fun r T'=>∃r0 T0,R r0 T0∧r=SV.rn (Go.TL.sw a b) r0∧T'=eo (Go.TL.sw a b) T0:=by
 intro lo w E vals aR ht hv
 have ht':=bV.sw (a:=a) (b:=b) ht
 have lH:=VRs.sw (a:=a) (b:=b) _ _ hv
 rw[JH]at lH
 have hT:eo (Go.TL.sw a b) (eo (Go.TL.sw a b) T)=T:=by
  clear ht ht' h
  induction T with
  |nil=>rfl
  |cons x T ih=>
   obtain⟨k,ov⟩:=x
   simp only[eo,fT,ih]
   congr 1
   congr 1
   cases ov<;>simp[OV.rn,JH]
 rw[hT]at ht'
 refine(h lo w (E.sw a b) vals ⟨aR.le,aR.laid,fun b hb=>by simp[Env.sw,aR.own b hb]⟩ ht' lH).mono ?_
 rintro e w' ⟨r,v,T',E',rfl,hR,c8,htt,hr,hp⟩
 refine⟨_,v,_,E'.sw a b,rfl,⟨r,T',hR,rfl,rfl⟩,?_,bV.sw htt,VR.sw r v hr,?_⟩
 ·have:=Fr.sw (a:=a) (b:=b) c8
  rwa[Env.fT]at this
 ·intro k x hk
  have:=hp (Go.TL.sw a b k) x (by simpa[Env.sw,Go.TL.fT]using hk)
  simpa[Env.sw]using this
def St.rn(σ:St)(k k':Nat):St:=⟨rC (sw k k') σ.ah,eo (sw k k') σ.tab⟩
theorem PS{P:Program}{n lo:Nat}{w0:World}{E0:Env}{σ:St}{a:Act}{w:World}{k k':Nat}(h:Holds (mkC P n lo w0 E0) σ a w)(hf:lk σ.tab k'=none)(hi:Nat.ble (k'+1) n=true):Holds (mkC P n lo w0 E0) (σ.rn k k') a w:=by
 obtain⟨E,h⟩:=h
 have hk':k'<n:=ZX hi
 refine⟨E.sw k k',h.size,h.defers,?_,bV.sw h.tab,?_,h.lo,h.ids,?_⟩
 ·intro t s hl
  simp only[St.rn,KT]at hl
  cases hq:lk σ.ah t with
  |none=>simp[hq]at hl
  |some s0=>simp[hq]at hl;subst hl;exact VR.sw s0 _ (h.ah t s0 hq)
 ·exact⟨h.fr.os,h.fr.tape,h.fr.output,h.fr.size,fun c hc hn=>by
   have:=h.fr.keep c hc hn
   exact⟨this.1,by simp[Env.sw,this.2]⟩,h.fr.ext⟩
 ·intro j x hj
  have hid:n≤j:=h.ids j (by rw[hj];simp)
  simp only[Env.sw]
  rw[Sa]
  by_cases h1:j=k
  ·rw[if_pos h1];exact .inr (h.tab.dead k' hf)
  ·rw[if_neg h1,if_neg (by omega)];exact h.lL j x hj
theorem U6{P:Program}{n:Nat}{σ σ':St}(k k':Nat)(hf:(lk σ.tab k').isSome=false)(hi:Nat.ble (k'+1) n=true)(h:σ.rn k k'=σ'):Imp P n σ σ':=
 fun _ _ _ _ _ hh=>h▸PS hh (by simpa using hf) hi
def St.r9(t K:Nat)(e:TypeId)(sz:Nat)(σ:St):St:=⟨(t,.vec K)::rm σ.ah t,(K,.vec e sz [] true)::σ.tab⟩
def PT(σ:St)(t:Nat):Bool:=
 match lk σ.ah t with
 |some (.p (.v (.slice none 0 0)) _)=>true
 |_=>false
theorem KU{P:Program}{n:Nat}{σ σ':St}(t K:Nat)(e:TypeId)(sz:Nat)(ht:PT σ t=true)(hf:(lk σ.tab K).isSome=false)(hi:Nat.ble (K+1) n=true)(hz:Nat.ble 1 sz=true)(h:σ.r9 t K e sz=σ'):Imp P n σ σ':=by
 subst h
 rintro lo w0 E0 a w ⟨E,h⟩
 have hK:K<n:=ZX hi
 have hf':lk σ.tab K=none:=by simpa using hf
 have dB:a.tmps.getD t undef= .slice none 0 0:=by
  unfold PT at ht
  split at ht
  ·rename_i hl;exact dh (h.ah t _ hl)
  ·cases ht
 let E':Env:=⟨fun k=>if k=K then some (.slice none 0 0)else E.val k,E.own,E.ext⟩
 have hk:eL w E w E':=⟨fun _ _ h=>⟨rfl,h⟩,rfl⟩
 have hv:∀k x,E.val k=some x→E'.val k=some x:=by
  intro k x hx
  have:k≠K:=fun e=>by subst e;rw[h.tab.dead k hf']at hx;cases hx
  simp[E',this,hx]
 refine⟨E',h.size,h.defers,?_,⟨?_,?_,?_,?_⟩,⟨h.fr.os,h.fr.tape,h.fr.output,h.fr.size,h.fr.keep,h.fr.ext⟩,h.lo,h.ids,?_⟩
 ·intro t' s hl
  simp only[St.r9]at hl
  by_cases he:t'=t
  ·subst he
   rw[aB]at hl;cases hl
   simp only[VR]
   exact⟨by simp[E',dB],_,_,_,dB⟩
  ·rw[aw _ _ _ _ he,cM _ _ _ he]at hl
   exact VR.mono hk hv s _ (h.ah t' s hl)
 ·intro k ov hl
  simp only[St.r9]at hl
  by_cases he:k=K
  ·subst he
   rw[aB]at hl;cases hl
   exact⟨.slice none 0 0,[],by simp[E'],ZX hz,World.ownsRow_nil w 0 e sz,by simp[Value.ownBlock],fun _ _=>undef,by simp,by simp,by simp⟩
  ·rw[aw _ _ _ _ he]at hl
   exact OR.mono hk hv (fun _=>Iff.rfl) (fun _ _=>rfl) (h.tab.obj k ov hl)
 ·intro k hl
  have he:k≠K:=fun e=>by subst e;simp only[St.r9]at hl;rw[aB]at hl;cases hl
  simp only[St.r9]at hl
  rw[aw _ _ _ _ he]at hl
  simp[E',he,h.tab.dead k hl]
 ·intro c k ho
  have:=h.tab.own c k ho
  refine⟨this.1,this.2.1,?_⟩
  simp only[St.r9]
  by_cases he:k=K
  ·subst he;rw[aB];simp
  ·rw[aw _ _ _ _ he];exact this.2.2
 ·exact h.tab.ext
 ·intro j x hj
  have hid:n≤j:=h.ids j (by rw[hj];simp)
  have:j≠K:=by omega
  simpa[E',this]using h.lL j x hj
def qJ(K:Nat):List SV→List SV
 | []=>[]
 |x::xs=>(match x with| .vec j=>(match Nat.beq j K with|true=> .p (.v (.slice none 0 0)) true|false=> .vec j)|x=>x)::qJ K xs
theorem EE{w:World}{E E':Env}{lo K:Nat}(hk:eL w E w E')(hv:∀k x,E.val k=some x→E'.val k=some x)(hK:E'.val K=some (.slice none 0 0)):
  ∀(xs:List SV) (vs:List Value),VRs w E lo (qJ K xs) vs→VRs w E' lo xs vs
 | [],[],_=>by simp[VRs]
 |x::xs,v::vs,h=>by
  simp only[qJ]at h
  have h2:=EE hk hv hK xs vs (aH.1 h).2
  refine bu ?_ h2
  have h1:=(aH.1 h).1
  cases x with
  |vec j=>
   simp only at h1
   cases hj:Nat.beq j K with
   |true=>
    have:=ZU hj;subst this
    simp only[hj]at h1
    have:=dh h1;subst this
    simp only[VR]
    exact⟨hK,_,_,_,rfl⟩
   |false=>simp only[hj]at h1;exact VR.mono hk hv _ _ h1
  |_=>exact VR.mono hk hv _ _ h1
 | [],_::_,h=>by simp[qJ,VRs]at h
 |_::_,[],h=>by simp[qJ,VRs]at h
theorem FnS.U7{P:Program}{g:FuncId}{T:Tab}{R:SV→Tab→Prop}(K:Nat)(e:TypeId)(sz:Nat)(svs:List SV){svs':List SV}(jW:qJ K svs=svs')(hf:(lk T K).isSome=false)(hz:Nat.ble 1 sz=true)
  (h:FnS P g svs ((K,.vec e sz [] true)::T) R):FnS P g svs' T R:=by
 subst jW
 intro lo w E vals aR ht hv
 have hf':lk T K=none:=by simpa using hf
 let E':Env:=⟨fun k=>if k=K then some (.slice none 0 0)else E.val k,E.own,E.ext⟩
 have hk:eL w E w E':=⟨fun _ _ h=>⟨rfl,h⟩,rfl⟩
 have hvE:∀k x,E.val k=some x→E'.val k=some x:=by
  intro k x hx
  have:k≠K:=fun e=>by subst e;rw[ht.dead k hf']at hx;cases hx
  simp[E',this,hx]
 have ht':bV w E' lo ((K,.vec e sz [] true)::T):=by
  refine⟨?_,?_,?_,ht.ext⟩
  ·intro k ov hl
   by_cases he:k=K
   ·subst he
    rw[aB]at hl;cases hl
    exact⟨.slice none 0 0,[],by simp[E'],ZX hz,World.ownsRow_nil w 0 e sz,by simp[Value.ownBlock],fun _ _=>undef,by simp,by simp,by simp⟩
   ·rw[aw _ _ _ _ he]at hl
    exact OR.mono hk hvE (fun _=>Iff.rfl) (fun _ _=>rfl) (ht.obj k ov hl)
  ·intro k hl
   have he:k≠K:=fun e=>by subst e;rw[aB]at hl;cases hl
   rw[aw _ _ _ _ he]at hl
   simp[E',he,ht.dead k hl]
  ·intro c k ho
   have:=ht.own c k ho
   refine⟨this.1,this.2.1,?_⟩
   by_cases he:k=K
   ·subst he;rw[aB];simp
   ·rw[aw _ _ _ _ he];exact this.2.2
 refine(h lo w E' vals ⟨aR.le,aR.laid,aR.own⟩ ht' (EE hk hvE (by simp[E']) svs vals hv)).mono ?_
 rintro e' w' ⟨r,v,T',E'',rfl,hR,c8,hto,hr,hp⟩
 refine⟨r,v,T',E'',rfl,hR,⟨c8.os,c8.tape,c8.output,c8.size,c8.keep,c8.ext⟩,hto,hr,?_⟩
 intro k x hx
 exact hp k x (hvE k x hx)
end Go.TL
namespace Go.TL
mutual
def SV.eO:SV→SV
 | .p (.sl rows) _=> .p (.sl rows) false
 | .p (.rm len rows) _=> .p (.rm len rows) false
 | .p (.ls rows) _=> .p (.ls rows) false
 | .p .un fr=> .p .un fr
 | .p (.mp a rows) _=> .p (.mp a rows) false
 | .pd row off _=> .pd row off false
 | .pc rows _=> .pc rows false
 | .agg xs=> .agg (yV xs)
 | .bL xs=> .bL (yV xs)
 | .p (.v x) fr=>match gR x with
  |true=> .p (.sl []) false
  |false=> .p (.v x) fr
 | .u=> .u
 | .ptr k off=> .ptr k off
 | .vec k=> .vec k
 | .bn k sz i off=> .bn k sz i off
 | .ref k=> .ref k
 | .fn f first aQ=> .fn f first aQ
 | .cL t x=> .cL t (SV.eO x)
def yV:List SV→List SV
 | []=>[]
 |x::xs=>SV.eO x::yV xs
end
theorem Rep.GJ{w:World}{bad:Nat→Prop}{lo:Nat}{x:PV}{v:Value}(h:Rep w bad lo x v):Rep w bad 0 x v:=h.mono (Nat.zero_le _) fun _ _ h k=>⟨h,k⟩
mutual
theorem VR.eO{w:World}{E:Env}{lo:Nat}:∀(sv:SV) (v:Value),VR w E lo sv v→VR w E lo sv.eO v
 | .p (.sl rows) fr,v,h=>by simp only[SV.eO,VR,flo]at h ⊢;exact h.GJ
 | .p (.rm len rows) fr,v,h=>by simp only[SV.eO,VR,flo]at h ⊢;exact h.GJ
 | .p (.ls rows) fr,v,h=>by simp only[SV.eO,VR,flo]at h ⊢;exact h.GJ
 | .p .un fr,v,h=>by simpa only[SV.eO]using h
 | .p (.mp a rows) fr,v,h=>by simp only[SV.eO,VR,flo]at h ⊢;exact h.GJ
 | .pd row off fr,v,h=>by
  simp only[SV.eO,VR,flo]at h ⊢
  obtain⟨b,o,h1,h2⟩:=h
  exact⟨b,o,h1,h2.mono (Nat.zero_le _) fun _ _ h k=>⟨h,k⟩⟩
 | .pc rows fr,v,h=>by
  simp only[SV.eO,VR,flo]at h ⊢
  obtain⟨a,h1,h2⟩:=h
  exact⟨a,h1,h2.GJ⟩
 | .agg xs,v,h=>by simp only[SV.eO,VR]at h ⊢;obtain⟨vs,h1,h2⟩:=h;exact⟨vs,h1,VRs.eO xs vs h2⟩
 | .bL xs,v,h=>by simp only[SV.eO,VR]at h ⊢;obtain⟨vs,h1,h2⟩:=h;exact⟨vs,h1,VRs.eO xs vs h2⟩
 | .p (.v x) fr,v,h=>by
  simp only[SV.eO]
  cases hx:gR x with
  |true=>
   have:=qC hx;subst this
   rw[dh h]
   simp only[VR]
   exact .nil none 0
  |false=>exact h
 | .u,_,h=>by simpa only[SV.eO]using h
 | .ptr k off,_,h=>by simpa only[SV.eO]using h
 | .vec k,_,h=>by simpa only[SV.eO]using h
 | .bn k sz i off,_,h=>by simpa only[SV.eO]using h
 | .ref k,_,h=>by simpa only[SV.eO]using h
 | .fn f first aQ,_,h=>by simpa only[SV.eO]using h
 | .cL t x,v,h=>by simp only[SV.eO,VR]at h ⊢;obtain⟨y,h1,h2⟩:=h;exact⟨y,h1,VR.eO x y h2⟩
theorem VRs.eO{w:World}{E:Env}{lo:Nat}:∀(xs:List SV) (vs:List Value),VRs w E lo xs vs→VRs w E lo (yV xs) vs
 | [],[],_=>by simp[yV,VRs]
 |x::xs,v::vs,h=>by simp only[yV];exact bu (VR.eO x v (aH.1 h).1) (VRs.eO xs vs (aH.1 h).2)
 | [],_::_,h=>by simp[VRs]at h
 |_::_,[],h=>by simp[VRs]at h
end
def mG:List Bool→List SV→List SV
 |true::m,x::xs=>x.eO::mG m xs
 |false::m,x::xs=>x::mG m xs
 |_,xs=>xs
theorem VRs.mG{w:World}{E:Env}{lo:Nat}:∀(m:List Bool) (xs:List SV) (vs:List Value),VRs w E lo xs vs→VRs w E lo (Go.TL.mG m xs) vs
 | [],xs,vs,h=>by simpa only[Go.TL.mG]using h
 |b::m,[],vs,h=>by cases b<;>simpa only[Go.TL.mG]using h
 |true::m,x::xs,v::vs,h=>by simp only[Go.TL.mG];exact bu (VR.eO x v (aH.1 h).1) (VRs.mG m xs vs (aH.1 h).2)
 |false::m,x::xs,v::vs,h=>by simp only[Go.TL.mG];exact bu (aH.1 h).1 (VRs.mG m xs vs (aH.1 h).2)
 |true::m,x::xs,[],h=>by simp[VRs]at h
 |false::m,x::xs,[],h=>by simp[VRs]at h
theorem FnS.eO{P:Program}{g:FuncId}{T:Tab}{R:SV→Tab→Prop}(m:List Bool)(svs:List SV){svs':List SV}(e:mG m svs=svs')(h:FnS P g svs' T R):FnS P g svs T R:=by
 subst e
 intro lo w E vals aR ht hv
 exact h lo w E vals aR ht (VRs.mG m svs vals hv)
def St.nl(t:Nat)(fr:Bool)(σ:St):St:=⟨(t,.p (.sl []) fr)::rm σ.ah t,σ.tab⟩
mutual
def SV.nlf:SV→SV
 | .p (.v x) fr=>match gR x with
  |true=> .p (.sl []) true
  |false=> .p (.v x) fr
 | .agg xs=> .agg (Dx xs)
 | .bL xs=> .bL (Dx xs)
 | .p (.sl rows) fr=> .p (.sl rows) fr
 | .p (.rm len rows) fr=> .p (.rm len rows) fr
 | .p (.ls rows) fr=> .p (.ls rows) fr
 | .p .un fr=> .p .un fr
 | .p (.mp a rows) fr=> .p (.mp a rows) fr
 | .pd row off fr=> .pd row off fr
 | .pc rows fr=> .pc rows fr
 | .u=> .u
 | .ptr k off=> .ptr k off
 | .vec k=> .vec k
 | .bn k sz i off=> .bn k sz i off
 | .ref k=> .ref k
 | .fn f first aQ=> .fn f first aQ
 | .cL t x=> .cL t x
def Dx:List SV→List SV
 | []=>[]
 |x::xs=>SV.nlf x::Dx xs
end
mutual
theorem VR.nlf{w:World}{E:Env}{lo:Nat}:∀(sv:SV) (v:Value),VR w E lo sv v→VR w E lo sv.nlf v
 | .p (.v x) fr,v,h=>by
  simp only[SV.nlf]
  cases hx:gR x with
  |true=>
   have:=qC hx;subst this
   rw[dh h]
   simp only[VR]
   exact .nil none 0
  |false=>exact h
 | .agg xs,v,h=>by simp only[SV.nlf,VR]at h ⊢;obtain⟨vs,h1,h2⟩:=h;exact⟨vs,h1,VRs.nlf xs vs h2⟩
 | .bL xs,v,h=>by simp only[SV.nlf,VR]at h ⊢;obtain⟨vs,h1,h2⟩:=h;exact⟨vs,h1,VRs.nlf xs vs h2⟩
 | .p (.sl rows) fr,v,h=>by simpa only[SV.nlf]using h
 | .p (.rm len rows) fr,v,h=>by simpa only[SV.nlf]using h
 | .p (.ls rows) fr,v,h=>by simpa only[SV.nlf]using h
 | .p .un fr,v,h=>by simpa only[SV.nlf]using h
 | .p (.mp a rows) fr,v,h=>by simpa only[SV.nlf]using h
 | .pd row off fr,v,h=>by simpa only[SV.nlf]using h
 | .pc rows fr,v,h=>by simpa only[SV.nlf]using h
 | .u,_,h=>by simpa only[SV.nlf]using h
 | .ptr k off,_,h=>by simpa only[SV.nlf]using h
 | .vec k,_,h=>by simpa only[SV.nlf]using h
 | .bn k sz i off,_,h=>by simpa only[SV.nlf]using h
 | .ref k,_,h=>by simpa only[SV.nlf]using h
 | .fn f first aQ,_,h=>by simpa only[SV.nlf]using h
 | .cL t x,v,h=>by simpa only[SV.nlf]using h
theorem VRs.nlf{w:World}{E:Env}{lo:Nat}:∀(xs:List SV) (vs:List Value),VRs w E lo xs vs→VRs w E lo (Dx xs) vs
 | [],[],_=>by simp[Dx,VRs]
 |x::xs,v::vs,h=>by simp only[Dx];exact bu (VR.nlf x v (aH.1 h).1) (VRs.nlf xs vs (aH.1 h).2)
 | [],_::_,h=>by simp[VRs]at h
 |_::_,[],h=>by simp[VRs]at h
end
def qh:List Bool→List SV→List SV
 |true::m,x::xs=>x.nlf::qh m xs
 |false::m,x::xs=>x::qh m xs
 |_,xs=>xs
theorem VRs.qh{w:World}{E:Env}{lo:Nat}:∀(m:List Bool) (xs:List SV) (vs:List Value),VRs w E lo xs vs→VRs w E lo (Go.TL.qh m xs) vs
 | [],xs,vs,h=>by simpa only[Go.TL.qh]using h
 |b::m,[],vs,h=>by cases b<;>simpa only[Go.TL.qh]using h
 |true::m,x::xs,v::vs,h=>by simp only[Go.TL.qh];exact bu (VR.nlf x v (aH.1 h).1) (VRs.qh m xs vs (aH.1 h).2)
 |false::m,x::xs,v::vs,h=>by simp only[Go.TL.qh];exact bu (aH.1 h).1 (VRs.qh m xs vs (aH.1 h).2)
 |true::m,x::xs,[],h=>by simp[VRs]at h
 |false::m,x::xs,[],h=>by simp[VRs]at h
theorem FnS.nlf{P:Program}{g:FuncId}{T:Tab}{R:SV→Tab→Prop}(m:List Bool)(svs:List SV){svs':List SV}(e:qh m svs=svs')(h:FnS P g svs' T R):FnS P g svs T R:=by
 subst e
 intro lo w E vals aR ht hv
 exact h lo w E vals aR ht (VRs.qh m svs vals hv)
end Go.TL
