/- Calls. -/
import Derived.Test.YtbjmbhgbalmoaaaW05
import Derived.StillTail
import Derived.Calls
namespace Go.TL
mutual
def SV.inB(T:Tab):SV→Bool
 | .vec j=>(lk T j).isSome
 | .ptr j _=>(lk T j).isSome
 | .aY j _ _ _=>(lk T j).isSome
 | .ref j=>(lk T j).isSome
 | .agg xs=>gJ T xs
 | .bB xs=>gJ T xs
 | .fn _ first aL=>match gJ T first with|true=>gJ T aL|false=>false
 | .bH _ x=>SV.inB T x
 | .u=>true
 | .p _ _=>true
 | .pd _ _ _=>true
 | .pc _ _=>true
def gJ(T:Tab):List SV→Bool
 | []=>true
 |x::xs=>match SV.inB T x with|true=>gJ T xs|false=>false
end
def Env.sub(E:Env)(T0:Tab):Env:=
 ⟨fun k=>if(lk T0 k).isSome then E.val k else none,fun b=>match E.own b with|some k=>if(lk T0 k).isSome then some k else none|none=>none,
  fun b=>E.ext b∨∃k,E.own b=some k∧(lk T0 k).isSome=false⟩
theorem kL.sub{P:Program}{lo:Nat}{w:World}{E:Env}(h:kL P lo w E)(T0:Tab):kL P lo w (E.sub T0):=⟨h.le,h.laid,fun b hb=>by simp only[Env.sub,h.own b hb]⟩
theorem jx(E:Env)(T0:Tab):(E.sub T0).bad=E.bad:=by
 funext b
 apply propext
 unfold Env.bad Env.sub
 simp only
 cases hb:E.own b with
 |none=>simp
 |some k=>
  cases hk:(lk T0 k).isSome with
  |true=>simp[hk]
  |false=>
   simp only[hk,Bool.false_eq_true,if_false,ne_eq,not_true_eq_false,false_or,reduceCtorEq,not_false_eq_true,true_or,iff_true]
   exact .inr ⟨k,rfl,hk⟩
mutual
theorem VR.sub{w:World}{E:Env}{lo:Nat}{T0:Tab}:∀(sv:SV) (v:Value),sv.inB T0=true→VR w E lo sv v→VR w (E.sub T0) lo sv v
 | .u,_,_,_=>by simp[VR]
 | .p x fr,v,_,h=>by simp only[VR]at h ⊢;rw[jx];exact h
 | .ptr k off,v,hb,h=>by simp only[VR,SV.inB]at h hb ⊢;obtain⟨b,h1,h2⟩:=h;exact⟨b,by simp[Env.sub,hb,h1],h2⟩
 | .vec k,v,hb,h=>by simp only[VR,SV.inB]at h hb ⊢;exact⟨by simp[Env.sub,hb,h.1],h.2⟩
 | .aY k sz i off,v,hb,h=>by simp only[VR,SV.inB]at h hb ⊢;obtain⟨b,n,c,h1,h2⟩:=h;exact⟨b,n,c,by simp[Env.sub,hb,h1],h2⟩
 | .pd row off fr,v,_,h=>by simp only[VR]at h ⊢;rw[jx];exact h
 | .pc rows fr,v,_,h=>by simp only[VR]at h ⊢;rw[jx];exact h
 | .agg xs,v,hb,h=>by simp only[VR,SV.inB]at h hb ⊢;obtain⟨vs,h1,h2⟩:=h;exact⟨vs,h1,VRs.sub xs vs hb h2⟩
 | .bB xs,v,hb,h=>by simp only[VR,SV.inB]at h hb ⊢;obtain⟨vs,h1,h2⟩:=h;exact⟨vs,h1,VRs.sub xs vs hb h2⟩
 | .ref k,v,hb,h=>by simp only[VR,SV.inB]at h hb ⊢;exact⟨by simp[Env.sub,hb,h.1],h.2⟩
 | .fn f first aL,v,hb,h=>by
  simp only[VR,SV.inB]at h hb ⊢
  obtain⟨vs,ws,h1,h2,h3⟩:=h
  cases hf:gJ T0 first with
  |false=>simp[hf]at hb
  |true=>simp only[hf]at hb;exact⟨vs,ws,h1,VRs.sub first vs hf h2,VRs.sub aL ws hb h3⟩
 | .bH t x,v,hb,h=>by simp only[VR,SV.inB]at h hb ⊢;obtain⟨y,h1,h2⟩:=h;exact⟨y,h1,VR.sub x y hb h2⟩
theorem VRs.sub{w:World}{E:Env}{lo:Nat}{T0:Tab}:∀(xs:List SV) (vs:List Value),gJ T0 xs=true→VRs w E lo xs vs→VRs w (E.sub T0) lo xs vs
 | [],[],_,_=>by simp[VRs]
 |x::xs,v::vs,hb,h=>by
  simp only[gJ]at hb
  cases hx:x.inB T0 with
  |false=>simp[hx]at hb
  |true=>
   simp only[hx]at hb
   exact dI (VR.sub x v hx (bj.1 h).1) (VRs.sub xs vs hb (bj.1 h).2)
 | [],_::_,_,h=>by simp[VRs]at h
 |_::_,[],_,h=>by simp[VRs]at h
end
def fo(T0:Tab):Tab→Bool
 | []=>true
 |(_,.box _ cells)::r=>match gJ T0 cells with|true=>fo T0 r|false=>false
 |_::r=>fo T0 r
theorem sd{T0:Tab}:∀{r:Tab},fo T0 r=true→∀k t cells,lk r k=some (.box t cells)→gJ T0 cells=true
 | [],_,k,t,cells,h=>by simp[lk]at h
 |(j,ov)::r,hb,k,t,cells,h=>by
   simp only[lk]at h
   cases hj:Nat.beq j k with
   |true=>
    simp only[hj,Ct]at h;subst h
    simp only[fo]at hb
    cases hi:gJ T0 cells with
    |true=>rfl
    |false=>simp[hi]at hb
   |false=>
    simp only[hj]at h
    have:fo T0 r=true:=by
     cases ov with
     |box t' cs=>
      simp only[fo]at hb
      cases hi:gJ T0 cs with
      |true=>simpa only[hi]using hb
      |false=>simp[hi]at hb
     |vec=>simpa only[fo]using hb
     |mp=>simpa only[fo]using hb
     |it=>simpa only[fo]using hb
    exact sd this k t cells h
theorem b9.sub{w:World}{E:Env}{lo:Nat}{T T0:Tab}(h:b9 w E lo T)(hs:∀k ov,lk T0 k=some ov→lk T k=some ov)(hb:fo T0 T0=true):b9 w (E.sub T0) lo T0:=by
 refine⟨?_,?_,?_,?_⟩
 ·intro k ov hl
  have hor:=h.obj k ov (hs k ov hl)
  have hsm:(lk T0 k).isSome=true:=by rw[hl];rfl
  have bI:∀b,(E.sub T0).own b=some k ↔ E.own b=some k:=by
   intro b
   simp only[Env.sub]
   cases hb:E.own b with
   |none=>simp
   |some j=>
    simp only
    cases hj:(lk T0 j).isSome with
    |true=>simp
    |false=>
     simp only[Bool.false_eq_true,if_false,reduceCtorEq,false_iff]
     intro e;simp at e;subst e;rw[hsm]at hj;cases hj
  have kf:(E.sub T0).val k=E.val k:=by simp[Env.sub,hsm]
  cases ov with
  |box t cells=>
   obtain⟨b,vs,h1,h2,h3,h4⟩:=hor
   exact⟨b,vs,by rw[kf];exact h1,(bI b).2 h2,h3,VRs.sub cells vs (sd hb k t cells hl) h4⟩
  |vec t sz rows fr=>
   obtain⟨v,xs,h1,h2,h3,h4,h5⟩:=hor
   exact⟨v,xs,by rw[kf];exact h1,h2,h3,fun g hg=>(bI g).2 (h4 g hg),by rw[jx];exact h5⟩
  |mp a rows fr=>
   obtain⟨b,es,cl,h1,h2,h3,h4⟩:=hor
   exact⟨b,es,cl,by rw[kf];exact h1,(bI b).2 h2,h3,by rw[jx];exact h4⟩
  |it a rows fr n on=>
   obtain⟨b,o,h1,h2,h3,h4⟩:=hor
   exact⟨b,o,by rw[kf];exact h1,(bI b).2 h2,h3,by rw[jx];exact h4⟩
 ·intro k hl
  simp[Env.sub,hl]
 ·intro b k ho
  simp only[Env.sub]at ho
  cases hb:E.own b with
  |none=>simp[hb]at ho
  |some j=>
   simp only[hb]at ho
   cases hj:(lk T0 j).isSome with
   |false=>simp[hj]at ho
   |true=>
    simp[hj]at ho;subst ho
    have:=h.own b j hb
    exact⟨this.1,this.2.1,by intro e;rw[e]at hj;cases hj⟩
 ·intro b hx
  rcases hx with hx|⟨k,hk,hkn⟩
  ·have:=h.ext b hx
   exact⟨this.1,by simp[Env.sub,this.2]⟩
  ·exact⟨(h.own b k hk).1,by simp[Env.sub,hk,hkn]⟩
def qC:List Nat→List (Nat×SV)→List (Nat×SV)
 | [],l=>l
 |k::ks,l=>qC ks (gO k .u (fun _=> .u) l)
def uD:List Nat→Tab→Tab
 | [],T=>T
 |k::ks,T=>uD ks (ia k .u (fun _=> .u) T)
def rmK{α:Type}:List Nat→List (Nat×α)→List (Nat×α)
 | [],T=>T
 |k::ks,T=>rmK ks (rm T k)
def keys{α:Type}:List (Nat×α)→List Nat
 | []=>[]
 |(k,_)::r=>k::keys r
def app{α:Type}:List (Nat×α)→List (Nat×α)→List (Nat×α)
 | [],b=>b
 |x::a,b=>x::app a b
def gone(T':Tab):List Nat→List Nat
 | []=>[]
 |k::ks=>match(lk T' k).isSome with|true=>gone T' ks|false=>k::gone T' ks
def St.after(σ:St)(T0 T':Tab):St:=
 ⟨qC (gone T' (keys T0)) σ.az,app T' (uD (gone T' (keys T0)) (rmK (keys T0) σ.tab))⟩
def aD(P:Program)(g:FuncId):Bool:=
 match P.funcs[g]? with
 |some fn=>match fn.body with
  |some _=> !(fn.name== "runtime.NumGoroutine")
  |none=>false
 |none=>false
theorem jC{P:Program}{w:World}{g:FuncId}{args:Array Value}(h:aD P g=true):(callFunc g args).run P w= .ok (.enter g args) w:=by
 unfold aD at h
 split at h
 ·rename_i fn hf
  split at h
  ·rename_i c hb
   have hn:¬ fn.name= "runtime.NumGoroutine" :=by simpa using h
   simp[callFunc,hf,hn,hb]
  ·cases h
 ·cases h
theorem FnS.mono{P:Program}{f:FuncId}{args:List SV}{T:Tab}{R R':SV→Tab→Prop}(h:FnS P f args T R)(hr:∀r T',R r T'→R' r T'):FnS P f args T R':=by
 intro lo w E vals aV ht hv
 refine(h lo w E vals aV ht hv).mono ?_
 rintro e w' ⟨r,v,T',E',rfl,hR,rest⟩
 exact⟨r,v,T',E',rfl,hr r T' hR,rest⟩
end Go.TL
namespace Go.TL.H
open Go
def Bf(o:Oper):TypeId:=match o.op with
 | .call ⟨.builtin _,_,_⟩=>o.type
 | .go _=>o.type
 | .defer _=>o.type
 |_=>0
def stOp(o:Op):Op:=match o with
 | .call ⟨.value f,args,_⟩=> .call ⟨.value f,args, #[]⟩
 |o=>o
def st(k:Bool)(o:Oper):Oper:=⟨o.dst,stOp o.op,Bf o, "",match k with|true=>o.after|false=> #[],o.guard⟩
def norm:Code→Code
 | .region _ ops d=> .region 0 (ops.toList.map (st d)).toArray d
 | .seq a b=> .seq (norm a) (norm b)
 | .cond c a b=> .cond c (norm a) (norm b)
 | .block id c=> .block id (norm c)
 | .loop c=> .loop (norm c)
 | .scope c=> .scope (norm c)
 | .skip=> .skip
 | .exit id=> .exit id
 | .ret=> .ret
 | .label l=> .label l
 | .goto l=> .goto l
 | .refuse w=> .refuse w
 | .rangeFunc f p a b=> .rangeFunc f p a b
theorem oI(k:Bool)(ρ:Operand→Value)(o:Oper):execOp ρ (st k o)=execOp ρ o:=by
 obtain⟨dst,op,ty,pos,af,g⟩:=o
 cases op
 case call c=>
  obtain⟨cal,args,ts⟩:=c
  cases cal<;>rfl
 all_goals rfl
theorem yu{P:Program}(k:Bool)(o:Oper)(a:Act)(K:Act→World→Prop)(Q:Exit→Act→World→Prop):(st k o).upon P a K Q=o.upon P a K Q:=rfl
theorem xP{P:Program}(k:Bool)(o:Oper)(a:Act)(w:World)(K:Act→World→Prop)(Q:Exit→Act→World→Prop):(st k o).wp P a w K Q=o.wp P a w K Q:=by
 unfold Oper.wp;rw[oI,yu]
theorem se{P:Program}(k:Bool)(o:Oper)(a:Act)(w:World):(st k o).asks P a w=o.asks P a w:=by
 unfold Oper.asks;rw[oI]
theorem nN{k:Bool}{ops:Array Oper}(j:Nat):((ops.toList.map (st k)).toArray)[j]? =(ops[j]?).map (st k):=by simp
theorem jk(k:Bool)(ops:Array Oper)(tmps:Array Value):yielded (ops.toList.map (st k)).toArray tmps=yielded ops tmps:=by
 funext j
 unfold yielded
 rw[nN]
 cases ops[j]? with
 |none=>rfl
 |some o=>rfl
theorem jU(k:Bool)(o:Oper)(y:Nat→Option Bool):Region.wanted (st k o) y=Region.wanted o y:=rfl
theorem lN{P:Program}{k:Bool}{ops:Array Oper}{Q:Exit→Act→World→Prop}:∀(l:List Oper) (a:Act) (w:World),
  wpList P (ops.toList.map (st k)).toArray Q (l.map (st k)) a w→wpList P ops Q l a w
 | [],a,w,h=>h
 |o::l,a,w,h=>by
  simp only[List.map_cons,wpList,jU,jk,xP,se]at h ⊢
  split
  ·rename_i hw
   rw[if_pos hw]at h
   rcases h with h|h
   ·exact .inl (Oper.wp_mono (fun a w h=>lN l a w h) h)
   ·exact .inr h
  ·rename_i hw
   rw[if_neg hw]at h
   exact lN l _ _ h
theorem kO(ops:Array Oper)(md:Region.Mode)(listed:Array Bool):Region.ready md (ops.toList.map (st true)).toArray listed=Region.ready md ops listed:=by
 unfold Region.ready
 have e:(ops.toList.map (st true)).toArray.size=ops.size:=by simp
 rw[e]
 congr 1
 funext i
 rw[nN]
 cases ops[i]? with
 |none=>rfl
 |some o=>rfl
theorem jD{P:Program}{ops:Array Oper}{md:Region.Mode}{Q:Exit→Act→World→Prop}:∀(fuel:Nat) (listed:Array Bool) (a:Act) (w:World),
  wpAny P md (ops.toList.map (st true)).toArray Q fuel listed a w→wpAny P md ops Q fuel listed a w
 |0,listed,a,w,h=>by
  unfold wpAny at h ⊢;rw[kO]at h;exact h
 |fuel+1,listed,a,w,h=>by
  unfold wpAny at h ⊢
  rw[kO]at h
  refine⟨h.1,fun i hi=>?_⟩
  have:=h.2 i hi
  unfold wpOp at this ⊢
  rw[nN]at this
  cases ho:ops[i]? with
  |none=>simp only[ho,Option.map_none]at this ⊢;exact jD fuel _ _ _ this
  |some o=>
   simp only[ho,Option.map_some,jU,jk,xP,se]at this ⊢
   split
   ·rename_i hw
    rw[if_pos hw]at this
    rcases this with h|h
    ·exact .inl (Oper.wp_mono (fun a w h=>jD fuel _ a w h) h)
    ·exact .inr h
   ·rename_i hw
    rw[if_neg hw]at this
    exact jD fuel _ _ _ this
def NW(P:Program)(c':Code)(Q:Exit→Act→World→Prop)(a:Act)(w:World):Prop:=∀c,norm c=c'→c.wp P Q a w
section
variable {P:Program} {Q:Exit→Act→World→Prop} {a:Act} {w:World}
theorem NW.mono{c:Code}{Q':Exit→Act→World→Prop}(h:NW P c Q a w)(hq:∀e a w,Q e a w→Q' e a w):NW P c Q' a w:=fun c0 hc=>wp_mono (h c0 hc) hq
theorem aw(h:Q .normal a w):NW P .skip Q a w:=by
 intro c hc;cases c<;>simp only[norm,reduceCtorEq]at hc;exact wp_skip h
theorem aP(h:Q .ret a w):NW P .ret Q a w:=by
 intro c hc;cases c<;>simp only[norm,reduceCtorEq]at hc;exact wp_ret h
theorem aN{id:Nat}(h:Q (.exit id) a w):NW P (.exit id) Q a w:=by
 intro c hc;cases c<;>simp only[norm,reduceCtorEq,Code.exit.injEq]at hc;subst hc;exact wp_exit h
theorem ah{x y:Code}(h:NW P x (fun e a w=>match e with| .normal=>NW P y Q a w|e=>Q e a w) a w):NW P (.seq x y) Q a w:=by
 intro c hc
 cases c<;>simp only[norm,reduceCtorEq,Code.seq.injEq]at hc
 obtain⟨h1,h2⟩:=hc
 refine wp_seq (wp_mono (h _ h1) ?_)
 intro e a w hq
 cases e<;>first|exact hq|exact hq _ h2
theorem ar{c:Operand}{x y:Code}{t:Bool}(hc:a.eval c= .bool t)(h1:t=true→NW P x Q a w)(h2:t=false→NW P y Q a w):NW P (.cond c x y) Q a w:=by
 intro c0 h0
 cases c0<;>simp only[norm,reduceCtorEq,Code.cond.injEq]at h0
 obtain⟨rfl,e1,e2⟩:=h0
 exact wp_cond_split hc (fun e=>h1 e _ e1) (fun e=>h2 e _ e2)
theorem au{id:Nat}{x:Code}(h:NW P x (fun e a w=>match e with| .exit id'=>(match Nat.beq id' id with|true=>Q .normal a w|false=>Q (.exit id') a w)|e=>Q e a w) a w):NW P (.block id x) Q a w:=by
 intro c hc
 cases c<;>simp only[norm,reduceCtorEq,Code.block.injEq]at hc
 obtain⟨rfl,h1⟩:=hc
 refine wp_block (wp_mono (h _ h1) ?_)
 intro e a w hq
 cases e with
 |exit id'=>
  simp only[Exit.inBlock]
  simp only at hq
  cases hb:Nat.beq id' _ with
  |true=>rw[if_pos (Cv hb)];simp only[hb]at hq;exact hq
  |false=>rw[if_neg (beq_false hb)];simp only[hb]at hq;exact hq
 |_=>exact hq
theorem aW{x:Code}(I:Nat→Act→World→Prop)(m:Nat)(h0:I m a w)
  (h:∀m a w,I m a w→NW P x (fun e a' w'=>match e with| .normal=>∃m',m'<m∧I m' a' w'|e=>Q e a' w') a w):NW P (.loop x) Q a w:=by
 intro c hc
 cases c<;>simp only[norm,reduceCtorEq,Code.loop.injEq]at hc
 rename_i c
 intro b k cs
 have key:∀m a w,I m a w→∃e a' w',Q e a' w'∧Arrives P (lone (b.at a (.code c:: .inLoop c::k)) cs w) b k cs e a' w':=by
  intro m
  induction m using Nat.strongRecOn with
  |_ m ih=>
   intro a w hI
   obtain⟨e,a₁,w₁,hq,kg⟩:=h m a w hI _ hc b (.inLoop c::k) cs
   cases e with
   |normal=>
    obtain⟨m',aF,hI'⟩:=hq
    obtain⟨e₂,a₂,w₂,hq₂,harr₂⟩:=ih m' aF a₁ w₁ hI'
    exact⟨e₂,a₂,w₂,hq₂,.of_steps (Steps.trans kg (.one step_inLoop)) harr₂⟩
   |exit id=>exact⟨_,a₁,w₁,hq,.pass (x:= .inLoop c) rfl (fun _ _=> .inl (by simp)) kg⟩
   |goto l=>exact⟨_,a₁,w₁,hq,.pass (x:= .inLoop c) rfl (fun _ _=> .inl (by simp)) kg⟩
   |ret=>exact⟨_,a₁,w₁,hq,.pass (x:= .inLoop c) rfl (fun _ _=> .inl (by simp)) kg⟩
   |panic ch=>exact⟨_,a₁,w₁,hq,.pass (x:= .inLoop c) rfl (fun _ _=> .inl (by simp)) kg⟩
   |outgrown=>exact⟨_,a₁,w₁,hq,.pass (x:= .inLoop c) rfl (fun _ _=> .inl (by simp)) kg⟩
 obtain⟨e,a',w',hq,kg⟩:=key m a w h0
 exact⟨e,a',w',hq,.of_steps (.one step_loop) kg⟩
theorem ae{l:List Oper}(h:wpList P l.toArray Q l a w):NW P (.region 0 l.toArray false) Q a w:=by
 intro c hc
 cases c<;>simp only[norm,reduceCtorEq,Code.region.injEq]at hc
 rename_i id ops d
 obtain⟨_,h1,rfl⟩:=hc
 have fX:ops.toList.map (st false)=l:=by
  have:=congrArg Array.toList h1
  simpa using this
 subst fX
 exact wp_region_list (lN _ _ _ h)
theorem eW{l:List Oper}(k:Nat)(hk:l.length=k)(hm:P.follows .mixedOrders=true)(h:wpAny P .any l.toArray Q k (Array.replicate k false) a {w with drawn:=w.drawn+1}):NW P (.region 0 l.toArray true) Q a w:=by
 subst hk
 intro c hc
 cases c<;>simp only[norm,reduceCtorEq,Code.region.injEq]at hc
 rename_i id ops d
 obtain⟨_,h1,rfl⟩:=hc
 have fX:ops.toList.map (st true)=l:=by
  have:=congrArg Array.toList h1
  simpa using this
 subst fX
 refine wp_region_any hm (jD _ _ _ _ ?_)
 simpa using h
theorem sf{l:List Oper}(hm:P.follows .mixedOrders=true)(h:wpAny P .any l.toArray Q l.length (Array.replicate l.length false) a {w with drawn:=w.drawn+1}):NW P (.region 0 l.toArray true) Q a w:=by
 intro c hc
 cases c<;>simp only[norm,reduceCtorEq,Code.region.injEq]at hc
 rename_i id ops d
 obtain⟨_,h1,rfl⟩:=hc
 have fX:ops.toList.map (st true)=l:=by
  have:=congrArg Array.toList h1
  simpa using this
 subst fX
 refine wp_region_any hm (jD _ _ _ _ ?_)
 simpa using h
theorem jy{l:List Oper}(n:Nat)(hm:P.follows .mixedOrders=true)(hB:Region.lexTailB .any l.toArray n=true)
  (h:wpStill P l.toArray {w with drawn:=w.drawn+1} (fun a'=>wpList P l.toArray Q (l.drop n) a' {w with drawn:=w.drawn+1}) (l.take n) a):NW P (.region 0 l.toArray true) Q a w:=by
 refine sf hm ?_
 simp only[Region.lexTailB,Bool.and_eq_true,decide_eq_true_eq]at hB
 obtain⟨⟨⟨⟨hsel,hn⟩,hs⟩,hc⟩,hlex⟩:=hB
 have hn':n<l.length:=by simpa using hn
 have htl:(l.take n).length=n:=by simp;omega
 have hdl:(l.drop n).length=l.toArray.size - n:=by simp
 have inv0:HeadInv .any l.toArray n (Array.replicate l.toArray.size false):=
  ⟨by simp,fun j oj _ hl=>(by rw[getD_replicate_false]at hl;cases hl),fun t _ ht=>getD_in (by simpa using ht) (getD_replicate_false _ _)⟩
 have H:=wpAnyL_lex (md:= .any) (g:=l.toArray.size - n) hsel hs hc hn (l.take n) 0 _ a (fun j hj=>by
  have hj':j<n:=by rw[htl]at hj;exact hj
  simp[hj']) (by simpa using htl) inv0 (by rw[htl];exact hlex) h
 have:=wpAny_of_head (Q':=Q) (g:=l.toArray.size - n) (fun listed a' hL=>by
  have:=wpAny_of_seq (md:= .any) (Q':=Q) (l.drop n) n listed a' {w with drawn:=w.drawn+1} (fun j=>by simp[List.getElem?_drop]) (by rw[hdl];exact hL.1) hL.2
  rwa[hdl]at this) _ _ _ H
 rw[htl,show n+(l.toArray.size - n)=l.toArray.size by omega]at this
 simpa using this
theorem jE{l:List Oper}(hm:P.follows .mixedOrders=true)(hB:Region.lexB .any l.toArray=true)
  (h:wpStill P l.toArray {w with drawn:=w.drawn+1} (fun a'=>Q .normal a' {w with drawn:=w.drawn+1}) l a):NW P (.region 0 l.toArray true) Q a w:=by
 refine sf hm ?_
 simp only[Region.lexB,Bool.and_eq_true]at hB
 have h2:=wpAnyS_lex (md:= .any) (ops:=l.toArray) hB.1 l 0 (Array.replicate l.toArray.size false) a (by simp) (by simpa using hB.2) h
 have:=wpAny_of_still (Q':=Q) (fun a h=>h) _ _ _ h2
 simpa using this
end
structure Body(P:Program)(f:FuncId)(n:Nat)(res:List ResultVar)(c':Code):Prop where
 ok:aD P f=true
 is:∃fn c,P.funcs[f]? =some fn∧fn.body=some c∧norm c=c'∧fn.ntmps=n∧fn.results.toList=res
def RV(P:Program)(res:List ResultVar)(tmps:Array Value)(w:World)(v:Value):Prop:=
 ∃vs,(res.mapM (gh tmps)).run P w= .ok vs w∧v=(match vs with| [x]=>x|xs=> .tuple xs.toArray)
def fin(P:Program)(res:List ResultVar)(R:Value→World→Prop):Exit→Act→World→Prop
 | .normal,a,w=>a.defers=[]∧∃v,RV P res a.tmps w v∧R v w
 | .ret,a,w=>a.defers=[]∧∃v,RV P res a.tmps w v∧R v w
 |_,_,_=>False
def Ret(P:Program)(f:FuncId)(args:List Value)(w:World)(R:Value→World→Prop):Prop:=
 Calls P f args.toArray w fun e w'=>∃v,e= .returned v∧R v w'
theorem Ret.mono{P:Program}{f:FuncId}{args:List Value}{w:World}{R R':Value→World→Prop}(h:Ret P f args w R)(hr:∀v w',R v w'→R' v w'):Ret P f args w R':=
 Calls.mono h fun _ _ ⟨v,he,hR⟩=>⟨v,he,hr _ _ hR⟩
theorem jl{P:Program}{fn:Func}{tmps:Array Value}{w:World}{v:Value}(h:RV P fn.results.toList tmps w v):(results fn tmps).run P w= .ok v w:=by
 obtain⟨vs,h1,rfl⟩:=h
 have hres:results fn tmps=(fn.results.mapM (gh tmps)>>=fun vs=>pure (if h:vs.size=1 then vs[0]else .tuple vs)):=by
  unfold results
  congr 1
 rw[hres,Array.mapM_eq_mapM_toList]
 match vs,h1 with
 | [],h1=>simp[h1]
 | [x],h1=>simp[h1]
 |x::y::r,h1=>simp[h1]
theorem aJ{P:Program}{f:FuncId}{n:Nat}{res:List ResultVar}{c':Code}{args:List Value}{w:World}{R:Value→World→Prop}(hB:Body P f n res c')
  (h:NW P c' (fin P res R) {tmps:=args.toArray++Array.replicate (n - args.length) undef,defers:=[]} w):Ret P f args w R:=by
 obtain⟨fn,c,hf,hb,hc,rfl,rfl⟩:=hB.is
 refine calls_of_wp hf hb ?_
 have:=h c hc
 refine wp_mono (by simpa using this) ?_
 intro e a w hq
 cases e with
 |normal=>obtain⟨hd,v,hr,hR⟩:=hq;exact⟨hd,v,jl hr,v,rfl,hR⟩
 |ret=>obtain⟨hd,v,hr,hR⟩:=hq;exact⟨hd,v,jl hr,v,rfl,hR⟩
 |_=>exact hq.elim
end Go.TL.H
namespace Go.TL
def others(LT:List Nat):Tab→List Nat
 | []=>[]
 |(k,_)::r=>match LT.any (Nat.beq k)with|true=>others LT r|false=>k::others LT r
def pick{α:Type}(l:List (Nat×α)):List Nat→List (Nat×α)
 | []=>[]
 |k::ks=>match lk l k with|some x=>(k,x)::pick l ks|none=>pick l ks
theorem oJ{α:Type}(l:List (Nat×α)):∀(ks:List Nat) (t:Nat) (x:α),lk (pick l ks) t=some x→lk l t=some x
 | [],t,x,h=>by simp[pick,lk]at h
 |k::ks,t,x,h=>by
  simp only[pick]at h
  cases hk:lk l k with
  |none=>simp only[hk]at h;exact oJ l ks t x h
  |some y=>
   simp only[hk,lk]at h
   cases hb:Nat.beq k t with
   |true=>have:=Cv hb;subst this;simp only[hb,Ct]at h;subst h;exact hk
   |false=>simp only[hb]at h;exact oJ l ks t x h
def St.keep(L LT:List Nat)(σ:St):St:=
 let σ1:=σ.nL (others LT σ.tab)
 ⟨pick σ1.az L,pick σ1.tab LT⟩
theorem Imp.refl{P:Program}{n:Nat}{σ:St}:Imp P n σ σ:=fun _ _ _ _ _ h=>h
theorem Imp.trans{P:Program}{n:Nat}{σ σ1 σ2:St}(h:Imp P n σ σ1)(k:Imp P n σ1 σ2):Imp P n σ σ2:=fun lo w0 E0 a w hh=>k lo w0 E0 a w (h lo w0 E0 a w hh)
abbrev I(n:Int):SV:= .p (.v (.int .i64 n)) true
abbrev B(b:Bool):SV:= .p (.v (.bool b)) true
abbrev S(s:ByteArray):SV:= .p (.v (.string s)) true
abbrev L(rows:List (List PV))(fr:Bool):SV:= .p (.sl rows) fr
abbrev i(n:Int):PV:= .v (.int .i64 n)
abbrev b(b:Bool):PV:= .v (.bool b)
abbrev s(s:ByteArray):PV:= .v (.string s)
end Go.TL
