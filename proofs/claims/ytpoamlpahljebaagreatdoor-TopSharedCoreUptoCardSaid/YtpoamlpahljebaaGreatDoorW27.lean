/- Functions told by hand: new names, copies of maps, lists that are sorted. -/
import Derived.Test.YtpoamlpahljebaaGreatDoorW26
import Derived.Lib.OwnBridge
import Derived.Lib.SlicesCompact
import Derived.Sort.EncStr
import Derived.RangeFuncLeaves
import Derived.RangeFuncRecord
import Derived.OrdersIn
namespace Go.TL.H
open Go
theorem XX{P:Program}{mb:TypeId}{cs:List CK}{rows:List (List PV)}(hc:cks P mb= .str::cs)(h:c9 P mb rows):oY rows:=oY.of hc h
theorem Jt{P:Program}{w:World}{bad:Nat→Prop}{lo:Nat}{mb:TypeId}{rows:List (List PV)}{es:Array MapEntry}{clock:Nat}(hc:cks P mb=[.str,.bool])(ht:c9 P mb rows)(h:dF w bad lo none rows es clock)(i:Nat)(e:MapEntry)(hi:es[i]? =some e):∃c,e.val= .bool c:=by
 obtain⟨row,vs,hm,hv,g,hg⟩:=h.at hi
 obtain⟨s,r,rfl,_,hr⟩:=xH (Ty.to hc (ht row hm))
 obtain⟨c,r,rfl,_⟩:=SY hr
 have:=hg 1 _ rfl
 have e1:=ek this.2
 simp only[ez,ZS]at hv;subst hv
 simp only[List.getElem?_cons_succ,List.getElem?_cons_zero,ZS]at this
 exact⟨c,this.1.trans e1⟩
end Go.TL.H
namespace Go.TL.H
open Go Go.Proofs
def eQ(l:List (List UInt8)):List (List PV):=l.map fun x=>[.v (encStr x)]
theorem Ew{P:Program}{e:TypeId}(hc:cks P e=[.str]):∀{rows:List (List PV)},c9 P e rows→∃ss,rows=eQ ss∧∀x∈ss,x.length≤cu
 | [],_=>⟨[],rfl,by simp⟩
 |r::rs,h=>by
  obtain⟨ss,h1,h2⟩:=Ew hc (rows:=rs) fun x hx=>h x (ZV _ hx)
  obtain⟨s,r',rfl,h3,h4⟩:=xH (Ty.to hc (h r (ZW ..)))
  obtain rfl:=rB h4
  refine⟨s.data.toList::ss,by rw[h1];simp[eQ],fun x hx=>?_⟩
  rcases Z1 hx with rfl|hx
  ·rw[Array.length_toList];exact h3
  ·exact h2 x hx
theorem TQ{P:Program}{e:TypeId}(hc:cks P e=[.str]){ss:List (List UInt8)}(h:∀x∈ss,x.length≤cu):c9 P e (eQ ss):=fun row hr=>by
 obtain⟨x,hx,rfl⟩:=List.mem_map.1 hr
 exact Ty.of hc (Nx (show x.toArray.size≤cu by rw[List.size_toArray];exact h x hx) U5)
theorem Rj{w:World}{bad:Nat→Prop}{lo:Nat}(ss:List (List UInt8)):de w bad lo 1 (eQ ss) (ss.map encStr):=by
 refine⟨fun i _=>encStr (ss.getD i []),fun i row hi=>?_,fun i row j x hi hj=>?_,fun i row j x hi hj=>?_⟩
 all_goals (
  simp only[eQ,List.getElem?_map,Option.map_eq_some_iff]at hi
  obtain⟨y,hy,rfl⟩:=hi)
 ·rfl
 all_goals (
  match j,hj with
  |0,hj=>?_
  |j+1,hj=>simp at hj)
 ·simp at hj;subst hj;simp[hy,List.getD]
 ·simp at hj;subst hj;simp only[List.getD,hy,Option.getD_some];exact .v _ rfl
theorem Rk{w:World}{bad:Nat→Prop}{lo:Nat}{ss:List (List UInt8)}{xs:List Value}(h:de w bad lo 1 (eQ ss) xs)(hl:xs.length=ss.length):xs=ss.map encStr:=by
 obtain⟨f,_,h2,h3⟩:=h
 apply List.ext_getElem?
 intro i
 rcases Nat.lt_or_ge i ss.length with hi|hi
 ·have hr:(eQ ss)[i]? =some [.v (encStr ss[i])]:=by simp[eQ,hi]
  have e1:=h2 i _ 0 _ hr rfl
  have e2:=ek (h3 i _ 0 _ hr rfl)
  rw[Nat.mul_one,Nat.add_zero]at e1
  rw[e1,e2];simp[hi]
 ·rw[List.getElem?_eq_none (by omega),List.getElem?_eq_none (by simpa using hi)]
theorem Wh(w:World)(n g:Nat)(d:Array (List UInt8)):Ch (· =g) w (Sort.putRow encStr (Sort.ahead w n) g 0 d):=
 ⟨rfl,rfl,rfl,by simp[Sort.ahead],fun b _ hn=>by simp[Sort.putRow,Sort.mapBlock,Sort.ahead,Array.getElem?_modify,Ne.symm hn]⟩
theorem TS(w:World)(os:Array Obj):Ch (fun _=>False) w (Sort.grow w os):=
 ⟨rfl,rfl,rfl,by simp[Sort.grow],fun b hb _=>by simp only[Sort.grow];rw[Array.getElem?_append_left hb]⟩
theorem Rl{P:Program}{w:World}{E:Env}{lo K:Nat}{e:TypeId}{rows:List (List PV)}(hc:cks P e=[.str])(aJ:c9 P e rows)(h:OR w E lo K (.vec e 1 rows true)):
  ∃v ss,E.val K=some v∧rows=eQ ss∧(∀x∈ss,x.length≤cu)∧w.ownsRow 0 e 1 v ss.length (ss.map encStr)∧(∀g,v.ownBlock=some g→E.own g=some K):=by
 obtain⟨v,xs,h1,_,h3,h4,h5⟩:=h
 obtain⟨ss,rfl,h6⟩:=Ew hc aJ
 have hl:(eQ ss).length=ss.length:=by simp[eQ]
 rw[hl]at h3
 have:=Rk h5 (by simpa using h3.1)
 subst this
 exact⟨v,ss,h1,rfl,h6,h3,h4⟩
theorem MR{P:Program}{f:FuncId}{e:TypeId}(hc:cks P e=[.str])
  (h0:∀(p:Option Addr) (cap:Nat) (w:World),Calls P f #[.slice p 0 cap] w fun e w'=>e= .returned (.tuple #[])∧w'=w)
  (h:∀(blk cap:Nat) (ss:List (List UInt8)) (w:World),Sort.Holds encStr w blk 0 ss.toArray→blk<w.heap.size→ss.length<4611686018427387904→Calls P f #[.slice (some ⟨blk,0,none⟩) ss.length cap] w fun e w'=>
   e= .returned (.tuple #[])∧∃n os,w'=Sort.grow (Sort.putRow encStr (Sort.ahead w n) blk 0 (ss.mergeSort fun x y=>decide (x≤y)).toArray) os):
  aA P aI ⟨f,1,[.vec 1000000],[(1000000,.vec e 1 (some 0) true)],[(0,e)],[],[],⟨0,[]⟩,[⟨1,[(1,e)],[⟨0,[(1, -1),(5,1)]⟩,⟨0,[(1,1),(5, -1)]⟩],[],[(1000000,.vec e 1 (some 1) true)],[]⟩]⟩:=by
 refine jx rfl fun ρ ab=>?_
 intro lo w E vals aR ht hv
 match vals,hv with
 | [v0],hv=>
  simp only[dvs,VRs,DV.v,VR]at hv
  obtain⟨⟨hv,_⟩,_⟩:=hv
  have aJ:bK P e (ρ 0).l:=ab.tys.1
  have ht':bV w E lo [(1000000,.vec e 1 (ρ 0).l true)]:=ht
  obtain⟨v,ss,k1,mw,k2,k3,k4⟩:=Rl hc aJ.2 (ht'.obj 1000000 _ rfl)
  rw[hv]at k1
  obtain rfl:=Option.some.inj k1
  have hlen:(ρ 0).l.length=ss.length:=by rw[mw];simp[eQ]
  have fin:∀(ys:List (List UInt8)) (w':World),ys.length=ss.length→(∀y∈ys,y∈ss)→Fr w E w' E→bV w' E lo [(1000000,.vec e 1 (eQ ys) true)]→
    ∃r v T' E',Ending.returned (.tuple #[])= .returned v∧pI P aI ⟨f,1,[.vec 1000000],[(1000000,.vec e 1 (some 0) true)],[(0,e)],[],[],⟨0,[]⟩,[⟨1,[(1,e)],[⟨0,[(1, -1),(5,1)]⟩,⟨0,[(1,1),(5, -1)]⟩],[],[(1000000,.vec e 1 (some 1) true)],[]⟩]⟩ ρ r T'∧Fr w E w' E'∧bV w' E' lo T'∧VR w' E' lo r v∧∀k x,E.val k=some x→E'.val k=some x∨E'.val k=none:=by
   intro ys w' h1 h2 h3 h4
   have hl:(eQ ys).length=ss.length:=by simp[eQ,h1]
   have jt:bK P e (eQ ys):=⟨by rw[hl, ←hlen];exact aJ.1,TQ hc fun x hx=>k2 x (h2 x hx)⟩
   refine⟨.bL [],_,[(1000000,.vec e 1 (eQ ys) true)],E,rfl,?_,h3,h4,by simp only[VR];exact⟨[],rfl,df⟩,fun k x hx=> .inl hx⟩
   refine⟨_,List.mem_singleton.2 rfl,up ρ 1 (vaL (eQ ys)),da _ _ _ _ (Nat.le_refl _),⟨ab.g.up 1 (jU jt.len),⟨by rw[bg];exact jt,trivial⟩,?_,trivial⟩,by simp[dmk,DV.v,dvs],by simp[aU,DO.v,lvV,bg,vaL]⟩
   simp only[cb.st,bh,Lin.v,bZ,aV,Nat.reduceMod,Nat.reduceDiv,bg,show up ρ 1 (vaL (eQ ys)) 0=ρ 0 from rfl]
   simp only[vaL,and_true]
   omega
  rcases Nat.eq_zero_or_pos ss.length with hz|hz
  ·have hss:ss=[]:=List.length_eq_zero_iff.1 hz
   have:∃p cap,v0= .slice p 0 cap:=by
    rcases k3.2 with⟨rfl,_⟩|⟨g,cap,cur,rfl,_⟩
    ·exact⟨_,_,rfl⟩
    ·exact⟨_,_,by rw[hz]⟩
   obtain⟨p,cap,rfl⟩:=this
   refine Calls.mono (h0 p cap w) ?_
   rintro e' w' ⟨rfl,rfl⟩
   exact fin ss w' rfl (fun _ h=>h) (Fr.refl _ _) (by rw[←mw];exact ht')
  ·obtain⟨g,cap,rfl,_,av,eR,hcm,_,hH⟩:=Lib.holds_of_ownsRow k3 (fun e0=>by
    subst e0
    rcases k3.2 with⟨_,hn⟩|⟨_,_,_,h,_⟩
    ·omega
    ·cases h)
   refine Calls.mono (h g cap ss w hH av (by have:=aJ.len;omega)) ?_
   rintro e' w' ⟨rfl,n,os,rfl⟩
   generalize hys:ss.mergeSort (fun x y=>decide (x≤y))=ys
   have hyl:ys.length=ss.length:=by rw[←hys];simp
   have hym:∀y∈ys,y∈ss:=fun y hy=>by rw[←hys]at hy;exact List.mem_mergeSort.1 hy
   have g1:=Wh w n g ys.toArray
   have g2:=TS (Sort.putRow encStr (Sort.ahead w n) g 0 ys.toArray) os
   have cD:=Lib.ownsRow_putRow (q:=n) (ys:=ys) (k:=ss.length) k3 hyl (Nat.le_refl _)
   rw[List.take_of_length_le (by omega)]at cD
   have hgo:=k4 g rfl
   have t1:bV (Sort.putRow encStr (Sort.ahead w n) g 0 ys.toArray) E lo [(1000000,.vec e 1 (eQ ys) true)]:=by
    refine ht'.set (k:=1000000) (by simp[lk]) (by simp[Sort.ahead]) (fun b hb=>?_) ⟨_,_,hv,by omega,by rw[show(eQ ys).length=ss.length by simp[eQ,hyl]];exact cD,k4,Rj ys⟩
    simp[Sort.putRow,Sort.mapBlock,Sort.ahead,Array.getElem?_modify]
    intro e;subst e;exact absurd hgo hb
   have c8:Fr w E (Sort.putRow encStr (Sort.ahead w n) g 0 ys.toArray) E:=⟨rfl,rfl,rfl,g1.size,fun b hb hn=>⟨g1.keep b hb (by rintro rfl;rw[hgo]at hn;cases hn),hn⟩,rfl⟩
   have hfr2:Fr (Sort.putRow encStr (Sort.ahead w n) g 0 ys.toArray) E (Sort.grow (Sort.putRow encStr (Sort.ahead w n) g 0 ys.toArray) os) E:=⟨rfl,rfl,rfl,g2.size,fun b hb hn=>⟨g2.keep b hb fun h=>h,hn⟩,rfl⟩
   exact fin ys _ hyl hym (c8.trans hfr2) (t1.same g2.size fun b hb=>g2.keep b hb fun h=>h)
end Go.TL.H
namespace Go.TL.H
open Go
abbrev FW(r:Option Nat):Fence:={Fence.wide with round:=r}
theorem Rm(k:Bool)(ro:Option Nat)(ρ:Operand→Value)(o:Oper):(st k o).semAt ro ρ=o.semAt ro ρ:=by
 obtain⟨dst,op,ty,pos,af,g⟩:=o
 cases ro with
 |none=>exact Dw k ρ _
 |some l=>
  cases op
  case call c=>
   obtain⟨cal,args,ts⟩:=c
   cases cal<;>rfl
  all_goals rfl
section
variable {P:Program} {r:Option Nat} {n:Nat} {Q:Exit→Act→World→Prop} {K:Act→World→Prop} {a:Act} {w w':World} {o:Oper}
theorem O4{k:Bool}(h:(st k o).wpIn (FW r) n P a w K Q):o.wpIn (FW r) n P a w K Q:=by
 refine⟨fun _ _=>trivial,?_⟩
 have:=h.2
 rw[Rm]at this
 exact this
theorem IG{k:Bool}{ops:Array Oper}:∀(l:List Oper) (a:Act) (w:World),wpListIn (FW r) n P (ops.toList.map (st k)).toArray Q (l.map (st k)) a w→wpListIn (FW r) n P ops Q l a w
 | [],_,_,h=>h
 |o::l,a,w,h=>by
  simp only[List.map_cons,wpListIn,tg,qI]at h ⊢
  split
  ·rename_i hw
   rw[if_pos hw]at h
   exact Oper.wpIn_mono (fun a w h=>IG l a w h) (O4 h)
  ·rename_i hw
   rw[if_neg hw]at h
   exact⟨fun _ _=>trivial,IG l _ _ h.2⟩
theorem wL{ops:Array Oper}{md:Region.Mode}:∀(fuel:Nat) (listed:Array Bool) (a:Act) (w:World),wpAnyIn (FW r) n P md (ops.toList.map (st true)).toArray Q fuel listed a w→wpAnyIn (FW r) n P md ops Q fuel listed a w
 |0,listed,a,w,h=>by unfold wpAnyIn at h ⊢;rw[vH]at h;exact h
 |fuel+1,listed,a,w,h=>by
  unfold wpAnyIn at h ⊢
  rw[vH]at h
  refine⟨h.1,fun i hi=>?_⟩
  have:=h.2 i hi
  unfold wpOpIn at this ⊢
  rw[BG]at this
  cases ho:ops[i]? with
  |none=>simp only[ho,Option.map_none]at this ⊢;exact wL fuel _ _ _ this
  |some o=>
   simp only[ho,Option.map_some,tg,qI]at this ⊢
   split
   ·rename_i hw
    rw[if_pos hw]at this
    exact Oper.wpIn_mono (fun a w h=>wL fuel _ a w h) (O4 this)
   ·rename_i hw
    rw[if_neg hw]at this
    exact⟨fun _ _=>trivial,wL fuel _ _ _ this.2⟩
def NI(r:Option Nat)(P:Program)(c':Code)(Q:Exit→Act→World→Prop)(a:Act)(w:World):Prop:=∀c,norm c=c'→c.wpIn (FW r) 0 P Q a w
theorem XY{c':Code}(h:NI none P c' Q a w):NW P c' Q a w:=fun c hc=>wpIn_wide.1 (h c hc)
theorem Fy{l:List Oper}(h:wpListIn (FW r) 0 P l.toArray Q l a w):NI r P (.region 0 l.toArray false) Q a w:=by
 intro c hc
 cases c<;>simp only[norm,reduceCtorEq,Code.region.injEq]at hc
 rename_i id ops d
 obtain⟨_,h1,rfl⟩:=hc
 have h1':ops.toList.map (st false)=l:=by simpa using congrArg Array.toList h1
 subst h1'
 exact wpIn_region_list (IG _ _ _ h)
theorem TU{l:List Oper}(k:Nat)(hk:l.length=k)(hm:P.follows .mixedOrders=true)(h:wpAnyIn (FW r) 0 P .any l.toArray Q k (Array.replicate k false) a {w with drawn:=w.drawn+1}):NI r P (.region 0 l.toArray true) Q a w:=by
 subst hk
 intro c hc
 cases c<;>simp only[norm,reduceCtorEq,Code.region.injEq]at hc
 rename_i id ops d
 obtain⟨_,h1,rfl⟩:=hc
 have h1':ops.toList.map (st true)=l:=by simpa using congrArg Array.toList h1
 subst h1'
 refine wpIn_region_any hm (wL _ _ _ _ ?_)
 simpa using h
theorem Rn{id:Nat}{x:Code}(h:NI r P x (Exit.inBlock id Q) a w):NI r P (.block id x) Q a w:=by
 intro c hc
 cases c<;>simp only[norm,reduceCtorEq,Code.block.injEq]at hc
 obtain⟨rfl,h1⟩:=hc
 exact wpIn_block (h _ h1)
theorem Ky{v:Value}(hd:∀c,o.op≠ .defer c)(hr:(execOp a.eval o).run P w= .ok (.value v) w')(k:K (a.put o.dst v) w'):o.wpIn (FW r) n P a w K Q:=by
 refine⟨fun _ _=>trivial,?_⟩
 rw[Oper.semAt_eq _ _ _ hd,hr];exact k
theorem IH(hd:∀c,o.op≠ .defer c)(hn:o.dst=none)(hr:(execOp a.eval o).run P w= .ok .skip w')(k:K a w'):o.wpIn (FW r) n P a w K Q:=by
 refine⟨fun _ _=>trivial,?_⟩
 rw[Oper.semAt_eq _ _ _ hd,hr]
 have e:a.put o.dst undef=a:=by rw[hn];rfl
 show K (a.put o.dst undef) w'
 rw[e];exact k
variable {ops:Array Oper} {i:Nat}
theorem Kz(hi:ops[i]? =some o)(hg:o.guard=none)(h:o.wpIn (FW r) n P a w K Q):wpOpIn (FW r) n P ops Q i K a w:=by
 unfold wpOpIn
 simp only[hi]
 rw[if_pos (by unfold Region.wanted;rw[hg])]
 exact h
def vi(o:Oper):Bool:=match o.op with| .defer _=>true|_=>false
theorem Fz(h:vi o=false):∀c,o.op≠ .defer c:=fun c e=>by simp[vi,e]at h
theorem Rp{v:Value}(hi:ops[i]? =some o)(hg:o.guard=none)(hd:vi o=false)(hr:(execOp a.eval o).run P w= .ok (.value v) w')(k:K (a.put o.dst v) w'):wpOpIn (FW r) n P ops Q i K a w:=
 Kz hi hg (Ky (Fz hd) hr k)
theorem O5(hi:ops[i]? =some o)(hg:o.guard=none)(hd:vi o=false)(hn:o.dst=none)(hr:(execOp a.eval o).run P w= .ok .skip w')(k:K a w'):wpOpIn (FW r) n P ops Q i K a w:=
 Kz hi hg (IH (Fz hd) hn hr k)
theorem II{rest:List Oper}(hg:o.guard=none)(h:o.wpIn (FW r) n P a w (wpListIn (FW r) n P ops Q rest) Q):wpListIn (FW r) n P ops Q (o::rest) a w:=by
 unfold wpListIn
 rw[if_pos (by unfold Region.wanted;rw[hg])]
 exact h
theorem LI{m:Nat}{sl:dp}{v:Value}{rest:List Oper}(h:SL m sl a)(hg:o.guard=none)(hde:∀c,o.op≠ .defer c)(hd:dok m o.dst=true)(hr:(execOp a.eval o).run P w= .ok (.value v) w')
  (k:∀a',SL m (fD o.dst v sl) a'→wpListIn (FW r) n P ops Q rest a' w'):wpListIn (FW r) n P ops Q (o::rest) a w:=
 II hg (Ky hde hr (k _ (h.put hd v)))
def js(l:List Bool):Nat:=(l.filter (!·)).length
theorem C7:∀(l:List Bool) (i:Nat),l[i]? =some false→js (l.set i true)+1=js l
 | [],i,h=>by simp at h
 |b::l,0,h=>by simp at h;subst h;simp[js]
 |b::l,i+1,h=>by
  have:=C7 l i (by simpa using h)
  cases b<;>simp[js]at this ⊢ <;>omega
theorem Av:∀(l:List Bool),js l=0→∀i,i<l.length→l[i]? =some true
 | [],_,i,hi=>by simp at hi
 |b::l,h,i,hi=>by
  cases b with
  |false=>simp[js]at h
  |true=>
   cases i with
   |zero=>rfl
   |succ i=>simpa using Av l (by simpa[js]using h) i (by simpa using hi)
theorem TV{I:Array Bool→Act→World→Prop}(hdag:∀(i:Nat) (o:Oper),ops[i]? =some o→∀e∈o.after,e.on<i)
  (hstep:∀listed a w i,listed.size=ops.size→I listed a w→i∈Region.ready .any ops listed→wpOpIn (FW r) n P ops Q i (I (listed.setIfInBounds i true)) a w)
  (hend:∀listed a w,(∀i,i<ops.size→listed.getD i false=true)→I listed a w→Q .normal a w):∀(fuel:Nat) (listed:Array Bool) (a:Act) (w:World),listed.size=ops.size→js listed.toList≤fuel→I listed a w→wpAnyIn (FW r) n P .any ops Q fuel listed a w:=by
 have all:∀listed:Array Bool,listed.size=ops.size→Region.ready .any ops listed=[]→∀i,i<ops.size→listed.getD i false=true:=by
  intro listed hs hr i
  induction i using Nat.strongRecOn with
  |_ i ih=>
   intro hi
   cases hl:listed.getD i false with
   |true=>rfl
   |false=>
    exfalso
    have hm:i∈Region.ready .any ops listed:=mem_ready.2 ⟨by
     have:i<listed.size:=by omega
     simpa[Array.getD,this]using hl,ops[i],by simp[hi],fun e he _=>ih e.on (hdag i _ (by simp[hi]) e he) (Nat.lt_trans (hdag i _ (by simp[hi]) e he) hi)⟩
    rw[hr]at hm;cases hm
 have fls:∀(listed:Array Bool) i,listed.size=ops.size→i∈Region.ready .any ops listed→listed.toList[i]? =some false:=by
  intro listed i hs hm
  obtain⟨h1,o,ho,_⟩:=mem_ready.1 hm
  have hi:i<ops.size:=(Array.getElem?_eq_some_iff.1 ho).1
  have hl:i<listed.size:=by omega
  simp only[Array.getD,hl,dif_pos]at h1
  simp[hl];simpa using h1
 intro fuel
 induction fuel with
 |zero=>
  intro listed a w hs hf hI
  have h0:=Av _ (Nat.le_zero.1 hf)
  have fS:∀i,i<ops.size→listed.getD i false=true:=fun i hi=>by
   have:=h0 i (by simpa[hs]using hi)
   have hl:i<listed.size:=by omega
   simp[hl]at this
   simp[Array.getD,hl,this]
  refine⟨?_,hend listed a w fS hI⟩
  cases hr:Region.ready .any ops listed with
  |nil=>rfl
  |cons i r=>
   have hm:i∈Region.ready .any ops listed:=by rw[hr];simp
   have h1:=fls listed i hs hm
   have:=h0 i (by have:=(ZY h1).1;exact this)
   rw[h1]at this;cases this
 |succ fuel ih=>
  intro listed a w hs hf hI
  refine⟨fun hr=>hend listed a w (all listed hs hr) hI,fun i hi=>?_⟩
  have h1:=fls listed i hs hi
  have:=C7 _ i h1
  refine wpOpIn_mono (fun a' w' h=>ih _ a' w' (by simpa using hs) ?_ h) (hstep listed a w i hs hI hi)
  rw[Array.toList_setIfInBounds];omega
end
end Go.TL.H
