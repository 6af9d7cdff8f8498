/- strings.Builder, strings.Join, numbers as text: told by hand. -/
import Derived.Test.YtpoamlpahljebaaGreatDoorW27
import Derived.Shelf.Strings.Builder1
import Derived.Shelf.Strings.OnBuilder
namespace Go.TL.H
open Go Go.Proofs Go.RowKit
def lO(l:List UInt8):List (List PV):=l.map fun x=>[.v (.int .u8 x.toNat)]
theorem iw(l:List UInt8):(lO l).length=l.length:=by simp[lO]
theorem Bq{P:Program}{e:TypeId}(hc:cks P e=[.int .u8]):∀{rows:List (List PV)},c9 P e rows→∃l,rows=lO l
 | [],_=>⟨[],rfl⟩
 |r::rs,h=>by
  obtain⟨l,h1⟩:=Bq hc (rows:=rs) fun x hx=>h x (ZV _ hx)
  obtain⟨x,xs,rfl,hx,fH⟩:=kC (Ty.to hc (h r (ZW ..)))
  obtain⟨n,rfl,h3,h4⟩:=GH hx
  obtain rfl:=rB fH
  have e1:IntKind.u8.min=0:=by decide
  have e2:IntKind.u8.max=255:=by decide
  refine⟨UInt8.ofNat n.toNat::l,?_⟩
  have:((UInt8.ofNat n.toNat).toNat:Int)=n:=by
   rw[UInt8.toNat_ofNat']
   rw[e1]at h3;rw[e2]at h4
   have:n.toNat % 2 ^ 8=n.toNat:=Nat.mod_eq_of_lt (by omega)
   rw[this];omega
  rw[h1]
  show _=[PV.v (.int .u8 ((UInt8.ofNat n.toNat).toNat:Int))]::_
  rw[this];rfl
theorem KA{P:Program}{e:TypeId}(hc:cks P e=[.int .u8])(l:List UInt8):c9 P e (lO l):=fun row hr=>by
 obtain⟨x,_,rfl⟩:=List.mem_map.1 hr
 have:=x.toNat_lt
 refine Ty.of hc ⟨.int _ _ ?_ ?_,trivial⟩
 ·have e1:IntKind.u8.min=0:=by decide
  rw[e1];omega
 ·have e2:IntKind.u8.max=255:=by decide
  rw[e2];omega
theorem Ru{w:World}{bad:Nat→Prop}{lo:Nat}(l:List UInt8):de w bad lo 1 (lO l) (Lib.byteCells l):=by
 refine⟨fun i _=> .int .u8 (l.getD i 0).toNat,fun i row hi=>?_,fun i row j x hi hj=>?_,fun i row j x hi hj=>?_⟩
 all_goals (
  simp only[lO,List.getElem?_map,Option.map_eq_some_iff]at hi
  obtain⟨y,hy,rfl⟩:=hi)
 ·rfl
 all_goals (
  match j,hj with
  |0,hj=>?_
  |j+1,hj=>simp at hj)
 ·simp at hj;subst hj;simp[hy,List.getD,Lib.byteCells]
 ·simp at hj;subst hj;simp only[List.getD,hy,Option.getD_some];exact .v _ rfl
theorem IL{w:World}{bad:Nat→Prop}{lo:Nat}{l:List UInt8}{xs:List Value}(h:de w bad lo 1 (lO l) xs)(hl:xs.length=l.length):xs=Lib.byteCells l:=by
 obtain⟨f,_,h2,h3⟩:=h
 apply List.ext_getElem?
 intro i
 rcases Nat.lt_or_ge i l.length with hi|hi
 ·have hr:(lO l)[i]? =some [.v (.int .u8 l[i].toNat)]:=by simp[lO,hi]
  have e1:=h2 i _ 0 _ hr rfl
  have e2:=ek (h3 i _ 0 _ hr rfl)
  rw[Nat.mul_one,Nat.add_zero]at e1
  rw[e1,e2];simp[hi,Lib.byteCells]
 ·rw[List.getElem?_eq_none (by omega),List.getElem?_eq_none (by simpa[Lib.byteCells]using hi)]
theorem Ex{P:Program}{w:World}(t u ty e:TypeId)(i:TypeInfo)(ht:P.underlying t=some (.slice e))(hu:P.underlying u=some .string)(hi:P.info? e=some i)(hz:i.zero=some (.int .u8 0))
  (hs:i.size=1)(hby:i.bytes=1)(v:Value)(n:Nat)(xs:List Value)(cD:w.ownsRow 0 e 1 v n xs)(s:ByteArray)(hl:n+s.size≤140737488355328):
  ∃v' w',(Builtin.append_ #[t,u] ty #[v,.string s]).run P w= .ok v' w'∧w'.ownsRow 0 e 1 v' (n+s.size) (xs++Lib.strCells s)∧w.grownBy w' v.ownBlock∧∀g,v'.ownBlock=some g→(v.ownBlock=some g∨w.heap.size≤g)∧g<w'.heap.size:=by
 have hmax:n+s.size≤maxLen:=by unfold maxLen;omega
 obtain⟨v',w',aW,ho,hg,_⟩:=Lib.run_append_own_string (P:=P) w 0 t u ty e i ht hu hi hz hs hby v n xs cD s hmax hl (Nat.zero_le _)
 refine⟨v',w',aW,ho,hg,fun g hgv=>⟨?_,(ho.lt g hgv).2⟩⟩
 rcases cD.2 with⟨rfl,rfl⟩|⟨gg,cap,cur,rfl,_,hgg,hle,hcm,fZ,htk⟩
 ·obtain⟨v2,w2,hrun2,ho2,_⟩:=Lib.run_append_own_string (P:=P) w w.heap.size t u ty e i ht hu hi hz hs hby (.slice none 0 0) 0 xs ⟨cD.1,.inl ⟨rfl,rfl⟩⟩ s hmax hl (Nat.le_refl _)
  rw[aW]at hrun2
  injection hrun2 with e1 e2
  subst e1;subst e2
  exact .inr (ho2.lt g hgv).1
 ·by_cases kx:n+s.size≤cap
  ·have ga:=Lib.run_append_room_string (P:=P) w t u ty e i ht hu hi hs gg n cap cur hgg s kx (by omega)
   rw[aW]at ga
   injection ga with e1 e2
   subst e1
   exact .inl hgv
  ·have holds:∀(j:Nat) u,xs[j]? =some u→w.cell? ((⟨gg,0,none⟩:Addr).add j)=some u:=cD.cells (g:=gg) rfl
   have ga:=Lib.run_append_grow_string (P:=P) w t u ty e i (.int .u8 0) ht hu hi hz ⟨gg,0,none⟩ n cap xs (by rw[hs];exact cD.1) holds s (by omega) (by omega) (by rw[hby];exact growslice_fits (by omega) (by omega))
   rw[aW]at ga
   injection ga with e1 e2
   subst e1
   simp[Value.ownBlock]at hgv
   subst hgv
   exact .inr (Nat.le_refl _)
def C8(cc BT BL ST I:Nat):Code:=(.seq (.region 0 ([⟨(some 4),.assign (.const (.int .i64 0)),0, "", #[],none⟩,⟨(some 5),.assign (.const .nilIface),0, "", #[],none⟩]:List Oper).toArray false) (.seq (.region 0 ([⟨(some 6),.move (.tmp 0),0, "", #[],none⟩,⟨(some 7),.call ⟨(.value (.func cc)), #[(.tmp 6)], #[]⟩,0, "", #[],none⟩]:List Oper).toArray false) (.seq (.region 0 ([⟨(some 8),.move (.tmp 0),0, "", #[],none⟩,⟨(some 9),.move (.tmp 0),0, "", #[],none⟩,⟨(some 10),.nilCheck (.tmp 9),0, "", #[],none⟩,⟨(some 11),.fieldAddr BT (.tmp 10) 1,0, "", #[],none⟩,⟨(some 12),.load BL (.tmp 11),0, "", #[],none⟩,⟨(some 13),.move (.tmp 1),0, "", #[],none⟩,⟨(some 14),.call ⟨(.builtin .append), #[(.tmp 12),(.tmp 13)], #[BL,ST]⟩,BL, "", #[],none⟩,⟨(some 15),.nilCheck (.tmp 8),0, "", #[],none⟩,⟨(some 16),.fieldAddr BT (.tmp 15) 1,0, "", #[],none⟩,⟨none,.store BL (.tmp 16) (.tmp 14),0, "", #[],none⟩]:List Oper).toArray false) (.seq (.region 0 ([⟨(some 17),.move (.tmp 1),0, "", #[],none⟩,⟨(some 18),.call ⟨(.builtin .len), #[(.tmp 17)], #[ST]⟩,I, "", #[],none⟩,⟨(some 4),.assign (.tmp 18),0, "", #[],none⟩,⟨(some 5),.assign (.const .nilIface),0, "", #[],none⟩]:List Oper).toArray false) .ret))))
structure BuH(P:Program)(cc BT BL ST U8:Nat)(i:TypeInfo):Prop where
 f1:cG P BT 1=some (1,1)
 bl:Tp P BL false 1
 blU:P.underlying BL=some (.slice U8)
 stU:P.underlying ST=some .string
 inf:P.info? U8=some i
 zero:i.zero=some (.int .u8 0)
 size:i.size=1
 bytes:i.bytes=1
 ne:BT≠U8
 ok:aP P cc=true
 ccU:∀(b:Nat) (w:World),w.cell? ⟨b,0,none⟩=some (Ptr b 0)→Calls P cc #[Ptr b 0] w fun e w'=>e= .returned (.tuple #[])∧w'=w
 ccN:∀(b:Nat) (w:World),w.cell? ⟨b,0,none⟩=some (.pointer none)→w.shape? b=some (BT,2)→w.frozen? ⟨b,0,none⟩=false→Calls P cc #[Ptr b 0] w fun e w'=>e= .returned (.tuple #[])∧w'=w.setCell ⟨b,0,none⟩ (Ptr b 0)
theorem FA{P:Program}{f cc BT BL ST I U8:Nat}{i:TypeInfo}(H:BuH P cc BT BL ST U8 i)(hB:Body P f 19 [.tmp 4,.tmp 5] (C8 cc BT BL ST I)){w:World}{b n:Nat}{p v:Value}{xs:List Value}{s:ByteArray}
  (hp:p= .pointer none∨p=Ptr b 0)(hb:w.heap[b]? =some (.cells #[p,v] BT (0,0)))(cD:w.ownsRow 0 U8 1 v n xs)(hl:n+s.size≤1073741823):
  Ret P f [Ptr b 0,.string s] w fun r w'=>r= .tuple #[.int .i64 s.size,.nilIface]∧∃v',w'.heap[b]? =some (.cells #[Ptr b 0,v'] BT (0,0))∧w'.ownsRow 0 U8 1 v' (n+s.size) (xs++Lib.strCells s)∧Ch (fun c=>c=b∨v.ownBlock=some c) w w'∧
   ∀g,v'.ownBlock=some g→(v.ownBlock=some g∨w.heap.size≤g)∧g<w'.heap.size∧g≠b:=by
 refine cN hB ?_
 have h0:=SL.init (n:=19) [Ptr b 0,.string s] rfl
 revert h0
 generalize({tmps:=_,defers:=[]}:Act)=a
 intro h0
 have hvb:v.ownBlock≠some b:=Lib.ownBlock_ne cD hb H.ne
 refine ai (ae ?_)
 refine L h0 rfl rfl (aj h0 (.inr rfl) rfl) fun a h0=>?_
 refine L h0 rfl rfl (aj h0 (.inr rfl) rfl) fun a h0=>?_
 refine Le (ai (ae ?_))
 refine L h0 rfl rfl (aj h0 (.inl rfl) rfl) fun a h0=>?_
 have mv:Ret P cc [Ptr b 0] w fun r w'=>r= .tuple #[]∧Ch (· =b) w w'∧w'.heap[b]? =some (.cells #[Ptr b 0,v] BT (0,0)):=by
  rcases hp with rfl|rfl
  ·refine Calls.mono (H.ccN b w (by rw[Lib.cell_of_heap hb];rfl) (by simp[World.shape?,hb]) (Lib.frozen_of_heap hb 0)) ?_
   rintro e w' ⟨rfl,rfl⟩
   refine⟨_,rfl,rfl,⟨rfl,rfl,rfl,by simp[World.setCell],fun c _ hc=>?_⟩,?_⟩
   ·simp[World.setCell,Array.getElem?_modify,Ne.symm hc]
   ·simp[World.setCell,Array.getElem?_modify,hb]
  ·refine Calls.mono (H.ccU b w (by rw[Lib.cell_of_heap hb];rfl)) ?_
   rintro e w' ⟨rfl,rfl⟩
   exact⟨_,rfl,rfl,Ch.refl _ _,hb⟩
 refine Lc (vs:=[Ptr b 0]) h0 rfl rfl rfl rfl rfl H.ok mv fun r w1 a hr h0=>?_
 obtain⟨rfl,g1,bq⟩:=hr
 have hown1:=g1.ownsRow cD fun g hg (e:g=b)=>hvb (e▸hg)
 refine Le (ai (ae ?_))
 refine L h0 rfl rfl (aj h0 (.inl rfl) rfl) fun a h0=>?_
 refine L h0 rfl rfl (aj h0 (.inl rfl) rfl) fun a h0=>?_
 refine L h0 rfl rfl (bH h0 rfl rfl) fun a h0=>?_
 refine L h0 rfl rfl (bW h0 rfl rfl H.f1) fun a h0=>?_
 refine L h0 rfl rfl (aL [v] h0 rfl rfl H.bl rfl bq Ev) fun a h0=>?_
 refine L h0 rfl rfl (aj h0 (.inl rfl) rfl) fun a h0=>?_
 obtain⟨v',w2,aW,hown2,hg2,hown3⟩:=Ex (P:=P) (w:=w1) BL ST BL U8 i H.blU H.stU H.inf H.zero H.size H.bytes v n xs hown1 s (by omega)
 have g2:Ch (fun c=>v.ownBlock=some c) w1 w2:=⟨hg2.os,hg2.tape,hg2.output,hg2.size,fun c hc hn=>hg2.block c hc fun e=>hn e.symm⟩
 refine L (v:=v') (w':=w2) h0 rfl rfl (by
  have e12:a.eval (.tmp 12)=v:=h0.ev rfl
  have e13:a.eval (.tmp 13)= .string s:=h0.ev rfl
  unfold execOp
  simp only[resolve,invoke,builtin,Sem.run_bind,Sem.run_pure,Result.andThen_ok,List.map_toArray,List.map_cons,List.map_nil,e12,e13,aW]) fun a h0=>?_
 have bz:=g2.at bq hvb
 have one':v'.oneCell'=true:=by
  rcases hown2.2 with⟨rfl,_⟩|⟨_,_,_,rfl,_⟩<;>rfl
 refine L h0 rfl rfl (bH h0 rfl rfl) fun a h0=>?_
 refine L h0 rfl rfl (bW h0 rfl rfl H.f1) fun a h0=>?_
 refine Ls h0 rfl rfl (mI [v'] h0 rfl rfl rfl H.bl rfl (by simpa using one') bz (by simp)) fun h0=>?_
 have g3:=Ch.setRow w2 b (spl [Ptr b 0,v] (0+1) [v']).toArray
 have e3:=setRow_heap w2 b _ (spl [Ptr b 0,v] (0+1) [v']).toArray _ _ bz
 have hvb':∀g,v'.ownBlock=some g→g≠b:=fun g hg e=>Lib.ownBlock_ne hown2 bz H.ne (e▸hg)
 have hown4:=g3.ownsRow hown2 fun g hg e=>hvb' g hg e
 have s3:(w2.setRow b (spl [Ptr b 0,v] (0+1) [v']).toArray).heap.size=w2.heap.size:=by simp[World.setRow]
 generalize World.setRow w2 b _=w3 at g3 e3 hown4 s3 h0 ⊢
 refine Le (ai (ae ?_))
 refine L h0 rfl rfl (aj h0 (.inl rfl) rfl) fun a h0=>?_
 refine L h0 rfl rfl (NH h0 rfl rfl H.stU) fun a h0=>?_
 refine L h0 rfl rfl (aj h0 (.inr rfl) rfl) fun a h0=>?_
 refine L h0 rfl rfl (aj h0 (.inr rfl) rfl) fun a h0=>?_
 refine Le (dG ⟨h0.defers,.tuple #[.int .i64 s.size,.nilIface],⟨[.int .i64 s.size,.nilIface],?_,rfl⟩,rfl,v',e3,hown4,?_,fun g hg=>⟨?_,by rw[s3];exact(hown3 g hg).2,hvb' g hg⟩⟩)
 ·have e4:=h0.ah 4 _ rfl
  have e5:=h0.ah 5 _ rfl
  simp[jR,e4,e5]
 ·exact((g1.mono fun _ _ h=> .inl h).trans (g2.mono fun _ _ h=> .inr h)).trans (g3.mono fun _ _ h=> .inl h)
 ·exact(hown3 g hg).1.imp id fun h=>Nat.le_trans g1.size h
theorem C9{P:Program}{w w':World}{E:Env}{lo:Nat}{T0:Tab}{b BT U8:Nat}{v v':Value}{l:List UInt8}(ht:bV w E lo T0)(aR:tL P lo w E)(bq:E.val 1000000=some (Ptr b 0))(bz:E.own b=some 1000000)(h11:lk T0 11=none)
  (hv:∀g,v.ownBlock=some g→E.own g≠none)(bp:Ch (fun c=>c=b∨v.ownBlock=some c) w w')(hb:w'.heap[b]? =some (.cells #[Ptr b 0,v'] BT (0,0)))(cD:w'.ownsRow 0 U8 1 v' l.length (Lib.byteCells l))
  (hg:∀g,v'.ownBlock=some g→(v.ownBlock=some g∨w.heap.size≤g)∧g<w'.heap.size∧g≠b):
  ∃E',Fr w E w' E'∧bV w' E' lo [(1000000,.box BT [.ptr 1000000 0,.vec 11]),(11,.vec U8 1 (lO l) true)]∧∀k x,E.val k=some x→E'.val k=some x∨E'.val k=none:=by
 have jY:=ht.own b _ bz
 have dM:∃p n c,v'= .slice p n c:=by
  rcases cD.2 with⟨rfl,_⟩|⟨_,_,_,rfl,_⟩<;>exact⟨_,_,_,rfl⟩
 have old:∀c,c<w.heap.size→E.own c=none→c≠b∧v'.ownBlock≠some c∧v.ownBlock≠some c:=fun c hc hn=>by
  refine⟨fun e=>(by subst e;rw[bz]at hn;cases hn),fun e=>?_,fun e=>hv c e hn⟩
  rcases(hg c e).1 with h|h
  ·exact hv c h hn
  ·omega
 refine⟨⟨fun k=>if k=1000000 then some (Ptr b 0)else if k=11 then some v' else none,fun c=>if c=b then some 1000000 else if v'.ownBlock=some c then some 11 else none,E.ext⟩,⟨bp.os,bp.tape,bp.output,bp.size,fun c hc hn=>?_,rfl⟩,⟨fun k ov hk=>?_,fun k hk=>?_,fun c k hc=>?_,fun c hc=>?_⟩,fun k x hx=>?_⟩
 ·obtain⟨h1,h2,h3⟩:=old c hc hn
  exact⟨bp.keep c hc fun h=>h.elim h1 h3,by simp[h1,h2]⟩
 ·simp only[lk]at hk
  split at hk
  ·rename_i he
   have:=ZU he;subst this
   simp only[ZS]at hk;subst hk
   exact⟨b,_,rfl,by simp,hb,bu (by simp only[VR];exact⟨b,rfl,rfl⟩) (bu (by simp only[VR];exact⟨by simp,by obtain⟨p,n,c,h⟩:=dM;exact⟨p,n,c,h⟩⟩) df)⟩
  ·split at hk
   ·rename_i he
    have:=ZU he;subst this
    simp only[ZS]at hk;subst hk
    exact⟨v',_,by simp,by omega,by rw[iw];exact cD,fun g hg'=>by simp[hg',(hg g hg').2.2],Ru l⟩
   ·cases hk
 ·simp only[lk]at hk
  split at hk
  ·cases hk
  ·rename_i he1
   split at hk
   ·cases hk
   ·rename_i he2
    have h1:k≠1000000:=fun e=>by subst e;simp at he1
    have h2:k≠11:=fun e=>by subst e;simp at he2
    simp[h1,h2]
 ·simp only at hc
  split at hc
  ·rename_i he;subst he;cases hc
   exact⟨Nat.lt_of_lt_of_le jY.1 bp.size,jY.2.1,by simp[lk]⟩
  ·split at hc
   ·rename_i he;cases hc
    refine⟨(hg c he).2.1,?_,by simp[lk]⟩
    rcases(hg c he).1 with h|h
    ·cases ho:E.own c with
     |none=>exact absurd ho (hv c h)
     |some j=>exact(ht.own c j ho).2.1
    ·exact Nat.le_trans aR.le h
   ·cases hc
 ·obtain⟨h1,h2⟩:=ht.ext c hc
  obtain⟨h3,h4,_⟩:=old c h1 h2
  exact⟨Nat.lt_of_lt_of_le h1 bp.size,by simp[h3,h4]⟩
 ·by_cases h1:k=1000000
  ·subst h1;rw[bq]at hx;cases hx;exact .inl (by simp)
  ·by_cases h2:k=11
   ·subst h2;rw[ht.dead 11 h11]at hx;cases hx
   ·exact .inr (by simp[h1,h2])
theorem IM{P:Program}{f cc BT BL ST I U8 bc:Nat}{i:TypeInfo}(H:BuH P cc BT BL ST U8 i)(hB:Body P f 19 [.tmp 4,.tmp 5] (C8 cc BT BL ST I))(hbc:1000000≤bc)(hc:cks P bc=[.int .u8]):
  aA P aI ⟨f,1,[.ptr 1000000 0,.p (.st (.var 0)) true],[(1000000,.box BT [.p (.ej (.pointer none)) true,.p .nl true])],[],[⟨-1073741823,[(3,1)]⟩],[],⟨0,[]⟩,
   [⟨2,[(1,bc)],[⟨0,[(3, -1),(5,1)]⟩,⟨0,[(3,1),(5, -1)]⟩],[],[(1000000,.box BT [.ptr 1000000 0,.vec 11]),(11,.vec U8 1 (some 1) true)],[.p (.int .i64 ⟨0,[(8,1)]⟩) true,.p (.ej .nilIface) true]⟩]⟩:=by
 refine jx rfl fun ρ ab=>?_
 intro lo w E vals aR ht hv
 match vals,hv with
 | [v0,v1],hv=>
  simp only[dvs,VRs,DV.v,VR,DP.v,SE.v]at hv
  obtain⟨⟨b,bq,rfl⟩,hs,_⟩:=hv
  obtain rfl:=ek hs
  obtain⟨b',vs,k1,k2,k3,k4⟩:=ht.obj 1000000 (.box BT [.p (.v (.pointer none)) true,.p (.v (.slice none 0 0)) true]) (by simp[aU,lk,DO.v,dvs,DV.v,DP.v])
  rw[bq]at k1
  simp only[ZS,Value.pointer.injEq,Addr.mk.injEq,and_true]at k1
  subst k1
  match vs,k4 with
  | [u0,u1],k4=>
   simp only[VRs,VR]at k4
   obtain⟨j1,j2,_⟩:=k4
   obtain rfl:=ek j1
   obtain rfl:=ek j2
   have hl:=ab.lin
   simp only[Spec.pre,bh,Lin.v,bZ,aV]at hl
   obtain⟨l1,_⟩:=hl
   simp at l1
   refine Calls.mono (FA H hB (n:=0) (xs:=[]) (.inl rfl) k3 (World.ownsRow_nil _ _ _ _) (s:=(ρ 0).s) (by omega)) ?_
   rintro e w' ⟨r,rfl,rfl,v',m1,m2,m3,m4⟩
   have oz:Lib.strCells (ρ 0).s=Lib.byteCells (ρ 0).s.data.toList:=rfl
   have dM:(ρ 0).s.data.toList.length=(ρ 0).s.size:=by rw[Array.length_toList];rfl
   obtain⟨E',n1,n2,n3⟩:=C9 (l:=(ρ 0).s.data.toList) ht aR bq k2 rfl (fun g hg=>by simp[Value.ownBlock]at hg) m3 m1 (by rw[dM];rw[oz]at m2;simpa using m2) m4
   have aJ:bK P bc (lO (ρ 0).s.data.toList):= .ofC hbc (by rw[iw,dM];omega) (KA hc _)
   refine⟨.bL [.p (.v (.int .i64 (ρ 0).s.size)) true,.p (.v .nilIface) true],_,_,E',rfl,?_,n1,n2,by simp only[VR];exact⟨_,rfl,bu (.v _ rfl) (bu (.v _ rfl) df)⟩,n3⟩
   let ρ':=up (up ρ 1 (vaL (lO (ρ 0).s.data.toList))) 2 (vaN (ρ 0).s.size)
   have r0:ρ' 0=ρ 0:=rfl
   have r1:ρ' 1=vaL (lO (ρ 0).s.data.toList):=rfl
   have r2:ρ' 2=vaN (ρ 0).s.size:=rfl
   refine⟨_,List.mem_singleton.2 rfl,ρ',fun j hj=>?_,⟨(ab.g.up 1 (jU aJ.len)).up 2 (sr (by omega) (by omega)),⟨by rw[r1];exact aJ,trivial⟩,?_,trivial⟩,?_,?_⟩
   ·have:j=0:=by simp only at hj;omega
    subst this;rfl
   ·simp only[cb.st,bh,Lin.v,bZ,aV]
    simp only[Nat.reduceDiv,r0,r1,vaL,iw,dM,and_true]
    omega
   ·simp[dmk,DV.v,dvs,DP.v,Lin.v,bZ,aV,r2,vaN]
   ·simp[aU,DO.v,dvs,DV.v,lvV,r1,vaL]
theorem IN{P:Program}{f cc BT BL ST I U8 bc:Nat}{i:TypeInfo}(H:BuH P cc BT BL ST U8 i)(hB:Body P f 19 [.tmp 4,.tmp 5] (C8 cc BT BL ST I))(hbc:1000000≤bc)(hc:cks P bc=[.int .u8]):
  aA P aI ⟨f,2,[.ptr 1000000 0,.p (.st (.var 1)) true],[(1000000,.box BT [.ptr 1000000 0,.vec 1000001]),(1000001,.vec U8 1 (some 0) true)],[(0,bc)],[⟨-1073741823,[(1,1),(7,1)]⟩],[],⟨0,[]⟩,
   [⟨2,[(2,bc)],[⟨0,[(1, -1),(7, -1),(9,1)]⟩,⟨0,[(1,1),(7,1),(9, -1)]⟩],[],[(1000000,.box BT [.ptr 1000000 0,.vec 11]),(11,.vec U8 1 (some 2) true)],[.p (.int .i64 ⟨0,[(12,1)]⟩) true,.p (.ej .nilIface) true]⟩]⟩:=by
 refine jx rfl fun ρ ab=>?_
 intro lo w E vals aR ht hv
 match vals,hv with
 | [v0,v1],hv=>
  simp only[dvs,VRs,DV.v,VR,DP.v,SE.v]at hv
  obtain⟨⟨b,bq,rfl⟩,hs,_⟩:=hv
  obtain rfl:=ek hs
  obtain⟨b',vs,k1,k2,k3,k4⟩:=ht.obj 1000000 (.box BT [.ptr 1000000 0,.vec 1000001]) (by simp[aU,lk,DO.v,dvs,DV.v])
  rw[bq]at k1
  simp only[ZS,Value.pointer.injEq,Addr.mk.injEq,and_true]at k1
  subst k1
  obtain⟨v,xs,m1,_,m3,m4,m5⟩:=ht.obj 1000001 (.vec U8 1 (ρ 0).l true) (by simp[aU,lk,DO.v,lvV])
  have hty0:bK P bc (ρ 0).l:=ab.tys.1
  obtain⟨l,mw⟩:=Bq hc hty0.2
  rw[mw]at m3 m5
  rw[iw]at m3
  obtain rfl:=IL m5 (by simpa using m3.1)
  match vs,k4 with
  | [u0,u1],k4=>
   simp only[VRs,VR]at k4
   obtain⟨⟨b2,j1,rfl⟩,⟨j2,_⟩,_⟩:=k4
   rw[bq]at j1
   simp only[ZS,Value.pointer.injEq,Addr.mk.injEq,and_true]at j1
   subst j1
   rw[m1]at j2
   obtain rfl:=Option.some.inj j2
   have hl:=ab.lin
   simp only[Spec.pre,bh,Lin.v,bZ,aV]at hl
   obtain⟨l1,_⟩:=hl
   simp[mw,iw]at l1
   refine Calls.mono (FA H hB (.inr rfl) k3 m3 (s:=(ρ 1).s) (by omega)) ?_
   rintro e w' ⟨r,rfl,rfl,v',q1,q2,q3,q4⟩
   have oz:Lib.byteCells l++Lib.strCells (ρ 1).s=Lib.byteCells (l++(ρ 1).s.data.toList):=by simp[Lib.byteCells,Lib.strCells]
   have dM:(ρ 1).s.data.toList.length=(ρ 1).s.size:=by rw[Array.length_toList];rfl
   have jd:(l++(ρ 1).s.data.toList).length=l.length+(ρ 1).s.size:=by rw[List.length_append,dM]
   obtain⟨E',n1,n2,n3⟩:=C9 (l:=l++(ρ 1).s.data.toList) ht aR bq k2 rfl (fun g hg=>by rw[m4 g hg];simp) q3 q1 (by rw[jd, ←oz];exact q2) q4
   have aJ:bK P bc (lO (l++(ρ 1).s.data.toList)):= .ofC hbc (by rw[iw,jd];omega) (KA hc _)
   refine⟨.bL [.p (.v (.int .i64 (ρ 1).s.size)) true,.p (.v .nilIface) true],_,_,E',rfl,?_,n1,n2,by simp only[VR];exact⟨_,rfl,bu (.v _ rfl) (bu (.v _ rfl) df)⟩,n3⟩
   let ρ':=up (up ρ 2 (vaL (lO (l++(ρ 1).s.data.toList)))) 3 (vaN (ρ 1).s.size)
   have r0:ρ' 0=ρ 0:=rfl
   have r1:ρ' 1=ρ 1:=rfl
   have r2:ρ' 2=vaL (lO (l++(ρ 1).s.data.toList)):=rfl
   have r3:ρ' 3=vaN (ρ 1).s.size:=rfl
   refine⟨_,List.mem_singleton.2 rfl,ρ',fun j hj=>?_,⟨(ab.g.up 2 (jU aJ.len)).up 3 (sr (by omega) (by omega)),⟨by rw[r2];exact aJ,trivial⟩,?_,trivial⟩,?_,?_⟩
   ·have:j=0∨j=1:=by simp only at hj;omega
    rcases this with rfl|rfl<;>rfl
   ·simp only[cb.st,bh,Lin.v,bZ,aV]
    simp only[Nat.reduceDiv,r0,r1,r2,vaL,mw,iw,jd,and_true]
    omega
   ·simp[dmk,DV.v,dvs,DP.v,Lin.v,bZ,aV,r3,vaN]
   ·simp[aU,DO.v,dvs,DV.v,lvV,r2,vaL]
def n7(BT BL PU I ST:Nat):List Oper:=[⟨(some 3),.move (.tmp 0),0, "", #[],none⟩,⟨(some 4),.nilCheck (.tmp 3),0, "", #[eD 0],none⟩,⟨(some 5),.fieldAddr BT (.tmp 4) 1,0, "", #[eD 1],none⟩,⟨(some 6),.load BL (.tmp 5),0, "", #[eD 2],none⟩,⟨(some 7),.call ⟨(.builtin .unsafeSliceData), #[(.tmp 6)], #[BL]⟩,PU, "", #[eD 3],none⟩,⟨(some 8),.move (.tmp 0),0, "", #[],none⟩,⟨(some 9),.nilCheck (.tmp 8),0, "", #[eD 5],none⟩,⟨(some 10),.fieldAddr BT (.tmp 9) 1,0, "", #[eD 6],none⟩,⟨(some 11),.load BL (.tmp 10),0, "", #[eD 7],none⟩,⟨(some 12),.call ⟨(.builtin .len), #[(.tmp 11)], #[BL]⟩,I, "", #[eD 8],none⟩,⟨(some 13),.call ⟨(.builtin .unsafeString), #[(.tmp 7),(.tmp 12)], #[PU,I]⟩,ST, "", #[eD 4,eD 9],none⟩,⟨(some 2),.assign (.tmp 13),0, "", #[eD 10,eP 0,eP 1,eP 2,eP 3,eP 4,eP 5,eP 6,eP 7,eP 8,eP 9,eP 10],none⟩]
def KB(BT BL PU I ST:Nat):Code:=(.seq (.region 0 ([⟨(some 2),.assign (.const (.string ⟨#[]⟩)),0, "", #[],none⟩]:List Oper).toArray false) (.seq (rd (n7 BT BL PU I ST)) .ret))
theorem O9(w:World)(g n:Nat):Ch (· =g) w (w.freeze ⟨g,0,none⟩ n):=by
 unfold World.freeze
 split
 ·exact Ch.refl _ _
 ·exact⟨rfl,rfl,rfl,by simp,fun k _ hk=>by simp only[Array.getElem?_modify];rw[if_neg (Ne.symm hk)]⟩
theorem X0{P:Program}{BL PU I ST U8:Nat}(hPU:P.underlying PU=some (.pointer U8))(hc1:P.cellsOf U8=1){w:World}{v:Value}{l:List UInt8}(cD:w.ownsRow 0 U8 1 v l.length (Lib.byteCells l))(hl:l.length≤1073741823){w0:World}(h0:Ch (fun _=>False) w w0):
  ∃q w1,(Builtin.unsafeSliceData_ #[BL] PU #[v]).run P w0= .ok (.pointer q) w1∧Ch (fun _=>False) w0 w1∧
   ∀w2,Ch (fun _=>False) w w2→∃w3,(Builtin.unsafeString_ #[PU,I] ST #[.pointer q,.int .i64 l.length]).run P w2= .ok (.string ⟨l.toArray⟩) w3∧Ch (fun c=>v.ownBlock=some c) w2 w3:=by
 have none_:∀(hz:l=[]) (q:Option Addr) (w2:World),∃w3,(Builtin.unsafeString_ #[PU,I] ST #[.pointer q,.int .i64 l.length]).run P w2= .ok (.string ⟨l.toArray⟩) w3∧Ch (fun c=>v.ownBlock=some c) w2 w3:=by
  rintro rfl q w2
  exact⟨w2,Lib.run_unsafeString_none w2 PU I ST q,Ch.refl _ _⟩
 rcases cD.2 with⟨rfl,hn⟩|⟨g,cap,cur,rfl,_,hg,hnc,hcm,fZ,htk⟩
 ·exact⟨none,w0,rfl,Ch.refl _ _,fun w2 _=>none_ (List.length_eq_zero_iff.1 hn) _ _⟩
 ·by_cases hc0:cap=0
  ·subst hc0
   have hz:l=[]:=List.length_eq_zero_iff.1 (by omega)
   exact⟨_,_,Lib.run_unsafeSliceData_zero w0 _ _ U8 hPU ⟨g,0,none⟩ _ (U8,cur.size) (by simp[World.shape?,h0.at hg fun h=>h]),Ch.alloc _ _ _,fun w2 _=>none_ hz _ _⟩
  ·refine⟨_,_,Lib.run_unsafeSliceData_row _ _ _ _ _ _ hc0,Ch.refl _ _,fun w2 h2=>?_⟩
   by_cases hz:l=[]
   ·exact none_ hz _ _
   ·have hg2:=h2.at hg fun h=>h
    have hown2:=h2.ownsRow cD fun _ _ h=>h
    refine⟨_,Lib.run_unsafeString_row w2 PU I ST U8 hPU hc1 g cur.size (by simp[World.shape?,hg2]) l hz (by omega) (by omega) (fun j x hx=>?_),(O9 w2 g l.length).mono fun c _ hc=>by rw[hc];rfl⟩
    exact hown2.cells (g:=g) rfl j _ (by simp[Lib.byteCells,hx])
theorem Pa{P:Program}{BT BL PU I ST U8:Nat}(hm:P.follows .mixedOrders=true)(f1:cG P BT 1=some (1,1))(hBL:Tp P BL false 1)(hBLU:P.underlying BL=some (.slice U8))
  (hPU:P.underlying PU=some (.pointer U8))(hc1:P.cellsOf U8=1){w:World}{b:Nat}{p v:Value}{l:List UInt8}(hb:w.heap[b]? =some (.cells #[p,v] BT (0,0)))(cD:w.ownsRow 0 U8 1 v l.length (Lib.byteCells l))(hl:l.length≤1073741823)
  {a:Act}{Q:Exit→Act→World→Prop}(hs:SL 14 [(0,Ptr b 0)] a)(hQ:∀c a w,Q (.panic c) a w→False)(k:∀a' w',SL 14 [(2,.string ⟨l.toArray⟩)] a'→Ch (fun c=>v.ownBlock=some c) w w'→Q .normal a' w'):NW P (rd (n7 BT BL PU I ST)) Q a w:=by
 have gM:∃q c,v= .slice q l.length c:=by
  rcases cD.2 with⟨rfl,h0⟩|⟨g,cap,cur,rfl,_⟩
  ·exact⟨none,0,by rw[h0]⟩
  ·exact⟨_,_,rfl⟩
 refine r8 12 rfl hm ?_
 have g0:Ch (fun _=>False) w {w with drawn:=w.drawn+1}:=Ch.drew _ _
 have dO:=g0.at hb fun h=>h
 obtain⟨q,w1,r1,g1,r2⟩:=X0 (BL:=BL) (I:=I) (ST:=ST) hPU hc1 cD hl g0
 generalize({w with drawn:=w.drawn+1}:World)=w0 at g0 dO r1 g1 ⊢
 have g01:=g0.trans g1
 have bq:=g01.at hb fun h=>h
 obtain⟨w3,r3,g3⟩:=r2 w1 g01
 have us:∀{a:Act},SL 14 [(7,.pointer q),(12,.int .i64 l.length)] a→(execOp a.eval ((n7 BT BL PU I ST)[10]'(by simp[n7]))).run P w1= .ok (.value (.string ⟨l.toArray⟩)) w3:=fun{a} hs=>by
  have e7:a.eval (.tmp 7)= .pointer q:=hs.ev rfl
  have e12:a.eval (.tmp 12)= .int .i64 l.length:=hs.ev rfl
  unfold execOp
  simp only[n7,List.getElem_cons_succ,List.getElem_cons_zero,resolve,invoke,builtin,Sem.run_bind,Sem.run_pure,Result.andThen_ok,List.map_toArray,List.map_cons,List.map_nil,e7,e12,r3]
 have last:∀(a:Act) (listed:Array Bool),listed= #[true,true,true,true,true,true,true,true,true,true,false,false]→SL 14 [(7,.pointer q),(12,.int .i64 l.length)] a→wpAny P .any (n7 BT BL PU I ST).toArray Q 2 listed a w1:=by
  rintro a listed rfl hs
  refine Y1 10 (by kernel_rfl) (ak hs rfl rfl rfl (us hs) fun a hs=>?_)
  refine Y1 11 (by kernel_rfl) (ak hs rfl rfl rfl (aj hs (.inr rfl) rfl) fun a hs=>?_)
  exact Ye (by kernel_rfl) (k _ _ (hs.keep [2]) ((g01.mono fun _ _ h=>h.elim).trans g3))
 have sd:∀{a:Act} {sl:dp},SL 14 sl a→lk sl 6=some v→(execOp a.eval ((n7 BT BL PU I ST)[4]'(by simp[n7]))).run P w0= .ok (.value (.pointer q)) w1:=fun{a sl} hs e=>by
  have e6:a.eval (.tmp 6)=v:=hs.ev e
  unfold execOp
  simp only[n7,List.getElem_cons_succ,List.getElem_cons_zero,resolve,invoke,builtin,Sem.run_bind,Sem.run_pure,Result.andThen_ok,List.map_toArray,List.map_cons,List.map_nil,e6,r1]
 refine Y (i:=0) hs rfl rfl rfl (by kernel_rfl) (by kernel_rfl) (by kernel_rfl) hQ (fun w=>aj hs (.inl rfl) rfl) fun a hs=>?_
 refine Y (i:=1) hs rfl rfl rfl (by kernel_rfl) (by kernel_rfl) (by kernel_rfl) hQ (fun w=>bH hs rfl rfl) fun a hs=>?_
 refine Y (i:=2) hs rfl rfl rfl (by kernel_rfl) (by kernel_rfl) (by kernel_rfl) hQ (fun w=>bW hs rfl rfl f1) fun a hs=>?_
 refine Y (i:=5) hs rfl rfl rfl (by kernel_rfl) (by kernel_rfl) (by kernel_rfl) hQ (fun w=>aj hs (.inl rfl) rfl) fun a hs=>?_
 refine Y (i:=6) hs rfl rfl rfl (by kernel_rfl) (by kernel_rfl) (by kernel_rfl) hQ (fun w=>bH hs rfl rfl) fun a hs=>?_
 refine Y (i:=7) hs rfl rfl rfl (by kernel_rfl) (by kernel_rfl) (by kernel_rfl) hQ (fun w=>bW hs rfl rfl f1) fun a hs=>?_
 obtain⟨q',c,hv⟩:=gM
 refine Y2 3 8 (by kernel_rfl) (ak hs rfl rfl rfl (aL [v] hs rfl rfl hBL rfl dO Ev) fun a hs=>?_) (ak hs rfl rfl rfl (aL [v] hs rfl rfl hBL rfl dO Ev) fun a hs=>?_)
 ·refine Y2 4 8 (by kernel_rfl) (ak hs rfl rfl rfl (sd hs rfl) fun a hs=>?_) (ak hs rfl rfl rfl (aL [v] hs rfl rfl hBL rfl dO Ev) fun a hs=>?_)
  ·refine Y1 8 (by kernel_rfl) (ak hs rfl rfl rfl (aL [v] hs rfl rfl hBL rfl bq Ev) fun a hs=>?_)
   refine Y1 9 (by kernel_rfl) (ak hs rfl rfl rfl (fA hs rfl (by rw[←hv];rfl) hBLU) fun a hs=>?_)
   exact last _ _ (by kernel_rfl) (hs.keep [7,12])
  ·refine Y (i:=9) hs rfl rfl rfl (by kernel_rfl) (by kernel_rfl) (by kernel_rfl) hQ (fun w=>fA hs rfl (by rw[←hv];rfl) hBLU) fun a hs=>?_
   refine Y1 4 (by kernel_rfl) (ak hs rfl rfl rfl (sd hs rfl) fun a hs=>?_)
   exact last _ _ (by kernel_rfl) (hs.keep [7,12])
 ·refine Y (i:=9) hs rfl rfl rfl (by kernel_rfl) (by kernel_rfl) (by kernel_rfl) hQ (fun w=>fA hs rfl (by rw[←hv];rfl) hBLU) fun a hs=>?_
  refine Y1 3 (by kernel_rfl) (ak hs rfl rfl rfl (aL [v] hs rfl rfl hBL rfl dO Ev) fun a hs=>?_)
  refine Y1 4 (by kernel_rfl) (ak hs rfl rfl rfl (sd hs rfl) fun a hs=>?_)
  exact last _ _ (by kernel_rfl) (hs.keep [7,12])
theorem MU{P:Program}{f BT BL PU I ST U8:Nat}(hB:Body P f 14 [.tmp 2] (KB BT BL PU I ST))(hm:P.follows .mixedOrders=true)(f1:cG P BT 1=some (1,1))(hBL:Tp P BL false 1)(hBLU:P.underlying BL=some (.slice U8))
  (hPU:P.underlying PU=some (.pointer U8))(hc1:P.cellsOf U8=1){w:World}{b:Nat}{p v:Value}{l:List UInt8}(hb:w.heap[b]? =some (.cells #[p,v] BT (0,0)))(cD:w.ownsRow 0 U8 1 v l.length (Lib.byteCells l))(hl:l.length≤1073741823):
  Ret P f [Ptr b 0] w fun r w'=>r= .string ⟨l.toArray⟩∧Ch (fun c=>v.ownBlock=some c) w w':=by
 refine cN hB ?_
 have hs:=SL.init (n:=14) [Ptr b 0] rfl
 revert hs
 generalize({tmps:=_,defers:=[]}:Act)=a
 intro hs
 refine ai (ae ?_)
 refine L hs rfl rfl (aj hs (.inr rfl) rfl) fun a hs=>?_
 refine Le (ai (Pa hm f1 hBL hBLU hPU hc1 hb cD hl (hs.keep [0]) (fun _ _ _ h=>h) fun a w' hs h=>dG (gu hs rfl ⟨rfl,h⟩)))
theorem FO{P:Program}{f BT U8:Nat}(h:∀(w:World) (b:Nat) (p v:Value) (l:List UInt8),w.heap[b]? =some (.cells #[p,v] BT (0,0))→w.ownsRow 0 U8 1 v l.length (Lib.byteCells l)→l.length≤1073741823→
   Ret P f [Ptr b 0] w fun r w'=>r= .string ⟨l.toArray⟩∧Ch (fun c=>v.ownBlock=some c) w w'):
  aA P aI ⟨f,0,[.ptr 1000000 0],[(1000000,.box BT [.p (.ej (.pointer none)) true,.p .nl true])],[],[],[],⟨0,[]⟩,[⟨0,[],[],[],[(1000000,.box BT [.p (.ej (.pointer none)) true,.p .nl true])],[.p (.st (.lit [])) true]⟩]⟩:=by
 refine jx rfl fun ρ ab=>?_
 intro lo w E vals aR ht hv
 match vals,hv with
 | [v0],hv=>
  simp only[dvs,VRs,DV.v,VR]at hv
  obtain⟨⟨b,bq,rfl⟩,_⟩:=hv
  obtain⟨b',vs,k1,k2,k3,k4⟩:=ht.obj 1000000 (.box BT [.p (.v (.pointer none)) true,.p (.v (.slice none 0 0)) true]) (by simp[aU,lk,DO.v,dvs,DV.v,DP.v])
  rw[bq]at k1
  simp only[ZS,Value.pointer.injEq,Addr.mk.injEq,and_true]at k1
  subst k1
  match vs,k4 with
  | [u0,u1],k4=>
   simp only[VRs,VR]at k4
   obtain⟨j1,j2,_⟩:=k4
   obtain rfl:=ek j1
   obtain rfl:=ek j2
   refine Calls.mono (h w b _ _ [] k3 (World.ownsRow_nil _ _ _ _) (by simp)) ?_
   rintro e w' ⟨r,rfl,rfl,bp⟩
   have db:∀c,c<w.heap.size→w'.heap[c]? =w.heap[c]? :=fun c hc=>bp.keep c hc (by simp[Value.ownBlock])
   refine⟨.p (.v (.string ⟨#[]⟩)) true,_,_,E,rfl,⟨_,List.mem_singleton.2 rfl,ρ,fun _ _=>rfl,⟨ab.g,trivial,trivial,trivial⟩,by simp[dmk,DV.v,DP.v,SE.v],rfl⟩,
    ⟨bp.os,bp.tape,bp.output,bp.size,fun c hc hn=>⟨db c hc,hn⟩,rfl⟩,bV.same ht bp.size db,.v _ rfl,fun k x hx=> .inl hx⟩
theorem FP{P:Program}{f BT U8 bc:Nat}(hc:cks P bc=[.int .u8])(h:∀(w:World) (b:Nat) (p v:Value) (l:List UInt8),w.heap[b]? =some (.cells #[p,v] BT (0,0))→w.ownsRow 0 U8 1 v l.length (Lib.byteCells l)→l.length≤1073741823→
   Ret P f [Ptr b 0] w fun r w'=>r= .string ⟨l.toArray⟩∧Ch (fun c=>v.ownBlock=some c) w w'):
  aA P aI ⟨f,1,[.ptr 1000000 0],[(1000000,.box BT [.ptr 1000000 0,.vec 1000001]),(1000001,.vec U8 1 (some 0) true)],[(0,bc)],[⟨-1073741823,[(1,1)]⟩],[],⟨0,[]⟩,[⟨1,[],[⟨0,[(1, -1),(7,1)]⟩,⟨0,[(1,1),(7, -1)]⟩],[],[],[.p (.st (.var 1)) true]⟩]⟩:=by
 refine jx rfl fun ρ ab=>?_
 intro lo w E vals aR ht hv
 match vals,hv with
 | [v0],hv=>
  simp only[dvs,VRs,DV.v,VR]at hv
  obtain⟨⟨b,bq,rfl⟩,_⟩:=hv
  obtain⟨b',vs,k1,k2,k3,k4⟩:=ht.obj 1000000 (.box BT [.ptr 1000000 0,.vec 1000001]) (by simp[aU,lk,DO.v,dvs,DV.v])
  rw[bq]at k1
  simp only[ZS,Value.pointer.injEq,Addr.mk.injEq,and_true]at k1
  subst k1
  obtain⟨v,xs,m1,_,m3,m4,m5⟩:=ht.obj 1000001 (.vec U8 1 (ρ 0).l true) (by simp[aU,lk,DO.v,lvV])
  have hty0:bK P bc (ρ 0).l:=ab.tys.1
  obtain⟨l,mw⟩:=Bq hc hty0.2
  rw[mw]at m3 m5
  rw[iw]at m3
  obtain rfl:=IL m5 (by simpa using m3.1)
  match vs,k4 with
  | [u0,u1],k4=>
   simp only[VRs,VR]at k4
   obtain⟨_,⟨j2,_⟩,_⟩:=k4
   rw[m1]at j2
   obtain rfl:=Option.some.inj j2
   have hl:=ab.lin
   simp only[Spec.pre,bh,Lin.v,bZ,aV]at hl
   obtain⟨l1,_⟩:=hl
   simp[mw,iw]at l1
   refine Calls.mono (h w b _ _ l k3 m3 (by omega)) ?_
   rintro e w' ⟨r,rfl,rfl,bp⟩
   have bf:(⟨l.toArray⟩:ByteArray).size=l.length:=by simp[ByteArray.size]
   have db:∀c,c<w.heap.size→E.own c=none→w'.heap[c]? =w.heap[c]? :=fun c hc hn=>bp.keep c hc fun e=>by rw[m4 c e]at hn;cases hn
   refine⟨.p (.v (.string ⟨l.toArray⟩)) true,_,[],⟨fun _=>none,fun _=>none,E.ext⟩,rfl,?_,⟨bp.os,bp.tape,bp.output,bp.size,fun c hc hn=>⟨db c hc hn,rfl⟩,rfl⟩,?_,.v _ rfl,fun k x _=> .inr rfl⟩
   ·refine⟨_,List.mem_singleton.2 rfl,up ρ 1 (vaS ⟨l.toArray⟩),da _ _ _ _ (Nat.le_refl _),⟨ab.g.up 1 (ma (by rw[bf];unfold cu;omega)),trivial,?_,trivial⟩,by simp[dmk,DV.v,DP.v,SE.v,bg,vaS],rfl⟩
    simp only[cb.st,bh,Lin.v,bZ,aV,Nat.reduceMod,Nat.reduceDiv,bg,show up ρ 1 (vaS ⟨l.toArray⟩) 0=ρ 0 from rfl,mw,iw]
    simp only[vaS,bf,and_true]
    omega
   ·exact⟨fun k ov hk=>by simp[lk]at hk,fun _ _=>rfl,fun c k hk=>by simp at hk,fun c hc=>⟨Nat.lt_of_lt_of_le (ht.ext c hc).1 bp.size,rfl⟩⟩
theorem Da{P:Program}{f:Nat}(hu:(P.globalNamed "internal/strconv.uint64pow10").isSome=true)
  (h:∀(n:Int), -9223372036854775808≤n→n≤9223372036854775807→∀w:World,Lib.TabIs P w "internal/strconv.uint64pow10" .u64 Lib.pow10Tab→Calls P f #[.int .i64 n,.int .i64 10] w fun e w'=>e= .returned (.string ⟨(Lib.itoa n).toArray⟩)∧∃k os,w'=Sort.grow (w.drewN k) os):
  aA P aI ⟨f,2,[.p (.int .i64 ⟨0,[(0,1)]⟩) true,.p (.int .i64 ⟨0,[(4,1)]⟩) true],[],[],[⟨-10,[(4,1)]⟩,⟨10,[(4, -1)]⟩],[],⟨0,[]⟩,[⟨1,[],[⟨-21,[(11,1)]⟩],[],[],[.p (.st (.var 2)) true]⟩]⟩:=by
 refine qZ rfl rfl fun ρ ab w E lo vals aR hv=>?_
 match vals,hv with
 | [v0,v1],hv=>
  simp only[dvs,VRs]at hv
  have e0:=dh hv.1
  have e1:=dh hv.2.1
  subst e0;subst e1
  have hn:Lin.v ρ ⟨0,[(0,1)]⟩=(ρ 0).n:=by simp[Lin.v,bZ,aV]
  have hl:=ab.lin
  simp only[Spec.pre,bh,Lin.v,bZ,aV]at hl
  obtain⟨l1,l2,_⟩:=hl
  simp at l1 l2
  have h10:Lin.v ρ ⟨0,[(4,1)]⟩=10:=by simp[Lin.v,bZ,aV];omega
  rw[hn,h10]
  have h0:=ab.g.lo 0
  have h1:=ab.g.hi 0
  have hlen:=Lib.itoa_length_le (ρ 0).n h0 h1
  have bf:(⟨(Lib.itoa (ρ 0).n).toArray⟩:ByteArray).size=(Lib.itoa (ρ 0).n).length:=by simp[ByteArray.size]
  refine Calls.mono (h (ρ 0).n h0 h1 w (Bo hu aR.laid)) ?_
  rintro e w' ⟨rfl,k,os,rfl⟩
  refine⟨_,rfl,Eu k os,rfl,wK (vaS ⟨(Lib.itoa (ρ 0).n).toArray⟩) ab rfl (ma (by rw[bf];unfold cu;omega)) ⟨?_,trivial⟩ (by simp[DP.v,SE.v,bg,vaS])⟩
  simp only[Lin.v,bZ,aV,bg,vaS]
  simp[bf];omega
theorem IP:∀ss:List (List UInt8),rsz (eQ ss)=2*ss.length+Lib.lens ss
 | []=>by simp[eQ,nf,Lib.lens]
 |x::r=>by
  have ih:=IP r
  have hx:pz (.v (encStr x))=1+x.length:=by simp[pz,ByteArray.size]
  simp only[eQ,List.map_cons,eY,eA,jl,hx,Lib.lens,List.sum_cons,List.length_cons]at ih ⊢
  omega
theorem MV{P:Program}{f e:Nat}(hc:cks P e=[.str])
  (h0:∀(a:Option Addr) (c:Nat) (sep:ByteArray) (w:World),Calls P f #[.slice a 0 c,.string sep] w fun e w'=>e= .returned (.string ⟨#[]⟩)∧w'=w)
  (h:∀(bk o c:Nat) (xs:List ByteArray) (sep:ByteArray) (w:World),(∀(j:Nat) x,xs[j]? =some x→w.cell? ⟨bk,o+j,none⟩=some (.string x))→bk<w.heap.size→xs.length≤140737488355328→xs.length≤c→
   (Lib.join (xs.map (·.data.toList)) sep.data.toList).length≤140737488355328→
   Calls P f #[.slice (some ⟨bk,o,none⟩) xs.length c,.string sep] w fun e w'=>e= .returned (.string ⟨(Lib.join (xs.map (·.data.toList)) sep.data.toList).toArray⟩)∧Below w.heap.size w w'):
  aA P aI ⟨f,2,[.p (.sl (some 0)) false,.p (.st (.var 1)) true],[],[(0,e)],[⟨-1,[(7,1)]⟩,⟨1,[(7, -1)]⟩,⟨-1073741823,[(2,1)]⟩],[],⟨0,[]⟩,[⟨1,[],[⟨0,[(2, -1),(11,1)]⟩],[],[],[.p (.st (.var 2)) true]⟩]⟩:=by
 refine qZ rfl rfl fun ρ ab w E lo vals aR hv=>?_
 match vals,hv with
 | [v0,v1],hv=>
  simp only[dvs,VRs,DV.v,VR,DP.v,SE.v,lvV]at hv
  obtain⟨hv,hs,_⟩:=hv
  obtain rfl:=ek hs
  have aJ:bK P e (ρ 0).l:=ab.tys.1
  have hl:=ab.lin
  simp only[Spec.pre,bh,Lin.v,bZ,aV]at hl
  obtain⟨l1,l2,l3,_⟩:=hl
  simp at l1 l2 l3
  obtain⟨ss,mw,_⟩:=Ew hc aJ.2
  have hr:=IP ss
  rw[←mw]at hr
  have hsep:(ρ 1).s.data.toList.length=1:=by
   have:(ρ 1).s.data.toList.length=(ρ 1).s.size:=by rw[Array.length_toList];rfl
   omega
  have hj:(Lib.join ss (ρ 1).s.data.toList).length≤rsz (ρ 0).l:=by
   cases ss with
   |nil=>simp[Lib.join_nil]
   |cons x r=>
    rw[Lib.join_length,hsep,hr]
    simp only[List.length_cons];omega
  have fin:∀{w':World},Ch (fun _=>False) w w'→Ch (fun _=>False) w w'∧(Value.string ⟨(Lib.join ss (ρ 1).s.data.toList).toArray⟩).oneCell'=true∧pI P aI ⟨f,2,[.p (.sl (some 0)) false,.p (.st (.var 1)) true],[],[(0,e)],[⟨-1,[(7,1)]⟩,⟨1,[(7, -1)]⟩,⟨-1073741823,[(2,1)]⟩],[],⟨0,[]⟩,[⟨1,[],[⟨0,[(2, -1),(11,1)]⟩],[],[],[.p (.st (.var 2)) true]⟩]⟩ ρ (.p (.v (.string ⟨(Lib.join ss (ρ 1).s.data.toList).toArray⟩)) true) []:=by
   intro w' bp
   have bf:(⟨(Lib.join ss (ρ 1).s.data.toList).toArray⟩:ByteArray).size=(Lib.join ss (ρ 1).s.data.toList).length:=by simp[ByteArray.size]
   refine⟨bp,rfl,wK (vaS ⟨(Lib.join ss (ρ 1).s.data.toList).toArray⟩) ab rfl (ma (by rw[bf];unfold cu;omega)) ⟨?_,trivial⟩ (by simp[DP.v,SE.v,bg,vaS])⟩
   simp only[Lin.v,bZ,aV,Nat.reduceMod,Nat.reduceDiv,bg,show up ρ 2 (vaS ⟨(Lib.join ss (ρ 1).s.data.toList).toArray⟩) 0=ρ 0 from rfl]
   simp only[vaS,bf];omega
  generalize(ρ 0).l=rows at hv mw aJ
  cases hv with
  |nil b c=>
   have:ss=[]:=by
    have:=congrArg List.length mw
    simp[eQ]at this;exact List.length_eq_zero_iff.1 this.symm
   subst this
   refine Calls.mono (h0 b c (ρ 1).s w) ?_
   rintro e' w' ⟨rfl,rfl⟩
   exact⟨_,rfl,fin (Ch.refl _ _)⟩
  |sl _ b off cap cs t fz sz g eR hb bY _ _ hlen mv hrr=>
   subst mw
   have dQ:(eQ ss).length=(ss.map fun l=>(⟨l.toArray⟩:ByteArray)).length:=by simp[eQ]
   rw[dQ]
   have fH:(ss.map fun l=>(⟨l.toArray⟩:ByteArray)).map (·.data.toList)=ss:=by simp[Function.comp_def]
   have:=h b off cap (ss.map fun l=>(⟨l.toArray⟩:ByteArray)) (ρ 1).s w (fun j x hx=>?_) (an hb) (by rw[←dQ];have:=aJ.len;omega) (by rw[←dQ];exact eR) (by rw[fH];omega)
   ·rw[fH]at this
    refine Calls.mono this ?_
    rintro e' w' ⟨rfl,jY⟩
    exact⟨_,rfl,fin ⟨jY.os,jY.tape,jY.output,jY.size,fun c hc _=>jY.block c hc⟩⟩
   ·simp only[List.getElem?_map,Option.map_eq_some_iff]at hx
    obtain⟨l,hl,rfl⟩:=hx
    have a6:(eQ ss)[j]? =some [.v (encStr l)]:=by simp[eQ,hl]
    have h1:=hlen j _ a6
    have h2:=mv j _ 0 _ a6 rfl
    have h3:=ek (hrr j _ 0 _ a6 rfl)
    simp only[List.length_cons,List.length_nil,Nat.zero_add]at h1
    subst h1
    rw[Lib.cell_of_heap hb]
    rw[Nat.mul_one,Nat.add_zero]at h2
    rw[h2,h3]
def KC(M I ST MT B:TypeId)(it:FuncId)(pre:List UInt8):Code:=(.seq (.region 0 ([⟨(some 2),.assign (.const (.string ⟨#[]⟩)),0, "", #[],none⟩]:List Oper).toArray false) (.block 0 (.loop (.block 1 (.seq (.region 0 ([⟨(some 4),.move (.tmp 0),0, "", #[],none⟩,⟨(some 5),.nilCheck (.tmp 4),0, "", #[],none⟩,⟨(some 6),.fieldAddr M (.tmp 5) 4,0, "", #[],none⟩,⟨(some 7),.load I (.tmp 6),0, "", #[],none⟩,⟨(some 8),.binOp .add I (.tmp 7) (.const (.int .i64 1)) I,0, "", #[],none⟩,⟨(some 9),.nilCheck (.tmp 4),0, "", #[],none⟩,⟨(some 10),.fieldAddr M (.tmp 9) 4,0, "", #[],none⟩,⟨none,.store I (.tmp 10) (.tmp 8),0, "", #[],none⟩]:List Oper).toArray false) (.seq (.region 0 ([⟨(some 11),.move (.tmp 0),0, "", #[],none⟩,⟨(some 12),.nilCheck (.tmp 11),0, "", #[],none⟩,⟨(some 13),.fieldAddr M (.tmp 12) 4,0, "", #[],none⟩,⟨(some 14),.load I (.tmp 13),0, "", #[],none⟩,⟨(some 15),.call ⟨(.value (.func it)), #[(.tmp 14)], #[]⟩,0, "", #[],none⟩,⟨(some 16),.binOp .add ST (.const (.string ⟨pre.toArray⟩)) (.tmp 15) ST,0, "", #[],none⟩,⟨(some 3),.assign (.tmp 16),0, "", #[],none⟩]:List Oper).toArray false) (.seq (.region 0 ([⟨(some 17),.move (.tmp 0),0, "", #[],none⟩,⟨(some 18),.nilCheck (.tmp 17),0, "", #[],none⟩,⟨(some 19),.fieldAddr M (.tmp 18) 3,0, "", #[],none⟩,⟨(some 20),.load MT (.tmp 19),0, "", #[],none⟩,⟨(some 21),.move (.tmp 3),0, "", #[],none⟩,⟨(some 22),.lookup MT (.tmp 20) (.tmp 21) false,0, "", #[],none⟩,⟨(some 23),.unOp .not B (.tmp 22),0, "", #[],none⟩]:List Oper).toArray false) (.cond (.tmp 23) (.seq (.region 0 ([⟨(some 24),.move (.tmp 3),0, "", #[],none⟩,⟨(some 2),.assign (.tmp 24),0, "", #[],none⟩]:List Oper).toArray false) .ret) .skip))))))))
theorem Rv{u:Value}{cs:List Value}{k:Nat}(h:cs[k]? =some u):∀(j:Nat) v,[u][j]? =some v→cs.toArray[k+j]? =some v:=by
 intro j v hj
 cases j with
 |zero=>simp at hj;subst hj;simpa using h
 |succ j=>simp at hj
theorem TW{α:Type}{cs:List α}{k:Nat}{u:α}(h:k<cs.length):spl cs k [u]=cs.set k u:=by
 apply List.ext_getElem?
 intro j
 rw[mY cs k [u] (by simp;omega),List.getElem?_set]
 simp only[List.length_singleton]
 split
 ·rename_i hj
  rw[if_pos (by omega),show j - k=0 by omega];rfl
 ·rw[if_neg (by omega)]
theorem MW{P:Program}{f:FuncId}{M I ST MT B:TypeId}{it:FuncId}{pre:List UInt8}(hB:Body P f 25 [.tmp 2] (KC M I ST MT B it pre))(wY:pre.length≤40)(f4:cG P M 4=some (10,1))(f3:cG P M 3=some (9,1))(hI:Tp P I false 1)(hM:Tp P MT false 1)
  (hu:P.underlying MT=some (.map ST B))(hs:P.underlying ST=some .string)(hz:∀w,(zeroValue B).run P w= .ok (.bool false) w)(ab:aP P it=true)
  (hit:∀(n:Int), -9223372036854775808≤n→n≤9223372036854775807→∀w:World,Lib.TabIs P w "internal/strconv.uint64pow10" .u64 Lib.pow10Tab→Calls P it #[.int .i64 n] w fun e w'=>e= .returned (.string ⟨(Lib.itoa n).toArray⟩)∧∃k os,w'=Sort.grow (w.drewN k) os)
  {w:World} {b bm:Nat} {t:TypeId} {n:Int} {vs:List Value} {es:Array MapEntry} {clock:Nat} (hb:w.heap[b]? =some (.cells vs.toArray t (0,0))) (h9:vs[9]? =some (.map (some bm))) (h10:vs[10]? =some (.int .i64 n)) (hm:w.heap[bm]? =some (.map es clock))
  (oC:∀x∈es.toList,MapKept.IsKey .string x.key) (gM:∀(i:Nat) e,es[i]? =some e→∃c,e.val= .bool c)
  (hn0:0≤n) (hn:n≤4611686018427387904) (bf:es.size≤1073741824) (ht:∀w',Ch (fun c=>c=b) w w'→Lib.TabIs P w' "internal/strconv.uint64pow10" .u64 Lib.pow10Tab):
  Ret P f [Ptr b 0] w fun v w'=>∃s k,v= .string s∧s.size≤64∧1≤k∧k≤(es.size:Int)+1∧Ch (fun c=>c=b) w w'∧w'.heap[b]? =some (.cells (vs.set 10 (.int .i64 (n+k))).toArray t (0,0)):=by
 have gl:b≠bm:=fun e=>by subst e;rw[hb]at hm;cases hm
 have hlen:10<vs.length:=(ZY h10).1
 have g9:∀v,(vs.set 10 v)[9]? =some (.map (some bm)):=fun v=>by rw[List.getElem?_set_ne (by decide)];exact h9
 have g10:∀v,(vs.set 10 v)[10]? =some v:=fun v=>by simp[hlen]
 refine cN hB ?_
 have hs0:=SL.init (n:=25) [Ptr b 0] rfl
 revert hs0
 generalize({tmps:=_,defers:=[]}:Act)=a
 intro hs0
 refine ai (ae ?_)
 refine L hs0 rfl rfl (aj hs0 (.inr rfl) rfl) fun a hs1=>?_
 refine Le (cH (gT (fun m a w1=>SL 25 [(0,Ptr b 0)] a∧∃k:Nat,m+k=es.size+1∧Ch (fun c=>c=b) w w1∧w1.heap[b]? =some (.cells (vs.set 10 (.int .i64 (n+k))).toArray t (0,0))∧w1.heap[bm]? =some (.map es clock)∧
  ∀j,j<k→∃(i:Nat) (e:MapEntry),es[i]? =some e∧e.key= .string (nm pre (n+(j+1:Nat)))) (es.size+1) ⟨hs1.keep [0],0,rfl,Ch.refl _ _,by
   rw[show vs.set 10 (.int .i64 (n+((0:Nat):Int)))=vs from List.ext_getElem? fun j=>by
    rw[List.getElem?_set]
    split
    ·rename_i hj;subst hj;rw[h10];simp
    ·rfl]
   exact hb,hm,by simp⟩ ?_))
 rintro m a w1 ⟨h0,k,hmk,bp,h1,h2,h3⟩
 have hk:k≤es.size:=Wg (R:=fun j i=>∃e:MapEntry,es[i]? =some e∧e.key= .string (nm pre (n+(j+1:Nat)))) (fun j hj=>by
  obtain⟨i,e,h4,h5⟩:=h3 j hj
  exact⟨i,(Array.getElem?_eq_some_iff.1 h4).1,e,h4,h5⟩) (by
  rintro j j' i ⟨e,h4,h5⟩ ⟨e',h4',h5'⟩
  rw[h4]at h4';cases h4'
  rw[h5]at h5'
  have:=Wf (by omega) (by omega) (Value.string.inj h5')
  omega)
 refine cH (ai (ae ?_))
 refine L h0 rfl rfl (aj h0 (.inl rfl) rfl) fun a h0=>?_
 refine L h0 rfl rfl (bH h0 rfl rfl) fun a h0=>?_
 refine L h0 rfl rfl (bW h0 rfl rfl f4) fun a h0=>?_
 refine L h0 rfl rfl (aL [.int .i64 (n+k)] h0 rfl rfl hI rfl h1 (Rv (k:=0+10) (g10 _))) fun a h0=>?_
 refine L h0 rfl rfl (dz h0 rfl rfl rfl rfl) fun a h0=>?_
 rw[gU (by omega) (by omega)]at h0
 refine L h0 rfl rfl (bH h0 rfl rfl) fun a h0=>?_
 refine L h0 rfl rfl (bW h0 rfl rfl f4) fun a h0=>?_
 refine Ls h0 rfl rfl (mI [.int .i64 (n+k+1)] h0 rfl rfl rfl hI rfl (by simp[Value.oneCell']) h1 (by simp;omega)) fun h0=>?_
 have g1:=Ch.setRow w1 b (spl (vs.set 10 (.int .i64 (n+k))) (0+10) [.int .i64 (n+k+1)]).toArray
 have e1:=setRow_heap w1 b _ (spl (vs.set 10 (.int .i64 (n+k))) (0+10) [.int .i64 (n+k+1)]).toArray _ _ h1
 have e2:=g1.at h2 (Ne.symm gl)
 have g2:=bp.trans g1
 generalize World.setRow w1 b _=w2 at g1 e1 e2 g2 ⊢
 rw[TW (by simp;omega),List.set_set]at e1
 refine Le (ai (ae ?_))
 refine L h0 rfl rfl (aj h0 (.inl rfl) rfl) fun a h0=>?_
 refine L h0 rfl rfl (bH h0 rfl rfl) fun a h0=>?_
 refine L h0 rfl rfl (bW h0 rfl rfl f4) fun a h0=>?_
 refine L h0 rfl rfl (aL [.int .i64 (n+k+1)] h0 rfl rfl hI rfl e1 (Rv (k:=0+10) (g10 _))) fun a h0=>?_
 refine Lc (vs:=[.int .i64 (n+k+1)]) (R:=fun v w'=>v= .string ⟨(Lib.itoa (n+k+1)).toArray⟩∧∃k os,w'=Sort.grow (w2.drewN k) os) h0 rfl rfl rfl rfl rfl ab (Calls.mono (hit (n+k+1) (by omega) (by omega) w2 (ht _ g2)) fun e w' h=>⟨_,h.1,rfl,h.2⟩) fun v w3 a hv h0=>?_
 obtain⟨rfl,q,os,rfl⟩:=hv
 have g3:=Eu (S:=fun _=>False) (w:=w2) q os
 have e3:=g3.at e1 fun h=>h
 have e4:=g3.at e2 fun h=>h
 have g4:=g2.trans' g3 (fun _ _ h=>h.elim)
 generalize Sort.grow (w2.drewN q) os=w3 at g3 e3 e4 g4 h0 ⊢
 have hl:=Lib.itoa_length_le (n+k+1) (by omega) (by omega)
 have hsz1:(⟨(Lib.itoa (n+k+1)).toArray⟩:ByteArray).size=(Lib.itoa (n+k+1)).length:=by simp[ByteArray.size]
 have hsz2:(⟨pre.toArray⟩:ByteArray).size=pre.length:=by simp[ByteArray.size]
 refine L h0 rfl rfl (Sb h0 rfl rfl rfl (by rw[hsz1,hsz2];omega)) fun a h0=>?_
 refine L h0 rfl rfl (aj h0 (.inr rfl) rfl) fun a h0=>?_
 have hnm:(⟨pre.toArray⟩:ByteArray)++⟨(Lib.itoa (n+k+1)).toArray⟩=nm pre (n+(k+1:Nat)):=by
  unfold nm;rw[show n+((k+1:Nat):Int)=n+k+1 by omega]
 have hnz:(nm pre (n+(k+1:Nat))).size≤64:=by rw[←hnm,ByteArray.size_append,hsz1,hsz2];omega
 rw[hnm]at h0
 generalize hsn:nm pre (n+(k+1:Nat))=s at h0 hnz
 refine Le (ai (ae ?_))
 refine L h0 rfl rfl (aj h0 (.inl rfl) rfl) fun a h0=>?_
 refine L h0 rfl rfl (bH h0 rfl rfl) fun a h0=>?_
 refine L h0 rfl rfl (bW h0 rfl rfl f3) fun a h0=>?_
 refine L h0 rfl rfl (aL [.map (some bm)] h0 rfl rfl hM rfl e3 (Rv (k:=0+9) (g9 _))) fun a h0=>?_
 refine L h0 rfl rfl (aj h0 (.inl rfl) rfl) fun a h0=>?_
 have step:∃c:Bool,(c=true→∃(i:Nat) (e:MapEntry),es[i]? =some e∧e.key= .string s)∧(Instr.lookup MT (.map (some bm)) (.string s) false).run P w3= .ok (.bool c) w3:=by
  rcases MQ (P:=P) (w:=w3) (s:=s) hu hs e4 oC (hz w3)with⟨i,e,h5,h6,h7⟩|h7
  ·obtain⟨c,hc⟩:=gM i e h5
   rw[hc]at h7
   exact⟨c,fun _=>⟨i,e,h5,h6⟩,h7⟩
  ·exact⟨false,fun h=>(by cases h),h7⟩
 obtain⟨c,hc,aW⟩:=step
 refine L h0 rfl rfl (v:= .bool c) (w':=w3) (by simp[execOp,show a.eval (.tmp 20)= .map (some bm)from h0.ev rfl,show a.eval (.tmp 21)= .string s from h0.ev rfl,aW]) fun a h0=>?_
 refine L h0 rfl rfl (vO h0 rfl rfl) fun a h0=>?_
 refine Le (cF (t:= !c) (h0.ev rfl) (fun hc'=>?_) (fun hc'=>?_))
 ·refine ai (ae ?_)
  refine L h0 rfl rfl (aj h0 (.inl rfl) rfl) fun a h0=>?_
  refine L h0 rfl rfl (aj h0 (.inr rfl) rfl) fun a h0=>?_
  exact Le (dG (gu h0 rfl ⟨s,k+1,rfl,hnz,by omega,by omega,g4,by rw[show n+((k:Int)+1)=n+k+1 by omega];exact e3⟩))
 ·refine cJ ⟨m - 1,by omega,h0.keep [0],k+1,by omega,g4,by rw[show n+((k+1:Nat):Int)=n+k+1 by omega];exact e3,e4,fun j hj=>?_⟩
  rcases Nat.lt_succ_iff_lt_or_eq.1 hj with hj|rfl
  ·exact h3 j hj
  ·rw[hsn];exact hc (by simpa using hc')
theorem bV.box{w w':World}{E:Env}{lo k b:Nat}{T:Tab}{ov:OV}(h:bV w E lo T)(hk:lk T k≠none)(hb:E.own b=some k)(bp:Ch (fun c=>c=b) w w')(dL:OR w' E lo k ov):bV w' E lo ((k,ov)::rm T k):=by
 have keep:∀c j,E.own c=j→j≠some k→c<w.heap.size→w'.heap[c]? =w.heap[c]? :=fun c j h1 h2 hc=>bp.keep c hc fun e=>by subst e;exact h2 (h1.symm.trans hb)
 refine⟨?_,?_,?_,fun b hx=>⟨Nat.lt_of_lt_of_le (h.ext b hx).1 bp.size,(h.ext b hx).2⟩⟩
 ·intro j o hl
  by_cases he:j=k
  ·subst he;rw[aB]at hl;cases hl;exact dL
  ·rw[aw _ _ _ _ he,cM _ _ _ he]at hl
   exact OR.mono ⟨fun c hc ho=>⟨keep c _ ho (by simp) hc,ho⟩,rfl⟩ (fun _ _ h=>h) (fun _=>Iff.rfl) (fun c ho=>keep c _ ho (by simp[he]) (h.own c j ho).1) (h.obj j o hl)
 ·intro j hl
  have he:j≠k:=fun e=>by subst e;rw[aB]at hl;cases hl
  rw[aw _ _ _ _ he,cM _ _ _ he]at hl
  exact h.dead j hl
 ·intro c j ho
  have:=h.own c j ho
  refine⟨Nat.lt_of_lt_of_le this.1 bp.size,this.2.1,?_⟩
  by_cases he:j=k
  ·subst he;rw[aB];simp
  ·rw[aw _ _ _ _ he,cM _ _ _ he];exact this.2.2
def o4(f M mb t4 t5 t6 t7:Nat):TL.Spec:=
 ⟨f,11,[.ptr 1000000 0],[(1000000,.box M [.p (.st (.var 0)) true,.p (.int .i64 ⟨0,[(4,1)]⟩) true,.p (.st (.var 2)) true,.p (.int .i64 ⟨0,[(12,1)]⟩) true,.p (.sl (some 4)) false,.p (.sl (some 5)) false,.p (.sl (some 6)) false,.p (.sl (some 7)) false,.ref 1000001,.ref 1000002,.p (.int .i64 ⟨0,[(40,1)]⟩) true]),(1000002,.mp none (some 9) true),(1000001,.mp none (some 8) true)],[(9,mb),(8,mb),(7,t7),(6,t6),(5,t5),(4,t4)],[⟨-4194303,[(37,1)]⟩,⟨0,[(40, -1)]⟩,⟨-35184367894528,[(40,1)]⟩],[],⟨0,[]⟩,
 [⟨2,[],[⟨-64,[(51,1)]⟩,⟨0,[(40,1),(44, -1)]⟩,⟨-4194304,[(40, -1),(44,1)]⟩],[],[(1000000,.box M [.p (.st (.var 0)) true,.p (.int .i64 ⟨0,[(4,1)]⟩) true,.p (.st (.var 2)) true,.p (.int .i64 ⟨0,[(12,1)]⟩) true,.p (.sl (some 4)) false,.p (.sl (some 5)) false,.p (.sl (some 6)) false,.p (.sl (some 7)) false,.ref 1000001,.ref 1000002,.p (.int .i64 ⟨0,[(44,1)]⟩) true]),(1000002,.mp none (some 9) true),(1000001,.mp none (some 8) true)],[.p (.st (.var 12)) true]⟩]⟩
theorem IQ{P:Program}{f M mb t4 t5 t6 t7:Nat}(hc:cks P mb=[.str,.bool])
  (h:∀(w:World) (b bm:Nat) (n:Int) (vs:List Value) (es:Array MapEntry) (clock:Nat),w.heap[b]? =some (.cells vs.toArray M (0,0))→vs[9]? =some (.map (some bm))→vs[10]? =some (.int .i64 n)→w.heap[bm]? =some (.map es clock)→(∀x∈es.toList,MapKept.IsKey .string x.key)→(∀(i:Nat) e,es[i]? =some e→∃c,e.val= .bool c)→
   0≤n→n≤4611686018427387904→es.size≤1073741824→(∀w',Ch (fun c=>c=b) w w'→Lib.TabIs P w' "internal/strconv.uint64pow10" .u64 Lib.pow10Tab)→
   Ret P f [Ptr b 0] w fun v w'=>∃s k,v= .string s∧s.size≤64∧1≤k∧k≤(es.size:Int)+1∧Ch (fun c=>c=b) w w'∧w'.heap[b]? =some (.cells (vs.set 10 (.int .i64 (n+k))).toArray M (0,0)))
  (hu:(P.globalNamed "internal/strconv.uint64pow10").isSome=true):aA P aI (o4 f M mb t4 t5 t6 t7):=by
 refine jx rfl fun ρ ab=>?_
 intro lo w E vals aR ht hv
 match vals,hv with
 | [v0],hv=>
  simp only[o4,dvs,VRs,DV.v,VR]at hv
  obtain⟨⟨b,bq,rfl⟩,_⟩:=hv
  let cells:List SV:=[.p (.v (.string (ρ 0).s)) true,.p (.v (.int .i64 (ρ 1).n)) true,.p (.v (.string (ρ 2).s)) true,.p (.v (.int .i64 (ρ 3).n)) true,.p (.sl (ρ 4).l) false,.p (.sl (ρ 5).l) false,.p (.sl (ρ 6).l) false,.p (.sl (ρ 7).l) false,.ref 1000001,.ref 1000002]
  obtain⟨b',vs,k1,k2,k3,k4⟩:=ht.obj 1000000 (.box M (cells++ [.p (.v (.int .i64 (ρ 10).n)) true])) (by simp[cells,o4,aU,lk,DO.v,dvs,DV.v,DP.v,SE.v,Lin.v,bZ,aV,lvV])
  rw[bq]at k1
  simp only[ZS,Value.pointer.injEq,Addr.mk.injEq,and_true]at k1
  subst k1
  obtain⟨bm,es,cl,m1,m2,m3,m4⟩:=ht.obj 1000002 (.mp none (ρ 9).l true) (by simp[o4,aU,lk,DO.v,lvV])
  obtain⟨u10,q1,q2⟩:=mX (n:=10) k4 rfl
  obtain⟨u9,q3,q4⟩:=mX (n:=9) k4 rfl
  simp only[VR]at q2 q4
  obtain rfl:=ek q2
  rw[m1]at q4
  obtain rfl:=Option.some.inj q4.1
  have hl:=ab.lin
  simp only[o4,Spec.pre,bh,Lin.v,bZ,aV]at hl
  obtain⟨l1,l2,l3,_⟩:=hl
  simp at l1 l2 l3
  have aJ:bK P mb (ρ 9).l:=ab.tys.1
  have bf:es.size=(ρ 9).l.length:=by obtain⟨_,⟨e1,_⟩,_⟩:=m4;exact e1
  have hold:∀w',Ch (fun c=>c=b) w w'→∀c,c<w.heap.size→E.own c=none→w'.heap[c]? =w.heap[c]? :=fun w' bp c hc hn=>bp.keep c hc (by
   rintro rfl;rw[k2]at hn;cases hn)
  refine Calls.mono (h w b bm (ρ 10).n vs es cl k3 q3 q1 m3 (m4.keys (XX hc aJ.2)) (Jt hc aJ.2 m4) (by omega) (by omega) (by omega) fun w' bp=>?_) ?_
  ·refine Bo (lo:=lo) hu fun g hg=>?_
   obtain⟨q1,cs,t,fz,q2,q3⟩:=aR.laid g hg
   exact⟨q1,cs,t,fz,by rw[hold w' bp g (an q2) (aR.own g q1)];exact q2,q3⟩
  ·rintro e w' ⟨v,rfl,s,k,rfl,hs,hk1,hk2,bp,hb⟩
   have c8:Fr w E w' E:=⟨bp.os,bp.tape,bp.output,bp.size,fun c hc hn=>⟨hold w' bp c hc hn,hn⟩,rfl⟩
   let ρ':=up (up ρ 11 (vaN ((ρ 10).n+k))) 12 (vaS s)
   have r0:∀j,j<11→ρ' j=ρ j:=fun j hj=>by
    show up (up ρ 11 _) 12 _ j=ρ j
    rw[La _ _ (by omega),La _ _ (by omega)]
   have r11:ρ' 11=vaN ((ρ 10).n+k):=rfl
   have r12:ρ' 12=vaS s:=rfl
   have nH:vs.length=11:=by have:=cX k4;simp[cells]at this;omega
   have hcl:VRs w' E lo (cells++ [.p (.v (.int .i64 ((ρ 10).n+k))) true]) (vs.set 10 (.int .i64 ((ρ 10).n+k))):=by
    have hm:=VRs.mono c8.keeps (fun _ _ h=>h) _ _ k4
    have h1:=oD 10 hm
    rw[show vs.set 10 (.int .i64 ((ρ 10).n+k))=vs.take 10++ [.int .i64 ((ρ 10).n+k)] by
     rw[List.set_eq_take_append_cons_drop,if_pos (by omega),List.drop_of_length_le (by omega)]]
    exact jC (by simpa[cells]using h1) (bu (dR true rfl) df)
   have htb:=bV.box ht (k:=1000000) (ov:= .box M (cells++ [.p (.v (.int .i64 ((ρ 10).n+k))) true])) (by simp[o4,aU,lk]) k2 bp ⟨b,_,bq,k2,hb,hcl⟩
   refine⟨.p (.v (.string s)) true,_,_,E,rfl,?_,c8,htb,.v _ rfl,fun k x hx=> .inl hx⟩
   refine⟨_,List.mem_singleton.2 rfl,ρ',fun j hj=>r0 j hj,⟨(ab.g.up 11 (sr (by omega) (by omega))).up 12 (ma (by unfold cu;omega)),trivial,?_,trivial⟩,?_,?_⟩
   ·simp only[cb.st,bh,Lin.v,bZ,aV]
    simp only[Nat.reduceDiv,r0 10 (by decide),r11,r12,vaN,vaS]
    simp only[and_true]
    omega
   ·simp[dmk,DV.v,DP.v,SE.v,r12,vaS]
   ·simp[o4,aU,rm,DO.v,dvs,DV.v,DP.v,SE.v,Lin.v,bZ,aV,lvV,r0,r11,vaN,cells]
end Go.TL.H
