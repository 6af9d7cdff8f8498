/- apart: one round, whole. -/
import Derived.Test.YtbjmbhgbalmoaaaW12
import Derived.DataReads
import GoSem.ClaimChange
namespace Go.TL.H
open Go
theorem mW{P:Program}{y:TY}(K:Kit P y){same:FuncId}(hS:Body P same 59 [.tmp 4] (jW y)){w:World}{b1 b2:Nat}{vn vs fY cW:Value}{e1 e2:Eye}{a1 a2 a3 a4:Bool}(h1:bO y w b1 vn vs e1 a1 a2)(h2:bO y w b2 fY cW e2 a3 a4)
  (hn:e1.n=e2.n)(hs:e1.s=e2.s)(l1:e1.n.length≤3300000)(l2:e1.s.length≤7000000000000):
  Ret P same [.agg [vn,vs,.bool a1,.int .i64 e1.at',.bool a2].toArray,.agg [fY,cW,.bool a3,.int .i64 e2.at',.bool a4].toArray] w fun v w'=>v= .bool true∧Ch (fun _=>False) w w':=by
 have k1:=h1.lists
 have k2:=h2.lists
 rw[←hn, ←hs]at k2
 exact sk K hS k1 k2 (by omega) (by omega)
section
variable {P:Program} {y:TY} {z:TZ} {T LC CT:TypeId} {sz N:Nat} {zs:List Value} {D:cT} {S W look same alike:FuncId} {rS:Row} {Q:Exit→Act→World→Prop} {a:Act} {w:World}
theorem wG(K:Kit P y)(K2:nk P y z)(K3:nq P y z T LC CT sz zs)(hD:iL P y D)(hL:Body P look 23 [.tmp 2] (mu y z))(hA:Body P alike 29 [.tmp 6] (kq y z same))(hSm:Body P same 59 [.tmp 4] (jW y)){u1 u2 u3 u4 u10 u11 u14 u15 l:Value}{rs:RS}{c:aK}
  (hs:SL 95 [(1,u1),(2,u2),(3,u3),(4,u4),(10,u10),(11,u11),(14,u14),(15,u15),(16,l)] a)(hl:gF w l rs)(hse:Seen P y D true c rs)(hz:Zn c w)(hbl:∀bl,l.ownBlock=some bl→rs≠ .no→c bl≠none)
  (kk:∀a' w',SL 95 [(1,u1),(2,u2),(3,u3),(4,u4),(10,u10),(11,u11),(14,u14),(15,u15),(16,l)] a'→Ch (fun b=>c b≠none) w w'→Q .normal a' w'):NW P (xU y z look alike) Q a w:=by
 obtain⟨pl,cl,hlv⟩:∃pl cl,l= .slice pl rs.len cl:=by
  cases rs with
  |no=>obtain⟨p,c,h⟩:=hl;exact⟨p,c,h⟩
  |one F g bx=>obtain⟨bl,tt,h,_⟩:=hl;exact⟨_,_,h⟩
 have hm1:rs.len≤1:=by cases rs<;>simp[RS.len]
 have hlb:∀b,c b≠none→b<w.heap.size:=by
  intro b hb
  cases hc:c b with
  |none=>exact absurd hc hb
  |some o=>exact aq (hz b o hc)
 refine ah (ae ?_)
 refine L hs rfl rfl (aa hs (.inr rfl) rfl) fun a hs=>?_
 refine Le (au (aW (fun m a w1=>∃i:Nat,i+m=rs.len∧SL 95 [(18,.int .i64 (i:Int)),(1,u1),(2,u2),(3,u3),(4,u4),(10,u10),(11,u11),(14,u14),(15,u15),(16,l)] a∧Ch (fun b=>c b≠none) w w1∧(i=0→w1=w)) rs.len
  ⟨0,by omega,hs,Ch.refl _ _,fun _=>rfl⟩ ?_))
 rintro m a w1 ⟨i,him,hs,dm,hi0⟩
 refine ah (ah (ae ?_))
 refine L hs rfl rfl (aa hs (.inl rfl) rfl) fun a hs=>?_
 refine L hs rfl rfl (aa hs (.inl rfl) rfl) fun a hs=>?_
 refine L hs rfl rfl (aM hs rfl (by rw[←hlv];rfl) K2.lfU) fun a hs=>?_
 refine L hs rfl rfl (aG hs rfl rfl rfl rfl) fun a hs=>?_
 refine Le (ar (t:=decide ((i:Int)<(rs.len:Int))) (hs.ev rfl) (fun aF=>aw ?_) fun aF=>aN (kk _ _ (hs.keep [1,2,3,4,10,11,14,15,16]) dm))
 have aF:=of_decide_eq_true aF
 obtain rfl:i=0:=by omega
 obtain rfl:w=w1:=(hi0 rfl).symm
 cases rs with
 |no=>simp[RS.len]at aF
 |one F g bx=>
  obtain⟨hF,r,d,hr,hK,hp⟩:=hse
  obtain⟨bl,tl,rfl,hbl1⟩:=hl
  have hcbl:c bl≠none:=hbl bl rfl (by simp)
  refine ah (au (ah (ae ?_)))
  refine L hs rfl rfl (aa hs (.inl rfl) rfl) fun a hs=>?_
  refine Lc hs rfl rfl rfl rfl rfl hL.ok (look_ok (rs:= .one F g bx) (c:=c) (wr:=true) K K2 hD hL ⟨bl,tl,rfl,hbl1⟩ ⟨hF,r,d,hr,hK,hp⟩ hz hlb) fun v2 w2 a hO hs=>?_
  obtain⟨⟨b1,gZ,vs1,e1,rfl,hE1,hsee1,l1,l2,hB1⟩,fq⟩:=hO
  refine L hs rfl rfl (aa hs (.inr rfl) rfl) fun a hs=>?_
  refine Le (ah (ae ?_))
  refine L hs rfl rfl (aa hs (.inl rfl) rfl) fun a hs=>?_
  refine L hs rfl rfl (aa hs (.inl rfl) rfl) fun a hs=>?_
  refine L hs rfl rfl (jV (i:=0) hs rfl rfl rfl K2.lfU K2.ft (by omega)) fun a hs=>?_
  refine L hs rfl rfl (ai hs rfl rfl K2.ft (fq.at hbl1 fun h=>h) (v:=clo F bx) rfl) fun a hs=>?_
  refine L hs rfl rfl (aa hs (.inl rfl) rfl) fun a hs=>?_
  refine L hs rfl rfl (bJ hs rfl rfl rfl rfl) fun a hs=>?_
  refine L hs rfl rfl (bJ hs rfl rfl rfl rfl) fun a hs=>?_
  generalize IntKind.wrap .i64 (1000000*IntKind.wrap .i64 (((0:Nat):Int)+1))=q at hs
  refine L hs rfl rfl (aQ [(2,.bool true),(3,.int .i64 q)] rfl (by
   have h79:a.eval (t 79)= .int .i64 q:=hs.ev rfl
   simp only[List.map_cons,List.map_nil,h79];rfl) (K3.bu3 q)) fun a hs=>?_
  refine L hs rfl rfl (bC hs rfl rfl) fun a hs=>?_
  have g3:=Ch.alloc (fun _=>False) w2 (.cells (an ao ao q true false) y.E)
  have hb3:=heap_alloc_new w2 (.cells (an ao ao q true false) y.E)
  have hz3:Zn c (w2.alloc (.cells (an ao ao q true false) y.E)):=(hz.keep fq fun _ _ h=>h).keep g3 fun _ _ h=>h
  have hE3:=mr (y:=y) hb3
  have hdis3:∀b,EB w2.heap.size ao ao b→c b=none:=by
   intro b hb
   rw[gm hb]
   cases hc:c w2.heap.size with
   |none=>rfl
   |some o=>have h1:=hlb w2.heap.size (by rw[hc];simp);have h2:=fq.size;omega
  have hokg:aD P g=true:=(hD g r hr).okD
  have hC:=nS K (D:=D) (mark:=true) (room:=false) (wr:=true) hD (fun _=>rfl) d r.bp g r hr (Nat.le_refl _)
  refine Lc hs rfl rfl rfl rfl rfl hF.ok (uP hF hokg hC hE3 hz3 hdis3 hp (bd0 hK)) fun v4 w4 a hO hs=>?_
  obtain⟨_,dK,bP,e',c',hP⟩:=hO
  have hch4:Ch (fun b=>c b≠none) w w4:=((fq.trans g3).mono fun b hb h=>h.elim).trans' hP.ch fun b hb h=>by
   rcases h with h|h
   ·have:=gm h;have:=fq.size;omega
   ·exact h
  have hl4:gF w4 (.slice (some ⟨bl,0,none⟩) 1 1) (.one F g bx):=by
   cases hcb:c bl with
   |none=>exact absurd hcb hcbl
   |some o=>
    have h1:=hz bl o hcb
    rw[hbl1]at h1
    have:o= .cells #[clo F bx] tl (0,0):=(Option.some.inj h1).symm
    subst this
    obtain⟨cs',k1,k2,k3⟩:=hP.keq.2 bl _ _ _ hcb
    obtain⟨v0,q1,q2⟩:=k3 0 (clo F bx) rfl
    have hv0:v0=clo F bx:=by
     rcases q2 with h|⟨k,n,m,h,_⟩|⟨x,y,h,_⟩|⟨x,y,h,_⟩
     ·exact h
     ·simp[clo]at h
     ·simp[clo]at h
     ·simp[clo]at h
    subst hv0
    have dR:cs'= #[clo F bx]:=by
     apply Array.ext_getElem?
     intro j
     cases j with
     |zero=>rw[q1];rfl
     |succ j=>rw[Array.getElem?_eq_none (by rw[k2];simp),Array.getElem?_eq_none (by simp)]
    subst dR
    exact⟨bl,tl,rfl,hP.zn bl _ k1⟩
  have hse4:Seen P y D true c' (.one F g bx):=⟨hF,r,d,hr,hK,fun j k hj=>(hp j k hj).keq hP.keq⟩
  have hlb4:∀b,c' b≠none→b<w4.heap.size:=by
   intro b hb
   cases hc:c' b with
   |none=>exact absurd hc hb
   |some o=>exact aq (hP.zn b o hc)
  refine Le (ah (ae ?_))
  refine L hs rfl rfl (aa hs (.inl rfl) rfl) fun a hs=>?_
  refine L hs rfl rfl (aa hs (.inl rfl) rfl) fun a hs=>?_
  refine Lc hs rfl rfl rfl rfl rfl hL.ok (look_ok (rs:= .one F g bx) (c:=c') (wr:=true) K K2 hD hL hl4 hse4 hP.zn hlb4) fun v5 w5 a hO hs=>?_
  obtain⟨_,hch5⟩:=hO
  refine L hs rfl rfl (aa hs (.inl rfl) rfl) fun a hs=>?_
  refine Lc hs rfl rfl rfl rfl rfl hA.ok (qK (m:=1) K K2 hA hSm (.inr ⟨rfl,b1,rfl,fun h=>absurd rfl h⟩)) fun v6 w6 a hO hs=>?_
  obtain⟨rfl,hch6⟩:=hO
  refine L hs rfl rfl (jo hs rfl rfl) fun a hs=>?_
  refine Le (ar (t:=false) (hs.ev rfl) (fun h=>by cases h) fun _=>aw (ae ?_))
  refine L hs rfl rfl (aa hs (.inl rfl) rfl) fun a hs=>?_
  refine L hs rfl rfl (bJ hs rfl rfl rfl rfl) fun a hs=>?_
  refine L hs rfl rfl (aa hs (.inr rfl) rfl) fun a hs=>?_
  exact Le ⟨m - 1,by simp only[RS.len]at*;omega,1,by simp only[RS.len]at*;omega,hs.keep [18,1,2,3,4,10,11,14,15,16],(hch4.trans' hch5 fun _ _ h=>h.elim).trans' hch6 fun _ _ h=>h.elim,fun h=>by omega⟩
theorem wH(K:Kit P y)(K2:nk P y z)(K3:nq P y z T LC CT sz zs)(hD:iL P y D)(hS:lk D S=some rS)(aX:rS.ck=cks P T)(hW:jF P W T true N)(hWok:aD P W=true)(hL:Body P look 23 [.tmp 2] (mu y z))(hA:Body P alike 29 [.tmp 6] (kq y z same))
  (hSm:Body P same 59 [.tmp 4] (jW y)){bx bc nc cc i:Nat}{xs:List Value}{row:List PV}{ccs:Array Value}{ct:TypeId}{fz:Nat×Nat}{C:FuncId}
  (hs:SL 95 [(1,.func (.func W) #[] #[]),(2,.func (.func S) #[] #[]),(3,.slice (some ⟨bc,0,none⟩) nc cc),(4,Ptr bx 0),(10,.int .i64 (i:Int))] a)
  (hbx:w.heap[bx]? =some (.cells xs.toArray T (0,0)))(hld:dD P w)(hcw:Cw w 0 row xs)(bL:Ty P T row)(hN:rz row≤N)(hbc:w.heap[bc]? =some (.cells ccs ct fz))(hi:i<nc)(hci:ccs[i]? =some (.func (.func C) #[] #[]))(hCok:aD P C=true)(hC:kY P D T N C)
  (kk:∀a' w',SL 95 [(1,.func (.func W) #[] #[]),(2,.func (.func S) #[] #[]),(3,.slice (some ⟨bc,0,none⟩) nc cc),(4,Ptr bx 0),(10,.int .i64 (i:Int))] a'→Ch (fun _=>False) w w'→Q .normal a' w'):
  NW P (sn y z T LC CT look same alike) Q a w:=by
 have hSok:aD P S=true:=(hD S rS hS).okD
 have hKs:rS.ck.length≤1000:=by rw[aX,K3.cks];exact K3.small
 refine ah (yA (z:=z) K3 hW hWok hs hbx hcw bL hN fun a w2 yb eJ bP hs c02 hyb hyb2 hy2 cj gd her2=>?_)
 have hl':bP.length=sz:=by
  rw[cj.len]
  unfold TyR at gd
  rw[dt]at gd
  rw[gd.1,K3.cks]
 have hcy:∀b o,w2.heap[b]? =some o→w.heap.size≤b→cz w2 w.heap.size w2.heap.size b=some o:=fun b o hb hl=>by unfold cz;rw[if_pos ⟨hl,aq hb⟩];exact hb
 obtain⟨d,dL⟩:=yz (P:=P) (o:=0) (b:=yb) hcy cj gd (hcy _ _ hy2 hyb) (fun j u hj=>by rw[Nat.zero_add];simpa using hj)
 rw[←aX]at dL
 have hin:= @xW w2 w.heap.size w2.heap.size
 have hz2:=xV w2 w.heap.size w2.heap.size
 have hout:∀b,w2.heap.size≤b→cz w2 w.heap.size w2.heap.size b=none:=fun b hb=>zL (by omega)
 have hy2':=hcy _ _ hy2 hyb
 generalize cz w2 w.heap.size w2.heap.size=cy at hcy dL hin hz2 hout hy2'
 refine ah (yB K K3 hs fun a w3 hs c23 hsz3 heyes=>?_)
 have hb12:=heyes 0 (by omega)
 have hb13:=heyes 1 (by omega)
 have hb14:=heyes 2 (by omega)
 have hb15:=heyes 3 (by omega)
 rw[Nat.add_zero]at hb12
 have hz3:=hz2.keep c23 fun _ _ h=>h
 refine ah (ae ?_)
 refine L hs rfl rfl (aa hs (.inl rfl) rfl) fun a hs=>?_
 refine Lc hs rfl rfl rfl rfl rfl hSok (kr K hD hS hKs (mark:=false) hb12 hz3 (hout _ (by omega)) dL) fun v4 w4 a hO hs=>?_
 obtain⟨_,vn12,vs12,e12,c12,hP12⟩:=hO
 obtain⟨hc12,hsee12⟩:=hP12.same rfl
 replace hc12:=hc12.symm
 subst hc12
 have c34:Ch (fun b=>b=w2.heap.size) w3 w4:=(hP12.quiet hz3).mono fun b _ h=>gm h
 have hE12:=hP12.eye
 have hB12:=hP12.fresh
 have hL12:=hP12.gr.small hKs
 have hz4:=hP12.zn
 have hlt12:=hE12.lt
 clear hP12
 have s34:=c34.size
 have k24:∀b o,w.heap.size≤b→w2.heap[b]? =some o→w4.heap[b]? =some o:=fun b o _ hb=>c34.at (c23.at hb fun h=>h) (by have:=aq hb;omega)
 have hy4:=k24 _ _ hyb hy2
 have hcw4:Cw w4 0 row bP:=by
  have:=cj.er
  rw[her2]at this
  exact(this.keep k24).down (Nat.zero_le _)
 have hld4:dD P w4:=hld.keep (Nat.le_trans c02.size (Nat.le_trans c23.size c34.size)) fun b o hb=>c34.at (c23.at (c02.at hb fun h=>h) fun h=>h) (by have:=aq hb;have:=c02.size;omega)
 have hbc4:w4.heap[bc]? =some (.cells ccs ct fz):=c34.at (c23.at (c02.at hbc fun h=>h) fun h=>h) (by have:=aq hbc;have:=c02.size;omega)
 refine Le (ah (ae ?_))
 refine L hs rfl rfl (aa hs (.inl rfl) rfl) fun a hs=>?_
 refine L hs rfl rfl (aa hs (.inl rfl) rfl) fun a hs=>?_
 refine L hs rfl rfl (jV hs rfl rfl rfl K3.lcU K3.ct hi) fun a hs=>?_
 refine L hs rfl rfl (ai hs rfl rfl K3.ct hbc4 hci) fun a hs=>?_
 refine Lc hs rfl rfl rfl rfl rfl hCok (hC w4 yb bP row hy4 hld4 hcw4 bL hN) fun l w5 a hO hs=>?_
 obtain⟨c45,rs,hres5,hgot⟩:=hO
 refine L hs rfl rfl (aa hs (.inr rfl) rfl) fun a hs=>?_
 have s45:=c45.size
 have hsz4:0<w4.heap.size:=by omega
 have hcr:∀b o,w5.heap[b]? =some o→w4.heap.size≤b→cz w5 w4.heap.size w5.heap.size b=some o:=fun b o hb hl=>by unfold cz;rw[if_pos ⟨hl,aq hb⟩];exact hb
 have jR:= @xW w5 w4.heap.size w5.heap.size
 have hrz5:=xV w5 w4.heap.size w5.heap.size
 have hseen:Seen P y D true (cz w5 w4.heap.size w5.heap.size) rs:=by
  cases rs with
  |no=>trivial
  |one F g bx'=>
   obtain⟨q1,_,q2,r,rowr,vsr,tt,q3,q4,q5,q6,q7,q8⟩:=hgot
   obtain⟨p1,p2,p3⟩:=wD q8
   obtain⟨d',hd'⟩:=wF (P:=P) (o:=0) (b:=bx') (wr:=true) (wC p1) (fun _=>hsz4) hcr q6 q7 p3 p2 (hcr _ _ q5 q2) (fun j u hj=>by rw[Nat.zero_add];simpa using hj)
   exact⟨q1,r,d',q3,q4,fun j k hj=>by have:=hd' j k hj;rwa[Nat.zero_add]at this⟩
 have hblr:∀bl,l.ownBlock=some bl→rs≠ .no→cz w5 w4.heap.size w5.heap.size bl≠none:=by
  intro bl hb gY
  cases rs with
  |no=>exact absurd rfl gY
  |one F g bx'=>
   obtain⟨bl',tl,rfl,h1⟩:=hres5
   simp only[Value.ownBlock,Ct]at hb
   subst hb
   rw[hcr _ _ h1 (hgot.2.1 _ rfl)];simp
 have hbl5:∀bl,l.ownBlock=some bl→rs≠ .no→w4.heap.size≤bl:=fun bl h1 h2=>(jR (hblr bl h1 h2)).1
 generalize cz w5 w4.heap.size w5.heap.size=cr at hcr jR hrz5 hseen hblr
 clear hgot hcw4 cj hy4 k24
 have hX:∀{wa wb:World} {Sx:Nat→Prop},gF wa l rs→Ch Sx wa wb→(∀b,w4.heap.size≤b→¬ Sx b)→gF wb l rs:=by
  intro wa wb Sx h hc hSx
  cases rs with
  |no=>exact h
  |one F g bx'=>exact h.keep fun b o hb hh=>hc.at hh (hSx b (hbl5 b hb (by simp)))
 have hz5:=hz4.keep c45 fun _ _ h=>h
 have hb13':w5.heap[w2.heap.size+1]? =some (.cells (an ao ao 0 false true) y.E (0,0)):=c45.at (c34.at hb13 (by omega)) fun h=>h
 refine Le (ah (ae ?_))
 refine L hs rfl rfl (aa hs (.inl rfl) rfl) fun a hs=>?_
 refine Lc hs rfl rfl rfl rfl rfl hSok (kr K hD hS hKs (mark:=false) hb13' hz5 (hout _ (by omega)) dL) fun v6 w6 a hO hs=>?_
 obtain⟨_,vn13,vs13,e13,c13,hP13⟩:=hO
 obtain⟨hc13,hsee13⟩:=hP13.same rfl
 replace hc13:=hc13.symm
 subst hc13
 have c56:Ch (fun b=>b=w2.heap.size+1) w5 w6:=(hP13.quiet hz5).mono fun b _ h=>gm h
 have hE13:=hP13.eye
 have hB13:=hP13.fresh
 have hz6:=hP13.zn
 have hlt13:=hE13.lt
 clear hP13
 have s56:=c56.size
 have hres6:=hX hres5 c56 (by intro b hb;omega)
 have hrz6:=hrz5.keep c56 fun b hb h=>by have:=jR hb;omega
 refine Le (ah (ae ?_))
 refine L hs rfl rfl (aa hs (.inl rfl) rfl) fun a hs=>?_
 refine Lc hs rfl rfl rfl rfl rfl hL.ok (look_ok (wr:=true) K K2 hD hL hres6 hseen hrz6 (fun b hb=>by have:=jR hb;omega)) fun told w7 a hO hs=>?_
 obtain⟨htold,c67⟩:=hO
 refine L hs rfl rfl (aa hs (.inr rfl) rfl) fun a hs=>?_
 have s67:=c67.size
 have hz7:=hz6.keep c67 fun _ _ h=>h
 refine Le (ah (ae ?_))
 refine L hs rfl rfl (aa hs (.inl rfl) rfl) fun a hs=>?_
 refine L hs rfl rfl (aQ [(2,.bool true),(4,.bool true)] rfl rfl K3.bu2) fun a hs=>?_
 refine L hs rfl rfl (bC hs rfl rfl) fun a hs=>?_
 have c78:=Ch.alloc (fun _=>False) w7 (.cells (an ao ao 0 true true) y.E)
 have hb50:=heap_alloc_new w7 (.cells (an ao ao 0 true true) y.E)
 have hz8:=hz7.keep c78 fun _ _ h=>h
 have s78:(w7.alloc (.cells (an ao ao 0 true true) y.E)).heap.size=w7.heap.size+1:=by simp
 change wpList P _ _ _ a (w7.alloc (.cells (an ao ao 0 true true) y.E))
 generalize w7.alloc (.cells (an ao ao 0 true true) y.E)=w8 at c78 hb50 hz8 s78 ⊢
 refine Lc hs rfl rfl rfl rfl rfl hSok (kr K hD hS hKs (mark:=true) hb50 hz8 (hout _ (by omega)) dL) fun v9 w9 a hO hs=>?_
 obtain⟨_,vn50,vs50,e50,cm,hPm⟩:=hO
 have c89:Ch (fun b=>b=w7.heap.size∨cy b≠none) w8 w9:=hPm.ch.mono fun b _ h=>h.imp gm id
 have hkeq:=hPm.keq
 have hz9:=hPm.zn
 clear hPm
 have s89:=c89.size
 have hplm:∀(j:Nat) (k:CK),rS.ck[j]? =some k→Pl P true true cm d yb (0+j) k:=fun j k hj=>(dL j k hj).keq hkeq
 have houtm:∀b,w2.heap.size≤b→cm b=none:=fun b hb=>(hkeq.1 b).1 (hout b hb)
 have hinm:∀b,cm b≠none→w.heap.size≤b∧b<w2.heap.size:=fun b hb=>by
  have:= @hin b fun h=>hb ((hkeq.1 b).1 h)
  omega
 have hcyb:∀b,cy b≠none→b<w2.heap.size:=fun b hb=>(hin hb).2.1
 have hE12_9:bO y w9 w2.heap.size vn12 vs12 e12 false true:=(((((hE12.keep c45 fun _ _ h=>h).keep c56 fun b hb h=>by
  have:=hB12 b hb;have:=hlt12 b hb;omega).keep c67 fun _ _ h=>h).keep c78 fun _ _ h=>h).keep c89 fun b hb h=>by
  have h1:=hB12 b hb;have h2:=hlt12 b hb
  rcases h with h|h
  ·omega
  ·have:=hcyb b h;omega)
 have hE13_9:bO y w9 (w2.heap.size+1) vn13 vs13 e13 false true:=((hE13.keep c67 fun _ _ h=>h).keep c78 fun _ _ h=>h).keep c89 fun b hb h=>by
  have h1:=hB13 b hb;have h2:=hlt13 b hb
  rcases h with h|h
  ·omega
  ·have:=hcyb b h;omega
 obtain⟨q12,hq12⟩:=hE12_9.cell
 obtain⟨q13,hq13⟩:=hE13_9.cell
 obtain⟨en,es⟩:=nr hsee12 hsee13
 refine Le (ah (ah (ae ?_)))
 refine L hs rfl rfl (jn [vn12,vs12,.bool false,.int .i64 e12.at',.bool true] hs rfl rfl K.eB rfl hq12 (fun j v hj=>by rw[Nat.zero_add];simpa[an]using hj)) fun a hs=>?_
 refine L hs rfl rfl (jn [vn13,vs13,.bool false,.int .i64 e13.at',.bool true] hs rfl rfl K.eB rfl hq13 (fun j v hj=>by rw[Nat.zero_add];simpa[an]using hj)) fun a hs=>?_
 refine Lc hs rfl rfl rfl rfl rfl hSm.ok (mW K hSm hE12_9 hE13_9 en es hL12.1 hL12.2) fun v10 w10 a hO hs=>?_
 obtain⟨rfl,c910⟩:=hO
 refine L hs rfl rfl (jo hs rfl rfl) fun a hs=>?_
 refine L hs rfl rfl (aa hs (.inl rfl) (v:= .bool false) rfl) fun a hs=>?_
 refine L hs (by rw[wg hs rfl rfl rfl rfl];rfl) rfl (aa hs (.inl rfl) rfl) fun a hs=>?_
 refine L hs (by rw[wg hs rfl rfl rfl rfl];rfl) rfl (aa hs (.inl rfl) rfl) fun a hs=>?_
 have s910:=c910.size
 have c69:∀b o,w4.heap.size≤b→w6.heap[b]? =some o→w9.heap[b]? =some o:=fun b o hb h=>c89.at (c78.at (c67.at h fun h=>h) fun h=>h) (by
  rintro(h'|h')
  ·have:=aq h;omega
  ·have:=hcyb b h';omega)
 have hres10:gF w10 l rs:=by
  have h7:=hX (hX hres6 c67 (fun _ _ h=>h)) c78 (fun _ _ h=>h)
  cases rs with
  |no=>exact h7
  |one F g bx'=>
   have h9:=h7.keep (w':=w9) fun b o hb hh=>c89.at hh (by
    have hbb:=hbl5 b hb (by simp)
    obtain⟨bl',tl,rfl,h1⟩:=hres6
    simp only[Value.ownBlock,Ct]at hb
    subst hb
    have:=aq h1
    rintro(h'|h')
    ·omega
    ·have:=hcyb _ h';omega)
   exact h9.keep fun b o _ hh=>c910.at hh fun h=>h
 have hrz10:Zn cr w10:=by
  intro b o hb
  have h6:=hrz6 b o hb
  exact c910.at (c69 b o (jR (by rw[hb];simp)).1 h6) fun h=>h
 refine Lc hs (by rw[wg hs rfl rfl rfl rfl];rfl) rfl rfl rfl rfl hL.ok (look_ok (wr:=true) K K2 hD hL hres10 hseen hrz10 (fun b hb=>by have:=jR hb;omega)) fun v59 w11 a hO hs=>?_
 obtain⟨hlook2,c1011⟩:=hO
 have hpair:zC y w11 told v59 (-1) rs.len:=by
  cases rs with
  |no=>
   obtain⟨p,cp,h⟩:=htold
   exact .inl ⟨rfl,p,cp,h⟩
  |one F g bx'=>
   obtain⟨b1,gZ,vs1,e1,rfl,hE1,hsee1,l1,l2,hB1⟩:=htold
   obtain⟨b2,fY,cW,e2,rfl,hE2,hsee2,_,_,_⟩:=hlook2
   have hlt1:=hE1.lt
   obtain⟨en',fi⟩:=nr hsee1 hsee2
   refine .inr ⟨rfl,b1,rfl,fun _=>⟨b2,gZ,vs1,fY,cW,e1,e2,false,false,false,false,rfl,?_,hE2,en',fi,l1,l2⟩⟩
   exact(((hE1.keep c78 fun _ _ h=>h).keep c89 fun b hb h=>by
    have h1:=(hB1 b hb).2;have h2:=hlt1 b hb
    rcases h with h|h
    ·omega
    ·have:=hcyb b h;omega).keep c910 fun _ _ h=>h).keep c1011 fun _ _ h=>h
 refine Lc hs (by rw[wg hs rfl rfl rfl rfl];rfl) rfl rfl rfl rfl hA.ok (qK K K2 hA hSm hpair) fun v60 w12 a hO hs=>?_
 obtain⟨rfl,c1112⟩:=hO
 refine L hs (by rw[wg hs rfl rfl rfl rfl];rfl) rfl (jo hs rfl rfl) fun a hs=>?_
 refine L hs rfl rfl (bM (b:=false) hs rfl rfl (fun h=>by cases h) (fun _=>rfl)) fun a hs=>?_
 have c912:=(c910.trans c1011).trans c1112
 have s912:=c912.size
 refine Le (ar (t:=false) (hs.ev rfl) (fun h=>by cases h) fun _=>aw ?_)
 have hz12:=hz9.keep c912 fun _ _ h=>h
 have c312:∀b o,(b=w2.heap.size+2∨b=w2.heap.size+3)→w3.heap[b]? =some o→w12.heap[b]? =some o:=fun b o hb h=>c912.at (c89.at (c78.at (c67.at (c56.at (c45.at (c34.at h (by omega)) fun h=>h) (by omega)) fun h=>h) fun h=>h) (by
  rintro(h'|h')
  ·omega
  ·have:=hcyb b h';omega)) fun h=>h
 have hb14':=c312 _ _ (.inl rfl) hb14
 have hb15':=c312 _ _ (.inr rfl) hb15
 refine ah (ae ?_)
 refine L hs rfl rfl (aa hs (.inl rfl) rfl) fun a hs=>?_
 refine Lc hs rfl rfl rfl rfl rfl hSok (kr K hD hS hKs (mark:=false) hb14' hz12 (houtm _ (by omega)) hplm) fun v13' w13 a hO hs=>?_
 obtain⟨_,vn14,vs14,e14,c14,hP14⟩:=hO
 obtain⟨hc14,hsee14⟩:=hP14.same rfl
 replace hc14:=hc14.symm
 subst hc14
 have c1213:Ch (fun b=>b=w2.heap.size+2) w12 w13:=(hP14.quiet hz12).mono fun b _ h=>gm h
 have hE14:=hP14.eye
 have hB14:=hP14.fresh
 have hL14:=hP14.gr.small hKs
 have hz13:=hP14.zn
 have hlt14:=hE14.lt
 clear hP14
 have s1213:=c1213.size
 have hres13:gF w13 l rs:=by
  have h12:gF w12 l rs:=hX (hX hres10 c1011 (fun _ _ h=>h)) c1112 (fun _ _ h=>h)
  exact hX h12 c1213 (by intro b hb;omega)
 have hrz13:Zn cr w13:=((hrz10.keep c1011 fun _ _ h=>h).keep c1112 fun _ _ h=>h).keep c1213 fun b hb h=>by have:=jR hb;omega
 refine Le (ah (wG K K2 K3 hD hL hA hSm (hs.keep [1,2,3,4,10,11,14,15,16]) hres13 hseen hrz13 hblr fun a w16 hs c1316=>?_))
 have s1316:=c1316.size
 have hz16:=hz13.keep c1316 fun b hb h=>by have h1:=hinm b hb;have h2:=jR h;omega
 have hb15'':w16.heap[w2.heap.size+3]? =some (.cells (an ao ao 0 false true) y.E (0,0)):=c1316.at (c1213.at hb15' (by omega)) fun h=>by have:=jR h;omega
 refine ah (ae ?_)
 refine L hs rfl rfl (aa hs (.inl rfl) rfl) fun a hs=>?_
 refine Lc hs rfl rfl rfl rfl rfl hSok (kr K hD hS hKs (mark:=false) hb15'' hz16 (houtm _ (by omega)) hplm) fun v17 w17 a hO hs=>?_
 obtain⟨_,vn15,vs15,e15,c15,hP15⟩:=hO
 obtain⟨hc15,hsee15⟩:=hP15.same rfl
 replace hc15:=hc15.symm
 subst hc15
 have c1617:Ch (fun b=>b=w2.heap.size+3) w16 w17:=(hP15.quiet hz16).mono fun b _ h=>gm h
 have hE15:=hP15.eye
 clear hP15
 have s1617:=c1617.size
 have hE14_17:bO y w17 (w2.heap.size+2) vn14 vs14 e14 false true:=(hE14.keep c1316 fun b hb h=>by
  have h1:=hB14 b hb;have h2:=jR h;omega).keep c1617 fun b hb h=>by
  have h1:=hB14 b hb;omega
 obtain⟨q14,hq14⟩:=hE14_17.cell
 obtain⟨q15,hq15⟩:=hE15.cell
 obtain⟨en2,es2⟩:=nr hsee14 hsee15
 refine Le (ah (ae ?_))
 refine L hs rfl rfl (jn [vn14,vs14,.bool false,.int .i64 e14.at',.bool true] hs rfl rfl K.eB rfl hq14 (fun j v hj=>by rw[Nat.zero_add];simpa[an]using hj)) fun a hs=>?_
 refine L hs rfl rfl (jn [vn15,vs15,.bool false,.int .i64 e15.at',.bool true] hs rfl rfl K.eB rfl hq15 (fun j v hj=>by rw[Nat.zero_add];simpa[an]using hj)) fun a hs=>?_
 refine Lc hs rfl rfl rfl rfl rfl hSm.ok (mW K hSm hE14_17 hE15 en2 es2 hL14.1 hL14.2) fun v18 w18 a hO hs=>?_
 obtain⟨rfl,c1718⟩:=hO
 refine L hs rfl rfl (jo hs rfl rfl) fun a hs=>?_
 have s02:=c02.size
 refine Le (ar (t:=false) (hs.ev rfl) (fun h=>by cases h) fun _=>aw (kk _ _ (hs.keep [1,2,3,4,10]) ?_))
 have f4:=(c02.trans c23).trans' c34 fun b hb h=>by omega
 have f6:=(f4.trans c45).trans' c56 fun b hb h=>by omega
 have f9:=((f6.trans c67).trans c78).trans' c89 fun b hb h=>by
  rcases h with h|h
  ·omega
  ·have:=hin h;omega
 have f13:=(f9.trans c912).trans' c1213 fun b hb h=>by omega
 have f17:=(f13.trans' c1316 fun b hb h=>by have:=jR h;omega).trans' c1617 fun b hb h=>by omega
 exact f17.trans c1718
end
end Go.TL.H
namespace Go.TL.H
open Go
theorem wI{P:Program}{y:TY}{z:TZ}{T LC CT:TypeId}{sz N:Nat}{zs:List Value}{D:cT}{S W lE look same alike:FuncId}{rS:Row}(K:Kit P y)(K2:nk P y z)(K3:nq P y z T LC CT sz zs)(hD:iL P y D)(hS:lk D S=some rS)(aX:rS.ck=cks P T)
  (hW:jF P W T true N)(hWok:aD P W=true)(hG:Body P lE 27 [.tmp 2] (nT y))(hL:Body P look 23 [.tmp 2] (mu y z))(hA:Body P alike 29 [.tmp 6] (kq y z same))(hSm:Body P same 59 [.tmp 4] (jW y))
  {f:FuncId}(hB:Body P f 95 [.tmp 8] (qN y z T LC CT lE look same alike)){w:World}{row:List PV}{xs:List Value}{bc nc cc:Nat}{ccs:Array Value}{ct:TypeId}{fz:Nat×Nat}
  (hwz:∃d,∀(j:Nat) (k:CK),(cks P T)[j]? =some k→∃u,xs[j]? =some u∧WZ P false false (fun b=>w.heap[b]?) d k u)(hld:dD P w)(hcw:Cw w 0 row xs)(bL:Ty P T row)(hN:rz row≤N)(hbc:w.heap[bc]? =some (.cells ccs ct fz))(hnc:nc≤1000)(hcc:∀i,i<nc→∃C,ccs[i]? =some (.func (.func C) #[] #[])∧aD P C=true∧kY P D T N C):
  Ret P f [.agg xs.toArray,.func (.func W) #[] #[],.func (.func S) #[] #[],.slice (some ⟨bc,0,none⟩) nc cc] w fun v w'=>v= .bool true∧Ch (fun _=>False) w w':=by
 have hSok:aD P S=true:=(hD S rS hS).okD
 have hKs:rS.ck.length≤1000:=by rw[aX,K3.cks];exact K3.small
 refine aJ hB ?_
 have hs:=SL.init (n:=95) [.agg xs.toArray,.func (.func W) #[] #[],.func (.func S) #[] #[],.slice (some ⟨bc,0,none⟩) nc cc] rfl
 revert hs
 generalize({tmps:=_,defers:=[]}:Act)=a
 intro hs
 refine ah (ae ?_)
 refine L hs rfl rfl (bC hs rfl rfl) fun a hs=>?_
 have hcv:(Value.agg xs.toArray).cells=xs.toArray:=rfl
 rw[hcv]
 have g1:=Ch.alloc (fun _=>False) w (.cells xs.toArray T)
 have hbx:=heap_alloc_new w (.cells xs.toArray T)
 have z1:(w.alloc (.cells xs.toArray T)).heap.size=w.heap.size+1:=by simp
 generalize w.alloc (.cells xs.toArray T)=w1 at g1 hbx z1 ⊢
 refine L hs rfl rfl (aa hs (.inr rfl) rfl) fun a hs=>?_
 refine Le (ah (ae ?_))
 refine L hs rfl rfl (dJ rfl K.eB) fun a hs=>?_
 have g2:=Ch.alloc (fun _=>False) w1 (.cells [ao,ao,.bool false,.int .i64 0,.bool false].toArray y.E)
 have hb9:(w1.alloc (.cells [ao,ao,.bool false,.int .i64 0,.bool false].toArray y.E)).heap[w1.heap.size]? =some (.cells (an ao ao 0 false false) y.E (0,0)):=heap_alloc_new w1 (.cells [ao,ao,.bool false,.int .i64 0,.bool false].toArray y.E)
 have z2:(w1.alloc (.cells [ao,ao,.bool false,.int .i64 0,.bool false].toArray y.E)).heap.size=w1.heap.size+1:=by simp
 generalize w1.alloc (.cells [ao,ao,.bool false,.int .i64 0,.bool false].toArray y.E)=w2 at g2 hb9 z2 ⊢
 have g12:=g1.trans g2
 have hbx2:=g2.at hbx fun h=>h
 have hc0:∀b o,w.heap[b]? =some o→0≤b→(fun b=>if b=w1.heap.size then none else w2.heap[b]? :aK) b=some o:=by
  intro b o hb _
  have:=aq hb
  simp only
  rw[if_neg (by omega)];exact g12.at hb fun h=>h
 have hcbx:(fun b=>if b=w1.heap.size then none else w2.heap[b]? :aK) w.heap.size=some (.cells xs.toArray T (0,0)):=by
  simp only
  rw[if_neg (by omega)];exact hbx2
 have hcn:(fun b=>if b=w1.heap.size then none else w2.heap[b]? :aK) w1.heap.size=none:=by simp
 have hzx:Zn (fun b=>if b=w1.heap.size then none else w2.heap[b]? :aK) w2:=by
  intro b o hb
  simp only at hb
  split at hb
  ·cases hb
  ·exact hb
 generalize(fun b=>if b=w1.heap.size then none else w2.heap[b]? :aK)=cx at hc0 hcbx hcn hzx
 obtain⟨d,hwz⟩:=hwz
 have dL:∀(j:Nat) (k:CK),(cks P T)[j]? =some k→Pl P false false cx d w.heap.size (0+j) k:=by
  intro j k hj
  obtain⟨u,hu,hz⟩:=hwz j k hj
  exact⟨xs.toArray,T,(0,0),u,hcbx,by rw[Nat.zero_add];simpa using hu,hz.xT fun b o hb=>hc0 b o hb (Nat.zero_le _),fun _=>rfl,fun _=>by simp⟩
 rw[←aX]at dL
 have hEy:=mr (y:=y) hb9
 have hdis:∀b,EB w1.heap.size ao ao b→cx b=none:=fun b hb=>by rw[gm hb];exact hcn
 refine Le (ah (ae ?_))
 refine L hs rfl rfl (aa hs (.inl rfl) rfl) fun a hs=>?_
 refine Lc hs rfl rfl rfl rfl rfl hSok (nS K (D:=D) (mark:=false) (room:=false) (wr:=false) hD (fun h=>by cases h) d rS.bp S rS hS (Nat.le_refl _) w2 w1.heap.size w.heap.size 0 ao ao ⟨[],[],0⟩ cx hEy hzx hdis dL (bd0 hKs)) fun v3 w3 a hO hs=>?_
 obtain⟨_,vn,vs,e,cx',hP⟩:=hO
 have c23:Ch (fun b=>b=w1.heap.size) w2 w3:=(hP.quiet hzx).mono fun b _ h=>gm h
 have hE3:=hP.eye
 have hL3:=hP.gr.small hKs
 clear hP
 obtain⟨q,hq⟩:=hE3.cell
 have f3:=g12.trans' c23 fun b hb h=>by omega
 refine Le (ah (ah (ae ?_)))
 refine L hs rfl rfl (jn [vn,vs,.bool false,.int .i64 e.at',.bool false] hs rfl rfl K.eB rfl hq (fun j v hj=>by rw[Nat.zero_add];simpa[an]using hj)) fun a hs=>?_
 refine Lc hs rfl rfl rfl rfl rfl hG.ok (wy K hG (a1:=e.at') (m1:=false) (r1:=false) hE3.lists (by omega)) fun v4 w4 a hO hs=>?_
 obtain⟨⟨b,rfl,_⟩,c34⟩:=hO
 have f4:=f3.trans c34
 refine Le (ar (t:=b) (hs.ev rfl) (fun hb=>?_) fun hb=>aw ?_)
 ·exact kp (hs.keep []) rfl fun a' hs=>cH hs rfl ⟨rfl,f4⟩
 ·have hbx4:w4.heap[w.heap.size]? =some (.cells xs.toArray T (0,0)):=c34.at (c23.at hbx2 (by omega)) fun h=>h
  refine ah (ah (ae ?_))
  refine L hs rfl rfl (aa hs (.inr rfl) rfl) fun a hs=>?_
  refine Le (au (aW (fun m a w5=>∃i:Nat,i+m=nc∧SL 95 [(1,.func (.func W) #[] #[]),(2,.func (.func S) #[] #[]),(3,.slice (some ⟨bc,0,none⟩) nc cc),(4,Ptr w.heap.size 0),(10,.int .i64 (i:Int))] a∧Ch (fun _=>False) w4 w5) nc
   ⟨0,by omega,hs.keep [1,2,3,4,10],Ch.refl _ _⟩ ?_))
  rintro m a w5 ⟨i,him,hs,c45⟩
  refine ah (ah (ae ?_))
  refine L hs rfl rfl (aa hs (.inl rfl) rfl) fun a hs=>?_
  refine L hs rfl rfl (aa hs (.inl rfl) rfl) fun a hs=>?_
  refine L hs rfl rfl (aM hs rfl rfl K3.lcU) fun a hs=>?_
  refine L hs rfl rfl (aG hs rfl rfl rfl rfl) fun a hs=>?_
  refine Le (ar (t:=decide ((i:Int)<(nc:Int))) (hs.ev rfl) (fun aF=>aw ?_) fun aF=>aN ?_)
  ·have aF:=of_decide_eq_true aF
   obtain⟨C,h1,h2,h3⟩:=hcc i (by omega)
   have f5:=f4.trans c45
   refine ah (au (wH K K2 K3 hD hS aX hW hWok hL hA hSm (hs.keep [1,2,3,4,10]) (c45.at hbx4 fun h=>h) (hld.ch f5) (hcw.ch f5) bL hN (f5.at hbc fun h=>h) (by omega) h1 h2 h3 fun a w6 hs c56=>?_))
   refine ae ?_
   refine L hs rfl rfl (aa hs (.inl rfl) rfl) fun a hs=>?_
   refine L hs rfl rfl (bJ hs rfl rfl rfl rfl) fun a hs=>?_
   refine L hs rfl rfl (aa hs (.inr rfl) rfl) fun a hs=>?_
   have hw:IntKind.wrap .i64 ((i:Int)+1)=((i+1:Nat):Int):=by rw[dc (by omega) (by omega)];omega
   have fe:=hs.keep [1,2,3,4,10]
   rw[hw]at fe
   exact Le ⟨m - 1,by omega,i+1,by omega,fe,c45.trans c56⟩
  ·exact kp (hs.keep []) rfl fun a' hs=>cH hs rfl ⟨rfl,f4.trans c45⟩
end Go.TL.H
namespace Go.TL.H
open Go
structure Blk(H:Type)(b:DataW H→Nat)(ba:List (DataW H)→Nat):Prop where
 str:∀l:List UInt8,b (.lit (.string l))=l.length+1
 one:∀d,1≤b d
 sl:∀x y,b (.slice x y)=ba x+ba y+1
 agg:∀x,b (.agg x)=ba x+1
 nil:ba []=0
 cons:∀x r,ba (x::r)=b x+ba r
def qO(P:Program)(lay:TypeId→Bool)(ck:TypeId→List CK):List Field→Nat→Bool
 | [],_=>true
 |f::r,off=>match Nat.beq f.offset off,Nat.beq (P.cellsOf f.type) (ck f.type).length,lay f.type with
  |true,true,true=>qO P lay ck r (off+P.cellsOf f.type)
  |_,_,_=>false
def j6(P:Program):Nat→TypeId→Bool
 |0,_=>false
 |m+1,t=>match P.underlying t with
  |some (.int _)=>true
  |some .bool=>true
  |some .string=>true
  |some (.slice _)=>true
  |some (.struct fs)=>match qO P (j6 P m) (dC P m) fs.toList 0 with
   |true=>Nat.beq (P.cellsOf t) (flat (dC P m) fs.toList).length
   |false=>false
  |_=>false
theorem mw{P:Program}{t:TypeId}(h:j6 P 8 t=true):dC P 8 t=cks P t:=by
 unfold cks
 cases hu:P.underlying t with
 |none=>simp[j6,hu]at h
 |some _=>rfl
structure wJ(P:Program)(E:TypeId→Prop)(e:TypeId):Prop where
 lay:j6 P 8 e=true
 pos:0<(cks P e).length
 size:P.cellsOf e=(cks P e).length
 sub:∀e',.sl e'∈cks P e→E e'
structure dz(P:Program)(w:World)(ks:List CK)(cs:List Value)(row:List PV):Prop where
 cw:Cw w 0 row cs
 ty:WTs P ks row
 wz:∃d,∀(j:Nat) (k:CK),ks[j]? =some k→∃u,cs[j]? =some u∧WZ P false false (fun b=>w.heap[b]?) d k u
theorem dz.nil{P:Program}{w:World}:dz P w [] [] []:=⟨⟨rfl,fun j x h=>by simp at h⟩,trivial,0,fun j k h=>by simp at h⟩
theorem dz.app{P:Program}{w:World}{k1 k2:List CK}{c1 c2:List Value}{r1 r2:List PV}(a:dz P w k1 c1 r1)(b:dz P w k2 c2 r2):dz P w (k1++k2) (c1++c2) (r1++r2):=by
 have l1:=((aI _ _).1 a.ty).1
 have l2:=a.cw.len
 refine⟨⟨by simp[a.cw.len,b.cw.len],fun j x hj=>?_⟩,?_,?_⟩
 ·rw[List.getElem?_append]at hj ⊢
  split at hj
  ·rw[if_pos (by omega)];exact a.cw.rep j x hj
  ·rw[if_neg (by omega),l2];exact b.cw.rep _ x hj
 ·rw[aI]
  refine⟨by simp[l1,((aI _ _).1 b.ty).1],fun j ck x h1 h2=>?_⟩
  rw[List.getElem?_append]at h1 h2
  split at h1
  ·rw[if_pos (by omega)]at h2;exact((aI _ _).1 a.ty).2 j ck x h1 h2
  ·rw[if_neg (by omega),l1]at h2;exact((aI _ _).1 b.ty).2 _ ck x h1 h2
 ·obtain⟨d1,h1⟩:=a.wz
  obtain⟨d2,h2⟩:=b.wz
  refine⟨max d1 d2,fun j k hj=>?_⟩
  rw[List.getElem?_append]at hj ⊢
  split at hj
  ·rw[if_pos (by omega)]
   obtain⟨u,q1,q2⟩:=h1 j k hj
   exact⟨u,q1,q2.up _ (by omega)⟩
  ·rw[if_neg (by omega),l2,l1]
   obtain⟨u,q1,q2⟩:=h2 _ k hj
   exact⟨u,q1,q2.up _ (by omega)⟩
theorem dz.one{P:Program}{w:World}{k:CK}{u:Value}{x:PV}(h1:Rep w NB 0 x u)(h2:WT P k x)(d:Nat)(h3:WZ P false false (fun b=>w.heap[b]?) d k u):dz P w [k] [u] [x]:=by
 refine⟨⟨rfl,fun j y hj=>?_⟩,⟨h2,trivial⟩,d,fun j k' hj=>?_⟩
 ·cases j with
  |zero=>simp at hj;subst hj;exact⟨u,rfl,h1⟩
  |succ j=>simp at hj
 ·cases j with
  |zero=>simp at hj;subst hj;exact⟨u,rfl,h3⟩
  |succ j=>simp at hj
theorem zM(a b:List PV):rz (a++b)=rz a+rz b:=by
 induction a with
 |nil=>simp[fc]
 |cons x a ih=>simp only[List.cons_append,dG,ih];omega
section
variable {H:Type} {b:DataW H→Nat} {ba:List (DataW H)→Nat} {enc:TypeId×Value→H} {P:Program} {w:World} {E:TypeId→Prop}
theorem uT(hb:Blk H b ba):∀{l:List (DataW H)} {i:Nat} {d:DataW H},l[i]? =some d→b d≤ba l
 | [],i,d,h=>by simp at h
 |x::r,0,d,h=>by simp at h;subst h;rw[hb.cons];omega
 |x::r,i+1,d,h=>by rw[hb.cons];have:=uT hb (l:=r) (i:=i) (d:=d) (by simpa using h);omega
theorem uU(hb:Blk H b ba):∀(l:List (DataW H)),l.length≤ba l
 | []=>by simp
 |x::r=>by rw[hb.cons];have:=uU hb r;have:=hb.one x;simp;omega
theorem so(hb:Blk H b ba):∀(l:List (DataW H)) (f:Nat→List PV),(∀(i:Nat) d,l[i]? =some d→rz (f i)+1≤2*b d)→rsz ((List.range l.length).map f)≤2*ba l
 | [],f,_=>by simp[mi]
 |x::r,f,h=>by
  have ih:=so hb r (fun i=>f (i+1)) (fun i d hi=>h (i+1) d (by simpa using hi))
  have h0:=h 0 x rfl
  simp only[List.length_cons,List.range_succ_eq_map,List.map_cons,List.map_map,kQ,hb.cons]
  have e:(List.range r.length).map (f ∘ Nat.succ)=(List.range r.length).map fun i=>f (i+1):=rfl
  rw[e];omega
theorem wK{a:Addr}{k n:Nat}{ys:List Value}(h:w.cells? 0 (a.add k) n=some ys)(hn:0<n):
  ys.length=n∧(k=0→a.spot=none)∧∃cs t fz,w.heap[a.block]? =some (.cells cs t fz)∧∀j,j<n→cs[a.off+k+j]? =ys[j]? :=by
 obtain⟨_,hl,hg⟩:=World.cells?_some h
 have hadd:∀i,((a.add k).add i).block=a.block∧((a.add k).add i).off=a.off+k+i:=by
  intro i;unfold Addr.add;split<;>split<;>simp<;>omega
 have h0:=hg 0 hn
 have h0':=h0
 unfold World.cell? at h0
 rw[(hadd 0).1]at h0
 have hsome:∃y,ys[0]? =some y:=⟨ys[0],by simp⟩
 obtain⟨y,hy⟩:=hsome
 rw[hy]at h0 h0'
 have hsp:=World.cell?_spot h0'
 cases hb:w.heap[a.block]? with
 |none=>simp[hb]at h0
 |some blk=>
 cases blk with
 |cells cs t fz=>
  refine⟨hl,fun hk=>?_,cs,t,fz,rfl,fun j hj=>?_⟩
  ·subst hk;simpa[Addr.add]using hsp
  ·have:=hg j hj
   have hyj:∃y,ys[j]? =some y:=⟨ys[j],by simp⟩
   obtain⟨yj,hyj⟩:=hyj
   rw[hyj]at this
   have hs:=World.cell?_spot this
   unfold World.cell? at this
   rw[(hadd j).1,(hadd j).2,hb]at this
   simp[hs]at this
   rw[hyj, ←this]
 |_=>simp[hb]at h0
theorem sq(g:Nat→Nat):∀n:Nat,∃D,∀i,i<n→g i≤D
 |0=>⟨0,fun i h=>by omega⟩
 |n+1=>by
  obtain⟨D,hD⟩:=sq g n
  exact⟨max D (g n),fun i hi=>by
   rcases Nat.lt_succ_iff_lt_or_eq.1 hi with h|h
   ·have:=hD i h;omega
   ·subst h;omega⟩
theorem yC{k:IntKind}{n:Int}(h:(Lit.int k n).wf=true):k.min≤n∧n≤k.max:=by simpa[Lit.wf]using h
theorem wL{a b:Nat}(h:Nat.beq a b=true):a=b:=Cv h
theorem wM(hb:Blk H b ba){lay:TypeId→Bool}{ck:TypeId→List CK}{tr:TypeId→List Value→Option (DataW H×List MemPlace)}(cs:List Value)(big:Nat)
  (ih:∀(t:TypeId) (cs:List Value) (d:DataW H) (ps:List MemPlace),tr t cs=some (d,ps)→w.noneFrozen ps→lay t=true→(∀e,.sl e∈ck t→E e)→b d≤big→∃row,dz P w (ck t) cs row∧rz row+1≤2*b d):
  ∀(fs:List Field) (off:Nat) (xs:List (DataW H×List MemPlace)),(fs.mapM fun f=>tr f.type ((cs.drop f.offset).take (P.cellsOf f.type)))=some xs→
    qO P lay ck fs off=true→w.noneFrozen (xs.flatMap (·.2))→(∀e,.sl e∈flat ck fs→E e)→ba (xs.map (·.1))≤big→
    ∃row,dz P w (flat ck fs) ((cs.drop off).take (flat ck fs).length) row∧rz row≤2*ba (xs.map (·.1)):=by
 intro fs
 induction fs with
 |nil=>intro off xs h _ _ _ _;exact⟨[],by simpa[flat]using dz.nil,by simp[fc]⟩
 |cons f r ihf=>
  intro off xs h hl dZ hs hbig
  rw[List.mapM_cons]at h
  cases hx:tr f.type ((cs.drop f.offset).take (P.cellsOf f.type))with
  |none=>simp[hx]at h
  |some y=>
  cases hxs:r.mapM fun f=>tr f.type ((cs.drop f.offset).take (P.cellsOf f.type))with
  |none=>simp[hx,hxs]at h
  |some ys=>
  simp[hx,hxs]at h
  subst h
  simp only[qO]at hl
  split at hl
  case h_2=>simp at hl
  rename_i q1 q2 q3
  have q1:=wL q1
  have q2:=wL q2
  simp only[List.map_cons,hb.cons]at hbig ⊢
  obtain⟨r1,g1,z1⟩:=ih f.type _ y.1 y.2 hx (fun b o hm=>dZ b o (by simp[hm])) q3 (fun e he=>hs e (by simp[flat,he])) (by omega)
  obtain⟨r2,g2,z2⟩:=ihf (off+P.cellsOf f.type) ys hxs hl (fun b o hm=>dZ b o (by
   simp only[List.flatMap_cons,List.mem_append];exact .inr hm)) (fun e he=>hs e (by simp[flat,he])) (by omega)
  refine⟨r1++r2,?_,by rw[zM];omega⟩
  have:=g1.app g2
  have e:((cs.drop off).take (flat ck (f::r)).length)=(cs.drop f.offset).take (P.cellsOf f.type)++((cs.drop (off+P.cellsOf f.type)).take (flat ck r).length):=by
   simp only[flat,List.length_append,q1, ←q2,List.take_add,List.drop_drop]
  rw[e];exact this
theorem wN(hb:Blk H b ba)(hE:∀e,E e→wJ P E e):∀(fuel m:Nat) (t:TypeId) (cs:List Value) (d:DataW H) (ps:List MemPlace),DataW.trod enc P w 0 (fun _=>true) true fuel t cs=some (d,ps)→w.noneFrozen ps→j6 P m t=true→(∀e,.sl e∈dC P m t→E e)→b d≤1048576→
  ∃row,dz P w (dC P m t) cs row∧rz row+1≤2*b d:=by
 intro fuel
 induction fuel with
 |zero=>intro m t cs d ps h;simp[DataW.trod]at h
 |succ fuel ih=>
  intro m t cs d ps h dZ jh gN hd
  cases m with
  |zero=>simp[j6]at jh
  |succ m=>
  have hone:=hb.one d
  simp only[j6]at jh
  simp only[dC]at gN ⊢
  cases hu:P.underlying t with
  |none=>simp[hu]at jh
  |some ty=>
  simp only[hu]at jh gN ⊢
  cases ty<;>simp only[Bool.false_eq_true]at jh
  case bool=>
   simp only[DataW.trod,hu]at h
   split at h<;>simp_all
   rename_i x
   refine⟨[.v (.bool x)],.one (.v _ rfl) (.bool x) 0 (.bool 0 x),?_⟩
   simp[dG,fc,pz];omega
  case int k=>
   simp only[DataW.trod,hu]at h
   split at h<;>simp_all
   have hr:=yC h.1.2
   refine⟨[.v (.int _ _)],.one (.v _ rfl) (.int _ _ hr.1 hr.2) 0 (.int 0 _ _ hr.1 hr.2),?_⟩
   simp[dG,fc,pz];omega
  case string=>
   simp only[DataW.trod,hu]at h
   split at h<;>simp_all
   rename_i x
   obtain⟨h1,h2,h3⟩:=h
   have hl:x.size+1=b d:=by
    rw[←h2,hb.str];simp
   have hm:x.size≤bZ:=by unfold bZ;omega
   refine⟨[.v (.string x)],.one (.v _ rfl) (.str x hm) 0 (.str 0 x hm),?_⟩
   simp[dG,fc,pz];omega
  case slice e=>
   have hel:=hE e (gN e (by simp))
   have hn:0<P.cellsOf e:=by rw[hel.size];exact hel.pos
   have hno:∀(bo:Option Addr) (cap:Nat),dz P w [.sl e] [.slice bo 0 cap] [.sl []]:=fun bo cap=>
    .one (.nil bo cap) (.sl e [] (by simp) (by simp) (by simp)) 0 (.nil 0 e bo cap (by simp))
   simp only[DataW.trod,hu]at h
   split at h
   all_goals (try (exfalso;simp_all;done))
   ·refine⟨[.sl []],hno _ _,?_⟩
    simp[dG,fc,pz,mi];omega
   ·rename_i e' a len cap heq
    obtain rfl:e=e':=by simp_all
    simp only[Nat.zero_le,true_and,if_true]at h
    split at h
    case isFalse=>simp at h
    rename_i hlc
    simp only[Option.bind_eq_some_iff,Option.map_eq_some_iff]at h
    obtain⟨elems,he,rest,hr,hdp⟩:=h
    obtain⟨rfl,rfl⟩:=Prod.mk.inj hdp
    have hlen:elems.length=len:=by simpa using mapM_some_length he
    have hbd:=hb.sl (elems.map (·.1)) (rest.map (·.1))
    have hbl:=uU hb (elems.map (·.1))
    simp only[List.length_map,hlen]at hbl
    have hz:∀i:Nat,∃row:List PV,∃ys:List Value,∃D:Nat,i<len→w.cells? 0 (a.add (i*P.cellsOf e)) (P.cellsOf e)=some ys∧Cw w 0 row ys∧WTs P (cks P e) row∧
      (∀(j:Nat) (k:CK),(cks P e)[j]? =some k→∃u,ys[j]? =some u∧WZ P false false (fun b=>w.heap[b]?) D k u)∧∀x,(elems.map (·.1))[i]? =some x→rz row+1≤2*b x:=by
     intro i
     by_cases hi:i<len
     ·have:=mapM_some_get he i i (by simp[hi])
      have hx:elems[i]? =some elems[i]:=by simp
      rw[hx]at this
      obtain⟨ys,hys,htr⟩:=Option.bind_eq_some_iff.1 this
      have hxm:(elems.map (·.1))[i]? =some elems[i].1:=by rw[List.getElem?_map,hx];rfl
      have hbi:=uT hb hxm
      obtain⟨row,hg,hrz⟩:=ih 8 e ys elems[i].1 elems[i].2 htr (fun b o hm=>dZ b o (by
       refine CB (.inr (List.mem_flatMap.2 ⟨elems[i],CB (.inl (by simp)),hm⟩))))
       hel.lay (fun e' he'=>hel.sub e' (mw hel.lay▸he')) (by omega)
      rw[mw hel.lay]at hg
      obtain⟨D,hD⟩:=hg.wz
      exact⟨row,ys,D,fun _=>⟨hys,hg.cw,hg.ty,hD,fun x hx'=>by rw[hxm]at hx';obtain rfl:=Option.some.inj hx';exact hrz⟩⟩
     ·exact⟨[],[],0,fun h=>absurd h hi⟩
    obtain⟨row,hz⟩:=Classical.axiomOfChoice hz
    obtain⟨ys,hz⟩:=Classical.axiomOfChoice hz
    obtain⟨D,hz⟩:=Classical.axiomOfChoice hz
    rcases Nat.eq_zero_or_pos len with h0|jQ
    ·subst h0
     rw[heq]
     refine⟨[.sl []],hno _ _,?_⟩
     simp[dG,fc,pz,mi];omega
    ·have hat:∀i,i<len→_:=fun i hi=>wK (hz i hi).1 hn
     obtain⟨cA,hsp,blk,bt,fz,hblk,_⟩:=hat 0 jQ
     have hsp:a.spot=none:=hsp (by simp)
     have gI:∀i,i<len→∀j,j<P.cellsOf e→blk[a.off+i*P.cellsOf e+j]? =(ys i)[j]? :=by
      intro i hi j hj
      obtain⟨_,_,blk',bt',fz',hblk',hc'⟩:=hat i hi
      rw[hblk]at hblk'
      obtain⟨rfl,rfl,rfl⟩:blk=blk'∧bt=bt'∧fz=fz':=by simpa using hblk'
      exact hc' j hj
     obtain⟨DD,hDD⟩:=sq D len
     have ha:a=⟨a.block,a.off,none⟩:=by rw[←hsp]
     have hrl:∀i,i<len→(row i).length=P.cellsOf e:=fun i hi=>by
      rw[((aI _ _).1 (hz i hi).2.2.1).1,hel.size]
     let rows:=(List.range len).map row
     have mS:rows.length=len:=by simp[rows]
     have iB:∀(i:Nat) r,rows[i]? =some r→i<len∧r=row i:=by
      intro i r eL
      have hi:i<len:=by rw[←mS];exact(CA eL).1
      simp[rows,hi]at eL
      exact⟨hi,eL.symm⟩
     let F:Nat→Nat→Value:=fun i j=>(blk[a.off+i*P.cellsOf e+j]?).getD .nilIface
     have hF:∀i,i<len→∀j,j<P.cellsOf e→blk[a.off+i*P.cellsOf e+j]? =some (F i j)∧(ys i)[j]? =some (F i j):=by
      intro i hi j hj
      have:=gI i hi j hj
      have hy:∃y,(ys i)[j]? =some y:=⟨(ys i)[j]'(by have:=(hat i hi).1;omega),by simp⟩
      obtain⟨y,hy⟩:=hy
      have e1:F i j=y:=by simp only[F];rw[this,hy];rfl
      rw[this,hy,e1];exact⟨rfl,rfl⟩
     refine⟨[.sl rows],?_,?_⟩
     ·rw[heq,ha]
      refine .one ?_ ?_ (DD+1) ?_
      ·rw[←mS]
       refine .sl rows a.block a.off cap blk bt fz (P.cellsOf e) F (by rw[mS];exact hlc.1) hblk (by simp[NB]) (Nat.zero_le _) (fun h=>by omega) ?_ ?_ ?_
       ·intro i r eL;obtain⟨hi,rfl⟩:=iB i r eL;exact hrl i hi
       ·intro i r j x eL hj
        obtain⟨hi,rfl⟩:=iB i r eL
        have hj':j<P.cellsOf e:=by rw[←hrl i hi];exact(CA hj).1
        exact(hF i hi j hj').1
       ·intro i r j x eL hj
        obtain⟨hi,rfl⟩:=iB i r eL
        have hj':j<P.cellsOf e:=by rw[←hrl i hi];exact(CA hj).1
        obtain⟨u,hu',hrep⟩:=(hz i hi).2.1.rep j x hj
        rw[(hF i hi j hj').2]at hu'
        obtain rfl:=Option.some.inj hu'
        exact hrep
      ·refine .sl e rows (by rw[mS];exact Nat.le_trans (by omega) (gQ e)) ?_ ?_
       ·intro r eL
        obtain⟨i,hi',eL⟩:=List.mem_iff_getElem.1 eL
        obtain⟨hi,rfl⟩:=iB i r (by rw[List.getElem?_eq_some_iff];exact⟨hi',eL⟩)
        rw[hrl i hi,hel.size]
       ·intro r eL j ck x h1 h2
        obtain⟨i,hi',eL⟩:=List.mem_iff_getElem.1 eL
        obtain⟨hi,rfl⟩:=iB i r (by rw[List.getElem?_eq_some_iff];exact⟨hi',eL⟩)
        exact((aI _ _).1 (hz i hi).2.2.1).2 j ck x h1 h2
      ·refine .sl DD e a.block a.off len cap blk bt fz F hblk (by simp) hlc.1 (by unfold ew;omega) (by simp) ?_ ?_ ?_
       ·intro i hi j ck aX
        simp only[Bool.false_eq_true,if_false]at hi
        have hj:j<P.cellsOf e:=by rw[hel.size];exact(CA aX).1
        rw[←hel.size];exact(hF i hi j hj).1
       ·intro i hi j aX
        simp only[Bool.false_eq_true,if_false]at hi
        have hj:j<P.cellsOf e:=by rw[hel.size];exact(CA aX).1
        have:=dZ a.block (a.off+(i*P.cellsOf e+j)) (by
         refine CB (.inl ?_)
         unfold MemPlace.row
         refine List.mem_map.2 ⟨i*P.cellsOf e+j,List.mem_range.2 ?_,rfl⟩
         have h1:i*P.cellsOf e+j<(i+1)*P.cellsOf e:=by rw[Nat.succ_mul];omega
         have h2:(i+1)*P.cellsOf e≤(elems.length+rest.length)*P.cellsOf e:=Nat.mul_le_mul_right _ (by omega)
         omega)
        unfold World.frozen? at this
        rw[hblk]at this
        simp at this
        rw[←hel.size];omega
       ·intro i hi j ck aX
        simp only[Bool.false_eq_true,if_false]at hi
        have hj:j<P.cellsOf e:=by rw[hel.size];exact(CA aX).1
        obtain⟨u,hu',hw⟩:=(hz i hi).2.2.2.1 j ck aX
        rw[(hF i hi j hj).2]at hu'
        obtain rfl:=Option.some.inj hu'
        exact hw.up _ (hDD i hi)
     ·have:=so hb (elems.map (·.1)) row (fun i x hx=>(hz i (by rw[←hlen];simpa using(CA hx).1)).2.2.2.2 x hx)
      simp only[List.length_map,hlen]at this
      simp only[dG,fc,pz,rows]
      omega
  case struct fs=>
   cases hq:qO P (j6 P m) (dC P m) fs.toList 0 with
   |false=>simp[hq]at jh
   |true=>
   simp only[hq]at jh
   have db:=wL jh
   simp only[DataW.trod,hu]at h
   split at h
   case isFalse=>simp at h
   rename_i hcl
   obtain⟨xs,hxs,hdp⟩:=Option.map_eq_some_iff.1 h
   obtain⟨rfl,rfl⟩:=Prod.mk.inj hdp
   rw[hb.agg]at hd hone ⊢
   obtain⟨row,hg,hz⟩:=wM hb cs 1048576 (fun t cs d ps h1 h2 h3 h4 h5=>ih m t cs d ps h1 h2 h3 h4 h5) fs.toList 0 xs hxs hq dZ gN (by omega)
   refine⟨row,?_,by omega⟩
   have e:((cs.drop 0).take (flat (dC P m) fs.toList).length)=cs:=by
    rw[List.drop_zero,List.take_of_length_le];omega
   rw[e]at hg;exact hg
end
end Go.TL.H
namespace Go.TL.H
open Go
def lR:Nat→List FuncId→List (Nat×Operand)
 |_,[]=>[]
 |i,C::r=>(i,.func C)::lR (i+1) r
def kZ:Nat→List FuncId→List (Nat×Value)
 |_,[]=>[]
 |i,C::r=>(i,.func (.func C) #[] #[])::kZ (i+1) r
def gp(Cs:List FuncId):List Value:=Cs.map fun C=> .func (.func C) #[] #[]
theorem pK{a:Act}:∀(i:Nat) (Cs:List FuncId),(lR i Cs).map (fun x=>(x.1,a.eval x.2))=kZ i Cs
 |_,[]=>rfl
 |i,C::r=>by simp only[lR,kZ,List.map_cons,pK (i+1) r];rfl
theorem nY{z:Value}:∀(Cs:List FuncId) (done:List Value),Instr.fill (fun i=>some (i*1,1)) (done++List.replicate Cs.length z).toArray (kZ done.length Cs)=some (done++gp Cs).toArray
 | [],done=>by simp[kZ,Instr.fill,gp]
 |C::r,done=>by
  have ih:=nY (z:=z) r (done++ [Value.func (.func C) #[] #[]])
  have hc:(Value.func (.func C) #[] #[]).cells= #[.func (.func C) #[] #[]]:=rfl
  have hs:((done++List.replicate (C::r).length z).toArray.setIfInBounds (done.length*1+0) (Value.func (.func C) #[] #[]))=((done++ [Value.func (.func C) #[] #[]])++List.replicate r.length z).toArray:=by
   apply Array.toList_inj.1
   simp[List.replicate_succ,List.set_append_right]
  simp only[kZ,Instr.fill,hc]
  rw[if_neg (by simp)]
  have hf:((#[Value.func (.func C) #[] #[]]:Array Value).zipIdx.foldl (fun cs (c,j)=>cs.setIfInBounds (done.length*1+j) c) (done++List.replicate (C::r).length z).toArray)=((done++ [Value.func (.func C) #[] #[]])++List.replicate r.length z).toArray:=by
   rw[←hs];rfl
  rw[hf]
  have hl:(done++ [Value.func (.func C) #[] #[]]).length=done.length+1:=by simp
  rw[hl]at ih
  rw[ih]
  simp[gp]
section
variable {P:Program} {o:Oper} {n:Nat} {sl:aT} {a:Act} {w:World}
theorem AS{t e:TypeId}{z:Value}(Cs:List FuncId)(ho:o.op= .buildSlice t Cs.length (lR 0 Cs).toArray)(ht:P.underlying t=some (.slice e))(hT:One P e z)(h0:0<Cs.length)(h1:Cs.length≤1000):
  (execOp a.eval o).run P w= .ok (.value (.slice (some ⟨w.heap.size,0,none⟩) Cs.length Cs.length)) (w.alloc (.cells (gp Cs).toArray e)):=by
 obtain⟨i,hi,ha,hs,hz,_⟩:=hT.is
 have hzc:=hT.zc
 have hr:Instr.fill (fun i=>some (i*1,1)) ((Array.range Cs.length).map fun _=>z) (kZ 0 Cs)=some (gp Cs).toArray:=by
  have:=nY (z:=z) Cs []
  rw[List.nil_append,List.nil_append]at this
  rw[←this]
  congr 1
  apply Array.toList_inj.1
  simp[List.map_const']
 have gY:¬ Cs.length=0:=by omega
 have hle:¬ 16777216<Cs.length:=by omega
 have hev:=pK (a:=a) 0 Cs
 simp[execOp,ho,Instr.buildSlice,run_underlying ht,sizeOf,typeInfo,zeroValue,hi,hz,hs,newRow,hzc,gY,hle,Nat.mod_one,hev]
 simp at hr
 simp[hr]
end
def wO(T LC:TypeId)(Cs:List FuncId)(apart own see fV:FuncId):Code:=
 .seq (rg [p1 1 (.box T (t 0)),p1 2 (.assign (.const (.bool false)))])
  (.seq (rg [p1 3 (.load T (t 1)),p1 4 (.buildSlice LC Cs.length (lR 0 Cs).toArray),p1 5 (du (.func apart) #[t 3,.func own,.func see,t 4]),p1 6 (.move (t 5)),
   pg 7 (du (.func fV) #[]) 0 3 true,p1 8 (.pick (t 6) (t 7) (.const (.bool false))),p1 2 (.assign (t 8))]) .ret)
theorem zN{P:Program}{T LC CT:TypeId}{z:Value}{sz:Nat}{Cs:List FuncId}{apart own see fV f:FuncId}(hB:Body P f 9 [.tmp 2] (wO T LC Cs apart own see fV))(hT:Tp P T true sz)(hlc:P.underlying LC=some (.slice CT))(hct:One P CT z)(h0:0<Cs.length)(h1:Cs.length≤1000)
  {w:World}{xs:List Value}(hl:xs.length=sz)(_hone:∀u∈xs,u.oneCell'=true)
  (hap:aD P apart=true)(hA:∀(w':World) (bc:Nat),Ch (fun _=>False) w w'→w'.heap[bc]? =some (.cells (gp Cs).toArray CT (0,0))→Ret P apart [.agg xs.toArray,.func (.func own) #[] #[],.func (.func see) #[] #[],.slice (some ⟨bc,0,none⟩) Cs.length Cs.length] w' fun v w''=>v= .bool true∧Ch (fun _=>False) w' w'')
  (hfl:aD P fV=true)(hF:∀w',Ch (fun _=>False) w w'→Ret P fV [] w' fun v w''=>v= .bool true∧Ch (fun _=>False) w' w''):
  Ret P f [.agg xs.toArray] w fun v w'=>v= .bool true∧Ch (fun _=>False) w w':=by
 refine aJ hB ?_
 have hs:=SL.init (n:=9) [.agg xs.toArray] rfl
 revert hs
 generalize({tmps:=_,defers:=[]}:Act)=a
 intro hs
 refine ah (ae ?_)
 refine L hs rfl rfl (bC hs rfl rfl) fun a hs=>?_
 have hcv:(Value.agg xs.toArray).cells=xs.toArray:=rfl
 rw[hcv]
 have g1:=Ch.alloc (fun _=>False) w (.cells xs.toArray T)
 have hbx:=heap_alloc_new w (.cells xs.toArray T)
 generalize w.alloc (.cells xs.toArray T)=w1 at g1 hbx ⊢
 refine L hs rfl rfl (aa hs (.inr rfl) rfl) fun a hs=>?_
 refine Le (ah (ae ?_))
 refine L hs rfl rfl (bs xs hs rfl rfl hT hl hbx (fun j v hj=>by rw[Nat.zero_add];simpa using hj)) fun a hs=>?_
 refine L hs rfl rfl (AS Cs rfl hlc hct h0 h1) fun a hs=>?_
 have g2:=Ch.alloc (fun _=>False) w1 (.cells (gp Cs).toArray CT)
 have hbc:=heap_alloc_new w1 (.cells (gp Cs).toArray CT)
 generalize dm:w1.heap.size=bc at hbc hs
 generalize w1.alloc (.cells (gp Cs).toArray CT)=w2 at g2 hbc ⊢
 refine Lc hs rfl rfl rfl rfl rfl hap (hA w2 bc (g1.trans g2) hbc) fun v w3 a hO hs=>?_
 obtain⟨rfl,g3⟩:=hO
 refine L hs rfl rfl (aa hs (.inl rfl) rfl) fun a hs=>?_
 refine Lc hs (by rw[wg hs rfl rfl rfl rfl];rfl) rfl rfl rfl rfl hfl (hF w3 ((g1.trans g2).trans g3)) fun v w4 a hO hs=>?_
 obtain⟨rfl,g4⟩:=hO
 refine L hs rfl rfl (bM hs rfl rfl (fun _=>rfl) (fun h=>by cases h)) fun a hs=>?_
 refine L hs rfl rfl (aa hs (.inr rfl) rfl) fun a hs=>?_
 exact Le (aP (cH hs rfl ⟨rfl,((g1.trans g2).trans g3).trans g4⟩))
end Go.TL.H
