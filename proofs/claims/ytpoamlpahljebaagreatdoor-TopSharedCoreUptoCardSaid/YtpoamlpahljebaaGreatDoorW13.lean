/- Regions whose first operations only read, and the others wait for them. -/
import Derived.Test.YtpoamlpahljebaaGreatDoorW07
import Derived.StillTail
namespace Go.TL
def F0:Nat→Nat→List Oper→Bool
 |0,_,_=>false
 |_,_,[]=>false
 |m+1,k,y::r=>match lz y k with|true=>true|false=>F0 m k r
def F1(n:Nat):List Oper→Bool
 | []=>true
 |y::r=>match lz y n with|true=>F1 n r|false=>false
def vU(n:Nat):Nat→List Oper→Bool
 |_,[]=>false
 |k,_::r=>match Nat.blt k n with
  |true=>match F0 (n - k) k r with|true=>vU n (k+1) r|false=>false
  |false=>F1 n r
def DF(ops:Array Oper):Nat→Nat→List Oper→Bool
 |0,_,_=>true
 |_+1,_,[]=>false
 |n+1,k,o::r=>match o.after.toList.all fun e=>match Region.binds .any e with|true=>Nat.blt e.on k|false=>true with
  |true=>match ui ops o k r with|true=>DF ops n (k+1) r|false=>false
  |false=>false
def ur(m k:Nat):Array Bool:=(List.replicate k true++List.replicate (m - k) false).toArray
theorem AK{o:Oper}{k:Nat}(h:lz o k=true):∃e∈o.after,Region.binds .any e=true∧e.on=k:=by
 obtain⟨e,he,hb⟩:=Array.any_eq_true'.1 (BJ h)
 simp only[Bool.and_eq_true,beq_iff_eq]at hb
 exact⟨e,he,hb⟩
theorem EK:∀{m k:Nat} {r:List Oper},F0 m k r=true→∃j o,j<m∧r[j]? =some o∧lz o k=true
 |m+1,k,y::r,h=>by
  simp only[F0]at h
  split at h
  ·exact⟨0,y,by omega,rfl,by assumption⟩
  ·obtain⟨j,o,h1,h2,h3⟩:=EK h
   exact⟨j+1,o,by omega,by simpa using h2,h3⟩
theorem EL{n:Nat}:∀{r:List Oper},F1 n r=true→∀y∈r,lz y n=true
 | [],_,y,hy=>by simp at hy
 |x::r,h,y,hy=>by
  simp only[F1]at h
  split at h
  ·rcases Z1 hy with rfl|hy
   ·assumption
   ·exact EL h y hy
  ·cases h
section
variable {P:Program} {ops:Array Oper} {w:World} {n:Nat}
structure Cut(ops:Array Oper)(n:Nat):Prop where
 lt:n<ops.size
 head:∀i,i<n→∃j oj,i<j∧j≤n∧ops[j]? =some oj∧∃e∈oj.after,Region.binds .any e=true∧e.on=i
 tail:∀t ot,n<t→ops[t]? =some ot→∃e∈ot.after,Region.binds .any e=true∧e.on=n
theorem NT:∀(l:List Oper) (k:Nat),(∀j,l[j]? =ops[k+j]?)→k≤n→vU n k l=true→
  n<ops.size∧(∀i,k≤i→i<n→∃j oj,i<j∧j≤n∧ops[j]? =some oj∧∃e∈oj.after,Region.binds .any e=true∧e.on=i)∧∀t ot,n<t→ops[t]? =some ot→∃e∈ot.after,Region.binds .any e=true∧e.on=n
 | [],k,hl,hk,h=>by simp[vU]at h
 |o::r,k,hl,hk,h=>by
  have hr:∀j,r[j]? =ops[k+1+j]? :=fun j=>by have:=hl (j+1);simpa[Nat.add_assoc,Nat.add_comm 1 j]using this
  simp only[vU]at h
  split at h
  ·rename_i av
   have av:k<n:=by simpa[Nat.blt_eq]using av
   split at h
   ·rename_i ha
    obtain⟨h1,h2,h3⟩:=NT r (k+1) hr (by omega) h
    refine⟨h1,fun i hi gN=>?_,h3⟩
    by_cases he:i=k
    ·subst he
     obtain⟨j,oj,q1,q2,q3⟩:=EK ha
     rw[hr]at q2
     exact⟨i+1+j,oj,by omega,by omega,q2,AK q3⟩
    ·exact h2 i (by omega) gN
   ·cases h
  ·rename_i av
   have hkn:k=n:=by
    have:¬ k<n:=fun hc=>by rw[show Nat.blt k n=true by rw[Nat.blt_eq];exact hc]at av;cases av
    omega
   subst hkn
   have h0:ops[k]? =some o:=by simpa using(hl 0).symm
   refine⟨(Array.getElem?_eq_some_iff.1 h0).1,fun i h1 h2=>by omega,fun t ot ht hot=>?_⟩
   have:r[t - k - 1]? =some ot:=by rw[hr,show k+1+(t - k - 1)=t by omega];exact hot
   exact AK (EL h ot (Z2 this))
theorem EM{listed:Array Bool}(C:Cut ops n)(inv:HeadInv .any ops n listed):∀(d i:Nat),n - i=d→i<n→listed.getD i true=false→∀t,n≤t→t ∉ Region.ready .any ops listed:=by
 intro d
 induction d using Nat.strongRecOn with
 |_ d ih=>
  intro i hd hi hun t ht hr
  obtain⟨_,ot,hot,fS⟩:=mem_ready.1 hr
  by_cases htn:t=n
  ·subst htn
   obtain⟨j,oj,h1,h2,lJ,e,he,hb,hon⟩:=C.head i hi
   by_cases hjt:j=t
   ·subst hjt
    rw[hot]at lJ;cases lJ
    have h3:=fS e he hb
    rw[hon,getD_both hun]at h3
    cases h3
   ·cases hl:listed.getD j false with
    |true=>
     have h3:=inv.closed j oj lJ hl e he hb
     rw[hon,getD_both hun]at h3
     cases h3
    |false=>
     have hjs:j<listed.size:=by rw[inv.size];exact(Array.getElem?_eq_some_iff.1 lJ).1
     exact ih (t - j) (by omega) j rfl (by omega) (getD_in hjs hl) t (Nat.le_refl _) hr
  ·obtain⟨e,he,hb,hon⟩:=C.tail t ot (by omega) hot
   have h2:=fS e he hb
   rw[hon,getD_both (inv.tail n (Nat.le_refl _) C.lt)]at h2
   cases h2
theorem NU{i:Nat}{oi:Oper}{v:Value}{L:Array Bool→Act→Prop}(hi:ops[i]? =some oi)(gO:∀(j:Nat) (o:Oper) cs b,ops[j]? =some o→o.op≠ .select cs b)(C:Cut ops n)(gN:i<n)
  (hdone:∀listed a,L listed a→∀j∈Region.ready .any ops listed,n≤j):
  ∀(f:Nat) (listed:Array Bool) (a:Act),HeadInv .any ops n listed→
    (∀j oj,ops[j]? =some oj→j≠i→listed.getD j true=false→(∀e∈oj.after,Region.binds .any e=true→e.on≠i)→oi.apart ops oj=true)→
    i∈Region.ready .any ops listed→YieldsAt P ops w oi v a→
    wpAnyL P .any ops w n L f (listed.setIfInBounds i true) (a.put oi.dst v)→wpAnyL P .any ops w n L (f+1) listed a:=by
 intro f
 induction f with
 |zero=>
  intro listed a inv _ hr hy H
  have hun:=(mem_ready.1 hr).1
  refine⟨fun h=>(by rw[h]at hr;cases hr),fun j hj=>?_⟩
  have hjn:j<n:=by
   rcases Nat.lt_or_ge j n with h|h
   ·exact h
   ·exact absurd hj (EM C inv _ i rfl gN hun j h)
  refine⟨hjn,?_⟩
  by_cases hji:j=i
  ·subst hji;exact hy.stOp hi H
  ·have:=hdone _ _ H j (ready_mono hj hji)
   omega
 |succ f ih=>
  intro listed a inv fM hr hy H
  have hun:=(mem_ready.1 hr).1
  refine⟨fun h=>(by rw[h]at hr;cases hr),fun j hj=>?_⟩
  have hjn:j<n:=by
   rcases Nat.lt_or_ge j n with h|h
   ·exact h
   ·exact absurd hj (EM C inv _ i rfl gN hun j h)
  refine⟨hjn,?_⟩
  by_cases hji:j=i
  ·subst hji;exact hy.stOp hi H
  ·have h1:=(H.2 j (ready_mono hj hji)).2
   obtain⟨hjun,oj,lJ,fS⟩:=mem_ready.1 hj
   have hnot:∀e∈oj.after,Region.binds .any e=true→e.on≠i:=fun e he hb heq=>by
    have h1:=fS e he hb
    rw[heq,getD_both hun]at h1
    cases h1
   have h2:=stOp_put lJ (fM j oj lJ hji hjun hnot) (fun cs b=>gO i oi cs b hi) (fun cs b=>gO j oj cs b lJ) hy h1
   have hfree':∀k ok,ops[k]? =some ok→k≠i→(listed.setIfInBounds j true).getD k true=false→
     (∀e∈ok.after,Region.binds .any e=true→e.on≠i)→oi.apart ops ok=true:=fun k ok hk hki hun hno=>by
    refine fM k ok hk hki ?_ hno
    by_cases eI:j=k
    ·subst eI;exact hjun
    ·rw[getD_set_ne true eI]at hun;exact hun
   refine stOp_mono (fun a' h3=>ih (listed.setIfInBounds j true) a' (inv.set hj hjn) hfree' (ready_mono hr (Ne.symm hji)) h3.1 ?_) h2
   rw[Array.setIfInBounds_comm _ _ hji]
   exact h3.2
theorem JP{Lq:Act→Prop}(gO:Region.noSelect ops=true)(C:Cut ops n):∀(m:Nat) (l:List Oper) (k:Nat) (listed:Array Bool) (a:Act),(∀j,l[j]? =ops[k+j]?)→k+m=n→HeadInv .any ops n listed→
  listed.size=ops.size→(∀j,j<ops.size→listed[j]? =some (decide (j<k)))→DF ops m k l=true→wpStill P ops w Lq (l.take m) a→
  wpAnyL P .any ops w n (fun vt a'=>vt=ur ops.size n∧Lq a') m listed a
 |0,l,k,listed,a,hl,hk,_,hs,hd,_,h=>by
  have:k=n:=by omega
  subst this
  refine⟨?_,h⟩
  apply Array.ext'
  apply List.ext_getElem?
  intro j
  have av:=C.lt
  rw[Array.getElem?_toList]
  by_cases hj:j<ops.size
  ·rw[hd j hj]
   simp only[ur,List.getElem?_append,List.length_replicate,List.getElem?_replicate]
   by_cases eI:j<k
   ·simp[eI]
   ·simp[eI];omega
  ·rw[Array.getElem?_eq_none (by omega)]
   simp only[ur]
   rw[List.getElem?_eq_none (by simp;omega)]
 |m+1,[],k,listed,a,hl,hk,inv,hs,hd,hB,h=>by simp[DF]at hB
 |m+1,o::l,k,listed,a,hl,hk,inv,hs,hd,hB,h=>by
  have h0:ops[k]? =some o:=by simpa using(hl 0).symm
  have hkn:k<n:=by omega
  have oC:=(Array.getElem?_eq_some_iff.1 h0).1
  have dC:∀j,j<ops.size→∀d,listed.getD j d=decide (j<k):=fun j hj d=>by rw[Array.getD_eq_getD_getElem?,hd j hj];rfl
  simp only[DF]at hB
  split at hB
  ·rename_i h1
   split at hB
   ·rename_i h2
    have hr:k∈Region.ready .any ops listed:=mem_ready.2 ⟨by rw[dC k oC];simp,o,h0,fun e he hb=>by
     have:=List.all_eq_true.1 h1 e (by simpa using he)
     rw[hb]at this
     have av:e.on<k:=by simpa[Nat.blt_eq]using this
     rw[dC e.on (by omega)];simpa using av⟩
    have hst:stOp P ops w k (wpStill P ops w Lq (l.take m)) a:=by unfold stOp;simp only[h0];exact h
    obtain⟨v,hy,hK⟩:=yieldsAt_of_stOp h0 hst
    refine NU h0 (Region.noSelect_spec gO) C hkn (fun vt a' hL j hj=>?_) m listed a inv (fun j oj lJ eI hun hno=>?_) hr hy
     (JP gO C m l (k+1) _ _ (fun j=>by have:=hl (j+1);simpa[Nat.add_assoc,Nat.add_comm 1 j]using this) (by omega) (inv.set hr hkn) (by simpa using hs) (fun j hj=>?_) hB hK)
    ·obtain⟨h3,oj,lJ,_⟩:=mem_ready.1 hj
     rw[hL.1]at h3
     rcases Nat.lt_or_ge j n with hjn|hjn
     ·simp[ur,Array.getD_eq_getD_getElem?,List.getElem?_append,hjn]at h3
     ·exact hjn
    ·have hjs:=(Array.getElem?_eq_some_iff.1 lJ).1
     rw[dC j hjs]at hun
     have hjk':k<j:=by simp at hun;omega
     have hm:oj∈l:=by
      have:=hl (j - k)
      rw[show k+(j - k)=j by omega,lJ,show j - k=(j - k - 1)+1 by omega]at this
      exact Z2 (i:=j - k - 1) (by simpa using this)
     rcases qK h2 _ hm with h3|h3
     ·obtain⟨e,he,hb,hon⟩:=AK h3
      exact absurd hon (hno e he hb)
     ·exact h3
    ·by_cases eI:j=k
     ·subst eI;simp[hs,oC]
     ·rw[Array.getElem?_setIfInBounds,if_neg (Ne.symm eI),hd j hj]
      congr 1
      simp only[decide_eq_decide];omega
   ·cases hB
  ·cases hB
end
def K7(P:Program)(n:Nat)(ops:Array Oper)(m:Nat)(Q:Exit→St→Prop):Exit→St→Prop:=fun e s=>match e with
 | .normal=>jG P n ops (ops.size - m) (ur ops.size m) s Q
 |_=>False
theorem Qi{P:Program}{n id:Nat}{ops:Array Oper}{σ:St}{Q:Exit→St→Prop}(m:Nat)(hm:P.follows .mixedOrders=true)(hs:Region.noSelect ops=true)(hc:vU m 0 ops.toList=true)(hx:DF ops m 0 ops.toList=true)
  (h:GN P n ops (ops.toList.take m) σ (K7 P n ops m Q)):AWP P n (.region id ops true) σ Q:=by
 intro lo w0 E0 a w hh
 obtain⟨c1,c2,c3⟩:=NT (ops:=ops) (n:=m) ops.toList 0 (fun j=>by simp) (Nat.zero_le _) hc
 have C:Cut ops m:=⟨c1,fun i hi=>c2 i (Nat.zero_le _) hi,c3⟩
 have inv0:HeadInv .any ops m (Array.replicate ops.size false):=
  ⟨by simp,fun j oj _ hl=>(by rw[getD_replicate_false]at hl;cases hl),fun t _ ht=>getD_in (by simpa using ht) (getD_replicate_false _ _)⟩
 have H:=JP (P:=P) (w:={w with drawn:=w.drawn+1}) (Lq:=fun a'=>lift (mkC P n lo w0 E0) (K7 P n ops m Q) .normal a' {w with drawn:=w.drawn+1}) hs C m ops.toList 0 (Array.replicate ops.size false) a (fun j=>by simp) (by omega) inv0 (by simp) (fun j hj=>by simp[hj]) hx
  (h lo w0 E0 a _ (vL hh))
 refine wp_region_any hm ?_
 have:=wpAny_of_head (Q':=lift (mkC P n lo w0 E0) Q) (g:=ops.size - m) (fun listed a' hL=>by
  obtain⟨rfl,s,hq,hs⟩:=hL
  exact hq lo w0 E0 a' _ hs) _ _ _ H
 rwa[show m+(ops.size - m)=ops.size by omega]at this
end Go.TL
namespace Go.TL
structure Va where
 n:Int
 b:Bool
 s:ByteArray
 l:List (List PV)
instance:Inhabited Va:=⟨⟨0,false,⟨#[]⟩,[]⟩⟩
abbrev Ro:=Nat→Va
abbrev Sum:=List (Nat×Int)
structure Lin where
 c:Int
 t:Sum
def aV(ρ:Ro)(a:Nat):Int:=
 match a % 4 with
 |0=>(ρ (a / 4)).n
 |1=>((ρ (a / 4)).l.length:Int)
 |2=>(rsz (ρ (a / 4)).l:Int)
 |_=>((ρ (a / 4)).s.size:Int)
def bZ(ρ:Ro):Sum→Int
 | []=>0
 |(a,c)::r=>c*aV ρ a+bZ ρ r
def Lin.v(ρ:Ro)(e:Lin):Int:=e.c+bZ ρ e.t
def isZ:Int→Bool
 | .ofNat n=>Nat.beq n 0
 | .negSucc _=>false
def y5:Int→Bool
 | .ofNat n=>Nat.beq n 1
 | .negSucc _=>false
def Vy:Int→Bool
 | .ofNat _=>false
 | .negSucc n=>Nat.beq n 0
def leZ:Int→Bool
 | .ofNat n=>Nat.beq n 0
 | .negSucc _=>true
theorem so{z:Int}(h:isZ z=true):z=0:=by
 cases z with
 |ofNat n=>simp only[isZ]at h;rw[ZU h];rfl
 |negSucc n=>simp[isZ]at h
theorem NV{z:Int}(h:leZ z=true):z≤0:=by
 cases z with
 |ofNat n=>simp only[leZ]at h;rw[ZU h];decide
 |negSucc n=>exact Int.le_of_lt (Int.negSucc_lt_zero n)
def xO(a:Nat)(c:Int):Sum→Sum
 | []=>match isZ c with|true=>[]|false=>[(a,c)]
 |(a',c')::r=>match Nat.beq a a' with
   |true=>match isZ (c+c')with|true=>r|false=>(a,c+c')::r
   |false=>match Nat.ble a a' with
    |true=>match isZ c with|true=>(a',c')::r|false=>(a,c)::(a',c')::r
    |false=>(a',c')::xO a c r
theorem NX(ρ:Ro)(a:Nat)(c:Int):∀l:Sum,bZ ρ (xO a c l)=c*aV ρ a+bZ ρ l
 | []=>by
  simp only[xO]
  cases hz:isZ c with
  |true=>simp[so hz,bZ]
  |false=>simp[bZ]
 |(a',c')::r=>by
   simp only[xO]
   cases hb:Nat.beq a a' with
   |true=>
    have e:=ZU hb;subst e
    cases hz:isZ (c+c')with
    |true=>
     have e:=so hz
     simp only[bZ]
     have:c*aV ρ a+(c'*aV ρ a+bZ ρ r)=(c+c')*aV ρ a+bZ ρ r:=by rw[Int.add_mul];omega
     rw[this,e];simp
    |false=>simp only[bZ];rw[Int.add_mul];omega
   |false=>
    cases hl:Nat.ble a a' with
    |true=>
     cases hz:isZ c with
     |true=>simp[so hz]
     |false=>simp[bZ]
    |false=>simp only[bZ,NX ρ a c r];omega
def AL(k:Int):Sum→Sum→Sum
 | [],y=>y
 |(a,c)::r,y=>AL k r (xO a (k*c) y)
theorem NY(ρ:Ro)(k:Int):∀(x y:Sum),bZ ρ (AL k x y)=k*bZ ρ x+bZ ρ y
 | [],y=>by simp[AL,bZ]
 |(a,c)::r,y=>by
   simp only[AL,bZ]
   rw[NY ρ k r,NX,Int.mul_add,Int.mul_assoc];omega
def Lin.ax(x:Lin)(k:Int)(y:Lin):Lin:=⟨x.c+k*y.c,AL k y.t x.t⟩
theorem Lin.bQ(ρ:Ro)(x:Lin)(k:Int)(y:Lin):(x.ax k y).v ρ=x.v ρ+k*y.v ρ:=by
 unfold Lin.ax Lin.v;simp only[NY,Int.mul_add];omega
def Lin.add(x y:Lin):Lin:=x.ax 1 y
def Lin.sub(x y:Lin):Lin:=x.ax (-1) y
def Lin.scale(k:Int)(x:Lin):Lin:=Lin.ax ⟨0,[]⟩ k x
def Lin.lit(n:Int):Lin:=⟨n,[]⟩
def Lin.at(a:Nat):Lin:=⟨0,[(a,1)]⟩
def Lin.aN(x:Lin)(n:Int):Lin:=⟨x.c+n,x.t⟩
theorem Lin.K8(ρ:Ro)(x y:Lin):(x.add y).v ρ=x.v ρ+y.v ρ:=by unfold Lin.add;rw[Lin.bQ];omega
theorem Lin.bE(ρ:Ro)(k:Int)(x:Lin):(Lin.scale k x).v ρ=k*x.v ρ:=by unfold Lin.scale;rw[Lin.bQ];simp[Lin.v,bZ]
theorem Lin.cT(ρ:Ro)(n:Int):(Lin.lit n).v ρ=n:=by simp[Lin.lit,Lin.v,bZ]
theorem Lin.bN(ρ:Ro)(a:Nat):(Lin.at a).v ρ=aV ρ a:=by simp[Lin.at,Lin.v,bZ]
theorem Lin.aO(ρ:Ro)(x:Lin)(n:Int):(x.aN n).v ρ=x.v ρ+n:=by unfold Lin.aN Lin.v;simp only;omega
def vV:Sum→Sum→Bool
 | [],[]=>true
 |(a,c)::r,(a',c')::r'=>match Nat.beq a a',isZ (c - c')with
   |true,true=>vV r r'
   |_,_=>false
 |_,_=>false
theorem AM:∀{x y:Sum},vV x y=true→x=y
 | [],[],_=>rfl
 |(a,c)::r,(a',c')::r',h=>by
   simp only[vV]at h
   split at h
   ·rename_i h1 h2
    have e1:=ZU h1
    have e2:=so h2
    have:c=c':=by omega
    subst e1;subst this;rw[AM h]
   ·cases h
 | [],_::_,h=>by simp[vV]at h
 |_::_,[],h=>by simp[vV]at h
def Lin.beq(x y:Lin):Bool:=match isZ (x.c - y.c)with|true=>vV x.t y.t|false=>false
theorem Lin.beq_eq{x y:Lin}(h:x.beq y=true):x=y:=by
 unfold Lin.beq at h
 split at h
 ·rename_i h1
  have:=so h1
  obtain⟨c,t⟩:=x;obtain⟨c',t'⟩:=y
  simp only at this h
  rw[show c=c' by omega,AM h]
 ·cases h
inductive BF where
 |lit(b:Bool)
 |var(k:Nat)
 |le(e:Lin)
 |eq(e:Lin)
 |not(f:BF)
 |and(f g:BF)
 |or(f g:BF)
def BF.v(ρ:Ro):BF→Bool
 | .lit b=>b
 | .var k=>(ρ k).b
 | .le e=>decide (e.v ρ≤0)
 | .eq e=>decide (e.v ρ=0)
 | .not f=> !f.v ρ
 | .and f g=>f.v ρ && g.v ρ
 | .or f g=>f.v ρ||g.v ρ
inductive SE where
 |lit(b:List UInt8)
 |var(k:Nat)
def SE.v(ρ:Ro):SE→ByteArray
 | .lit b=>⟨b.toArray⟩
 | .var k=>(ρ k).s
abbrev LV:=Option Nat
def lvV(ρ:Ro):LV→List (List PV)
 |none=>[]
 |some k=>(ρ k).l
inductive DP where
 |int(k:IntKind)(e:Lin)
 |bl(f:BF)
 |st(e:SE)
 |sl(l:LV)
 |nl
 |ej(v:Value)
 |ls(l:LV)
 |un
 |mp(a:Option Nat)(l:LV)
def DP.v(ρ:Ro):DP→PV
 | .int k e=> .v (.int k (e.v ρ))
 | .bl f=> .v (.bool (f.v ρ))
 | .st e=> .v (.string (e.v ρ))
 | .sl l=> .sl (lvV ρ l)
 | .nl=> .v (.slice none 0 0)
 | .ej v=> .v v
 | .ls l=> .ls (lvV ρ l)
 | .un=> .un
 | .mp a l=> .mp a (lvV ρ l)
inductive DV where
 |u
 |p(x:DP)(fr:Bool)
 |ptr(k off:Nat)
 |vec(k:Nat)
 |bn(k sz:Nat)(i:Lin)(off:Nat)
 |pd(row:List DP)(off:Nat)(fr:Bool)
 |pc(l:LV)(fr:Bool)
 |agg(xs:List DV)
 |bL(xs:List DV)
 |ref(k:Nat)
 |fn(f:Fn)(first aQ:List DV)
 |cL(t:TypeId)(x:DV)
instance:Inhabited DV:=⟨.u⟩
def ar(ρ:Ro):List DP→List PV
 | []=>[]
 |x::xs=>x.v ρ::ar ρ xs
mutual
def DV.v(ρ:Ro):DV→SV
 | .u=> .u
 | .p x fr=> .p (x.v ρ) fr
 | .ptr k off=> .ptr k off
 | .vec k=> .vec k
 | .bn k sz i off=> .bn k sz (i.v ρ).toNat off
 | .pd row off fr=> .pd (ar ρ row) off fr
 | .pc l fr=> .pc (lvV ρ l) fr
 | .agg xs=> .agg (dvs ρ xs)
 | .bL xs=> .bL (dvs ρ xs)
 | .ref k=> .ref k
 | .fn f first aQ=> .fn f (dvs ρ first) (dvs ρ aQ)
 | .cL t x=> .cL t (x.v ρ)
def dvs(ρ:Ro):List DV→List SV
 | []=>[]
 |x::xs=>x.v ρ::dvs ρ xs
end
inductive DO where
 |box(t:TypeId)(cells:List DV)
 |vec(t:TypeId)(sz:Nat)(l:LV)(fr:Bool)
 |mp(a:Option Nat)(l:LV)(fr:Bool)
 |it(a:Option Nat)(l:LV)(fr:Bool)(n:Lin)(on:Bool)
def DO.v(ρ:Ro):DO→OV
 | .box t cells=> .box t (dvs ρ cells)
 | .vec t sz l fr=> .vec t sz (lvV ρ l) fr
 | .mp a l fr=> .mp a (lvV ρ l) fr
 | .it a l fr n on=> .it a (lvV ρ l) fr (n.v ρ).toNat on
abbrev bX:=List (Nat×DV)
abbrev aF:=List (Nat×DO)
def cV(ρ:Ro):bX→List (Nat×SV)
 | []=>[]
 |(k,x)::r=>(k,x.v ρ)::cV ρ r
def aU(ρ:Ro):aF→Tab
 | []=>[]
 |(k,x)::r=>(k,x.v ρ)::aU ρ r
inductive PF where
 |row(l:Nat)(i:Lin)(cells:List DP)
 |app(l:Nat)(a b:LV)
 |lit(l:Nat)(rows:List (List DP))
 |sub(l a:Nat)(lo hi:Lin)
 |set(l a:Nat)(i:Lin)(cells:List DP)
 |je(f:BF)
 |cat(s:Nat)(a b:SE)
 |pr(id:Nat)(args:List Nat)
abbrev Pr:=Nat→List Va→Prop
def dZ(ρ:Ro):List (List DP)→List (List PV)
 | []=>[]
 |r::rs=>ar ρ r::dZ ρ rs
def PF.v(I:Pr)(ρ:Ro):PF→Prop
 | .row l i cells=>0≤i.v ρ∧(ρ l).l[(i.v ρ).toNat]? =some (ar ρ cells)
 | .app l a b=>(ρ l).l=lvV ρ a++lvV ρ b
 | .lit l rows=>(ρ l).l=dZ ρ rows
 | .sub l a lo hi=>(ρ l).l=((ρ a).l.take (hi.v ρ).toNat).drop (lo.v ρ).toNat
 | .set l a i cells=>(ρ l).l=(ρ a).l.set (i.v ρ).toNat (ar ρ cells)
 | .je f=>f.v ρ=true
 | .cat s a b=>(ρ s).s=a.v ρ++b.v ρ
 | .pr id args=>I id (args.map ρ)
structure Cert where
 g:Lin
 m:Nat
 ks:List (Nat×Int)
 zs:List (Nat×Int)
structure DSt where
 ah:bX
 tab:aF
 tys:List (Nat×TypeId)
 lin:List Lin
 prs:List PF
 nx:Nat
 hc:List Cert
def DSt.v(ρ:Ro)(σ:DSt):St:=⟨cV ρ σ.ah,aU ρ σ.tab⟩
def uv:Nat:=1099511627776
structure Gok(ρ:Ro):Prop where
 lo:∀k, -9223372036854775808≤(ρ k).n
 hi:∀k,(ρ k).n≤9223372036854775807
 st:∀k,(ρ k).s.size≤cu
 ln:∀k,(ρ k).l.length≤uv
def bh(ρ:Ro):List Lin→Prop
 | []=>True
 |e::r=>e.v ρ≤0∧bh ρ r
def c5(I:Pr)(ρ:Ro):List PF→Prop
 | []=>True
 |f::r=>f.v I ρ∧c5 I ρ r
def dA(P:Program)(ρ:Ro):List (Nat×TypeId)→Prop
 | []=>True
 |(k,e)::r=>bK P e (ρ k).l∧dA P ρ r
structure DSt.ok(P:Program)(I:Pr)(σ:DSt)(ρ:Ro):Prop where
 g:Gok ρ
 tys:dA P ρ σ.tys
 lin:bh ρ σ.lin
 prs:c5 I ρ σ.prs
theorem EO{ρ:Ro}:∀{l:List Lin} {e:Lin},bh ρ l→e∈l→e.v ρ≤0
 |x::r,e,h,hm=>by
  rcases Z1 hm with rfl|hm
  ·exact h.1
  ·exact EO h.2 hm
theorem eE{P:Program}{ρ:Ro}:∀{l:List (Nat×TypeId)} {k:Nat} {e:TypeId},dA P ρ l→lk l k=some e→bK P e (ρ k).l
 |(j,e')::r,k,e,h,hl=>by
   simp only[lk]at hl
   cases hb:Nat.beq j k with
   |true=>simp only[hb,ZS]at hl;subst hl;rw[←ZU hb];exact h.1
   |false=>simp only[hb]at hl;exact eE h.2 hl
theorem dH{ρ:Ro}:∀{a b:List Lin},bh ρ a→bh ρ b→bh ρ (a++b)
 | [],_,_,h=>h
 |_::_,_,h,k=>⟨h.1,dH h.2 k⟩
def dS:Sum→List Nat
 | []=>[]
 |(a,_)::r=>(a / 4)::dS r
def Lin.vars(e:Lin):List Nat:=dS e.t
def BF.vars:BF→List Nat
 | .lit _=>[]
 | .var k=>[k]
 | .le e=>e.vars
 | .eq e=>e.vars
 | .not f=>f.vars
 | .and f g=>f.vars++g.vars
 | .or f g=>f.vars++g.vars
def SE.vars:SE→List Nat
 | .lit _=>[]
 | .var k=>[k]
def a8:LV→List Nat
 |none=>[]
 |some k=>[k]
def DP.vars:DP→List Nat
 | .int _ e=>e.vars
 | .bl f=>f.vars
 | .st e=>e.vars
 | .sl l=>a8 l
 | .nl=>[]
 | .ej _=>[]
 | .ls l=>a8 l
 | .un=>[]
 | .mp _ l=>a8 l
def bP:List DP→List Nat
 | []=>[]
 |x::xs=>x.vars++bP xs
def jK:List (List DP)→List Nat
 | []=>[]
 |x::xs=>bP x++jK xs
mutual
def DV.vars:DV→List Nat
 | .p x _=>x.vars
 | .bn _ _ i _=>i.vars
 | .pd row _ _=>bP row
 | .pc l _=>a8 l
 | .agg xs=>aD xs
 | .bL xs=>aD xs
 | .fn _ first aQ=>aD first++aD aQ
 | .cL _ x=>x.vars
 | .u=>[]
 | .ptr _ _=>[]
 | .vec _=>[]
 | .ref _=>[]
def aD:List DV→List Nat
 | []=>[]
 |x::xs=>x.vars++aD xs
end
def DO.vars:DO→List Nat
 | .box _ cells=>aD cells
 | .vec _ _ l _=>a8 l
 | .mp _ l _=>a8 l
 | .it _ l _ n _=>a8 l++n.vars
def kE:bX→List Nat
 | []=>[]
 |(_,x)::r=>x.vars++kE r
def ni:aF→List Nat
 | []=>[]
 |(_,x)::r=>x.vars++ni r
def PF.vars:PF→List Nat
 | .row l i cells=>l::(i.vars++bP cells)
 | .app l a b=>l::(a8 a++a8 b)
 | .lit l rows=>l::jK rows
 | .sub l a lo hi=>l::a::(lo.vars++hi.vars)
 | .set l a i cells=>l::a::(i.vars++bP cells)
 | .je f=>f.vars
 | .cat s a b=>s::(a.vars++b.vars)
 | .pr _ args=>args
def Sc(n:Nat)(l:List Nat):Prop:=∀k∈l,k<n
structure DSt.sc(σ:DSt):Prop where
 ah:∀t v,lk σ.ah t=some v→Sc σ.nx v.vars
 tab:∀k v,lk σ.tab k=some v→Sc σ.nx v.vars
 tys:∀k e,(k,e)∈σ.tys→k<σ.nx
 lin:∀e∈σ.lin,Sc σ.nx e.vars
 prs:∀f∈σ.prs,Sc σ.nx f.vars
def au(n:Nat)(ρ ρ':Ro):Prop:=∀k,k<n→ρ' k=ρ k
theorem au.refl(n:Nat)(ρ:Ro):au n ρ ρ:=fun _ _=>rfl
theorem au.trans{n m:Nat}{ρ ρ1 ρ2:Ro}(h:au n ρ ρ1)(k:au m ρ1 ρ2)(hl:n≤m):au n ρ ρ2:=fun j hj=>(k j (by omega)).trans (h j hj)
theorem au.le{n m:Nat}{ρ ρ':Ro}(h:au m ρ ρ')(hl:n≤m):au n ρ ρ':=fun j hj=>h j (by omega)
theorem Sc.app{n:Nat}{a b:List Nat}:Sc n (a++b) ↔ Sc n a∧Sc n b:=by
 unfold Sc;simp only[List.mem_append]
 exact⟨fun h=>⟨fun k hk=>h k (.inl hk),fun k hk=>h k (.inr hk)⟩,fun h k hk=>hk.elim (h.1 k) (h.2 k)⟩
theorem Sc.cons{n a:Nat}{b:List Nat}:Sc n (a::b) ↔ a<n∧Sc n b:=by
 unfold Sc;simp only[List.mem_cons]
 exact⟨fun h=>⟨h a (.inl rfl),fun k hk=>h k (.inr hk)⟩,fun h k hk=>hk.elim (fun e=>e▸h.1) (h.2 k)⟩
theorem Sc.nil{n:Nat}:Sc n []:=by intro k h;simp at h
theorem Sc.mono{n m:Nat}{a:List Nat}(h:Sc n a)(hl:n≤m):Sc m a:=fun k hk=>Nat.lt_of_lt_of_le (h k hk) hl
theorem Qj{n:Nat}{ρ ρ':Ro}(h:au n ρ ρ'){a:Nat}(ha:a / 4<n):aV ρ' a=aV ρ a:=by
 unfold aV;rw[h _ ha]
theorem JQ{n:Nat}{ρ ρ':Ro}(h:au n ρ ρ'):∀{x:Sum},Sc n (dS x)→bZ ρ' x=bZ ρ x
 | [],_=>rfl
 |(a,c)::r,hs=>by
   simp only[dS,Sc.cons]at hs
   simp only[bZ,Qj h hs.1,JQ h hs.2]
theorem Lin.ag{n:Nat}{ρ ρ':Ro}(h:au n ρ ρ'){e:Lin}(hs:Sc n e.vars):e.v ρ'=e.v ρ:=by
 unfold Lin.v;rw[JQ h hs]
theorem BF.ag{n:Nat}{ρ ρ':Ro}(h:au n ρ ρ'):∀{f:BF},Sc n f.vars→f.v ρ'=f.v ρ
 | .lit _,_=>rfl
 | .var k,hs=>by simp only[BF.vars,Sc.cons]at hs;simp only[BF.v,h k hs.1]
 | .le e,hs=>by simp only[BF.v,Lin.ag h hs]
 | .eq e,hs=>by simp only[BF.v,Lin.ag h hs]
 | .not f,hs=>by simp only[BF.vars]at hs;simp only[BF.v,BF.ag h hs]
 | .and f g,hs=>by simp only[BF.vars,Sc.app]at hs;simp only[BF.v,BF.ag h hs.1,BF.ag h hs.2]
 | .or f g,hs=>by simp only[BF.vars,Sc.app]at hs;simp only[BF.v,BF.ag h hs.1,BF.ag h hs.2]
theorem SE.ag{n:Nat}{ρ ρ':Ro}(h:au n ρ ρ'):∀{f:SE},Sc n f.vars→f.v ρ'=f.v ρ
 | .lit _,_=>rfl
 | .var k,hs=>by simp only[SE.vars,Sc.cons]at hs;simp only[SE.v,h k hs.1]
theorem gv{n:Nat}{ρ ρ':Ro}(h:au n ρ ρ'):∀{f:LV},Sc n (a8 f)→lvV ρ' f=lvV ρ f
 |none,_=>rfl
 |some k,hs=>by simp only[a8,Sc.cons]at hs;simp only[lvV,h k hs.1]
theorem DP.ag{n:Nat}{ρ ρ':Ro}(h:au n ρ ρ'){f:DP}(hs:Sc n f.vars):f.v ρ'=f.v ρ:=by
 cases f<;>simp only[DP.vars]at hs<;>simp only[DP.v]
 ·rw[Lin.ag h hs]
 ·rw[BF.ag h hs]
 ·rw[SE.ag h hs]
 ·rw[gv h hs]
 ·rw[gv h hs]
 ·rw[gv h hs]
theorem lZ{n:Nat}{ρ ρ':Ro}(h:au n ρ ρ'):∀{f:List DP},Sc n (bP f)→ar ρ' f=ar ρ f
 | [],_=>rfl
 |x::xs,hs=>by simp only[bP,Sc.app]at hs;simp only[ar,DP.ag h hs.1,lZ h hs.2]
theorem DG{n:Nat}{ρ ρ':Ro}(h:au n ρ ρ'):∀{f:List (List DP)},Sc n (jK f)→dZ ρ' f=dZ ρ f
 | [],_=>rfl
 |x::xs,hs=>by simp only[jK,Sc.app]at hs;simp only[dZ,lZ h hs.1,DG h hs.2]
mutual
theorem DV.ag{n:Nat}{ρ ρ':Ro}(h:au n ρ ρ'):∀{f:DV},Sc n f.vars→f.v ρ'=f.v ρ
 | .u,_=>by simp only[DV.v]
 | .p x fr,hs=>by simp only[DV.vars]at hs;simp only[DV.v,DP.ag h hs]
 | .ptr _ _,_=>by simp only[DV.v]
 | .vec _,_=>by simp only[DV.v]
 | .bn _ _ i _,hs=>by simp only[DV.vars]at hs;simp only[DV.v,Lin.ag h hs]
 | .pd row _ _,hs=>by simp only[DV.vars]at hs;simp only[DV.v,lZ h hs]
 | .pc l _,hs=>by simp only[DV.vars]at hs;simp only[DV.v,gv h hs]
 | .agg xs,hs=>by simp only[DV.vars]at hs;simp only[DV.v,sq h hs]
 | .bL xs,hs=>by simp only[DV.vars]at hs;simp only[DV.v,sq h hs]
 | .ref _,_=>by simp only[DV.v]
 | .fn f first aQ,hs=>by simp only[DV.vars,Sc.app]at hs;simp only[DV.v,sq h hs.1,sq h hs.2]
 | .cL t x,hs=>by simp only[DV.vars]at hs;simp only[DV.v,DV.ag h hs]
theorem sq{n:Nat}{ρ ρ':Ro}(h:au n ρ ρ'):∀{f:List DV},Sc n (aD f)→dvs ρ' f=dvs ρ f
 | [],_=>by simp only[dvs]
 |x::xs,hs=>by simp only[aD,Sc.app]at hs;simp only[dvs,DV.ag h hs.1,sq h hs.2]
end
theorem JR{n:Nat}{ρ ρ':Ro}(h:au n ρ ρ'):∀{l:List Nat},Sc n l→l.map ρ'=l.map ρ
 | [],_=>rfl
 |x::xs,hs=>by rw[Sc.cons]at hs;simp only[List.map_cons,h x hs.1,JR h hs.2]
theorem DO.ag{n:Nat}{ρ ρ':Ro}(h:au n ρ ρ'){f:DO}(hs:Sc n f.vars):f.v ρ'=f.v ρ:=by
 cases f<;>simp only[DO.vars]at hs<;>simp only[DO.v]
 ·rw[sq h hs]
 ·rw[gv h hs]
 ·rw[gv h hs]
 ·rw[Sc.app]at hs;rw[gv h hs.1,Lin.ag h hs.2]
theorem PF.ag{I:Pr}{n:Nat}{ρ ρ':Ro}(h:au n ρ ρ'){f:PF}(hs:Sc n f.vars):f.v I ρ'=f.v I ρ:=by
 cases f<;>simp only[PF.vars,Sc.app,Sc.cons]at hs<;>simp only[PF.v]
 ·rw[h _ hs.1,Lin.ag h hs.2.1,lZ h hs.2.2]
 ·rw[h _ hs.1,gv h hs.2.1,gv h hs.2.2]
 ·rw[h _ hs.1,DG h hs.2]
 ·rw[h _ hs.1,h _ hs.2.1,Lin.ag h hs.2.2.1,Lin.ag h hs.2.2.2]
 ·rw[h _ hs.1,h _ hs.2.1,Lin.ag h hs.2.2.1,lZ h hs.2.2.2]
 ·rw[BF.ag h hs]
 ·rw[h _ hs.1,SE.ag h hs.2.1,SE.ag h hs.2.2]
 ·rw[JR h hs]
theorem fQ(ρ:Ro):∀(l:bX) (t:Nat),lk (cV ρ l) t=(lk l t).map (DV.v ρ)
 | [],_=>rfl
 |(k,x)::r,t=>by
   simp only[cV,lk]
   cases Nat.beq k t with
   |true=>rfl
   |false=>exact fQ ρ r t
theorem dD(ρ:Ro):∀(l:aF) (t:Nat),lk (aU ρ l) t=(lk l t).map (DO.v ρ)
 | [],_=>rfl
 |(k,x)::r,t=>by
   simp only[aU,lk]
   cases Nat.beq k t with
   |true=>rfl
   |false=>exact dD ρ r t
theorem xP(ρ:Ro):∀(l:bX) (t:Nat),rm (cV ρ l) t=cV ρ (rm l t)
 | [],_=>rfl
 |(k,x)::r,t=>by
   simp only[cV,rm]
   cases Nat.beq k t with
   |true=>exact xP ρ r t
   |false=>simp only[cV,xP ρ r t]
theorem nj(ρ:Ro):∀(l:aF) (t:Nat),rm (aU ρ l) t=aU ρ (rm l t)
 | [],_=>rfl
 |(k,x)::r,t=>by
   simp only[aU,rm]
   cases Nat.beq k t with
   |true=>exact nj ρ r t
   |false=>simp only[aU,nj ρ r t]
theorem gF(ρ:Ro):∀l:List DV,dvs ρ l=l.map (DV.v ρ)
 | []=>by simp[dvs]
 |x::xs=>by simp[dvs,gF ρ xs]
theorem mN(ρ:Ro):∀l:List DP,ar ρ l=l.map (DP.v ρ)
 | []=>rfl
 |x::xs=>by simp[ar,mN ρ xs]
theorem EP(ρ:Ro):∀l:List (List DP),dZ ρ l=l.map (ar ρ)
 | []=>rfl
 |x::xs=>by simp[dZ,EP ρ xs]
end Go.TL
namespace Go.TL
def BU(a:Nat):Option Int:=
 match a % 4 with
 |0=>some 9223372036854775807
 |1=>some 1099511627776
 |2=>none
 |_=>some 1073741824
def uw(a:Nat):Int:=
 match a % 4 with
 |0=> -9223372036854775808
 |_=>0
theorem DH(a:Nat):a % 4=0∨a % 4=1∨a % 4=2∨a % 4=3:=by omega
theorem ER{ρ:Ro}(h:Gok ρ){a:Nat}{b:Int}(hb:BU a=some b):aV ρ a≤b:=by
 unfold BU at hb
 unfold aV
 have h1:=h.hi (a / 4)
 have h2:=h.ln (a / 4)
 have h3:=h.st (a / 4)
 unfold uv at h2
 unfold cu at h3
 rcases DH a with e|e|e|e<;>simp only[e]at hb ⊢ <;>simp only[ZS,reduceCtorEq]at hb<;>omega
theorem ES{ρ:Ro}(h:Gok ρ)(a:Nat):uw a≤aV ρ a:=by
 unfold uw aV
 have h1:=h.lo (a / 4)
 rcases DH a with e|e|e|e<;>simp only[e]<;>omega
def isNeg:Int→Bool
 | .ofNat _=>false
 | .negSucc _=>true
theorem AN{z:Int}(h:isNeg z=true):z<0:=by
 cases z with
 |ofNat n=>simp[isNeg]at h
 |negSucc n=>exact Int.negSucc_lt_zero n
theorem oI{z:Int}(h:isNeg z=false):0≤z:=by
 cases z with
 |ofNat n=>exact Int.natCast_nonneg n
 |negSucc n=>simp[isNeg]at h
def ubS(acc:Int):Sum→Option Int
 | []=>some acc
 |(a,c)::r=>match isNeg c with
   |true=>ubS (acc+c*uw a) r
   |false=>match BU a with
    |some b=>ubS (acc+c*b) r
    |none=>none
theorem G0{ρ:Ro}(h:Gok ρ):∀(x:Sum) (acc b:Int),ubS acc x=some b→acc+bZ ρ x≤b
 | [],acc,b,hb=>by simp only[ubS,ZS]at hb;simp only[bZ];omega
 |(a,c)::r,acc,b,hb=>by
   simp only[ubS]at hb
   simp only[bZ]
   split at hb
   ·rename_i hn
    have:=G0 h r _ b hb
    have h1:=AN hn
    have h2:c*aV ρ a≤c*uw a:=Int.mul_le_mul_of_nonpos_left (by omega) (ES h a)
    omega
   ·rename_i hn
    split at hb
    ·rename_i b' hb'
     have:=G0 h r _ b hb
     have h2:c*aV ρ a≤c*b':=Int.mul_le_mul_of_nonneg_left (ER h hb') (oI hn)
     omega
    ·cases hb
def G4(e:Lin):Bool:=match ubS e.c e.t with|some b=>leZ b|none=>false
theorem DI{ρ:Ro}(h:Gok ρ){e:Lin}(hb:G4 e=true):e.v ρ≤0:=by
 unfold G4 at hb
 split at hb
 ·rename_i b hu
  have:=G0 h _ _ _ hu
  have:=NV hb
  unfold Lin.v;omega
 ·cases hb
def Qk(a:Nat):Sum→Int
 | []=>0
 |(a',c)::r=>match Nat.beq a a' with|true=>c|false=>Qk a r
def ratio(c d:Int):Option Int:=
 match y5 d,Vy d with
 |true,_=>match isNeg c,isZ c with|false,false=>some c|_,_=>none
 |_,true=>match isNeg c with|true=>some (-c)|false=>none
 |_,_=>match isZ (c - d)with|true=>some 1|false=>none
def K9:Sum→Option (Nat×Int)
 | []=>none
 |(a,c)::r=>match K9 r with
   |some x=>some x
   |none=>match isNeg c with
    |false=>some (a,c)
    |true=>match a % 4 with
     |0=>some (a,c)
     |_=>none
def Ql(e:Lin)(a:Nat)(c:Int):Option Lin:=
 match isNeg c with
 |true=>some ((e.ax (-c) (Lin.at a)).aN (c*uw a))
 |false=>match BU a with
  |some b=>some ((e.ax (-c) (Lin.at a)).aN (c*b))
  |none=>none
theorem Tb{ρ:Ro}(h:Gok ρ){e e':Lin}{a:Nat}{c:Int}(he:Ql e a c=some e'):e.v ρ≤e'.v ρ:=by
 unfold Ql at he
 split at he
 ·rename_i hn
  simp only[ZS]at he;subst he
  have h1:=AN hn
  have h2:c*aV ρ a≤c*uw a:=Int.mul_le_mul_of_nonpos_left (by omega) (ES h a)
  rw[Lin.aO,Lin.bQ,Lin.bN]
  have h3:(-c)*aV ρ a= -(c*aV ρ a):=Int.neg_mul _ _
  omega
 ·rename_i hn
  split at he
  ·rename_i b hb
   simp only[ZS]at he;subst he
   have h2:c*aV ρ a≤c*b:=Int.mul_le_mul_of_nonneg_left (ER h hb) (oI hn)
   rw[Lin.aO,Lin.bQ,Lin.bN]
   have h3:(-c)*aV ρ a= -(c*aV ρ a):=Int.neg_mul _ _
   omega
  ·cases he
def G5(e:Lin)(a:Nat)(c:Int):Option Lin:=
 match a % 4,isNeg c with
 |1,false=>some ((e.ax (-c) (Lin.at a)).ax c (Lin.at (a+1)))
 |2,true=>some ((e.ax (-c) (Lin.at a)).ax c (Lin.at (a - 1)))
 |_,_=>none
theorem JT{ρ:Ro}{e e':Lin}{a:Nat}{c:Int}(he:G5 e a c=some e'):e.v ρ≤e'.v ρ:=by
 unfold G5 at he
 split at he
 ·rename_i hm hn
  simp only[ZS]at he;subst he
  rw[Lin.bQ,Lin.bQ,Lin.bN,Lin.bN]
  have h1:aV ρ a=((ρ (a / 4)).l.length:Int):=by unfold aV;simp only[hm]
  have h2:aV ρ (a+1)=(rsz (ρ (a / 4)).l:Int):=by
   unfold aV
   have q1:(a+1) % 4=2:=by omega
   have q2:(a+1) / 4=a / 4:=by omega
   simp only[q1,q2]
  have h3:=xf (ρ (a / 4)).l
  have h4:c*((ρ (a / 4)).l.length:Int)≤c*(rsz (ρ (a / 4)).l:Int):=Int.mul_le_mul_of_nonneg_left (by omega) (oI hn)
  rw[h1,h2,Int.neg_mul];omega
 ·rename_i hm hn
  simp only[ZS]at he;subst he
  rw[Lin.bQ,Lin.bQ,Lin.bN,Lin.bN]
  have h1:aV ρ a=(rsz (ρ (a / 4)).l:Int):=by unfold aV;simp only[hm]
  have h2:aV ρ (a - 1)=((ρ (a / 4)).l.length:Int):=by
   unfold aV
   have q1:(a - 1) % 4=1:=by omega
   have q2:(a - 1) / 4=a / 4:=by omega
   simp only[q1,q2]
  have h3:=xf (ρ (a / 4)).l
  have h5:=AN hn
  have h4:c*(rsz (ρ (a / 4)).l:Int)≤c*((ρ (a / 4)).l.length:Int):=Int.mul_le_mul_of_nonpos_left (by omega) (by omega)
  rw[h1,h2,Int.neg_mul];omega
 ·cases he
def direct(e:Lin):List Lin→Bool
 | []=>false
 |f::r=>match vV e.t f.t with
  |true=>match leZ (e.c - f.c)with|true=>true|false=>direct e r
  |false=>direct e r
theorem tn{ρ:Ro}{e:Lin}:∀{fs:List Lin},(∀f∈fs,f.v ρ≤0)→direct e fs=true→e.v ρ≤0
 |f::r,hf,h=>by
  simp only[direct]at h
  split at h
  ·rename_i h1
   split at h
   ·rename_i h2
    have h3:=hf f (ZW ..)
    have h4:=NV h2
    unfold Lin.v at h3 ⊢
    rw[AM h1];omega
   ·exact tn (fun x hx=>hf x (ZV _ hx)) h
  ·exact tn (fun x hx=>hf x (ZV _ hx)) h
def XI(a:Nat)(t:Sum):Bool:=
 match K9 t with
 |none=>true
 |some (a',_)=>Nat.ble (a'+1) a
def kF(rec:Nat→Lin→Bool×Nat)(up:Bool)(e:Lin)(a:Nat)(c:Int):List Lin→Nat→Bool×Nat
 | [],b=>(false,b)
 |f::gs,b=>match isZ (Qk a f.t)with
  |true=>kF rec up e a c gs b
  |false=>match ratio c (Qk a f.t)with
   |some k=>match isNeg k with
    |true=>kF rec up e a c gs b
    |false=>match e.ax (-k) f with
     |e'=>match XI a e'.t,up with
      |true,false=>match rec b e' with
       |(true,b)=>(true,b)
       |(false,b)=>kF rec up e a c gs b
      |false,true=>match rec b e' with
       |(true,b)=>(true,b)
       |(false,b)=>kF rec up e a c gs b
      |_,_=>kF rec up e a c gs b
   |none=>kF rec up e a c gs b
def BV(rec:Nat→Lin→Bool×Nat):Option Lin→Nat→Bool×Nat
 |some e',b=>match e'.t with| []=>(false,b)|_=>rec b e'
 |none,b=>(false,b)
def nT(fs:List Lin):Nat→Nat→Nat→Lin→Bool×Nat
 |0,_,b,e=>(G4 e,b)
 |_+1,_,0,_=>(false,0)
 |n+1,u,b+1,e=>match(match G4 e with|true=>true|false=>direct e fs)with
  |true=>(true,b)
  |false=>match K9 e.t with
   |none=>(false,b)
   |some (a,c)=>match kF (nT fs n u) false e a c fs b with
    |(true,b)=>(true,b)
    |(false,b)=>match BV (nT fs n u) (Ql e a c) b with
      |(true,b)=>(true,b)
      |(false,b)=>match BV (nT fs n u) (G5 e a c) b with
        |(true,b)=>(true,b)
        |(false,b)=>match u with
          |0=>(false,b)
          |u+1=>kF (nT fs n u) true e a c fs b
theorem jw{ρ:Ro}{rec:Nat→Lin→Bool×Nat}(hr:∀b e,(rec b e).1=true→e.v ρ≤0)(up:Bool)(e:Lin)(a:Nat)(c:Int):∀(gs:List Lin) (b:Nat),(∀f∈gs,f.v ρ≤0)→(kF rec up e a c gs b).1=true→e.v ρ≤0
 |f::gs,b,hg,hp=>by
  have hg':∀f∈gs,f.v ρ≤0:=fun x hx=>hg x (ZV _ hx)
  have go:∀{b k},isNeg k=false→(rec b (e.ax (-k) f)).1=true→e.v ρ≤0:=by
   intro b k hk hq
   have h1:=hr b _ hq
   rw[Lin.bQ]at h1
   have h2:=hg f (ZW ..)
   have h3:k*f.v ρ≤0:=Int.mul_nonpos_of_nonneg_of_nonpos (oI hk) h2
   have h4:(-k)*f.v ρ= -(k*f.v ρ):=Int.neg_mul _ _
   omega
  simp only[kF]at hp
  split at hp
  ·exact jw hr up e a c gs b hg' hp
  ·split at hp
   ·rename_i k _
    split at hp
    ·exact jw hr up e a c gs b hg' hp
    ·rename_i hk
     split at hp
     ·split at hp
      ·rename_i b' hq;exact go hk (by rw[hq])
      ·exact jw hr _ e a c gs _ hg' hp
     ·split at hp
      ·rename_i b' hq;exact go hk (by rw[hq])
      ·exact jw hr _ e a c gs _ hg' hp
     ·exact jw hr _ e a c gs b hg' hp
   ·exact jw hr up e a c gs b hg' hp
 | [],b,_,hp=>by simp[kF]at hp
theorem ET{ρ:Ro}{rec:Nat→Lin→Bool×Nat}(hr:∀b e,(rec b e).1=true→e.v ρ≤0){e:Lin}{o:Option Lin}{b:Nat}(ho:∀e',o=some e'→e.v ρ≤e'.v ρ)(hp:(BV rec o b).1=true):e.v ρ≤0:=by
 unfold BV at hp
 split at hp
 ·rename_i e'
  split at hp
  ·cases hp
  ·exact Int.le_trans (ho e' rfl) (hr _ _ hp)
 ·cases hp
theorem EU{ρ:Ro}(h:Gok ρ)(fs:List Lin)(hf:∀f∈fs,f.v ρ≤0):∀(n u b:Nat) (e:Lin),(nT fs n u b e).1=true→e.v ρ≤0
 |0,u,b,e,hp=>by simp only[nT]at hp;exact DI h hp
 |n+1,u,0,e,hp=>by simp[nT]at hp
 |n+1,u,b+1,e,hp=>by
  have ih:=EU h fs hf n
  simp only[nT]at hp
  split at hp
  ·rename_i hu
   split at hu
   ·rename_i hu';exact DI h hu'
   ·exact tn hf hu
  ·split at hp
   ·cases hp
   ·rename_i a c hl
    split at hp
    ·rename_i b1 hq;exact jw (ih u) false e a c fs b hf (by rw[hq])
    ·split at hp
     ·rename_i b2 hq;exact ET (ih u) (fun e' he=>Tb h he) (by rw[hq])
     ·split at hp
      ·rename_i b3 hq;exact ET (ih u) (fun e' he=>JT he) (by rw[hq])
      ·split at hp
       ·cases hp
       ·exact jw (ih _) true e a c fs _ hf hp
def G6:Nat→List Lin→Option Lin
 |_,[]=>none
 |0,f::_=>some f
 |n+1,_::r=>G6 n r
theorem G7:∀{n:Nat} {l:List Lin} {f:Lin},G6 n l=some f→f∈l
 |0,x::r,f,h=>by simp only[G6,ZS]at h;subst h;exact ZW ..
 |n+1,x::r,f,h=>by simp only[G6]at h;exact ZV _ (G7 h)
def BW(fs:List Lin):List (Nat×Int)→Lin→Option Lin
 | [],e=>some e
 |(i,k)::r,e=>match isNeg k,G6 i fs with
   |false,some f=>BW fs r (e.ax (-k) f)
   |_,_=>none
theorem G8{ρ:Ro}{fs:List Lin}(hf:∀f∈fs,f.v ρ≤0):∀{l:List (Nat×Int)} {e e':Lin},BW fs l e=some e'→e.v ρ≤e'.v ρ
 | [],e,e',h=>by simp only[BW,ZS]at h;subst h;exact Int.le_refl _
 |(i,k)::r,e,e',h=>by
   simp only[BW]at h
   split at h
   ·rename_i f hk hn
    have h1:=G8 hf h
    rw[Lin.bQ,Int.neg_mul]at h1
    have h2:k*f.v ρ≤0:=Int.mul_nonpos_of_nonneg_of_nonpos (oI hk) (hf f (G7 hn))
    omega
   ·cases h
def G9(T:List (Nat×TypeId))(l:Nat):Option Nat:=match lk T l with|some e=>some (jS e)|none=>none
theorem NZ{P:Program}{ρ:Ro}{T:List (Nat×TypeId)}(hT:dA P ρ T){l b:Nat}(h:G9 T l=some b):(ρ l).l.length≤b:=by
 unfold G9 at h
 split at h
 ·rename_i e he;simp only[ZS]at h;subst h;exact(eE hT he).1
 ·cases h
def y6(T:List (Nat×TypeId)):List (Nat×Int)→Lin→Option Lin
 | [],e=>some e
 |(a,k)::r,e=>match isNeg k,a % 4 with
   |false,1=>y6 T r ((e.ax (-k) (Lin.at a)).ax k (Lin.at (a+1)))
   |false,0=>match G9 T (a / 4)with
    |some b=>y6 T r ((e.ax (-k) (Lin.at (a+1))).aN (k*b))
    |none=>none
   |_,_=>none
theorem AO{P:Program}{ρ:Ro}{T:List (Nat×TypeId)}(hT:dA P ρ T):∀{l:List (Nat×Int)} {e e':Lin},y6 T l e=some e'→e.v ρ≤e'.v ρ
 | [],e,e',h=>by simp only[y6,ZS]at h;subst h;exact Int.le_refl _
 |(a,k)::r,e,e',h=>by
   simp only[y6]at h
   split at h
   ·rename_i hk hm
    have h0:=AO hT (l:=r) h
    have h5:G5 e a k=some ((e.ax (-k) (Lin.at a)).ax k (Lin.at (a+1))):=by unfold G5;simp only[hm,hk]
    exact Int.le_trans (JT h5) h0
   ·rename_i hk hm
    split at h
    ·rename_i b hs
     have h0:=AO hT (l:=r) h
     have h1:=NZ hT hs
     rw[Lin.aO,Lin.bQ,Lin.bN]at h0
     have h2:aV ρ (a+1)=((ρ (a / 4)).l.length:Int):=by
      unfold aV
      have q1:(a+1) % 4=1:=by omega
      have q2:(a+1) / 4=a / 4:=by omega
      simp only[q1,q2]
     rw[h2]at h0
     have h3:k*((ρ (a / 4)).l.length:Int)≤k*(b:Int):=Int.mul_le_mul_of_nonneg_left (by omega) (oI hk)
     rw[Int.neg_mul]at h0
     omega
    ·cases h
   ·cases h
def Ha(T:List (Nat×TypeId))(fs:List Lin)(c:Cert):Bool:=
 match Nat.ble 1 c.m,BW fs c.ks (Lin.scale c.m c.g)with
 |true,some e=>match y6 T c.zs e with
  |some e=>G4 e
  |none=>false
 |_,_=>false
theorem N0{P:Program}{ρ:Ro}{T:List (Nat×TypeId)}(hT:dA P ρ T)(h:Gok ρ){fs:List Lin}(hf:∀f∈fs,f.v ρ≤0){c:Cert}(hc:Ha T fs c=true):c.g.v ρ≤0:=by
 unfold Ha at hc
 split at hc
 ·rename_i e1 hm h1
  split at hc
  ·rename_i e2 h2
   have a1:=G8 hf h1
   have a2:=AO hT h2
   have a3:=DI h hc
   rw[Lin.bE]at a1
   have hm':=ZX hm
   have a4:(c.m:Int)*c.g.v ρ≤0:=by omega
   by_cases hp:c.g.v ρ≤0
   ·exact hp
   ·have:0<(c.m:Int)*c.g.v ρ:=Int.mul_pos (by omega) (by omega)
    omega
  ·cases hc
 ·cases hc
def ux(T:List (Nat×TypeId))(fs:List Lin)(e:Lin):List Cert→Bool
 | []=>false
 |c::r=>match e.beq c.g with
  |true=>match Ha T fs c with
   |true=>true
   |false=>ux T fs e r
  |false=>ux T fs e r
theorem vW{P:Program}{ρ:Ro}{T:List (Nat×TypeId)}(hT:dA P ρ T)(h:Gok ρ){fs:List Lin}(hf:∀f∈fs,f.v ρ≤0){e:Lin}:∀{l:List Cert},ux T fs e l=true→e.v ρ≤0
 |c::r,hc=>by
  simp only[ux]at hc
  split at hc
  ·rename_i hb
   split at hc
   ·rename_i ho;rw[Lin.beq_eq hb];exact N0 hT h hf ho
   ·exact vW hT h hf hc
  ·exact vW hT h hf hc
end Go.TL
namespace Go.TL
def AP:Value→DP
 | .int k n=> .int k (Lin.lit n)
 | .bool b=> .bl (.lit b)
 | .string s=> .st (.lit s.data.toList)
 | .slice none 0 0=> .nl
 |v=> .ej v
theorem Hb(ρ:Ro)(v:Value):(AP v).v ρ= .v v:=by
 unfold AP
 split<;>simp[DP.v,Lin.cT,BF.v,SE.v]
theorem EV(v:Value):(AP v).vars=[]:=by
 unfold AP
 split<;>simp[DP.vars,Lin.lit,Lin.vars,dS,BF.vars,SE.vars]
def DSt.get(σ:DSt)(t:Nat):DV:=match lk σ.ah t with|some x=>x|none=> .u
def DSt.put(σ:DSt)(dst:Option Nat)(x:DV):DSt:=
 match dst with
 |some d=>{σ with ah:=(d,x)::σ.ah}
 |none=>σ
def dev(σ:DSt):Operand→DV
 | .tmp t=>σ.get t
 | .const v=>match v.oneCell' with|true=> .p (AP v) true|false=> .u
 | .func f=> .fn (.func f) [] []
 | .global _=> .u
def mO(σ:DSt):List Operand→List DV
 | []=>[]
 |x::xs=>dev σ x::mO σ xs
theorem Hc(ρ:Ro)(σ:DSt)(t:Nat):(σ.v ρ).get t=(σ.get t).v ρ:=by
 unfold St.get DSt.get DSt.v
 simp only[fQ]
 cases lk σ.ah t<;>simp[DV.v]
theorem aK(ρ:Ro)(σ:DSt)(x:Operand):ev (σ.v ρ) x=(dev σ x).v ρ:=by
 cases x with
 |tmp t=>exact Hc ρ σ t
 |const v=>simp only[ev,dev];cases v.oneCell'<;>simp[DV.v,Hb]
 |func f=>simp[ev,dev,DV.v,dvs]
 |global g=>simp[ev,dev,DV.v]
theorem BX(ρ:Ro)(σ:DSt):∀xs:List Operand,evs (σ.v ρ) xs=dvs ρ (mO σ xs)
 | []=>by simp[evs,mO,dvs]
 |x::xs=>by simp[evs,mO,dvs,aK,BX ρ σ xs]
theorem eF(ρ:Ro)(σ:DSt)(dst:Option Nat)(x:DV):(σ.put dst x).v ρ=(σ.v ρ).put dst (x.v ρ):=by
 cases dst<;>rfl
theorem DSt.sc.get{σ:DSt}(h:σ.sc)(t:Nat):Sc σ.nx (σ.get t).vars:=by
 unfold DSt.get
 cases hl:lk σ.ah t with
 |some x=>exact h.ah t x hl
 |none=>exact Sc.nil
theorem DSt.sc.dev{σ:DSt}(h:σ.sc)(x:Operand):Sc σ.nx (dev σ x).vars:=by
 cases x with
 |tmp t=>exact h.get t
 |const v=>simp only[Go.TL.dev];cases v.oneCell'<;>simp[DV.vars,EV,Sc.nil]
 |func f=>simp[Go.TL.dev,DV.vars,aD,Sc.nil]
 |global g=>simp[Go.TL.dev,DV.vars,Sc.nil]
theorem DSt.sc.mO{σ:DSt}(h:σ.sc):∀xs:List Operand,Sc σ.nx (aD (mO σ xs))
 | []=>by simp[Go.TL.mO,aD,Sc.nil]
 |x::xs=>by simp only[Go.TL.mO,aD,Sc.app];exact⟨h.dev x,h.mO xs⟩
theorem DSt.sc.put{σ:DSt}(h:σ.sc)(dst:Option Nat){x:DV}(hx:Sc σ.nx x.vars):(σ.put dst x).sc:=by
 cases dst with
 |none=>exact h
 |some d=>
  refine⟨?_,h.tab,h.tys,h.lin,h.prs⟩
  intro t v hl
  simp only[DSt.put,lk]at hl
  cases hb:Nat.beq d t with
  |true=>simp only[hb,ZS]at hl;subst hl;exact hx
  |false=>simp only[hb]at hl;exact h.ah t v hl
theorem di(σ:DSt)(dst:Option Nat)(x:DV):(σ.put dst x).nx=σ.nx:=by cases dst<;>rfl
theorem DSt.ok.put{P:Program}{I:Pr}{σ:DSt}{ρ:Ro}(h:σ.ok P I ρ)(dst:Option Nat)(x:DV):(σ.put dst x).ok P I ρ:=by
 cases dst with
 |none=>exact h
 |some d=>exact⟨h.g,h.tys,h.lin,h.prs⟩
theorem uy{n:Nat}{ρ ρ':Ro}(h:au n ρ ρ'):∀{l:List Lin},(∀e∈l,Sc n e.vars)→(bh ρ' l ↔ bh ρ l)
 | [],_=>Iff.rfl
 |e::r,hs=>by simp only[bh,Lin.ag h (hs e (ZW ..)),uy h fun x hx=>hs x (ZV _ hx)]
theorem N1{I:Pr}{n:Nat}{ρ ρ':Ro}(h:au n ρ ρ'):∀{l:List PF},(∀e∈l,Sc n e.vars)→(c5 I ρ' l ↔ c5 I ρ l)
 | [],_=>Iff.rfl
 |e::r,hs=>by simp only[c5,PF.ag h (hs e (ZW ..)),N1 h fun x hx=>hs x (ZV _ hx)]
theorem xQ{P:Program}{n:Nat}{ρ ρ':Ro}(h:au n ρ ρ'):∀{l:List (Nat×TypeId)},(∀k e,(k,e)∈l→k<n)→(dA P ρ' l ↔ dA P ρ l)
 | [],_=>Iff.rfl
 |(k,e)::r,hs=>by simp only[dA,h k (hs k e (ZW ..)),xQ h fun k' e' hx=>hs k' e' (ZV _ hx)]
theorem DSt.ok.ag{P:Program}{I:Pr}{σ:DSt}{ρ ρ':Ro}(h:σ.ok P I ρ)(hs:σ.sc)(ha:au σ.nx ρ ρ')(hg:Gok ρ'):σ.ok P I ρ':=
 ⟨hg,(xQ ha hs.tys).2 h.tys,(uy ha hs.lin).2 h.lin,(N1 ha hs.prs).2 h.prs⟩
theorem Tc{σ:DSt}{ρ ρ':Ro}(hs:σ.sc)(ha:au σ.nx ρ ρ')(t:Nat):(lk σ.ah t).map (DV.v ρ')=(lk σ.ah t).map (DV.v ρ):=by
 cases hl:lk σ.ah t with
 |none=>rfl
 |some x=>simp only[Option.map_some,DV.ag ha (hs.ah t x hl)]
theorem Qm{σ:DSt}{ρ ρ':Ro}(hs:σ.sc)(ha:au σ.nx ρ ρ')(t:Nat):(lk σ.tab t).map (DO.v ρ')=(lk σ.tab t).map (DO.v ρ):=by
 cases hl:lk σ.tab t with
 |none=>rfl
 |some x=>simp only[Option.map_some,DO.ag ha (hs.tab t x hl)]
structure cq(σ σ':St):Prop where
 ah:∀t,lk σ.ah t=lk σ'.ah t
 tab:∀t,lk σ.tab t=lk σ'.tab t
theorem cq.refl(σ:St):cq σ σ:=⟨fun _=>rfl,fun _=>rfl⟩
theorem cq.symm{σ σ':St}(h:cq σ σ'):cq σ' σ:=⟨fun t=>(h.ah t).symm,fun t=>(h.tab t).symm⟩
theorem cq.put{σ σ':St}(h:cq σ σ')(dst:Option Nat)(x:SV):cq (σ.put dst x) (σ'.put dst x):=by
 cases dst with
 |none=>exact h
 |some d=>
  refine⟨fun t=>?_,h.tab⟩
  simp only[St.put,lk]
  rw[h.ah t]
theorem cq.holds{C:Ctx}{σ σ':St}{a:Act}{w:World}(h:cq σ σ')(hh:Holds C σ a w):Holds C σ' a w:=by
 obtain⟨E,e⟩:=hh
 refine⟨E,e.size,e.defers,fun t sv hl=>e.ah t sv ((h.ah t).trans hl),⟨fun k ov hl=>e.tab.obj k ov ((h.tab k).trans hl),fun k hk=>e.tab.dead k ((h.tab k).trans hk),?_,e.tab.ext⟩,e.fr,e.lo,e.ids,e.lL⟩
 intro b k hb
 obtain⟨h1,h2,h3⟩:=e.tab.own b k hb
 exact⟨h1,h2,fun h0=>h3 ((h.tab k).trans h0)⟩
theorem DSt.fX{σ:DSt}{ρ ρ':Ro}(hs:σ.sc)(ha:au σ.nx ρ ρ'):cq (σ.v ρ) (σ.v ρ'):=
 ⟨fun t=>by simp only[DSt.v,fQ,Tc hs ha],fun t=>by simp only[DSt.v,dD,Qm hs ha]⟩
inductive G where
 |le(e:Lin)
 |pf(f:PF)
def G.v(I:Pr)(ρ:Ro):G→Prop
 | .le e=>e.v ρ≤0
 | .pf f=>f.v I ρ
def gsV(I:Pr)(ρ:Ro):List G→Prop
 | []=>True
 |g::r=>g.v I ρ∧gsV I ρ r
theorem jm{I:Pr}{ρ:Ro}:∀{a b:List G},gsV I ρ (a++b) ↔ gsV I ρ a∧gsV I ρ b
 | [],b=>by simp[gsV]
 |x::a,b=>by simp[gsV,jm (a:=a),and_assoc]
abbrev DR:=Option (DSt×List G)
def Good(P:Program)(I:Pr)(σ:DSt)(o:Oper)(σ':DSt)(gs:List G):Prop:=
 σ.sc→σ'.sc∧σ.nx≤σ'.nx∧∀ρ,σ.ok P I ρ→gsV I ρ gs→∃ρ',au σ.nx ρ ρ'∧σ'.ok P I ρ'∧
  ∃(H:Hint) (s:St) (ps:List Prop),aop P H (σ.v ρ) o=some (s,ps)∧lM ps∧cq s (σ'.v ρ')
theorem bS{P:Program}{I:Pr}{σ:DSt}{o:Oper}{x:DV}{gs:List G}(hx:σ.sc→Sc σ.nx x.vars)
  (h:∀ρ,σ.sc→σ.ok P I ρ→gsV I ρ gs→∃(H:Hint) (ps:List Prop),aop P H (σ.v ρ) o=some ((σ.v ρ).put o.dst (x.v ρ),ps)∧lM ps):Good P I σ o (σ.put o.dst x) gs:=by
 intro hs
 refine⟨hs.put o.dst (hx hs),by rw[di];exact Nat.le_refl _,?_⟩
 intro ρ ab hg
 obtain⟨H,ps,h1,h2⟩:=h ρ hs ab hg
 exact⟨ρ,au.refl _ _,ab.put _ _,H,_,ps,h1,h2,by rw[eF];exact cq.refl _⟩
def DSt.grow(σ:DSt)(n:Nat)(tys:List (Nat×TypeId))(lin:List Lin)(prs:List PF):DSt:=
 {σ with nx:=σ.nx+n,tys:=tys++σ.tys,lin:=lin++σ.lin,prs:=prs++σ.prs}
structure jT(m:Nat)(tys:List (Nat×TypeId))(lin:List Lin)(prs:List PF):Prop where
 tys:∀k e,(k,e)∈tys→k<m
 lin:∀e∈lin,Sc m e.vars
 prs:∀f∈prs,Sc m f.vars
theorem DSt.sc.grow{σ:DSt}(h:σ.sc){n:Nat}{tys:List (Nat×TypeId)}{lin:List Lin}{prs:List PF}(hg:jT (σ.nx+n) tys lin prs):(σ.grow n tys lin prs).sc:=by
 have hl:σ.nx≤σ.nx+n:=Nat.le_add_right _ _
 refine⟨fun t v ht=>(h.ah t v ht).mono hl,fun t v ht=>(h.tab t v ht).mono hl,?_,?_,?_⟩
 ·intro k e hk
  rcases Z0 hk with hk|hk
  ·exact hg.tys k e hk
  ·exact Nat.lt_of_lt_of_le (h.tys k e hk) hl
 ·intro e he
  rcases Z0 he with he|he
  ·exact hg.lin e he
  ·exact(h.lin e he).mono hl
 ·intro e he
  rcases Z0 he with he|he
  ·exact hg.prs e he
  ·exact(h.prs e he).mono hl
theorem pD{P:Program}{ρ:Ro}:∀{a b:List (Nat×TypeId)},dA P ρ (a++b) ↔ dA P ρ a∧dA P ρ b
 | [],b=>by simp[dA]
 |(k,e)::a,b=>by simp[dA,pD (a:=a),and_assoc]
theorem EW{ρ:Ro}:∀{a b:List Lin},bh ρ (a++b) ↔ bh ρ a∧bh ρ b
 | [],b=>by simp[bh]
 |e::a,b=>by simp[bh,EW (a:=a),and_assoc]
theorem mP{I:Pr}{ρ:Ro}:∀{a b:List PF},c5 I ρ (a++b) ↔ c5 I ρ a∧c5 I ρ b
 | [],b=>by simp[c5]
 |e::a,b=>by simp[c5,mP (a:=a),and_assoc]
theorem DSt.ok.grow{P:Program}{I:Pr}{σ:DSt}{ρ ρ':Ro}(h:σ.ok P I ρ)(hs:σ.sc)(ha:au σ.nx ρ ρ')(hg:Gok ρ'){n:Nat}{tys:List (Nat×TypeId)}{lin:List Lin}{prs:List PF}
  (h1:dA P ρ' tys)(h2:bh ρ' lin)(h3:c5 I ρ' prs):(σ.grow n tys lin prs).ok P I ρ':=by
 have:=h.ag hs ha hg
 exact⟨hg,pD.2 ⟨h1,this.tys⟩,EW.2 ⟨h2,this.lin⟩,mP.2 ⟨h3,this.prs⟩⟩
theorem oJ{P:Program}{I:Pr}{σ:DSt}{o:Oper}{x:DV}{gs:List G}{n:Nat}{tys:List (Nat×TypeId)}{lin:List Lin}{prs:List PF}
  (hx:σ.sc→Sc (σ.nx+n) x.vars)(hg:σ.sc→jT (σ.nx+n) tys lin prs)
  (h:∀ρ,σ.sc→σ.ok P I ρ→gsV I ρ gs→∃ρ',au σ.nx ρ ρ'∧Gok ρ'∧dA P ρ' tys∧bh ρ' lin∧c5 I ρ' prs∧
   ∃(H:Hint) (ps:List Prop),aop P H (σ.v ρ) o=some ((σ.v ρ).put o.dst (x.v ρ'),ps)∧lM ps):Good P I σ o ((σ.grow n tys lin prs).put o.dst x) gs:=by
 intro hs
 have fm:=hs.grow (hg hs)
 refine⟨fm.put o.dst (hx hs),by rw[di];exact Nat.le_add_right _ _,?_⟩
 intro ρ ab hgs
 obtain⟨ρ',ha,hgk,h1,h2,h3,H,ps,h4,h5⟩:=h ρ hs ab hgs
 refine⟨ρ',ha,(ab.grow hs ha hgk h1 h2 h3).put _ _,H,_,ps,h4,h5,?_⟩
 rw[eF]
 exact cq.put (DSt.fX hs ha) _ _
def up(ρ:Ro)(k:Nat)(x:Va):Ro:=fun j=>if j=k then x else ρ j
theorem bg(ρ:Ro)(k:Nat)(x:Va):up ρ k x k=x:=by simp[up]
theorem La(ρ:Ro){k j:Nat}(x:Va)(h:j≠k):up ρ k x j=ρ j:=by simp[up,h]
theorem da(ρ:Ro)(k n:Nat)(x:Va)(h:n≤k):au n ρ (up ρ k x):=fun j hj=>La ρ x (by omega)
structure mQ(x:Va):Prop where
 lo: -9223372036854775808≤x.n
 hi:x.n≤9223372036854775807
 st:x.s.size≤cu
 ln:x.l.length≤uv
theorem Gok.up{ρ:Ro}(h:Gok ρ)(k:Nat){x:Va}(hx:mQ x):Gok (up ρ k x):=by
 constructor<;>intro j<;>by_cases e:j=k<;>simp only[Go.TL.up,e,if_true,if_false]
 ·exact hx.lo
 ·exact h.lo j
 ·exact hx.hi
 ·exact h.hi j
 ·exact hx.st
 ·exact h.st j
 ·exact hx.ln
 ·exact h.ln j
def vaN(n:Int):Va:={(default:Va)with n}
def vaB(b:Bool):Va:={(default:Va)with b}
def vaS(s:ByteArray):Va:={(default:Va)with s}
def vaL(l:List (List PV)):Va:={(default:Va)with l}
theorem sr{n:Int}(h1: -9223372036854775808≤n)(h2:n≤9223372036854775807):mQ (vaN n):=⟨h1,h2,Nat.zero_le _,Nat.zero_le _⟩
theorem uz(b:Bool):mQ (vaB b):=⟨by show(-9223372036854775808:Int)≤0;decide,by show(0:Int)≤9223372036854775807;decide,Nat.zero_le _,Nat.zero_le _⟩
theorem ma{s:ByteArray}(h:s.size≤cu):mQ (vaS s):=⟨by show(-9223372036854775808:Int)≤0;decide,by show(0:Int)≤9223372036854775807;decide,h,Nat.zero_le _⟩
theorem N2{l:List (List PV)}(h:l.length≤uv):mQ (vaL l):=⟨by show(-9223372036854775808:Int)≤0;decide,by show(0:Int)≤9223372036854775807;decide,Nat.zero_le _,h⟩
theorem Qn{n:Nat}(h:n≤1073741824):n≤uv:=Nat.le_trans h (by decide)
theorem jU{l:List (List PV)}(h:l.length≤1073741824):mQ (vaL l):=N2 (Qn h)
theorem uA{l:List (List PV)}(h:l.length≤dy):mQ (vaL l):=jU (Nat.le_trans h (by decide))
end Go.TL
