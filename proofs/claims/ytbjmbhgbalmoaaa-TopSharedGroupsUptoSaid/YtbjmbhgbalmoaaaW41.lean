/- Self and Order, by hand. -/
import Derived.Test.YtbjmbhgbalmoaaaW40
import Derived.Test.YtbjmbhgbalmoaaaW28
import Derived.Test.YtbjmbhgbalmoaaaW34
set_option maxRecDepth 100000
namespace Go.TL.H.Gq
open Go Go.TL.Gr
variable {P:Program} {w:World} {R:Nat→Nat} {lo:Nat}
theorem xB(G:GT P)(B:GB2 P){v:Value}{ss:List (List UInt8)}{s:ByteArray}(hx:Fz w R 0 (.sl (bG ss)) v)(hl:ss.length≤1073741824):Ret P 43 [v,.string s] w fun r w'=>w'=w∧∃i:Int,r=iv i:=by
 obtain⟨p,c,rfl⟩:=aZ hx
 have e0:(bG ss).length=ss.length:=by simp[bG]
 rw[e0]at hx ⊢
 refine aJ B.b43 ?_
 have h0:=SL.init (n:=19) [.slice p ss.length c,.string s] rfl
 (revert h0;generalize({tmps:=_,defers:=[]}:Act)=a;intro h0)
 refine ah (ae ?_)
 (first|refine L h0 rfl rfl (aa h0 (.inl rfl) rfl) fun a h0=>?_|refine L h0 rfl rfl (aa h0 (.inr rfl) rfl) fun a h0=>?_|refine L h0 rfl rfl (ab h0 rfl rfl) fun a h0=>?_)
 refine Le (ah (ah (ae ?_)))
 (first|refine L h0 rfl rfl (aa h0 (.inl rfl) rfl) fun a h0=>?_|refine L h0 rfl rfl (aa h0 (.inr rfl) rfl) fun a h0=>?_|refine L h0 rfl rfl (ab h0 rfl rfl) fun a h0=>?_)
 refine L h0 rfl rfl (aM h0 rfl rfl G.u22) fun a h0=>?_
 (first|refine L h0 rfl rfl (aa h0 (.inl rfl) rfl) fun a h0=>?_|refine L h0 rfl rfl (aa h0 (.inr rfl) rfl) fun a h0=>?_|refine L h0 rfl rfl (ab h0 rfl rfl) fun a h0=>?_)
 refine Le (NW.mono (Q:=fun e a w1=>w1=w∧(e= .normal∧SL 19 [] a∨e= .ret∧a.defers=[]∧∃i:Int,SL 19 [(4,iv i)] a)) ?_ ?_)
 ·refine au (aW (fun m a w1=>w1=w∧∃i:Nat,m+i=ss.length∧SL 19 [(0,.slice p ss.length c),(1,.string s),(7,iv (ss.length:Nat)),(8,iv i)] a) ss.length ⟨rfl,0,rfl,h0.keep [0,1,7,8]⟩ ?_)
  rintro m a _ ⟨rfl,i,hmi,h0⟩
  refine ah (ae ?_)
  refine L h0 rfl rfl (aG h0 rfl rfl rfl rfl) fun a h0=>?_
  refine Le (ah (ar (h0.ev rfl) (fun hc=>aw ?_) (fun h=>aN ⟨rfl,.inl ⟨rfl,h0.keep []⟩⟩)))
  have hi:i<ss.length:=by simpa using hc
  obtain⟨g,off,cap,cs,t,fz,u,hk,q1,q2,q3⟩:=da (x:= .v (Proofs.encStr ss[i])) (i:=i) hx (by simp[bG,hi])
  rw[e0]at hk;cases hk
  have hu:u=Proofs.encStr ss[i]:=by cases q3;rfl
  subst hu
  refine ah (au (ah (ae ?_)))
  (first|refine L h0 rfl rfl (aa h0 (.inl rfl) rfl) fun a h0=>?_|refine L h0 rfl rfl (aa h0 (.inr rfl) rfl) fun a h0=>?_|refine L h0 rfl rfl (ab h0 rfl rfl) fun a h0=>?_);(first|refine L h0 rfl rfl (aa h0 (.inl rfl) rfl) fun a h0=>?_|refine L h0 rfl rfl (aa h0 (.inr rfl) rfl) fun a h0=>?_|refine L h0 rfl rfl (ab h0 rfl rfl) fun a h0=>?_)
  refine Le (ah (ae ?_))
  (first|refine L h0 rfl rfl (aa h0 (.inl rfl) rfl) fun a h0=>?_|refine L h0 rfl rfl (aa h0 (.inr rfl) rfl) fun a h0=>?_|refine L h0 rfl rfl (ab h0 rfl rfl) fun a h0=>?_);(first|refine L h0 rfl rfl (aa h0 (.inl rfl) rfl) fun a h0=>?_|refine L h0 rfl rfl (aa h0 (.inr rfl) rfl) fun a h0=>?_|refine L h0 rfl rfl (ab h0 rfl rfl) fun a h0=>?_);(first|refine L h0 rfl rfl (aa h0 (.inl rfl) rfl) fun a h0=>?_|refine L h0 rfl rfl (aa h0 (.inr rfl) rfl) fun a h0=>?_|refine L h0 rfl rfl (ab h0 rfl rfl) fun a h0=>?_)
  refine L h0 rfl rfl (aH h0 rfl rfl rfl G.u22 G.o9 hi) fun a h0=>?_
  refine L h0 rfl rfl (ai h0 rfl rfl G.o9 q1 q2) fun a h0=>?_
  refine L h0 rfl rfl (qE h0 rfl rfl rfl rfl) fun a h0=>?_
  refine Le (ar (h0.ev rfl) (fun he=>ah (ae ?_)) (fun he=>aw (ae ?_)))
  ·(first|refine L h0 rfl rfl (aa h0 (.inl rfl) rfl) fun a h0=>?_|refine L h0 rfl rfl (aa h0 (.inr rfl) rfl) fun a h0=>?_|refine L h0 rfl rfl (ab h0 rfl rfl) fun a h0=>?_);(first|refine L h0 rfl rfl (aa h0 (.inl rfl) rfl) fun a h0=>?_|refine L h0 rfl rfl (aa h0 (.inr rfl) rfl) fun a h0=>?_|refine L h0 rfl rfl (ab h0 rfl rfl) fun a h0=>?_)
   exact Le (aP ⟨rfl,.inr ⟨rfl,h0.defers,_,h0.keep [4]⟩⟩)
  ·refine L h0 rfl rfl (cC (i+1:Nat) h0 rfl rfl rfl (by omega) (by omega) (by omega)) fun a h0=>?_
   (first|refine L h0 rfl rfl (aa h0 (.inl rfl) rfl) fun a h0=>?_|refine L h0 rfl rfl (aa h0 (.inr rfl) rfl) fun a h0=>?_|refine L h0 rfl rfl (ab h0 rfl rfl) fun a h0=>?_)
   exact Le ⟨m - 1,by omega,rfl,i+1,by omega,h0.keep [0,1,7,8]⟩
 rintro e a w1 ⟨rfl,⟨rfl,h0⟩|⟨rfl,hd,i,h0⟩⟩
 ·refine ah (ae ?_)
  (first|refine L h0 rfl rfl (aa h0 (.inl rfl) rfl) fun a h0=>?_|refine L h0 rfl rfl (aa h0 (.inr rfl) rfl) fun a h0=>?_|refine L h0 rfl rfl (ab h0 rfl rfl) fun a h0=>?_)
  exact Le (aP (cH h0 rfl ⟨rfl, -1,rfl⟩))
 ·exact cH h0 rfl ⟨rfl,i,rfl⟩
theorem rR(G:GT P)(B:GB2 P){v:Value}{ss:List (List UInt8)}{s:ByteArray}(hx:Fz w R 0 (.sl (bG ss)) v)(hl:ss.length≤1073741824):Ret P 31 [v,.string s] w fun r w'=>w'=w∧∃c,r= .bool c:=by
 refine aJ B.b31 ?_
 have h0:=SL.init (n:=9) [v,.string s] rfl
 (revert h0;generalize({tmps:=_,defers:=[]}:Act)=a;intro h0)
 refine ah (ae ?_)
 (first|refine L h0 rfl rfl (aa h0 (.inl rfl) rfl) fun a h0=>?_|refine L h0 rfl rfl (aa h0 (.inr rfl) rfl) fun a h0=>?_|refine L h0 rfl rfl (ab h0 rfl rfl) fun a h0=>?_)
 refine Le (ah (ae ?_))
 (first|refine L h0 rfl rfl (aa h0 (.inl rfl) rfl) fun a h0=>?_|refine L h0 rfl rfl (aa h0 (.inr rfl) rfl) fun a h0=>?_|refine L h0 rfl rfl (ab h0 rfl rfl) fun a h0=>?_);(first|refine L h0 rfl rfl (aa h0 (.inl rfl) rfl) fun a h0=>?_|refine L h0 rfl rfl (aa h0 (.inr rfl) rfl) fun a h0=>?_|refine L h0 rfl rfl (ab h0 rfl rfl) fun a h0=>?_)
 refine Lc (vs:=[v,.string s]) h0 rfl rfl rfl rfl rfl B.b43.ok (xB G B hx hl) fun r w1 a hr h0=>?_
 obtain⟨rfl,i,rfl⟩:=hr
 refine L h0 rfl rfl (aG h0 rfl rfl rfl rfl) fun a h0=>?_
 (first|refine L h0 rfl rfl (aa h0 (.inl rfl) rfl) fun a h0=>?_|refine L h0 rfl rfl (aa h0 (.inr rfl) rfl) fun a h0=>?_|refine L h0 rfl rfl (ab h0 rfl rfl) fun a h0=>?_)
 exact Le (aP (cH h0 rfl ⟨rfl,_,rfl⟩))
abbrev xC(l:List Int):List (List PV):=l.map fun(n:Int)=>[PV.v (iv n)]
theorem xD(G:GT P)(B:GB2 P){vN vU vG:Value}{ss:List (List UInt8)}{uu:List (List (List UInt8))}{zs:List Int}(hN:Fz w R 0 (.sl (bG ss)) vN)(hU:Fz w R 0 (.sl (ly uu)) vU)(hG:Fz w R 0 (.sl (xC zs)) vG)
  (_h1:ss.length≤1073741824)(_h2:uu.length≤1073741824)(h3:∀l∈uu,l.length≤1073741824)(h4:zs.length≤1073741824):Ret P 12 [vN,vU,vG] w fun r w'=>Up [] R R w w'∧∃c,r= .bool c:=by
 obtain⟨pN,cN,rfl⟩:=aZ hN
 obtain⟨pU,cU,rfl⟩:=aZ hU
 obtain⟨pG,cG,rfl⟩:=aZ hG
 have eN:(bG ss).length=ss.length:=by simp[bG]
 have eU:(ly uu).length=uu.length:=by simp
 have eG:(xC zs).length=zs.length:=by simp
 rw[eN]at hN ⊢;rw[eU]at hU ⊢;rw[eG]at hG ⊢
 refine aJ B.b12 ?_
 have h0:=SL.init (n:=49) [.slice pN ss.length cN,.slice pU uu.length cU,.slice pG zs.length cG] rfl
 (revert h0;generalize({tmps:=_,defers:=[]}:Act)=a;intro h0)
 refine ah (ae ?_)
 (first|refine L h0 rfl rfl (aa h0 (.inl rfl) rfl) fun a h0=>?_|refine L h0 rfl rfl (aa h0 (.inr rfl) rfl) fun a h0=>?_|refine L h0 rfl rfl (ab h0 rfl rfl) fun a h0=>?_)
 refine Le (ah (ah (ae ?_)))
 (first|refine L h0 rfl rfl (aa h0 (.inl rfl) rfl) fun a h0=>?_|refine L h0 rfl rfl (aa h0 (.inr rfl) rfl) fun a h0=>?_|refine L h0 rfl rfl (ab h0 rfl rfl) fun a h0=>?_)
 refine L h0 rfl rfl (aM h0 rfl rfl G.u24) fun a h0=>?_
 (first|refine L h0 rfl rfl (aa h0 (.inl rfl) rfl) fun a h0=>?_|refine L h0 rfl rfl (aa h0 (.inr rfl) rfl) fun a h0=>?_|refine L h0 rfl rfl (ab h0 rfl rfl) fun a h0=>?_)
 refine Le (NW.mono (Q:=fun e a w1=>w1=w∧(e= .normal∧SL 49 [(0,.slice pN ss.length cN),(1,.slice pU uu.length cU),(2,.slice pG zs.length cG)] a∧(∀(i:Nat) z,zs[i]? =some z→0≤z∧z<ss.length∧z<uu.length)∨e= .ret∧SL 49 [(6,.bool false)] a)) ?_ ?_)
 ·refine au (aW (fun m a w1=>w1=w∧∃j:Nat,m+j=zs.length∧SL 49 [(0,.slice pN ss.length cN),(1,.slice pU uu.length cU),(2,.slice pG zs.length cG),(9,.slice pG zs.length cG),(10,iv (zs.length:Nat)),(11,iv j)] a∧∀(i:Nat) z,i<j→zs[i]? =some z→0≤z∧z<ss.length∧z<uu.length) zs.length ⟨rfl,0,rfl,h0.keep [0,1,2,9,10,11],fun i z h=>by omega⟩ ?_)
  rintro m a wz ⟨rfl,j,hmj,h0,hz⟩
  refine ah (ae ?_)
  refine L h0 rfl rfl (aG h0 rfl rfl rfl rfl) fun a h0=>?_
  refine Le (ah (ar (h0.ev rfl) (fun hc=>aw ?_) (fun hc=>aN ⟨rfl,.inl ⟨rfl,h0.keep [0,1,2],fun i z h=>hz i z (by have:=(CA h).1;simp at hc;omega) h⟩⟩)))
  have hj:j<zs.length:=by simpa using hc
  obtain⟨z,hzz⟩:∃z,zs[j]? =some z:=⟨_,List.getElem?_eq_getElem hj⟩
  obtain⟨g,off,cap,cs,t,fz,u,hk,q1,q2,q3⟩:=da (x:= .v (iv z)) (i:=j) hG (by simp[hzz])
  rw[eG]at hk;cases hk
  have hu:u=iv z:=by cases q3;rfl
  subst hu
  refine ah (au (ah (ae ?_)))
  refine L h0 rfl rfl (aH h0 rfl rfl rfl G.u24 G.o3 hj) fun a h0=>?_
  refine L h0 rfl rfl (ai h0 rfl rfl G.o3 q1 q2) fun a h0=>?_
  (first|refine L h0 rfl rfl (aa h0 (.inl rfl) rfl) fun a h0=>?_|refine L h0 rfl rfl (aa h0 (.inr rfl) rfl) fun a h0=>?_|refine L h0 rfl rfl (ab h0 rfl rfl) fun a h0=>?_)
  have h0:SL 49 [(0,.slice pN ss.length cN),(1,.slice pU uu.length cU),(2,.slice (some ⟨g,off,none⟩) zs.length cG),(9,.slice (some ⟨g,off,none⟩) zs.length cG),(10,iv (zs.length:Nat)),(11,iv j),(8,iv z)] a:=h0.keep [0,1,2,9,10,11,8]
  refine Le (ah (ae ?_))
  (first|refine L h0 rfl rfl (aa h0 (.inl rfl) rfl) fun a h0=>?_|refine L h0 rfl rfl (aa h0 (.inr rfl) rfl) fun a h0=>?_|refine L h0 rfl rfl (ab h0 rfl rfl) fun a h0=>?_)
  refine L h0 rfl rfl (aG h0 rfl rfl rfl rfl) fun a h0=>?_
  (first|refine L h0 rfl rfl (aa h0 (.inl rfl) rfl) fun a h0=>?_|refine L h0 rfl rfl (aa h0 (.inr rfl) rfl) fun a h0=>?_|refine L h0 rfl rfl (ab h0 rfl rfl) fun a h0=>?_)
  have out:∀{b:Bool} {a:Act},b=true→SL 49 [(28,.bool b)] a→NW P (.cond (.tmp 28) (.seq (.region 0 ([⟨some 6,.assign (.const (.bool false)),0, "", #[],none⟩]:List Oper).toArray false) .ret) .skip) (fun e a w1=>e= .ret∧w1=wz∧SL 49 [(6,.bool false)] a) a wz:=fun{b a} hb h0=>by
   subst hb
   refine ar (t:=true) (h0.ev rfl) (fun _=>ah (ae ?_)) (fun h=>by cases h)
   (first|refine L h0 rfl rfl (aa h0 (.inl rfl) rfl) fun a h0=>?_|refine L h0 rfl rfl (aa h0 (.inr rfl) rfl) fun a h0=>?_|refine L h0 rfl rfl (ab h0 rfl rfl) fun a h0=>?_)
   exact Le (aP ⟨rfl,rfl,h0.keep [6]⟩)
  by_cases hneg:z<0
  ·have hc:decide (z<0)=true:=decide_eq_true hneg
   simp only[hc]at h0
   refine Lu h0 ((wg h0 rfl rfl rfl rfl).trans rfl) rfl fun a h0=>?_;refine Lu h0 ((wg h0 rfl rfl rfl rfl).trans rfl) rfl fun a h0=>?_;refine Lu h0 ((wg h0 rfl rfl rfl rfl).trans rfl) rfl fun a h0=>?_;refine Lu h0 ((wg h0 rfl rfl rfl rfl).trans rfl) rfl fun a h0=>?_
   refine L h0 rfl rfl (bM (b:=true) (u:= .bool true) h0 rfl rfl (fun _=>rfl) (fun h=>by cases h)) fun a h0=>?_
   (first|refine L h0 rfl rfl (aa h0 (.inl rfl) rfl) fun a h0=>?_|refine L h0 rfl rfl (aa h0 (.inr rfl) rfl) fun a h0=>?_|refine L h0 rfl rfl (ab h0 rfl rfl) fun a h0=>?_)
   refine Lu h0 ((wg h0 rfl rfl rfl rfl).trans rfl) rfl fun a h0=>?_;refine Lu h0 ((wg h0 rfl rfl rfl rfl).trans rfl) rfl fun a h0=>?_;refine Lu h0 ((wg h0 rfl rfl rfl rfl).trans rfl) rfl fun a h0=>?_;refine Lu h0 ((wg h0 rfl rfl rfl rfl).trans rfl) rfl fun a h0=>?_
   refine L h0 rfl rfl (bM (b:=true) (u:= .bool true) h0 rfl rfl (fun _=>rfl) (fun h=>by cases h)) fun a h0=>?_
   refine Le (NW.mono (out rfl (h0.keep [28])) ?_)
   rintro _ a w1 ⟨rfl,rfl,h0⟩
   exact⟨rfl,.inr ⟨rfl,h0⟩⟩
  have hc:decide (z<0)=false:=decide_eq_false hneg
  simp only[hc]at h0
  refine L h0 ((wg h0 rfl rfl rfl rfl).trans rfl) rfl (aa h0 (.inl rfl) rfl) fun a h0=>?_
  refine L h0 ((wg h0 rfl rfl rfl rfl).trans rfl) rfl (aa h0 (.inl rfl) rfl) fun a h0=>?_
  refine L h0 ((wg h0 rfl rfl rfl rfl).trans rfl) rfl (aM h0 rfl rfl G.u22) fun a h0=>?_
  refine L h0 ((wg h0 rfl rfl rfl rfl).trans rfl) rfl (aG h0 rfl rfl rfl rfl) fun a h0=>?_
  by_cases hge:z ≥ ss.length
  ·have hc:decide (z ≥ (ss.length:Int))=true:=decide_eq_true hge
   simp only[hc]at h0
   refine L h0 rfl rfl (bM (b:=false) (u:= .bool true) h0 rfl rfl (fun h=>by cases h) (fun _=>rfl)) fun a h0=>?_
   (first|refine L h0 rfl rfl (aa h0 (.inl rfl) rfl) fun a h0=>?_|refine L h0 rfl rfl (aa h0 (.inr rfl) rfl) fun a h0=>?_|refine L h0 rfl rfl (ab h0 rfl rfl) fun a h0=>?_)
   refine Lu h0 ((wg h0 rfl rfl rfl rfl).trans rfl) rfl fun a h0=>?_;refine Lu h0 ((wg h0 rfl rfl rfl rfl).trans rfl) rfl fun a h0=>?_;refine Lu h0 ((wg h0 rfl rfl rfl rfl).trans rfl) rfl fun a h0=>?_;refine Lu h0 ((wg h0 rfl rfl rfl rfl).trans rfl) rfl fun a h0=>?_
   refine L h0 rfl rfl (bM (b:=true) (u:= .bool true) h0 rfl rfl (fun _=>rfl) (fun h=>by cases h)) fun a h0=>?_
   refine Le (NW.mono (out rfl (h0.keep [28])) ?_)
   rintro _ a w1 ⟨rfl,rfl,h0⟩
   exact⟨rfl,.inr ⟨rfl,h0⟩⟩
  have hc:decide (z ≥ (ss.length:Int))=false:=decide_eq_false hge
  simp only[hc]at h0
  refine L h0 rfl rfl (bM (b:=false) (u:= .bool false) h0 rfl rfl (fun h=>by cases h) (fun _=>rfl)) fun a h0=>?_
  (first|refine L h0 rfl rfl (aa h0 (.inl rfl) rfl) fun a h0=>?_|refine L h0 rfl rfl (aa h0 (.inr rfl) rfl) fun a h0=>?_|refine L h0 rfl rfl (ab h0 rfl rfl) fun a h0=>?_)
  refine L h0 ((wg h0 rfl rfl rfl rfl).trans rfl) rfl (aa h0 (.inl rfl) rfl) fun a h0=>?_
  refine L h0 ((wg h0 rfl rfl rfl rfl).trans rfl) rfl (aa h0 (.inl rfl) rfl) fun a h0=>?_
  refine L h0 ((wg h0 rfl rfl rfl rfl).trans rfl) rfl (aM h0 rfl rfl G.u23) fun a h0=>?_
  refine L h0 ((wg h0 rfl rfl rfl rfl).trans rfl) rfl (aG h0 rfl rfl rfl rfl) fun a h0=>?_
  by_cases hge2:z ≥ uu.length
  ·have hc:decide (z ≥ (uu.length:Int))=true:=decide_eq_true hge2
   simp only[hc]at h0
   refine L h0 rfl rfl (bM (b:=false) (u:= .bool true) h0 rfl rfl (fun h=>by cases h) (fun _=>rfl)) fun a h0=>?_
   refine Le (NW.mono (out rfl (h0.keep [28])) ?_)
   rintro _ a w1 ⟨rfl,rfl,h0⟩
   exact⟨rfl,.inr ⟨rfl,h0⟩⟩
  have hc:decide (z ≥ (uu.length:Int))=false:=decide_eq_false hge2
  simp only[hc]at h0
  refine L h0 rfl rfl (bM (b:=false) (u:= .bool false) h0 rfl rfl (fun h=>by cases h) (fun _=>rfl)) fun a h0=>?_
  refine Le (ar (t:=false) (h0.ev rfl) (fun h=>by cases h) (fun _=>aw (ae ?_)))
  refine L h0 rfl rfl (cC (j+1:Nat) h0 rfl rfl rfl (by omega) (by omega) (by omega)) fun a h0=>?_
  (first|refine L h0 rfl rfl (aa h0 (.inl rfl) rfl) fun a h0=>?_|refine L h0 rfl rfl (aa h0 (.inr rfl) rfl) fun a h0=>?_|refine L h0 rfl rfl (ab h0 rfl rfl) fun a h0=>?_)
  refine Le ⟨m - 1,by omega,rfl,j+1,by omega,h0.keep [0,1,2,9,10,11],fun i z' hi hz'=>?_⟩
  by_cases e:i=j
  ·subst e;rw[hzz]at hz';cases hz';omega
  ·exact hz i z' (by omega) hz'
 rintro e a w1 ⟨rfl,⟨rfl,h0,hz⟩|⟨rfl,h0⟩⟩
 rotate_left
 ·exact cH h0 rfl ⟨Up.rfl,_,rfl⟩
 refine ah (ah (ae ?_))
 (first|refine L h0 rfl rfl (aa h0 (.inl rfl) rfl) fun a h0=>?_|refine L h0 rfl rfl (aa h0 (.inr rfl) rfl) fun a h0=>?_|refine L h0 rfl rfl (ab h0 rfl rfl) fun a h0=>?_)
 refine L h0 rfl rfl (aM h0 rfl rfl G.u24) fun a h0=>?_
 refine Le (au (ah (ae ?_)))
 refine L h0 rfl rfl (aG h0 rfl rfl rfl rfl) fun a h0=>?_
 (first|refine L h0 rfl rfl (aa h0 (.inl rfl) rfl) fun a h0=>?_|refine L h0 rfl rfl (aa h0 (.inr rfl) rfl) fun a h0=>?_|refine L h0 rfl rfl (ab h0 rfl rfl) fun a h0=>?_)
 refine Le (ar (h0.ev rfl) (fun _=>ah (ae ?_)) (fun hc0=>ah (ae ?_)))
 ·(first|refine L h0 rfl rfl (aa h0 (.inl rfl) rfl) fun a h0=>?_|refine L h0 rfl rfl (aa h0 (.inr rfl) rfl) fun a h0=>?_|refine L h0 rfl rfl (ab h0 rfl rfl) fun a h0=>?_)
  exact Le (aP (cH h0 rfl ⟨Up.rfl,_,rfl⟩))
 refine L h0 rfl rfl (aG h0 rfl rfl rfl rfl) fun a h0=>?_
 (first|refine L h0 rfl rfl (aa h0 (.inl rfl) rfl) fun a h0=>?_|refine L h0 rfl rfl (aa h0 (.inr rfl) rfl) fun a h0=>?_|refine L h0 rfl rfl (ab h0 rfl rfl) fun a h0=>?_)
 refine Le (ar (h0.ev rfl) (fun hc1=>ah ?_) (fun _=>aw (ah (ae ?_))))
 rotate_left
 ·(first|refine L h0 rfl rfl (aa h0 (.inl rfl) rfl) fun a h0=>?_|refine L h0 rfl rfl (aa h0 (.inr rfl) rfl) fun a h0=>?_|refine L h0 rfl rfl (ab h0 rfl rfl) fun a h0=>?_)
  exact Le (aP (cH h0 rfl ⟨Up.rfl,_,rfl⟩))
 have hl:zs.length=1:=by simp at hc1;omega
 have h0:SL 49 [(0,.slice pN ss.length cN),(1,.slice pU uu.length cU),(2,.slice pG zs.length cG)] a:=h0.keep [0,1,2]
 refine jO (R:=R) 12 G.mix (by kernel_rfl) fun w1 u1=>?_
 have hN1:=hN.up u1 (by simp)
 have hU1:=hU.up u1 (by simp)
 have hG1:=hG.up u1 (by simp)
 obtain⟨z,hzz⟩:∃z,zs[0]? =some z:=⟨_,List.getElem?_eq_getElem (by omega)⟩
 obtain⟨hz0,hz1,hz2⟩:=hz 0 z hzz
 obtain⟨x,rfl⟩:∃x:Nat,z=x:=⟨z.toNat,by omega⟩
 have hx1:x<ss.length:=by omega
 have hx2:x<uu.length:=by omega
 obtain⟨g,off,cap,cs,t,fz,u,hk,q1,q2,q3⟩:=da (x:= .v (iv x)) (i:=0) hG1 (by simp[hzz])
 rw[eG]at hk;cases hk
 have hu:u=iv x:=by cases q3;rfl
 subst hu
 obtain⟨gu,ou,cu,csu,tu,fu,vu,hk,r1,r2,r3⟩:=da (x:= .sl (bG uu[x])) (i:=x) hU1 (by simp[hx2])
 rw[eU]at hk;cases hk
 obtain⟨gn,on,cn,csn,tn,fn,vn,hk,n1,n2,n3⟩:=da (x:= .v (Proofs.encStr ss[x])) (i:=x) hN1 (by simp[bG,hx1])
 rw[eN]at hk;cases hk
 have hvn:vn=Proofs.encStr ss[x]:=by cases n3;rfl
 subst hvn
 have hix:0<zs.length:=by omega
 (first|refine T h0 rfl rfl (aa h0 (.inl rfl) rfl) fun a h0=>?_|refine T h0 rfl rfl (aa h0 (.inr rfl) rfl) fun a h0=>?_|refine T h0 rfl rfl (ab h0 rfl rfl) fun a h0=>?_);(first|refine T h0 rfl rfl (aa h0 (.inl rfl) rfl) fun a h0=>?_|refine T h0 rfl rfl (aa h0 (.inr rfl) rfl) fun a h0=>?_|refine T h0 rfl rfl (ab h0 rfl rfl) fun a h0=>?_)
 refine T h0 rfl rfl (aH (i:=0) h0 rfl rfl rfl G.u24 G.o3 hix) fun a h0=>?_
 refine T h0 rfl rfl (ai h0 rfl rfl G.o3 q1 q2) fun a h0=>?_
 refine T h0 rfl rfl (aH h0 rfl rfl rfl G.u23 G.o22 hx2) fun a h0=>?_
 refine T h0 rfl rfl (ai h0 rfl rfl G.o22 r1 r2) fun a h0=>?_
 (first|refine T h0 rfl rfl (aa h0 (.inl rfl) rfl) fun a h0=>?_|refine T h0 rfl rfl (aa h0 (.inr rfl) rfl) fun a h0=>?_|refine T h0 rfl rfl (ab h0 rfl rfl) fun a h0=>?_);(first|refine T h0 rfl rfl (aa h0 (.inl rfl) rfl) fun a h0=>?_|refine T h0 rfl rfl (aa h0 (.inr rfl) rfl) fun a h0=>?_|refine T h0 rfl rfl (ab h0 rfl rfl) fun a h0=>?_)
 refine T h0 rfl rfl (aH (i:=0) h0 rfl rfl rfl G.u24 G.o3 hix) fun a h0=>?_
 refine T h0 rfl rfl (ai h0 rfl rfl G.o3 q1 q2) fun a h0=>?_
 refine T h0 rfl rfl (aH h0 rfl rfl rfl G.u22 G.o9 hx1) fun a h0=>?_
 refine T h0 rfl rfl (ai h0 rfl rfl G.o9 n1 n2) fun a h0=>?_
 refine Te (Lc (vs:=[vu,Proofs.encStr ss[x]]) h0 rfl rfl rfl rfl rfl B.b31.ok (rR G B (s:=⟨ss[x].toArray⟩) (R:=R) (w:=w1) r3 (h3 _ (List.getElem_mem hx2))) fun r w2 a hr h0=>?_)
 obtain⟨rfl,c,rfl⟩:=hr
 (first|refine L h0 rfl rfl (aa h0 (.inl rfl) rfl) fun a h0=>?_|refine L h0 rfl rfl (aa h0 (.inr rfl) rfl) fun a h0=>?_|refine L h0 rfl rfl (ab h0 rfl rfl) fun a h0=>?_)
 exact Le (aP (cH h0 rfl ⟨u1,c,rfl⟩))
def By(lo:Nat)(ss:List (List UInt8))(R:Nat→Nat)(w:World)(r:Value)(w':World):Prop:=
 ∃R',Up [] R R' w w'∧(∀c,R' c=0∨R' c=99)∧((∃e:Int,e≠0∧r= .tuple #[.slice none 0 0,iv e])∨∃os v,r= .tuple #[v,iv 0]∧Rep w' (fun c=>R' c≠0) lo (.sl (bG os)) v∧os.length≤20000∧∀x∈os,x∈ss)
theorem qi(G:List (List Nat)){j:Nat}{l:List Nat}(h:G[j]? =some l):dh (G.take (j+1))=dh (G.take j)+l.length:=by
 obtain⟨h1,rfl⟩:=CA h
 rw[List.take_succ_eq_append_getElem h1,qh]
theorem tj(G:List (List Nat))(j:Nat):dh (G.take j)≤dh G:=by
 have h:dh G=dh (G.take j)+dh (G.drop j):=by
  conv=>lhs;rw[←List.take_append_drop j G]
  simp only[dh,List.map_append,List.sum_append]
 omega
theorem zf(G:GT P)(B:GB P)(H:GS P){vN vU:Value}{ss:List (List UInt8)}{uu:List (List (List UInt8))}(hN:Fz w R 0 (.sl (bG ss)) vN)(hU:Fz w R 0 (.sl (ly uu)) vU)(hR:∀c,R c=0∨R c=99)
  (h1:ss.length≤1073741824)(h2:uu.length≤1073741824)(h3:∀l∈uu,l.length≤1073741824)(aV:lo≤w.heap.size):Ret P 14 [vN,vU] w fun r w'=>By lo ss R w r w':=by
 obtain⟨pN,cN,hvN⟩:=aZ hN
 have eN:(bG ss).length=ss.length:=by simp[bG]
 rw[eN]at hvN
 refine aJ B.b14 ?_
 have h0:=SL.init (n:=44) [vN,vU] rfl
 (revert h0;generalize({tmps:=_,defers:=[]}:Act)=a;intro h0)
 refine ah (ae ?_)
 (first|refine L h0 rfl rfl (aa h0 (.inl rfl) rfl) fun a h0=>?_|refine L h0 rfl rfl (aa h0 (.inr rfl) rfl) fun a h0=>?_|refine L h0 rfl rfl (ab h0 rfl rfl) fun a h0=>?_);(first|refine L h0 rfl rfl (aa h0 (.inl rfl) rfl) fun a h0=>?_|refine L h0 rfl rfl (aa h0 (.inr rfl) rfl) fun a h0=>?_|refine L h0 rfl rfl (ab h0 rfl rfl) fun a h0=>?_)
 refine Le (ah (ae ?_))
 (first|refine L h0 rfl rfl (aa h0 (.inl rfl) rfl) fun a h0=>?_|refine L h0 rfl rfl (aa h0 (.inr rfl) rfl) fun a h0=>?_|refine L h0 rfl rfl (ab h0 rfl rfl) fun a h0=>?_);(first|refine L h0 rfl rfl (aa h0 (.inl rfl) rfl) fun a h0=>?_|refine L h0 rfl rfl (aa h0 (.inr rfl) rfl) fun a h0=>?_|refine L h0 rfl rfl (ab h0 rfl rfl) fun a h0=>?_)
 refine Lc (vs:=[vN,vU]) h0 rfl rfl rfl rfl rfl B.b8.ok (rL (lo:=0) G B H hN hU hR h1 h2 h3 (Nat.zero_le _)) fun r w1 a hr h0=>?_
 obtain⟨R1,u1,hR1,hr⟩:=hr
 have dm:=u1.1.size
 rcases hr with⟨e,he,rfl⟩|⟨gs,vg,rfl,hg,hg1,iC,hg3,hs⟩
 ·(first|refine L h0 rfl rfl (aa h0 (.inl rfl) rfl) fun a h0=>?_|refine L h0 rfl rfl (aa h0 (.inr rfl) rfl) fun a h0=>?_|refine L h0 rfl rfl (ab h0 rfl rfl) fun a h0=>?_)
  refine L h0 rfl rfl (aB h0 rfl rfl rfl) fun a h0=>?_
  refine L h0 rfl rfl (aB h0 rfl rfl rfl) fun a h0=>?_
  (first|refine L h0 rfl rfl (aa h0 (.inl rfl) rfl) fun a h0=>?_|refine L h0 rfl rfl (aa h0 (.inr rfl) rfl) fun a h0=>?_|refine L h0 rfl rfl (ab h0 rfl rfl) fun a h0=>?_);(first|refine L h0 rfl rfl (aa h0 (.inl rfl) rfl) fun a h0=>?_|refine L h0 rfl rfl (aa h0 (.inr rfl) rfl) fun a h0=>?_|refine L h0 rfl rfl (ab h0 rfl rfl) fun a h0=>?_)
  refine Le (ah (ah (ae ?_)))
  (first|refine L h0 rfl rfl (aa h0 (.inl rfl) rfl) fun a h0=>?_|refine L h0 rfl rfl (aa h0 (.inr rfl) rfl) fun a h0=>?_|refine L h0 rfl rfl (ab h0 rfl rfl) fun a h0=>?_)
  refine L h0 rfl rfl (aG h0 rfl rfl rfl rfl) fun a h0=>?_
  refine Le (ar (t:=true) (by rw[h0.ev rfl];simp[he]) (fun _=>ah (ae ?_)) (fun h=>by cases h))
  (first|refine L h0 rfl rfl (aa h0 (.inl rfl) rfl) fun a h0=>?_|refine L h0 rfl rfl (aa h0 (.inr rfl) rfl) fun a h0=>?_|refine L h0 rfl rfl (ab h0 rfl rfl) fun a h0=>?_);(first|refine L h0 rfl rfl (aa h0 (.inl rfl) rfl) fun a h0=>?_|refine L h0 rfl rfl (aa h0 (.inr rfl) rfl) fun a h0=>?_|refine L h0 rfl rfl (ab h0 rfl rfl) fun a h0=>?_);(first|refine L h0 rfl rfl (aa h0 (.inl rfl) rfl) fun a h0=>?_|refine L h0 rfl rfl (aa h0 (.inr rfl) rfl) fun a h0=>?_|refine L h0 rfl rfl (ab h0 rfl rfl) fun a h0=>?_)
  exact Le (aP (lz h0 rfl rfl ⟨R1,u1,hR1,.inl ⟨e,he,rfl⟩⟩))
 (first|refine L h0 rfl rfl (aa h0 (.inl rfl) rfl) fun a h0=>?_|refine L h0 rfl rfl (aa h0 (.inr rfl) rfl) fun a h0=>?_|refine L h0 rfl rfl (ab h0 rfl rfl) fun a h0=>?_)
 refine L h0 rfl rfl (aB h0 rfl rfl rfl) fun a h0=>?_
 refine L h0 rfl rfl (aB h0 rfl rfl rfl) fun a h0=>?_
 (first|refine L h0 rfl rfl (aa h0 (.inl rfl) rfl) fun a h0=>?_|refine L h0 rfl rfl (aa h0 (.inr rfl) rfl) fun a h0=>?_|refine L h0 rfl rfl (ab h0 rfl rfl) fun a h0=>?_);(first|refine L h0 rfl rfl (aa h0 (.inl rfl) rfl) fun a h0=>?_|refine L h0 rfl rfl (aa h0 (.inr rfl) rfl) fun a h0=>?_|refine L h0 rfl rfl (ab h0 rfl rfl) fun a h0=>?_)
 refine Le (ah (ah (ae ?_)))
 (first|refine L h0 rfl rfl (aa h0 (.inl rfl) rfl) fun a h0=>?_|refine L h0 rfl rfl (aa h0 (.inr rfl) rfl) fun a h0=>?_|refine L h0 rfl rfl (ab h0 rfl rfl) fun a h0=>?_)
 refine L h0 rfl rfl (aG h0 rfl rfl rfl rfl) fun a h0=>?_
 refine Le (ar (t:=false) (h0.ev rfl) (fun h=>by cases h) (fun _=>aw ?_))
 subst hvN
 obtain⟨pg,cg,rfl⟩:=aZ hg
 have eG:(cM gs).length=gs.length:=by simp
 rw[eG]at h0 hg
 refine ah (ae ?_)
 (first|refine L h0 rfl rfl (aa h0 (.inl rfl) rfl) fun a h0=>?_|refine L h0 rfl rfl (aa h0 (.inr rfl) rfl) fun a h0=>?_|refine L h0 rfl rfl (ab h0 rfl rfl) fun a h0=>?_)
 have h0:SL 44 [(0,.slice pN ss.length cN),(6,.slice pg gs.length cg),(8,.slice none 0 0)] a:=h0.keep [0,6,8]
 refine Le (ah (ah (ae ?_)))
 (first|refine L h0 rfl rfl (aa h0 (.inl rfl) rfl) fun a h0=>?_|refine L h0 rfl rfl (aa h0 (.inr rfl) rfl) fun a h0=>?_|refine L h0 rfl rfl (ab h0 rfl rfl) fun a h0=>?_)
 refine L h0 rfl rfl (aM h0 rfl rfl G.u32) fun a h0=>?_
 (first|refine L h0 rfl rfl (aa h0 (.inl rfl) rfl) fun a h0=>?_|refine L h0 rfl rfl (aa h0 (.inr rfl) rfl) fun a h0=>?_|refine L h0 rfl rfl (ab h0 rfl rfl) fun a h0=>?_)
 have hN1:=hN.up u1 (by simp)
 have hgs:∀j,dh (gs.take j)≤ss.length:=fun j=>by have:=tj gs j;omega
 refine Le (NW.mono (Q:=fun e a w2=>e= .normal∧∃(R2:Nat→Nat) (vo:Value) (os:List (List UInt8)),SL 44 [(8,vo)] a∧Ow w2 R2 13 9 vo (os.map Proofs.encStr)∧Up [13] R1 R2 w1 w2∧os.length≤ss.length∧∀x∈os,x∈ss) ?_ ?_)
 ·refine au (aW (fun m a w2=>∃(j:Nat) (R2:Nat→Nat) (vo:Value) (os:List (List UInt8)),m+j=gs.length∧SL 44 [(0,.slice pN ss.length cN),(22,.slice pg gs.length cg),(23,iv (gs.length:Nat)),(24,iv j),(8,vo)] a∧Ow w2 R2 13 9 vo (os.map Proofs.encStr)∧Up [13] R1 R2 w1 w2∧os.length=dh (gs.take j)∧∀x∈os,x∈ss) gs.length ⟨0,R1,_,[],rfl,h0.keep [0,22,23,24,8],Ow.nil _ _ 13 9,Up.rfl,rfl,by simp⟩ ?_)
  clear h0
  rintro m a w2 ⟨j,R2,vo,os,hmj,h0,xo,u2,hol,hos⟩
  refine ah (ae ?_)
  refine L h0 rfl rfl (aG h0 rfl rfl rfl rfl) fun a h0=>?_
  refine Le (ah (ar (h0.ev rfl) (fun hc=>aw ?_) (fun hc=>aN ⟨rfl,R2,vo,os,h0.keep [8],xo,u2,by have:=hgs j;omega,hos⟩)))
  have hj:j<gs.length:=by simpa using hc
  obtain⟨l,hl⟩:∃l,gs[j]? =some l:=⟨_,List.getElem?_eq_getElem hj⟩
  have hlN:=hg3 l (CE hl)
  have hst:=qi gs hl
  have hst2:=hgs (j+1)
  obtain⟨g,off,cap,cs,t,fz,u,hk,q1,q2,q3⟩:=da (x:= .sl (eZ l)) (i:=j) ((show Fz w1 R1 0 _ _ from hg).up u2 (by simp)) (by simp[hl])
  rw[eG]at hk;cases hk
  obtain⟨pl,cl,rfl⟩:=aZ q3
  have el:(eZ l).length=l.length:=by simp
  rw[el]at q2 q3
  refine ah (au (ah (ae ?_)))
  refine L h0 rfl rfl (aH h0 rfl rfl rfl G.u32 G.o24 hj) fun a h0=>?_
  refine L h0 rfl rfl (ai h0 rfl rfl G.o24 q1 q2) fun a h0=>?_
  (first|refine L h0 rfl rfl (aa h0 (.inl rfl) rfl) fun a h0=>?_|refine L h0 rfl rfl (aa h0 (.inr rfl) rfl) fun a h0=>?_|refine L h0 rfl rfl (ab h0 rfl rfl) fun a h0=>?_)
  refine Le (ah (ae ?_))
  (first|refine L h0 rfl rfl (aa h0 (.inl rfl) rfl) fun a h0=>?_|refine L h0 rfl rfl (aa h0 (.inr rfl) rfl) fun a h0=>?_|refine L h0 rfl rfl (ab h0 rfl rfl) fun a h0=>?_)
  refine L h0 rfl rfl (aM h0 rfl rfl G.u24) fun a h0=>?_
  (first|refine L h0 rfl rfl (aa h0 (.inl rfl) rfl) fun a h0=>?_|refine L h0 rfl rfl (aa h0 (.inr rfl) rfl) fun a h0=>?_|refine L h0 rfl rfl (ab h0 rfl rfl) fun a h0=>?_)
  refine Le (au (aW (fun m' a w3=>∃(q:Nat) (R3:Nat→Nat) (vo:Value) (os:List (List UInt8)),m'+q=l.length∧SL 44 [(0,.slice pN ss.length cN),(22,.slice (some ⟨g,off,none⟩) gs.length cg),(23,iv (gs.length:Nat)),(24,iv j),(28,.slice pl l.length cl),(29,iv (l.length:Nat)),(30,iv q),(8,vo)] a∧Ow w3 R3 13 9 vo (os.map Proofs.encStr)∧Up [13] R2 R3 w2 w3∧os.length=dh (gs.take j)+q∧∀x∈os,x∈ss) l.length ⟨0,R2,vo,os,rfl,h0.keep [0,22,23,24,28,29,30,8],xo,Up.rfl,hol,hos⟩ ?_))
  clear h0 xo hol hos os
  rintro m' a w3 ⟨q,R3,vo,os,hmq,h0,xo,u3,hol,hos⟩
  have u23:=u2.trans u3
  refine ah (ae ?_)
  refine L h0 rfl rfl (aG h0 rfl rfl rfl rfl) fun a h0=>?_
  refine Le (ah (ar (h0.ev rfl) (fun hc=>aw ?_) (fun hc=>aN (ae ?_))))
  rotate_left
  ·have hq:q=l.length:=by simp at hc;omega
   refine L h0 rfl rfl (cC (j+1:Nat) h0 rfl rfl rfl (by omega) (by omega) (by omega)) fun a h0=>?_
   (first|refine L h0 rfl rfl (aa h0 (.inl rfl) rfl) fun a h0=>?_|refine L h0 rfl rfl (aa h0 (.inr rfl) rfl) fun a h0=>?_|refine L h0 rfl rfl (ab h0 rfl rfl) fun a h0=>?_)
   exact Le ⟨m - 1,by omega,j+1,R3,vo,os,by omega,h0.keep [0,22,23,24,8],xo,u23,by omega,hos⟩
  have hq:q<l.length:=by simpa using hc
  have fQ:l[q]<ss.length:=hlN _ (List.getElem_mem hq)
  obtain⟨gi,oi,ci,csi,ti,fzi,ui,hki,r1,r2,r3⟩:=da (x:= .v (iv (l[q]:Nat))) (i:=q) ((show Fz w2 R2 0 _ _ from q3).up u3 (by simp)) (by simp[hq])
  rw[el]at hki
  have hui:ui=iv (l[q]:Nat):=by cases r3;rfl
  subst hui
  obtain⟨gn,on,cn,csn,tn,fn,vn,hk,n1,n2,n3⟩:=da (x:= .v (Proofs.encStr ss[l[q]])) (i:=l[q]) (hN1.up u23 (by simp)) (by simp[bG,fQ])
  rw[eN]at hk
  have hvn:vn=Proofs.encStr ss[l[q]]:=by cases n3;rfl
  subst hvn
  refine ah (au (ah (ae ?_)))
  refine L h0 rfl rfl (aH (t:=24) (b:=gi) (o':=oi) (m:=l.length) (c:=ci) h0 rfl (by rw[←hki];rfl) rfl G.u24 G.o3 hq) fun a h0=>?_
  refine L h0 rfl rfl (ai h0 rfl rfl G.o3 r1 r2) fun a h0=>?_
  (first|refine L h0 rfl rfl (aa h0 (.inl rfl) rfl) fun a h0=>?_|refine L h0 rfl rfl (aa h0 (.inr rfl) rfl) fun a h0=>?_|refine L h0 rfl rfl (ab h0 rfl rfl) fun a h0=>?_)
  refine Le (ae ?_)
  (first|refine L h0 rfl rfl (aa h0 (.inl rfl) rfl) fun a h0=>?_|refine L h0 rfl rfl (aa h0 (.inr rfl) rfl) fun a h0=>?_|refine L h0 rfl rfl (ab h0 rfl rfl) fun a h0=>?_);(first|refine L h0 rfl rfl (aa h0 (.inl rfl) rfl) fun a h0=>?_|refine L h0 rfl rfl (aa h0 (.inr rfl) rfl) fun a h0=>?_|refine L h0 rfl rfl (ab h0 rfl rfl) fun a h0=>?_);(first|refine L h0 rfl rfl (aa h0 (.inl rfl) rfl) fun a h0=>?_|refine L h0 rfl rfl (aa h0 (.inr rfl) rfl) fun a h0=>?_|refine L h0 rfl rfl (ab h0 rfl rfl) fun a h0=>?_)
  refine L h0 rfl rfl (aH (t:=22) (b:=gn) (o':=on) (m:=ss.length) (c:=cn) h0 rfl (by rw[←hk];rfl) rfl G.u22 G.o9 fQ) fun a h0=>?_
  refine L h0 rfl rfl (ai h0 rfl rfl G.o9 n1 n2) fun a h0=>?_
  refine rM h0 rfl rfl rfl rfl rfl rfl rfl rfl rfl (by simp) G.u22 G.o9 rfl rfl xo (by simp;omega) fun v4 w4 R4 a x4 u4 one1 one2 h0=>?_
  (first|refine L h0 rfl rfl (aa h0 (.inl rfl) rfl) fun a h0=>?_|refine L h0 rfl rfl (aa h0 (.inr rfl) rfl) fun a h0=>?_|refine L h0 rfl rfl (ab h0 rfl rfl) fun a h0=>?_)
  refine Le (ae ?_)
  refine L h0 rfl rfl (cC (q+1:Nat) h0 rfl rfl rfl (by omega) (by omega) (by omega)) fun a h0=>?_
  (first|refine L h0 rfl rfl (aa h0 (.inl rfl) rfl) fun a h0=>?_|refine L h0 rfl rfl (aa h0 (.inr rfl) rfl) fun a h0=>?_|refine L h0 rfl rfl (ab h0 rfl rfl) fun a h0=>?_)
  refine Le ⟨m' - 1,by omega,q+1,R4,v4,os++ [ss[l[q]]],by omega,h0.keep [0,22,23,24,28,29,30,8],by simpa using x4,u3.trans u4,by simp;omega,fun x hx=>?_⟩
  rcases CC hx with h|h
  ·exact hos x h
  ·simp at h;subst h;exact List.getElem_mem _
 rintro _ a w2 ⟨rfl,R2,vo,os,h0,xo,u2,hol,hos⟩
 refine ah (ae ?_)
 (first|refine L h0 rfl rfl (aa h0 (.inl rfl) rfl) fun a h0=>?_|refine L h0 rfl rfl (aa h0 (.inr rfl) rfl) fun a h0=>?_|refine L h0 rfl rfl (ab h0 rfl rfl) fun a h0=>?_);(first|refine L h0 rfl rfl (aa h0 (.inl rfl) rfl) fun a h0=>?_|refine L h0 rfl rfl (aa h0 (.inr rfl) rfl) fun a h0=>?_|refine L h0 rfl rfl (ab h0 rfl rfl) fun a h0=>?_);(first|refine L h0 rfl rfl (aa h0 (.inl rfl) rfl) fun a h0=>?_|refine L h0 rfl rfl (aa h0 (.inr rfl) rfl) fun a h0=>?_|refine L h0 rfl rfl (ab h0 rfl rfl) fun a h0=>?_)
 have hU2:Up [13] R R2 w w2:=(u1.mono (by simp)).trans u2
 have hfin:Up [] R (fun c=>if c<w.heap.size then R c else 0) w w2:=⟨hU2.1.mono fun c _ hc=>by
  simp at hc
  rcases hR c with h|h<;>omega,fun c hc=>by simp[hc]⟩
 refine Le (aP (lz h0 rfl rfl ⟨_,hfin,fun c=>?_,.inr ⟨os,vo,rfl,?_,by omega,hos⟩⟩))
 ·show(if c<w.heap.size then R c else 0)=0∨(if c<w.heap.size then R c else 0)=99
  split
  ·exact hR c
  ·exact .inl rfl
 have eo:(bG os).length=os.length:=by simp[bG]
 by_cases hx:os=[]
 ·subst hx
  rcases xo.1.2 with⟨rfl,_⟩|⟨g,cap,cur,e,_,hg,hnc,_,hs,ht⟩
  ·exact .nil none 0
  ·rw[e];exact .nil _ _
 ·obtain⟨g,cap,cs,e,hc,hg,dR,ht⟩:=xo.mem (by simpa using hx)
  have hgw:¬ g<w.heap.size:=fun h=>by
   have h1:=hU2.2 g h
   rw[hg.2]at h1
   rcases hR g with h2|h2<;>omega
  have em:(os.map Proofs.encStr).length=os.length:=by simp
  have hh:=ke (lo:=lo) (cap:=cap) (bad:=fun c=>(if c<w.heap.size then R c else 0)≠0) (xm os) (by rw[em,eo]) hg.1 (by simp[hgw]) (by omega) (by rw[eo, ←em];exact hc) ht
  rw[eo]at hh
  rw[e,em];exact hh
end Go.TL.H.Gq
set_option maxRecDepth 100000
namespace Go.TL.H.Gq
open Go Go.TL.Gr
variable {P:Program} {w:World}
open Classical in
noncomputable def rE(E:Env):Nat→Nat:=fun c=>if E.bad c then 99 else 0
theorem yq(E:Env)(c:Nat):rE E c=0∨rE E c=99:=by unfold rE;split<;>simp
theorem we(E:Env)(c:Nat):rE E c≠0 ↔ E.bad c:=by unfold rE;split<;>simp[*]
theorem fzE{E:Env}{x:PV}{v:Value}(h:Rep w E.bad 0 x v):Fz w (rE E) 0 x v:=Rep.mono (Nat.le_refl _) (fun b _ hb hn=>⟨hb,by rw[we];exact hn⟩) h
theorem oG{B:Pr}{s:Spec}{e:TypeId}(hz:s.nz=true)(htab:s.tab=[])(hp:s.jZ=[⟨1,[(s.nv,e)],[],[],[],[.p (.sl (some s.nv)) true,.u]⟩])
  (h:∀ρ,s.pre.ok P B ρ→∀(w:World) (E:Env) (lo:Nat) (vals:List Value),lo≤w.heap.size→VRs w E lo (dvs ρ s.args) vals→Ret P s.fn vals w fun v w'=>∃R',Up [] (rE E) R' w w'∧∃rows x u,v= .tuple #[x,u]∧Rep w' (fun c=>R' c≠0) lo (.sl rows) x∧bA P e rows):fB P B s:=by
 refine p9 hz fun ρ aC=>?_
 intro lo w E vals aV ht hv
 rw[htab]at ht
 have ht:b9 w E lo []:=ht
 refine Calls.mono (h ρ aC w E lo vals aV.le hv) ?_
 rintro e' w' ⟨v,rfl,R',u,rows,x,y,rfl,hr,bL⟩
 have a8:Ch (fun _=>False) w w':=u.1.mono fun c _ hc=>by simp at hc
 have hrep:Rep w' E.bad lo (.sl rows) x:=Rep.mono (Nat.le_refl _) (fun b _ hb hn=>⟨hb,fun bh=>by
  have h0:R' b=0:=Classical.not_not.1 hn
  have aF:b<w.heap.size:=by
   rcases bh with h|h
   ·cases ho:E.own b with
    |none=>exact absurd ho h
    |some k=>exact(ht.own b k ho).1
   ·exact(ht.ext b h).1
  rw[u.2 b aF]at h0
  exact(we E b).2 bh h0⟩) hr
 refine⟨.bB [.p (.sl rows) true,.u],_,[],E,rfl,?_,⟨a8.os,a8.tape,a8.output,a8.size,fun b hb hn=>⟨a8.keep b hb id,hn⟩,rfl⟩,⟨fun k ov hk=>by simp[lk]at hk,fun k _=>ht.dead k rfl,fun b k hk=>by
   have:=ht.own b k hk
   exact absurd rfl this.2.2,fun b hb=>⟨Nat.lt_of_lt_of_le (ht.ext b hb).1 a8.size,(ht.ext b hb).2⟩⟩,?_,fun k z hz=> .inl hz⟩
 ·refine⟨(⟨1,[(s.nv,e)],[],[],[],[.p (.sl (some s.nv)) true,.u]⟩:TL.bD),by rw[hp];exact List.mem_singleton.2 rfl,up ρ s.nv (vaL rows),tL _ _ _ _ (Nat.le_refl _),⟨aC.g.up _ (vm bL.len),⟨by rw[my];exact bL,trivial⟩,trivial,trivial⟩,?_,rfl⟩
  simp[dmk,DV.v,dvs,DP.v,lvV,my,vaL]
 ·simp only[VR]
  exact⟨[x,y],rfl,dI hrep (dI trivial r8)⟩
theorem lA{e e2:TypeId}(hc:cks P e=[.sl e2])(hc2:cks P e2=[.str]):∀{rows:List (List PV)},cB P e rows→∃uu,rows=ly uu∧∀l∈uu,l.length≤1073741824
 | [],_=>⟨[],rfl,by simp⟩
 |row::rows,h=>by
  obtain⟨uu,rfl,hu⟩:=lA hc hc2 fun r hm=>h r (Cx _ hm)
  have h0:=h row Cy
  unfold Ty at h0
  rw[hc]at h0
  match row,h0 with
  | [x],h0=>
   obtain⟨rs,rfl,bL⟩:=ql h0.1
   obtain⟨ss,rfl,_⟩:=kJ hc2 bL.2
   refine⟨ss::uu,rfl,fun l hl=>?_⟩
   rcases CD hl with rfl|hl
   ·have:=bL.len;simpa[bG]using this
   ·exact hu l hl
  | [],h0=>exact absurd h0 (by simp[WTs])
  |_::_::_,h0=>exact absurd h0 (by simp[WTs])
theorem tk{e:TypeId}(hc:cks P e=[.int .i64]):∀{rows:List (List PV)},cB P e rows→∃zs,rows=xC zs
 | [],_=>⟨[],rfl⟩
 |row::rows,h=>by
  obtain⟨zs,rfl⟩:=tk hc fun r hm=>h r (Cx _ hm)
  have h0:=h row Cy
  unfold Ty at h0
  rw[hc]at h0
  match row,h0 with
  | [x],h0=>
   obtain⟨z,rfl,_,_⟩:=uF h0.1
   exact⟨z::zs,rfl⟩
  | [],h0=>exact absurd h0 (by simp[WTs])
  |_::_::_,h0=>exact absurd h0 (by simp[WTs])
theorem xE(G:GT P)(B:GB P)(H:GS P)(c9:cks P 9=[.str])(c22:cks P 22=[.sl 9])(c24:cks P 24=[.sl 3])(c3:cks P 3=[.int .i64]):
  fB P ka ⟨8,2,[.p (.sl (some 0)) false,.p (.sl (some 1)) false],[],[(0,9),(1,22)],[],[],⟨0,[]⟩,[⟨1,[(2,24)],[],[],[],[.p (.sl (some 2)) true,.u]⟩]⟩:=by
 refine oG (e:=24) rfl rfl rfl fun ρ aC w E lo vals aV hv=>?_
 match vals,hv with
 | [vN,vU],hv=>
  simp only[dvs,DV.v,DP.v,lvV,VRs,VR,flo]at hv
  obtain⟨hN,hU,_⟩:=hv
  have t0:bA P 9 (ρ 0).l:=aC.tys.1
  have t1:bA P 22 (ρ 1).l:=aC.tys.2.1
  obtain⟨ss,e0,_⟩:=kJ c9 t0.2
  obtain⟨uu,e1,hu⟩:=lA c22 c9 t1.2
  have l0:=t0.len
  have l1:=t1.len
  rw[e0]at hN l0
  rw[e1]at hU l1
  refine(rL (lo:=lo) G B H (fzE hN) (fzE hU) (yq E) (by simpa[bG]using l0) (by simpa using l1) hu aV).mono ?_
  rintro _ w' ⟨R',u,hR',⟨e,_,rfl⟩|⟨gs,v,rfl,hr,h1,h2,h3,h4⟩⟩
  ·exact⟨R',u,[],_,_,rfl,.nil none 0,⟨Nat.zero_le _,fun row h=>by simp at h⟩⟩
  ·refine⟨R',u,_,_,_,rfl,hr,⟨by simp only[List.length_map];have:=gQ 24;omega,fun row hm=>?_⟩⟩
   obtain⟨g,hg,rfl⟩:=List.mem_map.1 hm
   unfold Ty
   rw[c24]
   have hgl:g.length≤dh gs:=by
    obtain⟨i,hi,rfl⟩:=List.getElem_of_mem hg
    have h5:=qi gs (List.getElem?_eq_getElem hi)
    have h6:=tj gs (i+1)
    omega
   refine⟨bA.wt ⟨by simp only[List.length_map];have:=gQ 3;omega,fun row hm=>?_⟩,trivial⟩
   obtain⟨x,hx,rfl⟩:=List.mem_map.1 hm
   unfold Ty
   rw[c3]
   have hxN:=h3 g hg x hx
   exact⟨.int .i64 _ (by show(-9223372036854775808:Int)≤x;omega) (by show(x:Int)≤9223372036854775807;omega),trivial⟩
theorem r4(G:GT P)(B:GB P)(H:GS P)(c9:cks P 9=[.str])(c22:cks P 22=[.sl 9]):
  fB P ka ⟨14,2,[.p (.sl (some 0)) false,.p (.sl (some 1)) false],[],[(0,9),(1,22)],[],[],⟨0,[]⟩,[⟨1,[(2,9)],[],[],[],[.p (.sl (some 2)) true,.u]⟩]⟩:=by
 refine oG (e:=9) rfl rfl rfl fun ρ aC w E lo vals aV hv=>?_
 match vals,hv with
 | [vN,vU],hv=>
  simp only[dvs,DV.v,DP.v,lvV,VRs,VR,flo]at hv
  obtain⟨hN,hU,_⟩:=hv
  have t0:bA P 9 (ρ 0).l:=aC.tys.1
  have t1:bA P 22 (ρ 1).l:=aC.tys.2.1
  obtain⟨ss,e0,hss⟩:=kJ c9 t0.2
  obtain⟨uu,e1,hu⟩:=lA c22 c9 t1.2
  have l0:=t0.len
  have l1:=t1.len
  rw[e0]at hN l0
  rw[e1]at hU l1
  refine(zf (lo:=lo) G B H (fzE hN) (fzE hU) (yq E) (by simpa[bG]using l0) (by simpa using l1) hu aV).mono ?_
  rintro _ w' ⟨R',u,hR',⟨e,_,rfl⟩|⟨os,v,rfl,hr,h1,h2⟩⟩
  ·exact⟨R',u,[],_,_,rfl,.nil none 0,⟨Nat.zero_le _,fun row h=>by simp at h⟩⟩
  ·exact⟨R',u,_,_,_,rfl,hr,⟨by simp only[bG,List.length_map];have:=gQ 9;omega,yX c9 fun x hx=>hss x (h2 x hx)⟩⟩
theorem uw(G:GT P)(B:GB2 P)(c9:cks P 9=[.str])(c22:cks P 22=[.sl 9])(c3:cks P 3=[.int .i64]):
  fB P ka ⟨12,3,[.p (.sl (some 0)) false,.p (.sl (some 1)) false,.p (.sl (some 2)) false],[],[(0,9),(1,22),(2,3)],[],[],⟨0,[]⟩,[⟨1,[],[],[],[],[.p (.bl (.var 3)) true]⟩]⟩:=by
 refine uk rfl rfl fun ρ aC w E lo vals _ hv=>?_
 match vals,hv with
 | [vN,vU,vG],hv=>
  simp only[dvs,DV.v,DP.v,lvV,VRs,VR,flo]at hv
  obtain⟨hN,hU,hG,_⟩:=hv
  have t0:bA P 9 (ρ 0).l:=aC.tys.1
  have t1:bA P 22 (ρ 1).l:=aC.tys.2.1
  have t2:bA P 3 (ρ 2).l:=aC.tys.2.2.1
  obtain⟨ss,e0,hss⟩:=kJ c9 t0.2
  obtain⟨uu,e1,hu⟩:=lA c22 c9 t1.2
  obtain⟨zs,e2⟩:=tk c3 t2.2
  have l0:=t0.len
  have l1:=t1.len
  have l2:=t2.len
  rw[e0]at hN l0
  rw[e1]at hU l1
  rw[e2]at hG l2
  refine(xD G B (fzE hN) (fzE hU) (fzE hG) (by simpa[bG]using l0) (by simpa using l1) hu (by simpa using l2)).mono ?_
  rintro _ w' ⟨u,c,rfl⟩
  exact⟨u.1.mono fun c _ hc=>by simp at hc,rfl,xl (vaB c) aC rfl (vi _) trivial (by simp[DP.v,BF.v,my,vaB])⟩
end Go.TL.H.Gq
set_option maxRecDepth 100000
namespace Go.TL.H.Gq
open Go
def c17:Code:=(.seq (.region 0 ([⟨(some 0),.assign (.const (.bool false)),0, "", #[],none⟩]:List Oper).toArray false) (.seq (.region 0 ([⟨(some 2),.call ⟨(.value (.func 34)), #[], #[]⟩,0, "", #[],none⟩,⟨(some 1),.alloc 76,0, "", #[],none⟩,⟨none,.store 76 (.tmp 1) (.tmp 2),0, "", #[],none⟩]:List Oper).toArray false) (.seq (.region 0 ([⟨(some 3),.fieldAddr 76 (.tmp 1) 0,0, "", #[],none⟩,⟨(some 4),.load 3 (.tmp 3),0, "", #[],none⟩,⟨(some 5),.binOp .eql 3 (.tmp 4) (.const (.int .i64 9)) 3,0, "", #[],none⟩,⟨(some 6),.move (.tmp 5),0, "", #[],none⟩,⟨(some 7),.fieldAddr 76 (.tmp 1) 1,0, "", #[],(some (3,true))⟩,⟨(some 8),.load 9 (.tmp 7),0, "", #[],(some (3,true))⟩,⟨(some 9),.binOp .eql 9 (.tmp 8) (.const (.string ⟨#[101,114,114,111,114]⟩)) 9,0, "", #[],(some (3,true))⟩,⟨(some 10),.pick (.tmp 6) (.tmp 9) (.const (.bool false)),0, "", #[],none⟩,⟨(some 11),.move (.tmp 10),0, "", #[],none⟩,⟨(some 12),.fieldAddr 76 (.tmp 1) 5,0, "", #[],(some (8,true))⟩,⟨(some 13),.load 73 (.tmp 12),0, "", #[],(some (8,true))⟩,⟨(some 14),.call ⟨(.builtin .len), #[(.tmp 13)], #[73]⟩,3, "", #[],(some (8,true))⟩,⟨(some 15),.binOp .eql 3 (.tmp 14) (.const (.int .i64 1)) 3,0, "", #[],(some (8,true))⟩,⟨(some 16),.pick (.tmp 11) (.tmp 15) (.const (.bool false)),0, "", #[],none⟩,⟨(some 0),.assign (.tmp 16),0, "", #[],none⟩]:List Oper).toArray false) .ret)))
def c34:Code:=(.seq (.region 0 ([⟨(some 0),.alloc 76,0, "", #[],none⟩]:List Oper).toArray false) (.seq (.region 0 ([⟨(some 1),.call ⟨(.value (.func 44)), #[(.const (.string ⟨#[110,111,32,109,97,116,99,104]⟩))], #[]⟩,0, "", #[],none⟩,⟨(some 2),.buildSlice 73 1 #[(0,(.tmp 1))],0, "", #[],none⟩,⟨(some 3),.build 76 #[(0,(.const (.int .i64 9))),(1,(.const (.string ⟨#[101,114,114,111,114]⟩))),(5,(.tmp 2))],0, "", #[],none⟩,⟨none,.store 76 (.tmp 0) (.tmp 3),0, "", #[],none⟩]:List Oper).toArray false) .ret))
def c44:Code:=(.seq (.region 0 ([⟨(some 2),.alloc 76,0, "", #[],none⟩]:List Oper).toArray false) (.seq (.region 0 ([⟨(some 5),.call ⟨(.value (.func 50)), #[(.const (.string ⟨#[78,105,108]⟩)),(.const (.slice none 0 0))], #[]⟩,0, "", #[],none⟩,⟨(some 3),.alloc 76,0, "", #[],none⟩,⟨none,.store 76 (.tmp 3) (.tmp 5),0, "", #[],none⟩]:List Oper).toArray false) (.seq (.seq (.region 0 ([⟨(some 6),.move (.tmp 0),0, "", #[],none⟩,⟨(some 7),.call ⟨(.builtin .len), #[(.tmp 6)], #[9]⟩,3, "", #[],none⟩,⟨(some 8),.binOp .sub 3 (.tmp 7) (.const (.int .i64 1)) 3,0, "", #[],none⟩,⟨(some 4),.assign (.tmp 8),0, "", #[],none⟩]:List Oper).toArray false) (.block 0 (.loop (.seq (.seq (.region 0 ([⟨(some 9),.move (.tmp 4),0, "", #[],none⟩,⟨(some 10),.binOp .geq 3 (.tmp 9) (.const (.int .i64 0)) 3,0, "", #[],none⟩]:List Oper).toArray false) (.cond (.tmp 10) .skip (.exit 0))) (.seq (.block 1 (.region 0 ([⟨(some 13),.move (.tmp 0),0, "", #[],none⟩,⟨(some 14),.move (.tmp 4),0, "", #[],none⟩,⟨(some 15),.index 9 (.tmp 13) (.tmp 14),0, "", #[eD 0,eD 1],none⟩,⟨(some 16),.convert 5 2 (.tmp 15),0, "", #[eD 2],none⟩,⟨(some 17),.build 76 #[(0,(.const (.int .i64 3))),(2,(.tmp 16))],0, "", #[eD 3],none⟩,⟨(some 18),.load 76 (.tmp 3),0, "", #[],none⟩,⟨(some 19),.buildSlice 73 2 #[(0,(.tmp 17)),(1,(.tmp 18))],0, "", #[eD 4,eD 5],none⟩,⟨(some 20),.call ⟨(.value (.func 50)), #[(.const (.string ⟨#[67,111,110,115]⟩)),(.tmp 19)], #[]⟩,0, "", #[eD 6],none⟩,⟨none,.store 76 (.tmp 3) (.tmp 20),0, "", #[eD 7,eC 7,eP 0,eP 1,eP 2,eP 3,eP 4,eP 5,eP 6,eP 7],none⟩]:List Oper).toArray true)) (.region 0 ([⟨(some 11),.move (.tmp 4),0, "", #[],none⟩,⟨(some 12),.binOp .sub 3 (.tmp 11) (.const (.int .i64 1)) 3,0, "", #[],none⟩,⟨(some 4),.assign (.tmp 12),0, "", #[],none⟩]:List Oper).toArray false)))))) (.seq (.region 0 ([⟨(some 21),.load 76 (.tmp 3),0, "", #[],none⟩,⟨none,.store 76 (.tmp 2) (.tmp 21),0, "", #[],none⟩]:List Oper).toArray false) .ret))))
def c50:Code:=(.seq (.region 0 ([⟨(some 4),.alloc 76,0, "", #[],none⟩]:List Oper).toArray false) (.seq (.region 0 ([⟨(some 5),.move (.tmp 0),0, "", #[],none⟩,⟨(some 6),.move (.tmp 1),0, "", #[],none⟩,⟨(some 7),.build 76 #[(0,(.const (.int .i64 4))),(1,(.tmp 5)),(5,(.tmp 6))],0, "", #[],none⟩,⟨none,.store 76 (.tmp 4) (.tmp 7),0, "", #[],none⟩]:List Oper).toArray false) .ret))
structure GB3(P:Program):Prop where
 b17:Body P 17 17 [.tmp 0] c17
 b34:Body P 34 4 [.cell 0 76] c34
 b44:Body P 44 22 [.cell 2 76] c44
 b50:Body P 50 8 [.cell 4 76] c50
end Go.TL.H.Gq
set_option maxRecDepth 100000
namespace Go.TL.H.Gq
open Go
variable {P:Program} {w:World}
structure GE(P:Program):Prop where
 mix:P.follows .mixedOrders=true
 u3:P.underlying 3=some (.int .i64)
 u2:P.underlying 2=some (.int .i64)
 u5:P.underlying 5=some (.int .u8)
 u9:P.underlying 9=some .string
 u73:P.underlying 73=some (.slice 76)
 o3:One P 3 (iv 0)
 o9:One P 9 (.string ⟨#[]⟩)
 o73:One P 73 (.slice none 0 0)
 b76:Big P 76 [iv 0,.string ⟨#[]⟩,iv 0,.slice none 0 0,.slice none 0 0,.slice none 0 0,.slice none 0 0]
 f0:aO P 76 0=some (0,1)
 f1:aO P 76 1=some (1,1)
 f5:aO P 76 5=some (5,1)
 bc:∀(n:Int) (s:ByteArray) (p:Option Addr) (m c:Nat),P.built 76 [(0,iv n),(1,.string s),(5,.slice p m c)]=some #[iv n,.string s,iv 0,.slice none 0 0,.slice none 0 0,.slice p m c,.slice none 0 0]
 bi:∀n m:Int,P.built 76 [(0,iv n),(2,iv m)]=some #[iv n,.string ⟨#[]⟩,iv m,.slice none 0 0,.slice none 0 0,.slice none 0 0,.slice none 0 0]
def V7(vs:List Value):Prop:=vs.length=7∧∀u∈vs,u.oneCell'=true
theorem v7{a b c d e f g:Value}(h:∀u∈ [a,b,c,d,e,f,g],u.oneCell'=true):V7 [a,b,c,d,e,f,g]:=⟨rfl,h⟩
theorem V7.ex{vs:List Value}(h:V7 vs):∃a b c d e f g,vs=[a,b,c,d,e,f,g]:=by
 match vs,h.1 with
 | [a,b,c,d,e,f,g],_=>exact⟨a,b,c,d,e,f,g,rfl⟩
section
variable {o:Oper} {n:Nat} {sl:aT} {a:Act} {ops:Array Oper} {Q:Exit→Act→World→Prop} {rest:List Oper}
theorem rv7{t b:Nat}{vs:List Value}{bt:TypeId}{fz:Nat×Nat}(E:GE P)(h:SL n sl a)(ht:lk sl t=some (Ptr b 0))(hv:V7 vs)(hb:w.heap[b]? =some (.cells vs.toArray bt fz)):RV P [.cell t 76] a.tmps w (.agg vs.toArray):=by
 obtain⟨i,hi,ha,hs,_⟩:=E.b76.is
 have hr:=eT (P:=P) (w:=w) (b:=b) (o:=0) (vs:=vs) ha hi (fun j u hj=>by
  rw[dF hb];simpa using hj) (by rw[hs,hv.1];rfl) (fun h=>by cases h)
 have eL:(loadVar 76 ⟨b,0,none⟩).run P w= .ok (.agg vs.toArray) w:=by simpa[Instr.loadAt,Instr.sureAddr]using hr
 refine⟨[.agg vs.toArray],?_,rfl⟩
 have e:=h.az t _ ht
 simp[gh,e,Ptr,asAddr,eL]
theorem st7{b:Nat}{x y:Operand}{cs vs:List Value}{bt:TypeId}(E:GE P)(h:SL n sl a)(ho:o.op= .store 76 x y)(ex:ev sl x=some (Ptr b 0))(ey:ev sl y=some (.agg vs.toArray))(hv:V7 vs)(hc:cs.length=7)(hb:w.heap[b]? =some (.cells cs.toArray bt (0,0))):
  ∃w',(execOp a.eval o).run P w= .ok .skip w'∧Ch (· =b) w w'∧w'.heap[b]? =some (.cells vs.toArray bt (0,0)):=by
 refine⟨_,mn vs h ho ex ey E.b76 (by rw[hv.1];rfl) hv.2 hb (by simp[hv.1,hc]),Ch.setRow w b _,?_⟩
 have:=setRow_heap w b _ (spl cs.toArray.toList 0 vs).toArray _ _ hb
 rw[this]
 simp[spl,hv.1,hc]
theorem bs7{k:Nat}{ps:Array (Nat×Operand)}(E:GE P)(ho:o.op= .buildSlice 73 k ps)(hps:∃x vs,SL n sl a∧V7 vs∧((k=1∧ps= #[(0,x)]∧ev sl x=some (.agg vs.toArray))∨∃y us,V7 us∧k=2∧ps= #[(0,x),(1,y)]∧ev sl x=some (.agg vs.toArray)∧ev sl y=some (.agg us.toArray))):
  ∃cs,(execOp a.eval o).run P w= .ok (.value (.slice (some ⟨w.heap.size,0,none⟩) k k)) (w.alloc (.cells cs 76)):=by
 obtain⟨i,hi,ha,hs,hz,_⟩:=E.b76.is
 have hs7:i.size=7:=hs
 obtain⟨x,vs,h,hv,⟨rfl,rfl,ex⟩|⟨y,us,hu,rfl,rfl,ex,ey⟩⟩:=hps
 ·obtain⟨a1,a2,a3,a4,a5,a6,a7,rfl⟩:=hv.ex
  refine⟨#[a1,a2,a3,a4,a5,a6,a7],?_⟩
  have hr:Array.range 7= #[0,1,2,3,4,5,6]:=rfl
  simp[execOp,ho,Instr.buildSlice,run_underlying E.u73,sizeOf,typeInfo,zeroValue,hi,hz,hs7,newRow,h.ev ex,hr,Instr.fill,Value.cells]
 ·obtain⟨a1,a2,a3,a4,a5,a6,a7,rfl⟩:=hv.ex
  obtain⟨b1,b2,b3,b4,b5,b6,b7,rfl⟩:=hu.ex
  refine⟨#[a1,a2,a3,a4,a5,a6,a7,b1,b2,b3,b4,b5,b6,b7],?_⟩
  have hr:Array.range 14= #[0,1,2,3,4,5,6,7,8,9,10,11,12,13]:=rfl
  simp[execOp,ho,Instr.buildSlice,run_underlying E.u73,sizeOf,typeInfo,zeroValue,hi,hz,hs7,newRow,h.ev ex,h.ev ey,hr,Instr.fill,Value.cells]
end
theorem tq(E:GE P)(B:GB3 P)(s:ByteArray)(p:Option Addr)(m c:Nat):Ret P 50 [.string s,.slice p m c] w fun r w'=>Ch (fun _=>False) w w'∧∃vs,r= .agg vs.toArray∧V7 vs:=by
 refine aJ B.b50 ?_
 have h0:=SL.init (n:=8) [.string s,.slice p m c] rfl
 (revert h0;generalize({tmps:=_,defers:=[]}:Act)=a;intro h0)
 refine ah (ae ?_)
 refine L h0 rfl rfl (dJ rfl E.b76) fun a h0=>?_
 have g1:=Ch.alloc (fun _=>False) w (.cells [iv 0,.string ⟨#[]⟩,iv 0,.slice none 0 0,.slice none 0 0,.slice none 0 0,.slice none 0 0].toArray 76)
 have o1:=heap_alloc_new w (.cells [iv 0,.string ⟨#[]⟩,iv 0,.slice none 0 0,.slice none 0 0,.slice none 0 0,.slice none 0 0].toArray 76)
 refine Le (ah (ae ?_))
 (first|refine L h0 rfl rfl (aa h0 (.inl rfl) rfl) fun a h0=>?_|refine L h0 rfl rfl (aa h0 (.inr rfl) rfl) fun a h0=>?_|refine L h0 rfl rfl (ab h0 rfl rfl) fun a h0=>?_);(first|refine L h0 rfl rfl (aa h0 (.inl rfl) rfl) fun a h0=>?_|refine L h0 rfl rfl (aa h0 (.inr rfl) rfl) fun a h0=>?_|refine L h0 rfl rfl (ab h0 rfl rfl) fun a h0=>?_)
 refine L h0 rfl rfl (aQ [(0,iv 4),(1,.string s),(5,.slice p m c)] rfl (by simp[show a.eval (.tmp 5)= .string s from h0.ev rfl,show a.eval (.tmp 6)= .slice p m c from h0.ev rfl,show a.eval (.const (iv 4))=iv 4 from rfl]) (E.bc _ _ _ _ _)) fun a h0=>?_
 have hv:V7 [iv 4,.string s,iv 0,.slice none 0 0,.slice none 0 0,.slice p m c,.slice none 0 0]:=v7 (by simp[Value.oneCell'])
 obtain⟨w2,hr,g2,o2⟩:=st7 (o:=⟨none,.store 76 (.tmp 4) (.tmp 7),0, "", #[],none⟩) E h0 rfl rfl rfl hv rfl o1
 refine Ls h0 rfl rfl hr fun h0=>?_
 exact Le (aP ⟨h0.defers,_,rv7 E h0 rfl hv o2,g1.trans' g2 fun b hb e=>by omega,_,rfl,hv⟩)
abbrev z7:List Value:=[iv 0,.string ⟨#[]⟩,iv 0,.slice none 0 0,.slice none 0 0,.slice none 0 0,.slice none 0 0]
theorem Az{o:Oper}{n:Nat}{sl:aT}{a:Act}{x ix:Operand}{s:ByteArray}{i:Nat}(E:GE P)(h:SL n sl a)(ho:o.op= .index 9 x ix)(ex:ev sl x=some (.string s))(ei:ev sl ix=some (iv i))(hi:i<s.size):(execOp a.eval o).run P w= .ok (.value (.int .u8 (s[i]'hi).toNat)) w:=by
 simp[execOp,ho,h.ev ex,h.ev ei,Instr.index,asIntOf,run_underlying E.u9,hi]
theorem xF(E:GE P)(B:GB3 P)(s:ByteArray)(hs:s.size≤1000):Ret P 44 [.string s] w fun r w'=>Ch (fun _=>False) w w'∧∃vs,r= .agg vs.toArray∧V7 vs:=by
 refine aJ B.b44 ?_
 have h0:=SL.init (n:=22) [.string s] rfl
 (revert h0;generalize({tmps:=_,defers:=[]}:Act)=a;intro h0)
 refine ah (ae ?_)
 refine L h0 rfl rfl (dJ rfl E.b76) fun a h0=>?_
 have g1:=Ch.alloc (fun _=>False) w (.cells z7.toArray 76)
 have o1:=heap_alloc_new w (.cells z7.toArray 76)
 obtain⟨b2,cF⟩:∃b,b=w.heap.size:=⟨_,rfl⟩
 rw[←cF]at o1 h0
 generalize w.alloc (.cells z7.toArray 76)=w1 at*
 refine Le (ah (ae ?_))
 refine Lc (vs:=[.string ⟨#[78,105,108]⟩,.slice none 0 0]) h0 rfl rfl rfl rfl rfl B.b50.ok (tq E B _ _ _ _) fun r w2 a hr h0=>?_
 obtain⟨g2,vs,rfl,hv⟩:=hr
 have o2:=g2.at o1 id
 have g12:=g1.trans g2
 refine L h0 rfl rfl (dJ rfl E.b76) fun a h0=>?_
 have g3:=Ch.alloc (fun _=>False) w2 (.cells z7.toArray 76)
 have o3:=heap_alloc_new w2 (.cells z7.toArray 76)
 have o2:=g3.at o2 id
 have g13:=g12.trans g3
 obtain⟨b3,hb3⟩:∃b,b=w2.heap.size:=⟨_,rfl⟩
 have hb23:b2<b3:=by rw[hb3];exact aq (g2.at o1 id)
 have hle:w.heap.size≤b3:=by omega
 rw[←hb3]at o3 h0
 generalize w2.alloc (.cells z7.toArray 76)=w3 at*
 obtain⟨w4,hr,g4,o4⟩:=st7 (o:=⟨none,.store 76 (.tmp 3) (.tmp 5),0, "", #[],none⟩) E h0 rfl rfl rfl hv rfl o3
 refine Ls h0 rfl rfl hr fun h0=>?_
 have o2:=g4.at o2 (by omega)
 have g14:=g13.trans' g4 fun b hb e=>by omega
 have h0:SL 22 [(0,.string s),(2,Ptr b2 0),(3,Ptr b3 0)] a:=h0.keep [0,2,3]
 refine Le (ah (ah (ae ?_)))
 (first|refine L h0 rfl rfl (aa h0 (.inl rfl) rfl) fun a h0=>?_|refine L h0 rfl rfl (aa h0 (.inr rfl) rfl) fun a h0=>?_|refine L h0 rfl rfl (ab h0 rfl rfl) fun a h0=>?_)
 refine L h0 rfl rfl (uL h0 rfl rfl E.u9) fun a h0=>?_
 refine L h0 rfl rfl (iu ((s.size:Int) - 1) h0 rfl rfl rfl rfl (by omega) (by omega)) fun a h0=>?_
 (first|refine L h0 rfl rfl (aa h0 (.inl rfl) rfl) fun a h0=>?_|refine L h0 rfl rfl (aa h0 (.inr rfl) rfl) fun a h0=>?_|refine L h0 rfl rfl (ab h0 rfl rfl) fun a h0=>?_)
 refine Le (NW.mono (Q:=fun e a w5=>e= .normal∧SL 22 [(2,Ptr b2 0),(3,Ptr b3 0)] a∧Ch (fun _=>False) w w5∧w5.heap[b2]? =some (.cells z7.toArray 76 (0,0))∧∃vs,V7 vs∧w5.heap[b3]? =some (.cells vs.toArray 76 (0,0))) ?_ ?_)
 ·refine au (aW (fun m a w5=>m≤s.size∧SL 22 [(0,.string s),(2,Ptr b2 0),(3,Ptr b3 0),(4,iv ((m:Int) - 1))] a∧Ch (fun _=>False) w w5∧w5.heap[b2]? =some (.cells z7.toArray 76 (0,0))∧∃vs,V7 vs∧w5.heap[b3]? =some (.cells vs.toArray 76 (0,0))) s.size ⟨Nat.le_refl _,h0.keep [0,2,3,4],g14,o2,vs,hv,o4⟩ ?_)
  clear h0 o2 o4 hv
  rintro m a w5 ⟨hm,h0,g5,o2,vs,hv,o3⟩
  refine ah (ah (ae ?_))
  (first|refine L h0 rfl rfl (aa h0 (.inl rfl) rfl) fun a h0=>?_|refine L h0 rfl rfl (aa h0 (.inr rfl) rfl) fun a h0=>?_|refine L h0 rfl rfl (ab h0 rfl rfl) fun a h0=>?_)
  refine L h0 rfl rfl (aG h0 rfl rfl rfl rfl) fun a h0=>?_
  refine Le (ar (h0.ev rfl) (fun hc=>aw ?_) (fun hc=>aN ⟨rfl,h0.keep [2,3],g5,o2,vs,hv,o3⟩))
  obtain⟨i,rfl⟩:∃i,m=i+1:=⟨m - 1,by simp at hc;omega⟩
  have h0:SL 22 [(0,.string s),(2,Ptr b2 0),(3,Ptr b3 0),(4,iv i)] a:=by
   have:=h0.keep [0,2,3,4]
   rw[show(((i+1:Nat):Int) - 1)=(i:Int) by omega]at this;exact this
  refine ah (au (jO (R:=fun _=>0) 6 E.mix (by kernel_rfl) fun w6 u6=>?_))
  have g6:Ch (fun _=>False) w5 w6:=u6.1.mono fun c _ hc=>by simp at hc
  have o2:=g6.at o2 id
  have o3:=g6.at o3 id
  have g56:=g5.trans g6
  (first|refine T h0 rfl rfl (aa h0 (.inl rfl) rfl) fun a h0=>?_|refine T h0 rfl rfl (aa h0 (.inr rfl) rfl) fun a h0=>?_|refine T h0 rfl rfl (ab h0 rfl rfl) fun a h0=>?_);(first|refine T h0 rfl rfl (aa h0 (.inl rfl) rfl) fun a h0=>?_|refine T h0 rfl rfl (aa h0 (.inr rfl) rfl) fun a h0=>?_|refine T h0 rfl rfl (ab h0 rfl rfl) fun a h0=>?_)
  refine T h0 rfl rfl (Az E h0 rfl rfl rfl (by omega)) fun a h0=>?_
  refine T h0 rfl rfl (uK h0 rfl rfl ⟨_,E.u5⟩ E.u2) fun a h0=>?_
  generalize IntKind.wrap .i64 _=z at h0
  refine T h0 rfl rfl (aQ [(0,iv 3),(2,iv z)] rfl (by simp[show a.eval (.const (iv 3))=iv 3 from rfl,show a.eval (.tmp 16)=iv z from h0.ev rfl]) (E.bi _ _)) fun a h0=>?_
  refine T h0 rfl rfl (jn vs h0 rfl rfl E.b76 (by rw[hv.1];rfl) o3 fun j v hj=>by simpa using hj) fun a h0=>?_
  obtain⟨cs,hbs⟩:=bs7 (w:=w6) (o:=⟨some 19,.buildSlice 73 2 #[(0,.tmp 17),(1,.tmp 18)],0, "", #[eD 4,eD 5],none⟩) E rfl ⟨.tmp 17,_,h0,v7 (by simp[Value.oneCell']),.inr ⟨.tmp 18,vs,hv,rfl,rfl,rfl,rfl⟩⟩
  refine Te (L h0 rfl rfl hbs fun a h0=>?_)
  have g7:=Ch.alloc (fun _=>False) w6 (.cells cs 76)
  have o2:=g7.at o2 id
  have o3:=g7.at o3 id
  have g57:=g56.trans g7
  generalize w6.alloc (.cells cs 76)=w7 at*
  refine Lc (vs:=[.string ⟨#[67,111,110,115]⟩,.slice (some ⟨w6.heap.size,0,none⟩) 2 2]) h0 rfl rfl rfl rfl rfl B.b50.ok (tq E B _ _ _ _) fun r w8 a hr h0=>?_
  obtain⟨g8,us,rfl,hu⟩:=hr
  have o2:=g8.at o2 id
  have o3:=g8.at o3 id
  obtain⟨w9,hr,g9,o9⟩:=st7 (o:=⟨none,.store 76 (.tmp 3) (.tmp 20),0, "",_,none⟩) E h0 rfl rfl rfl hu hv.1 o3
  refine Ls h0 rfl rfl hr fun h0=>?_
  have o2:=g9.at o2 (by omega)
  refine Le (ae ?_)
  (first|refine L h0 rfl rfl (aa h0 (.inl rfl) rfl) fun a h0=>?_|refine L h0 rfl rfl (aa h0 (.inr rfl) rfl) fun a h0=>?_|refine L h0 rfl rfl (ab h0 rfl rfl) fun a h0=>?_)
  refine L h0 rfl rfl (iu ((i:Int) - 1) h0 rfl rfl rfl rfl (by omega) (by omega)) fun a h0=>?_
  (first|refine L h0 rfl rfl (aa h0 (.inl rfl) rfl) fun a h0=>?_|refine L h0 rfl rfl (aa h0 (.inr rfl) rfl) fun a h0=>?_|refine L h0 rfl rfl (ab h0 rfl rfl) fun a h0=>?_)
  exact Le ⟨i,by omega,by omega,h0.keep [0,2,3,4],(g57.trans g8).trans' g9 fun b hb e=>by omega,o2,us,hu,o9⟩
 rintro _ a w5 ⟨rfl,h0,g5,o2,vs,hv,o3⟩
 refine ah (ae ?_)
 refine L h0 rfl rfl (jn vs h0 rfl rfl E.b76 (by rw[hv.1];rfl) o3 fun j v hj=>by simpa using hj) fun a h0=>?_
 obtain⟨w6,hr,g6,o6⟩:=st7 (o:=⟨none,.store 76 (.tmp 2) (.tmp 21),0, "", #[],none⟩) E h0 rfl rfl rfl hv rfl o2
 refine Ls h0 rfl rfl hr fun h0=>?_
 exact Le (aP ⟨h0.defers,_,rv7 E h0 rfl hv o6,g5.trans' g6 fun b hb e=>by omega,_,rfl,hv⟩)
theorem r5(E:GE P)(B:GB3 P):Ret P 34 [] w fun r w'=>Ch (fun _=>False) w w'∧∃p,r= .agg #[iv 9,.string ⟨#[101,114,114,111,114]⟩,iv 0,.slice none 0 0,.slice none 0 0,.slice p 1 1,.slice none 0 0]:=by
 refine aJ B.b34 ?_
 have h0:=SL.init (n:=4) [] rfl
 (revert h0;generalize({tmps:=_,defers:=[]}:Act)=a;intro h0)
 refine ah (ae ?_)
 refine L h0 rfl rfl (dJ rfl E.b76) fun a h0=>?_
 have g1:=Ch.alloc (fun _=>False) w (.cells z7.toArray 76)
 have o1:=heap_alloc_new w (.cells z7.toArray 76)
 generalize w.alloc (.cells z7.toArray 76)=w1 at*
 refine Le (ah (ae ?_))
 refine Lc (vs:=[.string ⟨#[110,111,32,109,97,116,99,104]⟩]) h0 rfl rfl rfl rfl rfl B.b44.ok (xF E B _ (by decide)) fun r w2 a hr h0=>?_
 obtain⟨g2,vs,rfl,hv⟩:=hr
 have o2:=g2.at o1 id
 obtain⟨cs,hbs⟩:=bs7 (w:=w2) (o:=⟨some 2,.buildSlice 73 1 #[(0,.tmp 1)],0, "", #[],none⟩) E rfl ⟨.tmp 1,vs,h0,hv,.inl ⟨rfl,rfl,rfl⟩⟩
 refine L h0 rfl rfl hbs fun a h0=>?_
 have g3:=Ch.alloc (fun _=>False) w2 (.cells cs 76)
 have o3:=g3.at o2 id
 have g13:=(g1.trans g2).trans g3
 generalize w2.alloc (.cells cs 76)=w3 at*
 refine L h0 rfl rfl (aQ [(0,iv 9),(1,.string ⟨#[101,114,114,111,114]⟩),(5,.slice (some ⟨w2.heap.size,0,none⟩) 1 1)] rfl (by simp[show a.eval (.tmp 2)= .slice (some ⟨w2.heap.size,0,none⟩) 1 1 from h0.ev rfl,show a.eval (.const (iv 9))=iv 9 from rfl,show a.eval (.const (.string ⟨#[101,114,114,111,114]⟩))= .string ⟨#[101,114,114,111,114]⟩from rfl]) (E.bc _ _ _ _ _)) fun a h0=>?_
 have hw:V7 [iv 9,.string ⟨#[101,114,114,111,114]⟩,iv 0,.slice none 0 0,.slice none 0 0,.slice (some ⟨w2.heap.size,0,none⟩) 1 1,.slice none 0 0]:=v7 (by simp[Value.oneCell'])
 obtain⟨w4,hr,g4,o4⟩:=st7 (o:=⟨none,.store 76 (.tmp 0) (.tmp 3),0, "", #[],none⟩) E h0 rfl rfl rfl hw rfl o3
 refine Ls h0 rfl rfl hr fun h0=>?_
 exact Le (aP ⟨h0.defers,_,rv7 E h0 rfl hw o4,g13.trans' g4 fun b hb e=>by omega,_,rfl⟩)
theorem r6(E:GE P)(B:GB3 P):Ret P 17 [] w fun r w'=>r= .bool true∧Ch (fun _=>False) w w':=by
 refine aJ B.b17 ?_
 have h0:=SL.init (n:=17) [] rfl
 (revert h0;generalize({tmps:=_,defers:=[]}:Act)=a;intro h0)
 refine ah (ae ?_)
 (first|refine L h0 rfl rfl (aa h0 (.inl rfl) rfl) fun a h0=>?_|refine L h0 rfl rfl (aa h0 (.inr rfl) rfl) fun a h0=>?_|refine L h0 rfl rfl (ab h0 rfl rfl) fun a h0=>?_)
 refine Le (ah (ae ?_))
 refine Lc (vs:=[]) h0 rfl rfl rfl rfl rfl B.b34.ok (r5 E B) fun r w1 a hr h0=>?_
 obtain⟨g1,p,rfl⟩:=hr
 refine L h0 rfl rfl (dJ rfl E.b76) fun a h0=>?_
 have g2:=Ch.alloc (fun _=>False) w1 (.cells z7.toArray 76)
 have o2:=heap_alloc_new w1 (.cells z7.toArray 76)
 have hle:=g1.size
 have hv:V7 [iv 9,.string ⟨#[101,114,114,111,114]⟩,iv 0,.slice none 0 0,.slice none 0 0,.slice p 1 1,.slice none 0 0]:=v7 (by simp[Value.oneCell'])
 obtain⟨w3,hr,g3,o3⟩:=st7 (o:=⟨none,.store 76 (.tmp 1) (.tmp 2),0, "", #[],none⟩) E h0 rfl rfl rfl hv rfl o2
 refine Ls h0 rfl rfl hr fun h0=>?_
 have g13:=(g1.trans g2).trans' g3 fun b hb e=>by omega
 refine Le (ah (ae ?_))
 refine L h0 rfl rfl (ak h0 rfl rfl E.f0) fun a h0=>?_
 refine L h0 rfl rfl (ai h0 rfl rfl E.o3 o3 rfl) fun a h0=>?_
 refine L h0 rfl rfl (aG (r:=true) h0 rfl rfl rfl rfl) fun a h0=>?_
 (first|refine L h0 rfl rfl (aa h0 (.inl rfl) rfl) fun a h0=>?_|refine L h0 rfl rfl (aa h0 (.inr rfl) rfl) fun a h0=>?_|refine L h0 rfl rfl (ab h0 rfl rfl) fun a h0=>?_)
 refine L h0 ((wg h0 rfl rfl rfl rfl).trans rfl) rfl (ak h0 rfl rfl E.f1) fun a h0=>?_
 refine L h0 ((wg h0 rfl rfl rfl rfl).trans rfl) rfl (ai h0 rfl rfl E.o9 o3 rfl) fun a h0=>?_
 refine L h0 ((wg h0 rfl rfl rfl rfl).trans rfl) rfl (qE (c:=true) h0 rfl rfl rfl (by simp[tA])) fun a h0=>?_
 refine L h0 rfl rfl (bM (b:=true) (u:= .bool true) h0 rfl rfl (fun _=>rfl) (fun h=>by cases h)) fun a h0=>?_
 (first|refine L h0 rfl rfl (aa h0 (.inl rfl) rfl) fun a h0=>?_|refine L h0 rfl rfl (aa h0 (.inr rfl) rfl) fun a h0=>?_|refine L h0 rfl rfl (ab h0 rfl rfl) fun a h0=>?_)
 refine L h0 ((wg h0 rfl rfl rfl rfl).trans rfl) rfl (ak h0 rfl rfl E.f5) fun a h0=>?_
 refine L h0 ((wg h0 rfl rfl rfl rfl).trans rfl) rfl (ai h0 rfl rfl E.o73 o3 rfl) fun a h0=>?_
 refine L h0 ((wg h0 rfl rfl rfl rfl).trans rfl) rfl (aM h0 rfl rfl E.u73) fun a h0=>?_
 refine L h0 ((wg h0 rfl rfl rfl rfl).trans rfl) rfl (aG (r:=true) h0 rfl rfl rfl rfl) fun a h0=>?_
 refine L h0 rfl rfl (bM (b:=true) (u:= .bool true) h0 rfl rfl (fun _=>rfl) (fun h=>by cases h)) fun a h0=>?_
 (first|refine L h0 rfl rfl (aa h0 (.inl rfl) rfl) fun a h0=>?_|refine L h0 rfl rfl (aa h0 (.inr rfl) rfl) fun a h0=>?_|refine L h0 rfl rfl (ab h0 rfl rfl) fun a h0=>?_)
 exact Le (aP (cH h0 rfl ⟨rfl,g13⟩))
end Go.TL.H.Gq
