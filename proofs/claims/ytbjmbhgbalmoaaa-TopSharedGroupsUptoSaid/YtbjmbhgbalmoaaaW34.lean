/- container/heap over turns: up, down, Push, Pop. -/
import Derived.Test.YtbjmbhgbalmoaaaW33
import Derived.OrdersHeld
set_option maxRecDepth 100000
namespace Go.TL.H.Gq
open Go
variable {P:Program} {w:World} {R:Nat→Nat} {v:Value} {xs:List Nat}
theorem HB.sb{w w':World}{R:Nat→Nat}{b:Nat}{v:Value}{ys:List Nat}(hv:Cl w R 10 b 88 [v])(u:Up [11] R R w w')(hy:Ow w' R 11 3 v (ivs ys)):HB w' R b ys:=⟨v,hv.up u (by decide),hy⟩
theorem Aq(G:GT P)(B:GB P){b j:Nat}(hb:HB w R b xs)(hj:j<xs.length)(hl:xs.length≤1099511627776):Ret P 48 [.iface 90 (Ptr b 0),iv j] w fun r w'=>r= .tuple #[]∧Up [11] R R w w'∧∃ys,HB w' R b ys∧Sb ys xs:=by
 refine aJ B.b48 ?_
 have h0:=SL.init (n:=23) [.iface 90 (Ptr b 0),iv j] rfl
 (revert h0;generalize({tmps:=_,defers:=[]}:Act)=a;intro h0)
 refine au (aW (fun m a w1=>SL 23 [(0,.iface 90 (Ptr b 0)),(1,iv m)] a∧m<xs.length∧Up [11] R R w w1∧∃ys,HB w1 R b ys∧Sb ys xs) j ⟨h0.keep [0,1],hj,Up.rfl,xs,hb,rfl,.refl _⟩ ?_)
 rintro m a w1 ⟨h0,hm,u1,ys,⟨v,hv,hx⟩,hs⟩
 have hmy:m<ys.length:=by rw[hs.1];exact hm
 have hiy:(m - 1) / 2<ys.length:=by omega
 refine au (ah (ae ?_))
 (first|refine L h0 rfl rfl (aa h0 (.inl rfl) rfl) fun a h0=>?_|refine L h0 rfl rfl (aa h0 (.inr rfl) rfl) fun a h0=>?_|refine L h0 rfl rfl (ab h0 rfl rfl) fun a h0=>?_)
 refine L h0 rfl rfl (iu ((m:Int) - 1) h0 rfl rfl rfl rfl (by omega) (by omega)) fun a h0=>?_
 refine L h0 rfl rfl (Ap h0 rfl rfl (by omega)) fun a h0=>?_
 (first|refine L h0 rfl rfl (aa h0 (.inl rfl) rfl) fun a h0=>?_|refine L h0 rfl rfl (aa h0 (.inr rfl) rfl) fun a h0=>?_|refine L h0 rfl rfl (ab h0 rfl rfl) fun a h0=>?_)
 have h0:SL 23 [(0,.iface 90 (Ptr b 0)),(1,iv m),(4,iv ((m - 1) / 2:Nat))] a:=h0.keep [0,1,4]
 refine Le (ah (ah (ae ?_)))
 (first|refine L h0 rfl rfl (aa h0 (.inl rfl) rfl) fun a h0=>?_|refine L h0 rfl rfl (aa h0 (.inr rfl) rfl) fun a h0=>?_|refine L h0 rfl rfl (ab h0 rfl rfl) fun a h0=>?_);(first|refine L h0 rfl rfl (aa h0 (.inl rfl) rfl) fun a h0=>?_|refine L h0 rfl rfl (aa h0 (.inr rfl) rfl) fun a h0=>?_|refine L h0 rfl rfl (ab h0 rfl rfl) fun a h0=>?_)
 refine L h0 rfl rfl (aG h0 rfl rfl rfl rfl) fun a h0=>?_
 (first|refine L h0 rfl rfl (aa h0 (.inl rfl) rfl) fun a h0=>?_|refine L h0 rfl rfl (aa h0 (.inr rfl) rfl) fun a h0=>?_|refine L h0 rfl rfl (ab h0 rfl rfl) fun a h0=>?_)
 by_cases he:(m - 1) / 2=m
 ·have hc:((((m - 1) / 2:Nat):Int)==(m:Int))=true:=by simp;omega
  simp only[hc]at h0
  refine Lu h0 ((wg h0 rfl rfl rfl rfl).trans rfl) rfl fun a h0=>?_;refine Lu h0 ((wg h0 rfl rfl rfl rfl).trans rfl) rfl fun a h0=>?_;refine Lu h0 ((wg h0 rfl rfl rfl rfl).trans rfl) rfl fun a h0=>?_;refine Lu h0 ((wg h0 rfl rfl rfl rfl).trans rfl) rfl fun a h0=>?_;refine Lu h0 ((wg h0 rfl rfl rfl rfl).trans rfl) rfl fun a h0=>?_
  refine L h0 rfl rfl (bM (b:=true) (u:= .bool true) h0 rfl rfl (fun _=>rfl) (fun h=>by cases h)) fun a h0=>?_
  refine Le (ar (t:=true) (h0.ev rfl) (fun _=>aN ?_) (fun h=>by cases h))
  exact⟨h0.defers,.tuple #[],⟨[],rfl,rfl⟩,rfl,u1,ys,⟨v,hv,hx⟩,hs⟩
 ·have hc:((((m - 1) / 2:Nat):Int)==(m:Int))=false:=by simp;omega
  simp only[hc]at h0
  refine L h0 ((wg h0 rfl rfl rfl rfl).trans rfl) rfl (aa h0 (.inl rfl) rfl) fun a h0=>?_;refine L h0 ((wg h0 rfl rfl rfl rfl).trans rfl) rfl (aa h0 (.inl rfl) rfl) fun a h0=>?_;refine L h0 ((wg h0 rfl rfl rfl rfl).trans rfl) rfl (aa h0 (.inl rfl) rfl) fun a h0=>?_
  refine Li (vs:=[iv m,iv ((m - 1) / 2:Nat)]) h0 ((wg h0 rfl rfl rfl rfl).trans rfl) rfl rfl rfl (iX G.m92 G.o88 hv.1) rfl B.b92.ok (nF G B hx hmy hiy) fun r w2 a hr h0=>?_
  obtain⟨c,rfl,u2⟩:=hr
  refine L h0 ((wg h0 rfl rfl rfl rfl).trans rfl) rfl (jo h0 rfl rfl) fun a h0=>?_
  refine L h0 rfl rfl (bM (b:=false) (u:= .bool (!c)) h0 rfl rfl (fun h=>by cases h) (fun _=>rfl)) fun a h0=>?_
  have v2:=hv.up u2 (by decide)
  have x2:=hx.up u2 (by decide)
  have u2':=u1.trans (u2.mono (by simp))
  refine Le (ar (t:= !c) (h0.ev rfl) (fun _=>aN ?_) (fun _=>aw ?_))
  ·exact⟨h0.defers,.tuple #[],⟨[],rfl,rfl⟩,rfl,u2',ys,⟨v,v2,x2⟩,hs⟩
  have h0:SL 23 [(0,.iface 90 (Ptr b 0)),(1,iv m),(4,iv ((m - 1) / 2:Nat))] a:=h0.keep [0,1,4]
  refine ah (ae ?_)
  (first|refine L h0 rfl rfl (aa h0 (.inl rfl) rfl) fun a h0=>?_|refine L h0 rfl rfl (aa h0 (.inr rfl) rfl) fun a h0=>?_|refine L h0 rfl rfl (ab h0 rfl rfl) fun a h0=>?_);(first|refine L h0 rfl rfl (aa h0 (.inl rfl) rfl) fun a h0=>?_|refine L h0 rfl rfl (aa h0 (.inr rfl) rfl) fun a h0=>?_|refine L h0 rfl rfl (ab h0 rfl rfl) fun a h0=>?_);(first|refine L h0 rfl rfl (aa h0 (.inl rfl) rfl) fun a h0=>?_|refine L h0 rfl rfl (aa h0 (.inr rfl) rfl) fun a h0=>?_|refine L h0 rfl rfl (ab h0 rfl rfl) fun a h0=>?_)
  refine Li (vs:=[iv ((m - 1) / 2:Nat),iv m]) h0 rfl rfl rfl rfl (iX G.m93 G.o88 v2.1) rfl B.b93.ok (nG G B x2 hiy hmy) fun r w3 a hr h0=>?_
  obtain⟨rfl,u3,zs,x3,hz⟩:=hr
  refine Le (ae ?_)
  (first|refine L h0 rfl rfl (aa h0 (.inl rfl) rfl) fun a h0=>?_|refine L h0 rfl rfl (aa h0 (.inr rfl) rfl) fun a h0=>?_|refine L h0 rfl rfl (ab h0 rfl rfl) fun a h0=>?_);(first|refine L h0 rfl rfl (aa h0 (.inl rfl) rfl) fun a h0=>?_|refine L h0 rfl rfl (aa h0 (.inr rfl) rfl) fun a h0=>?_|refine L h0 rfl rfl (ab h0 rfl rfl) fun a h0=>?_)
  refine Le ⟨(m - 1) / 2,by omega,h0.keep [0,1],by omega,u2'.trans u3,zs,HB.sb v2 u3 x3,hz.trans hs⟩
theorem xr(G:GT P)(B:GB P){b i n:Nat}(hb:HB w R b xs)(hn:n≤xs.length)(hi:i≤1099511627776)(hl:xs.length≤1099511627776):Ret P 49 [.iface 90 (Ptr b 0),iv i,iv n] w fun _ w'=>Up [11] R R w w'∧∃ys,HB w' R b ys∧Sb ys xs:=by
 refine aJ B.b49 ?_
 have h0:=SL.init (n:=48) [.iface 90 (Ptr b 0),iv i,iv n] rfl
 (revert h0;generalize({tmps:=_,defers:=[]}:Act)=a;intro h0)
 refine ah (ae ?_)
 (first|refine L h0 rfl rfl (aa h0 (.inl rfl) rfl) fun a h0=>?_|refine L h0 rfl rfl (aa h0 (.inr rfl) rfl) fun a h0=>?_|refine L h0 rfl rfl (ab h0 rfl rfl) fun a h0=>?_)
 refine Le (ah (ae ?_))
 (first|refine L h0 rfl rfl (aa h0 (.inl rfl) rfl) fun a h0=>?_|refine L h0 rfl rfl (aa h0 (.inr rfl) rfl) fun a h0=>?_|refine L h0 rfl rfl (ab h0 rfl rfl) fun a h0=>?_);(first|refine L h0 rfl rfl (aa h0 (.inl rfl) rfl) fun a h0=>?_|refine L h0 rfl rfl (aa h0 (.inr rfl) rfl) fun a h0=>?_|refine L h0 rfl rfl (ab h0 rfl rfl) fun a h0=>?_)
 refine Le (ah (NW.mono (Q:=fun e a w1=>e= .normal∧∃m:Nat,SL 48 [(1,iv i),(7,iv m)] a∧Up [11] R R w w1∧∃ys,HB w1 R b ys∧Sb ys xs) ?_ ?_))
 ·refine au (aW (fun k a w1=>∃m:Nat,k+m=n+i∧SL 48 [(0,.iface 90 (Ptr b 0)),(1,iv i),(2,iv n),(7,iv m)] a∧Up [11] R R w w1∧∃ys,HB w1 R b ys∧Sb ys xs) n ⟨i,rfl,h0.keep [0,1,2,7],Up.rfl,xs,hb,rfl,.refl _⟩ ?_)
  rintro k a w1 ⟨m,hk,h0,u1,ys,⟨v,hv,hx⟩,hs⟩
  refine au (ah (ae ?_))
  (first|refine L h0 rfl rfl (aa h0 (.inl rfl) rfl) fun a h0=>?_|refine L h0 rfl rfl (aa h0 (.inr rfl) rfl) fun a h0=>?_|refine L h0 rfl rfl (ab h0 rfl rfl) fun a h0=>?_)
  refine L h0 rfl rfl (A4 (2*m:Nat) h0 rfl rfl rfl (by omega) (by omega) (by omega)) fun a h0=>?_
  refine L h0 rfl rfl (cC (2*m+1:Nat) h0 rfl rfl rfl (by omega) (by omega) (by omega)) fun a h0=>?_
  (first|refine L h0 rfl rfl (aa h0 (.inl rfl) rfl) fun a h0=>?_|refine L h0 rfl rfl (aa h0 (.inr rfl) rfl) fun a h0=>?_|refine L h0 rfl rfl (ab h0 rfl rfl) fun a h0=>?_)
  have h0:SL 48 [(0,.iface 90 (Ptr b 0)),(1,iv i),(2,iv n),(7,iv m),(8,iv (2*m+1:Nat))] a:=h0.keep [0,1,2,7,8]
  refine Le (ah (ah (ae ?_)))
  (first|refine L h0 rfl rfl (aa h0 (.inl rfl) rfl) fun a h0=>?_|refine L h0 rfl rfl (aa h0 (.inr rfl) rfl) fun a h0=>?_|refine L h0 rfl rfl (ab h0 rfl rfl) fun a h0=>?_);(first|refine L h0 rfl rfl (aa h0 (.inl rfl) rfl) fun a h0=>?_|refine L h0 rfl rfl (aa h0 (.inr rfl) rfl) fun a h0=>?_|refine L h0 rfl rfl (ab h0 rfl rfl) fun a h0=>?_)
  refine L h0 rfl rfl (aG h0 rfl rfl rfl rfl) fun a h0=>?_
  (first|refine L h0 rfl rfl (aa h0 (.inl rfl) rfl) fun a h0=>?_|refine L h0 rfl rfl (aa h0 (.inr rfl) rfl) fun a h0=>?_|refine L h0 rfl rfl (ab h0 rfl rfl) fun a h0=>?_)
  by_cases he:n≤2*m+1
  ·have hc:decide ((((2*m+1:Nat):Int)) ≥ (n:Int))=true:=by simp;omega
   simp only[hc]at h0
   refine Lu h0 ((wg h0 rfl rfl rfl rfl).trans rfl) rfl fun a h0=>?_;refine Lu h0 ((wg h0 rfl rfl rfl rfl).trans rfl) rfl fun a h0=>?_
   refine L h0 rfl rfl (bM (b:=true) (u:= .bool true) h0 rfl rfl (fun _=>rfl) (fun h=>by cases h)) fun a h0=>?_
   refine Le (ar (t:=true) (h0.ev rfl) (fun _=>aN ?_) (fun h=>by cases h))
   exact⟨rfl,m,h0.keep [1,7],u1,ys,⟨v,hv,hx⟩,hs⟩
  have hc:decide ((((2*m+1:Nat):Int)) ≥ (n:Int))=false:=by simp;omega
  simp only[hc]at h0
  refine L h0 ((wg h0 rfl rfl rfl rfl).trans rfl) rfl (aa h0 (.inl rfl) rfl) fun a h0=>?_
  refine L h0 ((wg h0 rfl rfl rfl rfl).trans rfl) rfl (aG h0 rfl rfl rfl rfl) fun a h0=>?_
  have hc2:decide ((((2*m+1:Nat):Int))<0)=false:=by simp;omega
  simp only[hc2]at h0
  refine L h0 rfl rfl (bM (b:=false) (u:= .bool false) h0 rfl rfl (fun h=>by cases h) (fun _=>rfl)) fun a h0=>?_
  refine Le (ar (t:=false) (h0.ev rfl) (fun h=>by cases h) (fun _=>aw ?_))
  have h0:SL 48 [(0,.iface 90 (Ptr b 0)),(1,iv i),(2,iv n),(7,iv m),(8,iv (2*m+1:Nat))] a:=h0.keep [0,1,2,7,8]
  refine ah (ae ?_)
  (first|refine L h0 rfl rfl (aa h0 (.inl rfl) rfl) fun a h0=>?_|refine L h0 rfl rfl (aa h0 (.inr rfl) rfl) fun a h0=>?_|refine L h0 rfl rfl (ab h0 rfl rfl) fun a h0=>?_);(first|refine L h0 rfl rfl (aa h0 (.inl rfl) rfl) fun a h0=>?_|refine L h0 rfl rfl (aa h0 (.inr rfl) rfl) fun a h0=>?_|refine L h0 rfl rfl (ab h0 rfl rfl) fun a h0=>?_)
  refine Le (ah (NW.mono (Q:=fun e a w2=>e= .normal∧∃j:Nat,m<j∧j<n∧SL 48 [(0,.iface 90 (Ptr b 0)),(1,iv i),(2,iv n),(7,iv m),(9,iv j)] a∧Up [] R R w1 w2) ?_ ?_))
  ·refine ah (ae ?_)
   (first|refine L h0 rfl rfl (aa h0 (.inl rfl) rfl) fun a h0=>?_|refine L h0 rfl rfl (aa h0 (.inr rfl) rfl) fun a h0=>?_|refine L h0 rfl rfl (ab h0 rfl rfl) fun a h0=>?_)
   refine L h0 rfl rfl (cC (2*m+2:Nat) h0 rfl rfl rfl (by omega) (by omega) (by omega)) fun a h0=>?_
   (first|refine L h0 rfl rfl (aa h0 (.inl rfl) rfl) fun a h0=>?_|refine L h0 rfl rfl (aa h0 (.inr rfl) rfl) fun a h0=>?_|refine L h0 rfl rfl (ab h0 rfl rfl) fun a h0=>?_)
   have h0:SL 48 [(0,.iface 90 (Ptr b 0)),(1,iv i),(2,iv n),(7,iv m),(8,iv (2*m+1:Nat)),(9,iv (2*m+1:Nat)),(10,iv (2*m+2:Nat))] a:=h0.keep [0,1,2,7,8,9,10]
   refine Le (ah (ae ?_))
   (first|refine L h0 rfl rfl (aa h0 (.inl rfl) rfl) fun a h0=>?_|refine L h0 rfl rfl (aa h0 (.inr rfl) rfl) fun a h0=>?_|refine L h0 rfl rfl (ab h0 rfl rfl) fun a h0=>?_);(first|refine L h0 rfl rfl (aa h0 (.inl rfl) rfl) fun a h0=>?_|refine L h0 rfl rfl (aa h0 (.inr rfl) rfl) fun a h0=>?_|refine L h0 rfl rfl (ab h0 rfl rfl) fun a h0=>?_)
   refine L h0 rfl rfl (aG h0 rfl rfl rfl rfl) fun a h0=>?_
   (first|refine L h0 rfl rfl (aa h0 (.inl rfl) rfl) fun a h0=>?_|refine L h0 rfl rfl (aa h0 (.inr rfl) rfl) fun a h0=>?_|refine L h0 rfl rfl (ab h0 rfl rfl) fun a h0=>?_)
   by_cases h2:2*m+2<n
   ·have hc:decide ((((2*m+2:Nat):Int))<(n:Int))=true:=by simp;omega
    simp only[hc]at h0
    refine L h0 ((wg h0 rfl rfl rfl rfl).trans rfl) rfl (aa h0 (.inl rfl) rfl) fun a h0=>?_;refine L h0 ((wg h0 rfl rfl rfl rfl).trans rfl) rfl (aa h0 (.inl rfl) rfl) fun a h0=>?_;refine L h0 ((wg h0 rfl rfl rfl rfl).trans rfl) rfl (aa h0 (.inl rfl) rfl) fun a h0=>?_
    refine Li (vs:=[iv (2*m+2:Nat),iv (2*m+1:Nat)]) h0 ((wg h0 rfl rfl rfl rfl).trans rfl) rfl rfl rfl (iX G.m92 G.o88 hv.1) rfl B.b92.ok (nF G B hx (by rw[hs.1];omega) (by rw[hs.1];omega)) fun r w2 a hr h0=>?_
    obtain⟨c,rfl,u2⟩:=hr
    refine L h0 rfl rfl (bM (b:=true) (u:= .bool c) h0 rfl rfl (fun _=>rfl) (fun h=>by cases h)) fun a h0=>?_
    refine Le (ar (t:=c) (h0.ev rfl) (fun _=>ae ?_) (fun _=>aw ?_))
    ·(first|refine L h0 rfl rfl (aa h0 (.inl rfl) rfl) fun a h0=>?_|refine L h0 rfl rfl (aa h0 (.inr rfl) rfl) fun a h0=>?_|refine L h0 rfl rfl (ab h0 rfl rfl) fun a h0=>?_);(first|refine L h0 rfl rfl (aa h0 (.inl rfl) rfl) fun a h0=>?_|refine L h0 rfl rfl (aa h0 (.inr rfl) rfl) fun a h0=>?_|refine L h0 rfl rfl (ab h0 rfl rfl) fun a h0=>?_)
     exact Le ⟨rfl,2*m+2,by omega,by omega,h0.keep [0,1,2,7,9],u2⟩
    ·exact⟨rfl,2*m+1,by omega,by omega,h0.keep [0,1,2,7,9],u2⟩
   ·have hc:decide ((((2*m+2:Nat):Int))<(n:Int))=false:=by simp;omega
    simp only[hc]at h0
    refine Lu h0 ((wg h0 rfl rfl rfl rfl).trans rfl) rfl fun a h0=>?_;refine Lu h0 ((wg h0 rfl rfl rfl rfl).trans rfl) rfl fun a h0=>?_;refine Lu h0 ((wg h0 rfl rfl rfl rfl).trans rfl) rfl fun a h0=>?_;refine Lu h0 ((wg h0 rfl rfl rfl rfl).trans rfl) rfl fun a h0=>?_
    refine L h0 rfl rfl (bM (b:=false) (u:= .bool false) h0 rfl rfl (fun h=>by cases h) (fun _=>rfl)) fun a h0=>?_
    refine Le (ar (t:=false) (h0.ev rfl) (fun h=>by cases h) (fun _=>aw ?_))
    exact⟨rfl,2*m+1,by omega,by omega,h0.keep [0,1,2,7,9],Up.rfl⟩
  rintro _ a w2 ⟨rfl,j,hmj,hjn,h0,u2⟩
  have v2:=hv.up u2 (by decide)
  have x2:=hx.up u2 (by decide)
  have u2':=u1.trans (u2.mono (by simp))
  refine ah (ah (ae ?_))
  (first|refine L h0 rfl rfl (aa h0 (.inl rfl) rfl) fun a h0=>?_|refine L h0 rfl rfl (aa h0 (.inr rfl) rfl) fun a h0=>?_|refine L h0 rfl rfl (ab h0 rfl rfl) fun a h0=>?_);(first|refine L h0 rfl rfl (aa h0 (.inl rfl) rfl) fun a h0=>?_|refine L h0 rfl rfl (aa h0 (.inr rfl) rfl) fun a h0=>?_|refine L h0 rfl rfl (ab h0 rfl rfl) fun a h0=>?_);(first|refine L h0 rfl rfl (aa h0 (.inl rfl) rfl) fun a h0=>?_|refine L h0 rfl rfl (aa h0 (.inr rfl) rfl) fun a h0=>?_|refine L h0 rfl rfl (ab h0 rfl rfl) fun a h0=>?_)
  refine Li (vs:=[iv j,iv m]) h0 rfl rfl rfl rfl (iX G.m92 G.o88 v2.1) rfl B.b92.ok (nF G B x2 (by rw[hs.1];omega) (by rw[hs.1];omega)) fun r w3 a hr h0=>?_
  obtain⟨c,rfl,u3⟩:=hr
  refine L h0 rfl rfl (jo h0 rfl rfl) fun a h0=>?_
  have v3:=v2.up u3 (by decide)
  have x3:=x2.up u3 (by decide)
  have u3':=u2'.trans (u3.mono (by simp))
  refine Le (ar (t:= !c) (h0.ev rfl) (fun _=>aN ?_) (fun _=>aw ?_))
  ·exact⟨rfl,m,h0.keep [1,7],u3',ys,⟨v,v3,x3⟩,hs⟩
  refine ah (ae ?_)
  (first|refine L h0 rfl rfl (aa h0 (.inl rfl) rfl) fun a h0=>?_|refine L h0 rfl rfl (aa h0 (.inr rfl) rfl) fun a h0=>?_|refine L h0 rfl rfl (ab h0 rfl rfl) fun a h0=>?_);(first|refine L h0 rfl rfl (aa h0 (.inl rfl) rfl) fun a h0=>?_|refine L h0 rfl rfl (aa h0 (.inr rfl) rfl) fun a h0=>?_|refine L h0 rfl rfl (ab h0 rfl rfl) fun a h0=>?_);(first|refine L h0 rfl rfl (aa h0 (.inl rfl) rfl) fun a h0=>?_|refine L h0 rfl rfl (aa h0 (.inr rfl) rfl) fun a h0=>?_|refine L h0 rfl rfl (ab h0 rfl rfl) fun a h0=>?_)
  refine Li (vs:=[iv m,iv j]) h0 rfl rfl rfl rfl (iX G.m93 G.o88 v3.1) rfl B.b93.ok (nG G B x3 (by rw[hs.1];omega) (by rw[hs.1];omega)) fun r w4 a hr h0=>?_
  obtain⟨rfl,u4,zs,x4,hz⟩:=hr
  refine Le (ae ?_)
  (first|refine L h0 rfl rfl (aa h0 (.inl rfl) rfl) fun a h0=>?_|refine L h0 rfl rfl (aa h0 (.inr rfl) rfl) fun a h0=>?_|refine L h0 rfl rfl (ab h0 rfl rfl) fun a h0=>?_);(first|refine L h0 rfl rfl (aa h0 (.inl rfl) rfl) fun a h0=>?_|refine L h0 rfl rfl (aa h0 (.inr rfl) rfl) fun a h0=>?_|refine L h0 rfl rfl (ab h0 rfl rfl) fun a h0=>?_)
  exact Le ⟨n+i - j,by omega,j,by omega,h0.keep [0,1,2,7],u3'.trans u4,zs,HB.sb v3 u4 x4,hz.trans hs⟩
 rintro _ a w1 ⟨rfl,m,h0,u1,hr⟩
 refine ah (ae ?_)
 (first|refine L h0 rfl rfl (aa h0 (.inl rfl) rfl) fun a h0=>?_|refine L h0 rfl rfl (aa h0 (.inr rfl) rfl) fun a h0=>?_|refine L h0 rfl rfl (ab h0 rfl rfl) fun a h0=>?_);(first|refine L h0 rfl rfl (aa h0 (.inl rfl) rfl) fun a h0=>?_|refine L h0 rfl rfl (aa h0 (.inr rfl) rfl) fun a h0=>?_|refine L h0 rfl rfl (ab h0 rfl rfl) fun a h0=>?_)
 refine L h0 rfl rfl (aG h0 rfl rfl rfl rfl) fun a h0=>?_
 (first|refine L h0 rfl rfl (aa h0 (.inl rfl) rfl) fun a h0=>?_|refine L h0 rfl rfl (aa h0 (.inr rfl) rfl) fun a h0=>?_|refine L h0 rfl rfl (ab h0 rfl rfl) fun a h0=>?_)
 exact Le (aP (cH h0 rfl ⟨u1,hr⟩))
theorem qe(G:GT P)(B:GB P){b x:Nat}(hb:HB w R b xs)(hl:xs.length≤1000000000000):Ret P 41 [.iface 90 (Ptr b 0),.iface 3 (iv x)] w fun r w'=>r= .tuple #[]∧∃R',Up [10,11] R R' w w'∧∃ys,HB w' R' b ys∧Sb ys (xs++ [x]):=by
 refine aJ B.b41 ?_
 have h0:=SL.init (n:=12) [.iface 90 (Ptr b 0),.iface 3 (iv x)] rfl
 (revert h0;generalize({tmps:=_,defers:=[]}:Act)=a;intro h0)
 refine ah (ae ?_)
 (first|refine L h0 rfl rfl (aa h0 (.inl rfl) rfl) fun a h0=>?_|refine L h0 rfl rfl (aa h0 (.inr rfl) rfl) fun a h0=>?_|refine L h0 rfl rfl (ab h0 rfl rfl) fun a h0=>?_);(first|refine L h0 rfl rfl (aa h0 (.inl rfl) rfl) fun a h0=>?_|refine L h0 rfl rfl (aa h0 (.inr rfl) rfl) fun a h0=>?_|refine L h0 rfl rfl (ab h0 rfl rfl) fun a h0=>?_)
 refine Li (vs:=[.iface 3 (iv x)]) h0 rfl rfl rfl rfl (vQ G.m95) rfl B.b95.ok (xq G B hb hl) fun r w1 a hr h0=>?_
 obtain⟨rfl,R',u1,v,hv,hx⟩:=hr
 refine Le (ae ?_)
 (first|refine L h0 rfl rfl (aa h0 (.inl rfl) rfl) fun a h0=>?_|refine L h0 rfl rfl (aa h0 (.inr rfl) rfl) fun a h0=>?_|refine L h0 rfl rfl (ab h0 rfl rfl) fun a h0=>?_);(first|refine L h0 rfl rfl (aa h0 (.inl rfl) rfl) fun a h0=>?_|refine L h0 rfl rfl (aa h0 (.inr rfl) rfl) fun a h0=>?_|refine L h0 rfl rfl (ab h0 rfl rfl) fun a h0=>?_)
 refine Li (vs:=[]) h0 rfl rfl rfl rfl (iX G.m91 G.o88 hv.1) rfl B.b91.ok (sZ G B hx) fun r w2 a hr h0=>?_
 obtain⟨rfl,rfl⟩:=hr
 refine L h0 rfl rfl (iu (xs.length:Nat) h0 rfl rfl rfl (by simp) (by omega) (by omega)) fun a h0=>?_
 refine Lc (vs:=[.iface 90 (Ptr b 0),iv (xs.length:Nat)]) h0 rfl rfl rfl rfl rfl B.b48.ok (Aq G B ⟨v,hv,hx⟩ (by simp) (by simp;omega)) fun r w3 a hr h0=>?_
 obtain⟨rfl,u3,ys,hy,hs⟩:=hr
 exact Le ⟨h0.defers,.tuple #[],⟨[],rfl,rfl⟩,rfl,R',u1.trans (u3.mono (by simp)),ys,hy,hs⟩
theorem xt(G:GT P)(B:GB P){b:Nat}(hb:HB w R b xs)(gY:xs≠ [])(hl:xs.length≤1000000000000):Ret P 42 [.iface 90 (Ptr b 0)] w fun r w'=>Up [10,11] R R w w'∧∃x ys,r= .iface 3 (iv (x:Nat))∧HB w' R b ys∧xs.Perm (x::ys):=by
 obtain⟨v,hv,hx⟩:=hb
 obtain⟨n,hn⟩:∃n,xs.length=n+1:=⟨xs.length - 1,by have:=List.length_pos_iff.2 gY;omega⟩
 refine aJ B.b42 ?_
 have h0:=SL.init (n:=15) [.iface 90 (Ptr b 0)] rfl
 (revert h0;generalize({tmps:=_,defers:=[]}:Act)=a;intro h0)
 refine ah (ae ?_)
 (first|refine L h0 rfl rfl (aa h0 (.inl rfl) rfl) fun a h0=>?_|refine L h0 rfl rfl (aa h0 (.inr rfl) rfl) fun a h0=>?_|refine L h0 rfl rfl (ab h0 rfl rfl) fun a h0=>?_)
 refine Le (ah (ae ?_))
 (first|refine L h0 rfl rfl (aa h0 (.inl rfl) rfl) fun a h0=>?_|refine L h0 rfl rfl (aa h0 (.inr rfl) rfl) fun a h0=>?_|refine L h0 rfl rfl (ab h0 rfl rfl) fun a h0=>?_)
 refine Li (vs:=[]) h0 rfl rfl rfl rfl (iX G.m91 G.o88 hv.1) rfl B.b91.ok (sZ G B hx) fun r w2 a hr h0=>?_
 obtain⟨rfl,rfl⟩:=hr
 refine L h0 rfl rfl (iu (n:Nat) h0 rfl rfl rfl (by omega) (by omega) (by omega)) fun a h0=>?_
 (first|refine L h0 rfl rfl (aa h0 (.inl rfl) rfl) fun a h0=>?_|refine L h0 rfl rfl (aa h0 (.inr rfl) rfl) fun a h0=>?_|refine L h0 rfl rfl (ab h0 rfl rfl) fun a h0=>?_)
 refine Le (ah (ae ?_))
 (first|refine L h0 rfl rfl (aa h0 (.inl rfl) rfl) fun a h0=>?_|refine L h0 rfl rfl (aa h0 (.inr rfl) rfl) fun a h0=>?_|refine L h0 rfl rfl (ab h0 rfl rfl) fun a h0=>?_);(first|refine L h0 rfl rfl (aa h0 (.inl rfl) rfl) fun a h0=>?_|refine L h0 rfl rfl (aa h0 (.inr rfl) rfl) fun a h0=>?_|refine L h0 rfl rfl (ab h0 rfl rfl) fun a h0=>?_)
 refine Li (vs:=[iv (0:Nat),iv n]) h0 rfl rfl rfl rfl (iX G.m93 G.o88 hv.1) rfl B.b93.ok (nG G B hx (by omega) (by omega)) fun r w3 a hr h0=>?_
 obtain⟨rfl,u3,ys,x3,hs⟩:=hr
 refine Le (ah (ae ?_))
 (first|refine L h0 rfl rfl (aa h0 (.inl rfl) rfl) fun a h0=>?_|refine L h0 rfl rfl (aa h0 (.inr rfl) rfl) fun a h0=>?_|refine L h0 rfl rfl (ab h0 rfl rfl) fun a h0=>?_);(first|refine L h0 rfl rfl (aa h0 (.inl rfl) rfl) fun a h0=>?_|refine L h0 rfl rfl (aa h0 (.inr rfl) rfl) fun a h0=>?_|refine L h0 rfl rfl (ab h0 rfl rfl) fun a h0=>?_)
 refine Lc (vs:=[.iface 90 (Ptr b 0),iv (0:Nat),iv n]) h0 rfl rfl rfl rfl rfl B.b49.ok (xr G B (HB.sb hv u3 x3) (by rw[hs.1];omega) (by omega) (by rw[hs.1];omega)) fun r w4 a hr h0=>?_
 obtain⟨u4,zs,hz,ef⟩:=hr
 have hs3:=ef.trans hs
 obtain⟨us,x,rfl⟩:=(List.eq_nil_or_concat zs).resolve_left fun e=>by subst e;have:=hs3.1;simp at this;omega
 rw[List.concat_eq_append]at hz hs3
 have hlen:us.length+1=xs.length:=by have:=hs3.1;simpa using this
 refine Le (ah (ae ?_))
 (first|refine L h0 rfl rfl (aa h0 (.inl rfl) rfl) fun a h0=>?_|refine L h0 rfl rfl (aa h0 (.inr rfl) rfl) fun a h0=>?_|refine L h0 rfl rfl (ab h0 rfl rfl) fun a h0=>?_)
 refine Li (vs:=[]) h0 rfl rfl rfl rfl (vQ G.m94) rfl B.b94.ok (y9 G B hz (by omega)) fun r w5 a hr h0=>?_
 obtain⟨rfl,u5,hy⟩:=hr
 (first|refine L h0 rfl rfl (aa h0 (.inl rfl) rfl) fun a h0=>?_|refine L h0 rfl rfl (aa h0 (.inr rfl) rfl) fun a h0=>?_|refine L h0 rfl rfl (ab h0 rfl rfl) fun a h0=>?_)
 exact Le (aP (cH h0 rfl ⟨((u3.trans u4).mono (by simp)).trans u5,x,us,rfl,hy,hs3.2.symm.trans List.perm_append_comm⟩))
end Go.TL.H.Gq
set_option maxRecDepth 100000
namespace Go.TL.H.Gq
open Go
abbrev sl(b n:Nat):Value:= .slice (some ⟨b,0,none⟩) n n
abbrev eZ(l:List Nat):List (List PV):=l.map fun(n:Nat)=>[PV.v (iv n)]
abbrev cM(ll:List (List Nat)):List (List PV):=ll.map fun l=>[PV.sl (eZ l)]
abbrev bvs(l:List Bool):List Value:=l.map Value.bool
structure Ks where
 e:Value
 i:Nat
 l:Nat
 o:Nat
 s:Value
 f:Nat
 g:Value
structure Pu where
 I:List Nat
 L:List Nat
 O:List Bool
 S:List Nat
 n:Nat
 F:List Nat
 G:List (List Nat)
abbrev nH(N:Nat)(k:Ks)(n:Nat):List Value:=[k.e,sl k.i N,sl k.l N,sl k.o N,k.s,iv n,sl k.f N,k.g]
structure Fs(w:World)(R:Nat→Nat)(b N lo:Nat)(E:List (List Nat))(k:Ks)(p:Pu):Prop where
 box:Cl w R 1 b 65 (nH N k p.n)
 idx:Cl w R 2 k.i 3 (ivs p.I)
 low:Cl w R 3 k.l 3 (ivs p.L)
 on:Cl w R 4 k.o 4 (bvs p.O)
 stk:Ow w R 5 3 k.s (ivs p.S)
 of:Cl w R 6 k.f 3 (ivs p.F)
 gr:∃xs,xs.length=p.G.length∧Ow w R 7 24 k.g xs∧bE w (fun c=>R c≠0) lo 1 (cM p.G) xs
 ed:Fz w R 0 (.sl (cM E)) k.e
 lI:p.I.length=N
 lL:p.L.length=N
 lO:p.O.length=N
 lF:p.F.length=N
theorem cD{S:List Nat}{R R':Nat→Nat}{w w':World}{lo sz:Nat}{rows:List (List PV)}{xs:List Value}(h:bE w (fun c=>R c≠0) lo sz rows xs)(u:Up S R R' w w')(hk:0 ∉ S):bE w' (fun c=>R' c≠0) lo sz rows xs:=
 bE.mono (Nat.le_refl _) (fun b o hb hn=>by
  have h0:R b=0:=Classical.not_not.1 hn
  exact⟨u.1.at hb (by rw[h0];exact hk),by rw[u.2 b (aq hb),h0];simp⟩) h
theorem Fs.up{S:List Nat}{R R':Nat→Nat}{w w':World}{b N lo:Nat}{E:List (List Nat)}{k:Ks}{p:Pu}(h:Fs w R b N lo E k p)(u:Up S R R' w w')(hS:∀x∈S,8≤x):Fs w' R' b N lo E k p:=by
 have no:∀j,j<8→j ∉ S:=fun j hj hm=>by have:=hS j hm;omega
 obtain⟨xs,h1,h2,h3⟩:=h.gr
 exact⟨h.box.up u (no _ (by decide)),h.idx.up u (no _ (by decide)),h.low.up u (no _ (by decide)),h.on.up u (no _ (by decide)),h.stk.up u (no _ (by decide)),h.of.up u (no _ (by decide)),⟨xs,h1,h2.up u (no _ (by decide)),cD h3 u (no _ (by decide))⟩,h.ed.up u (no _ (by decide)),h.lI,h.lL,h.lO,h.lF⟩
section
variable {P:Program} {Q:Exit→Act→World→Prop} {o:Oper} {n:Nat} {sl:aT} {a:Act} {w:World} {v:Value} {ops:Array Oper} {S:World→Prop}
theorem YH{fuel:Nat}(i:Nat){listed:Array Bool}(h:SL n sl a)(hi:ops[i]? =some o)(hg:o.guard=none)(hd:dok n o.dst=true)(hs:Region.noSelect ops=true)(hf:Region.free .any ops listed i=true)
  (hr:(Region.ready .any ops listed).contains i=true)(hQ:∀c a w,Q (.panic c) a w→False)(hS:S w)(hx:∀w,S w→(execOp a.eval o).run P w= .ok (.value v) w)
  (k:∀a',SL n (bz o.dst v sl) a'→wpAnyH P .any ops Q S fuel (listed.setIfInBounds i true) a' w):wpAnyH P .any ops Q S (fuel+1) listed a w:=
 wpAnyH_take hi hs hf hr (fun c a w h=>(hQ c _ _ h).elim) (.inl ⟨by unfold Region.wanted;rw[hg],hx⟩) hS (k _ (h.put hd v))
theorem Y1H{fuel:Nat}(i:Nat){listed:Array Bool}(hr:Region.ready .any ops listed=[i])(k:wpOp P ops Q i (fun a' w'=>S w'∧wpAnyH P .any ops Q S fuel (listed.setIfInBounds i true) a' w') a w):wpAnyH P .any ops Q S (fuel+1) listed a w:=
 wpAnyH_all hr (by simp) fun j hj=>by simp at hj;subst hj;exact k
theorem YeH{fuel:Nat}{listed:Array Bool}(hr:Region.ready .any ops listed=[])(h:Q .normal a w):wpAnyH P .any ops Q S fuel listed a w:=wpAnyH_done hr h fuel
theorem za{l:List Oper}(S:World→Prop)(k:Nat)(hk:l.length=k)(hm:P.follows .mixedOrders=true)(h:wpAnyH P .any l.toArray Q S k (Array.replicate k false) a {w with drawn:=w.drawn+1}):NW P (.region 0 l.toArray true) Q a w:=
 eW k hk hm (wpAny_of_held _ _ _ _ h)
theorem Ar{t b:Nat}{T:TypeId}{zs:List Value}{v0 v1:Value}{bt:TypeId}{fz:Nat×Nat}(h:SL n sl a)(ht:lk sl t=some (Ptr b 0))(hT:Big P T zs)(hz:zs.length=2)(hb:w.heap[b]? =some (.cells #[v0,v1] bt fz)):RV P [.cell t T] a.tmps w (.agg #[v0,v1]):=by
 obtain⟨i,hi,ha,hs,_⟩:=hT.is
 have hr:=eT (P:=P) (w:=w) (b:=b) (o:=0) (vs:=[v0,v1]) ha hi (fun j u hj=>by
  rw[dF hb];simpa using hj) (by simp[hs,hz]) (fun h=>by cases h)
 have eL:(loadVar T ⟨b,0,none⟩).run P w= .ok (.agg #[v0,v1]) w:=by simpa[Instr.loadAt,Instr.sureAddr]using hr
 refine⟨[.agg #[v0,v1]],?_,rfl⟩
 have e:=h.az t _ ht
 simp[gh,e,Ptr,asAddr,eL]
end
theorem Up.fresh{S:List Nat}{R R1:Nat→Nat}{w w1 w2:World}{b:Nat}(h:Up S R R1 w w1)(hc:Ch (· =b) w1 w2)(hb:w.heap.size≤b):Up S R R1 w w2:=
 ⟨h.1.trans' hc fun c hc e=>by subst e;omega,h.2⟩
section
variable {P:Program} {Q:Exit→Act→World→Prop} {n:Nat} {sl:aT} {a:Act} {w:World} {v u:Value} {ops:Array Oper} {rest:List Oper} {R:Nat→Nat}
theorem rM{o1 o2:Oper}{x y:Operand}{t e:TypeId}{d1 k:Nat}{z:Value}{xs:List Value}(h:SL n sl a)(hg1:o1.guard=none)(iC:o2.guard=none)(hd:o1.dst=some d1)(hd1:dok n o1.dst=true)(hd2:dok n o2.dst=true)(ho1:o1.op= .buildSlice t 1 #[(0,x)])
  (ho2:o2.op= .call ⟨.builtin .append, #[y,.tmp d1], #[t,t]⟩)(ex:ev sl x=some u)(ey:ev sl y=some v)(hy:y≠ .tmp d1)(ht:P.underlying t=some (.slice e))(hT:One P e z)(hu:u.cells= #[u])(hu1:u.oneCell'=true)(hx:Ow w R k e v xs)(hm:xs.length+1≤1099511627776)
  (K:∀v' w' R' a',Ow w' R' k e v' (xs++ [u])→Up [k] R R' w w'→v'.oneCell'=true→v'.cells= #[v']→SL n (bz o2.dst v' (bz o1.dst (.slice (some ⟨w.heap.size,0,none⟩) 1 1) sl)) a'→wpList P ops Q rest a' w'):wpList P ops Q (o1::o2::rest) a w:=by
 refine L h (by unfold Region.wanted;rw[hg1]) hd1 (dW h ho1 ex ht hT hu) fun a h=>?_
 have u1:=Up.alloc [] R w (.cells #[u] e) 9
 have x1:=hx.up u1 (by simp)
 have ey':ev (bz o1.dst (.slice (some ⟨w.heap.size,0,none⟩) 1 1) sl) y=some v:=by
  rw[hd]
  cases y with
  |tmp t=>simp only[ev,bz];rw[av _ _ _ _ (fun e=>hy (by rw[e]))];exact ey
  |_=>exact ey
 obtain⟨v',w',cf,bI,a8,gM⟩:=mN (P:=P) h ho2 ey' (by rw[hd];simp only[ev,bz];exact aE _ _ _) ht hT x1.1 (heap_alloc_new _ _) hu1 (by simpa using hm)
 obtain⟨x2,u2⟩:=x1.app bI a8 gM
 have one:v'.oneCell'=true∧v'.cells= #[v']:=by rcases bI.2 with⟨rfl,_⟩|⟨_,_,_,rfl,_⟩<;>exact⟨rfl,rfl⟩
 exact L h (by unfold Region.wanted;rw[iC]) hd2 cf fun a h=>K v' w' _ a x2 ((u1.mono (by simp)).trans u2) one.1 one.2 h
theorem Lst{o:Oper}{x y:Operand}{t T:TypeId}{z:Value}{b j k:Nat}{cs:List Value}(h:SL n sl a)(hg:o.guard=none)(hd:o.dst=none)(ho:o.op= .store t x y)(ex:ev sl x=some (Ptr b j))(ey:ev sl y=some v)(hT:One P t z)(hv:v.oneCell'=true)(hvc:v.cells= #[v])
  (hx:Cl w R k b T cs)(hj:j<cs.length)(K:∀w',Cl w' R k b T (cs.set j v)→Up [k] R R w w'→wpList P ops Q rest a w'):wpList P ops Q (o::rest) a w:=by
 obtain⟨h1,h2⟩:=hx.set j v
 exact Ls h (by unfold Region.wanted;rw[hg]) hd (fJ h ho ex ey hT hv hvc hx.1 (by simpa using hj) (by omega)) fun _=>K _ h1 h2
theorem lu{K:Act→World→Prop}{i:Nat}{o:Oper}{x y:Operand}{t T:TypeId}{z:Value}{b j k:Nat}{cs:List Value}(h:SL n sl a)(hi:ops[i]? =some o)(hg:o.guard=none)(hd:o.dst=none)(ho:o.op= .store t x y)(ex:ev sl x=some (Ptr b j))(ey:ev sl y=some v)(hT:One P t z)(hv:v.oneCell'=true)(hvc:v.cells= #[v])
  (hx:Cl w R k b T cs)(hj:j<cs.length)(k':∀w',Cl w' R k b T (cs.set j v)→Up [k] R R w w'→K a w'):wpOp P ops Q i K a w:=by
 obtain⟨h1,h2⟩:=hx.set j v
 exact eQ h hi hg hd (fJ h ho ex ey hT hv hvc hx.1 (by simpa using hj) (by omega)) fun _=>k' _ h1 h2
theorem Lal(R:Nat→Nat){o:Oper}{t:TypeId}{zs:List Value}(k:Nat)(h:SL n sl a)(hg:o.guard=none)(hd:dok n o.dst=true)(ho:o.op= .alloc t)(hT:Big P t zs)(K:∀b' w' R' a',Cl w' R' k b' t zs→Up [] R R' w w'→w.heap.size≤b'→SL n (bz o.dst (Ptr b' 0) sl) a'→wpList P ops Q rest a' w'):wpList P ops Q (o::rest) a w:=
 L h (by unfold Region.wanted;rw[hg]) hd (dJ ho hT) fun a h=>K _ _ _ a (Cl.new w R k t zs) (Up.alloc [] R w _ k) (Nat.le_refl _) h
theorem Bv(R:Nat→Nat){o:Oper}{t:TypeId}{z:Value}(k:Nat)(h:SL n sl a)(hg:o.guard=none)(hd:dok n o.dst=true)(ho:o.op= .alloc t)(hT:One P t z)(K:∀b' w' R' a',Cl w' R' k b' t [z]→Up [] R R' w w'→w.heap.size≤b'→SL n (bz o.dst (Ptr b' 0) sl) a'→wpList P ops Q rest a' w'):wpList P ops Q (o::rest) a w:=
 L h (by unfold Region.wanted;rw[hg]) hd (wo ho hT) fun a h=>K _ _ _ a (Cl.new w R k t [z]) (Up.alloc [] R w _ k) (Nat.le_refl _) h
end
theorem nI{P:Program}{Q:Exit→Act→World→Prop}{a:Act}{w:World}{R:Nat→Nat}{l:List Oper}(S:World→Prop)(k:Nat)(hk:l.length=k)(hm:P.follows .mixedOrders=true)(h:∀w',Up [] R R w w'→wpAnyH P .any l.toArray Q S k (Array.replicate k false) a w'):NW P (.region 0 l.toArray true) Q a w:=
 za S k hk hm (h _ (Up.drew _ _ _))
theorem xu{P:Program}{Q:Exit→Act→World→Prop}{a:Act}{w:World}{R:Nat→Nat}{l:List Oper}(k:Nat)(hk:l.length=k)(hm:P.follows .mixedOrders=true)(h:∀w',Up [] R R w w'→wpAny P .any l.toArray Q k (Array.replicate k false) a w'):NW P (.region 0 l.toArray true) Q a w:=
 eW k hk hm (h _ (Up.drew _ _ _))
theorem j0{P:Program}{Q:Exit→Act→World→Prop}{a:Act}{w:World}{R:Nat→Nat}{l:List Oper}(hm:P.follows .mixedOrders=true)(hB:Region.lexB .any l.toArray=true)(h:∀w',Up [] R R w w'→wpStill P l.toArray w' (fun a'=>Q .normal a' w') l a):NW P (.region 0 l.toArray true) Q a w:=
 jE hm hB (h _ (Up.drew _ _ _))
theorem jO{P:Program}{Q:Exit→Act→World→Prop}{a:Act}{w:World}{R:Nat→Nat}{l:List Oper}(n:Nat)(hm:P.follows .mixedOrders=true)(hB:Region.lexTailB .any l.toArray n=true)(h:∀w',Up [] R R w w'→wpStill P l.toArray w' (fun a'=>wpList P l.toArray Q (l.drop n) a' w') (l.take n) a):NW P (.region 0 l.toArray true) Q a w:=
 jy n hm hB (h _ (Up.drew _ _ _))
variable {P:Program} {w:World} {R:Nat→Nat} {b N lo:Nat} {E:List (List Nat)} {k:Ks} {p:Pu}
theorem xv(l:List Nat)(i x:Nat):(ivs l).set i (iv x)=ivs (l.set i x):=by simp[List.map_set]
theorem Bw(l:List Bool)(i:Nat)(x:Bool):(bvs l).set i (.bool x)=bvs (l.set i x):=by simp[List.map_set]
theorem s6(G:GT P)(B:GB P)(hF:Fs w R b N lo E k p){v:Nat}(hv:v<N)(hn:p.n≤1099511627776)(hs:p.S.length≤1000000000000):
  Ret P 39 [Ptr b 0,iv v] w fun r w'=>r= .agg #[iv v,iv 0]∧∃R' vs,Up [1,2,3,4,5] R R' w w'∧Fs w' R' b N lo E {k with s:=vs} {p with n:=p.n+1,I:=p.I.set v (p.n+1),L:=p.L.set v (p.n+1),O:=p.O.set v true,S:=p.S++ [v]}:=by
 refine aJ B.b39 ?_
 have h0:=SL.init (n:=50) [Ptr b 0,iv v] rfl
 (revert h0;generalize({tmps:=_,defers:=[]}:Act)=a;intro h0)
 refine ah (ae ?_)
 refine Lal R 9 h0 rfl rfl rfl G.b84 fun b4 w1 R1 a cx u1 hb4 h0=>?_
 have F1:=hF.up u1 (by simp)
 obtain⟨bx,ix,lx,ox,sx,rx,⟨xs,gl,gx,gr⟩,ed,hi,hl,ho,hf⟩:=F1
 refine Le (ah (ae ?_))
 (first|refine L h0 rfl rfl (aa h0 (.inl rfl) rfl) fun a h0=>?_|refine L h0 rfl rfl (aa h0 (.inr rfl) rfl) fun a h0=>?_|refine L h0 rfl rfl (ab h0 rfl rfl) fun a h0=>?_|refine L h0 rfl rfl (ak h0 rfl rfl (by first|exact G.fa _ (by decide)|exact G.g0|exact G.g1)) fun a h0=>?_|refine L h0 rfl rfl (ai h0 rfl rfl (by first|exact G.o24|exact G.o3|exact G.o63|exact G.o32) (bx).1 rfl) fun a h0=>?_);(first|refine L h0 rfl rfl (aa h0 (.inl rfl) rfl) fun a h0=>?_|refine L h0 rfl rfl (aa h0 (.inr rfl) rfl) fun a h0=>?_|refine L h0 rfl rfl (ab h0 rfl rfl) fun a h0=>?_|refine L h0 rfl rfl (ak h0 rfl rfl (by first|exact G.fa _ (by decide)|exact G.g0|exact G.g1)) fun a h0=>?_|refine L h0 rfl rfl (ai h0 rfl rfl (by first|exact G.o24|exact G.o3|exact G.o63|exact G.o32) (bx).1 rfl) fun a h0=>?_);(first|refine L h0 rfl rfl (aa h0 (.inl rfl) rfl) fun a h0=>?_|refine L h0 rfl rfl (aa h0 (.inr rfl) rfl) fun a h0=>?_|refine L h0 rfl rfl (ab h0 rfl rfl) fun a h0=>?_|refine L h0 rfl rfl (ak h0 rfl rfl (by first|exact G.fa _ (by decide)|exact G.g0|exact G.g1)) fun a h0=>?_|refine L h0 rfl rfl (ai h0 rfl rfl (by first|exact G.o24|exact G.o3|exact G.o63|exact G.o32) (bx).1 rfl) fun a h0=>?_);(first|refine L h0 rfl rfl (aa h0 (.inl rfl) rfl) fun a h0=>?_|refine L h0 rfl rfl (aa h0 (.inr rfl) rfl) fun a h0=>?_|refine L h0 rfl rfl (ab h0 rfl rfl) fun a h0=>?_|refine L h0 rfl rfl (ak h0 rfl rfl (by first|exact G.fa _ (by decide)|exact G.g0|exact G.g1)) fun a h0=>?_|refine L h0 rfl rfl (ai h0 rfl rfl (by first|exact G.o24|exact G.o3|exact G.o63|exact G.o32) (bx).1 rfl) fun a h0=>?_)
 refine L h0 rfl rfl (cC (p.n+1:Nat) h0 rfl rfl rfl (by omega) (by omega) (by omega)) fun a h0=>?_
 (first|refine L h0 rfl rfl (aa h0 (.inl rfl) rfl) fun a h0=>?_|refine L h0 rfl rfl (aa h0 (.inr rfl) rfl) fun a h0=>?_|refine L h0 rfl rfl (ab h0 rfl rfl) fun a h0=>?_|refine L h0 rfl rfl (ak h0 rfl rfl (by first|exact G.fa _ (by decide)|exact G.g0|exact G.g1)) fun a h0=>?_|refine L h0 rfl rfl (ai h0 rfl rfl (by first|exact G.o24|exact G.o3|exact G.o63|exact G.o32) (bx).1 rfl) fun a h0=>?_);(first|refine L h0 rfl rfl (aa h0 (.inl rfl) rfl) fun a h0=>?_|refine L h0 rfl rfl (aa h0 (.inr rfl) rfl) fun a h0=>?_|refine L h0 rfl rfl (ab h0 rfl rfl) fun a h0=>?_|refine L h0 rfl rfl (ak h0 rfl rfl (by first|exact G.fa _ (by decide)|exact G.g0|exact G.g1)) fun a h0=>?_|refine L h0 rfl rfl (ai h0 rfl rfl (by first|exact G.o24|exact G.o3|exact G.o63|exact G.o32) (bx).1 rfl) fun a h0=>?_)
 refine Lst h0 rfl rfl rfl rfl rfl G.o3 rfl rfl bx (by simp) fun w2 bx u2=>?_
 have bx:Cl w2 R1 1 b 65 (nH N k (p.n+1)):=bx
 ((try have bx:=bx.up u2 (by decide));(try have ix:=ix.up u2 (by decide));(try have lx:=lx.up u2 (by decide));(try have ox:=ox.up u2 (by decide));(try have sx:=sx.up u2 (by decide));(try have rx:=rx.up u2 (by decide));(try have gx:=gx.up u2 (by decide));(try have gr:=cD gr u2 (by decide));(try have ed:=ed.up u2 (by decide));(try have cx:=cx.up u2 (by decide)))
 have h0:SL 50 [(0,Ptr b 0),(1,iv v),(4,Ptr b4 0)] a:=h0.keep [0,1,4]
 refine Le (ah (nI (R:=R1) (fun w=>w.heap[b]? =some (.cells (nH N k (p.n+1)).toArray 65 (0,0))) 29 rfl G.mix fun w3 u3=>?_))
 ((try have bx:=bx.up u3 (by decide));(try have ix:=ix.up u3 (by decide));(try have lx:=lx.up u3 (by decide));(try have ox:=ox.up u3 (by decide));(try have sx:=sx.up u3 (by decide));(try have rx:=rx.up u3 (by decide));(try have gx:=gx.up u3 (by decide));(try have gr:=cD gr u3 (by decide));(try have ed:=ed.up u3 (by decide));(try have cx:=cx.up u3 (by decide)))
 have u:=(u1.mono (S':=[1,2,3,4,5]) (by simp)).trans ((u2.mono (by simp)).trans (u3.mono (by simp)))
 have hS:=bx.1
 (first|refine YH 0 h0 rfl rfl rfl (by kernel_rfl) (by kernel_rfl) (by kernel_rfl) (fun _ _ _ h=>h) hS (fun w _=>aa h0 (.inl rfl) rfl) fun a h0=>?_|refine YH 0 h0 rfl rfl rfl (by kernel_rfl) (by kernel_rfl) (by kernel_rfl) (fun _ _ _ h=>h) hS (fun w _=>aa h0 (.inr rfl) rfl) fun a h0=>?_|refine YH 0 h0 rfl rfl rfl (by kernel_rfl) (by kernel_rfl) (by kernel_rfl) (fun _ _ _ h=>h) hS (fun w _=>ab h0 rfl rfl) fun a h0=>?_|refine YH 0 h0 rfl rfl rfl (by kernel_rfl) (by kernel_rfl) (by kernel_rfl) (fun _ _ _ h=>h) hS (fun w _=>ak h0 rfl rfl (by first|exact G.fa _ (by decide)|exact G.g0|exact G.g1)) fun a h0=>?_|refine YH 0 h0 rfl rfl rfl (by kernel_rfl) (by kernel_rfl) (by kernel_rfl) (fun _ _ _ h=>h) hS (fun w hw=>ai h0 rfl rfl (by first|exact G.o24|exact G.o3|exact G.o63|exact G.o32) hw rfl) fun a h0=>?_)
 (first|refine YH 1 h0 rfl rfl rfl (by kernel_rfl) (by kernel_rfl) (by kernel_rfl) (fun _ _ _ h=>h) hS (fun w _=>aa h0 (.inl rfl) rfl) fun a h0=>?_|refine YH 1 h0 rfl rfl rfl (by kernel_rfl) (by kernel_rfl) (by kernel_rfl) (fun _ _ _ h=>h) hS (fun w _=>aa h0 (.inr rfl) rfl) fun a h0=>?_|refine YH 1 h0 rfl rfl rfl (by kernel_rfl) (by kernel_rfl) (by kernel_rfl) (fun _ _ _ h=>h) hS (fun w _=>ab h0 rfl rfl) fun a h0=>?_|refine YH 1 h0 rfl rfl rfl (by kernel_rfl) (by kernel_rfl) (by kernel_rfl) (fun _ _ _ h=>h) hS (fun w _=>ak h0 rfl rfl (by first|exact G.fa _ (by decide)|exact G.g0|exact G.g1)) fun a h0=>?_|refine YH 1 h0 rfl rfl rfl (by kernel_rfl) (by kernel_rfl) (by kernel_rfl) (fun _ _ _ h=>h) hS (fun w hw=>ai h0 rfl rfl (by first|exact G.o24|exact G.o3|exact G.o63|exact G.o32) hw rfl) fun a h0=>?_)
 (first|refine YH 2 h0 rfl rfl rfl (by kernel_rfl) (by kernel_rfl) (by kernel_rfl) (fun _ _ _ h=>h) hS (fun w _=>aa h0 (.inl rfl) rfl) fun a h0=>?_|refine YH 2 h0 rfl rfl rfl (by kernel_rfl) (by kernel_rfl) (by kernel_rfl) (fun _ _ _ h=>h) hS (fun w _=>aa h0 (.inr rfl) rfl) fun a h0=>?_|refine YH 2 h0 rfl rfl rfl (by kernel_rfl) (by kernel_rfl) (by kernel_rfl) (fun _ _ _ h=>h) hS (fun w _=>ab h0 rfl rfl) fun a h0=>?_|refine YH 2 h0 rfl rfl rfl (by kernel_rfl) (by kernel_rfl) (by kernel_rfl) (fun _ _ _ h=>h) hS (fun w _=>ak h0 rfl rfl (by first|exact G.fa _ (by decide)|exact G.g0|exact G.g1)) fun a h0=>?_|refine YH 2 h0 rfl rfl rfl (by kernel_rfl) (by kernel_rfl) (by kernel_rfl) (fun _ _ _ h=>h) hS (fun w hw=>ai h0 rfl rfl (by first|exact G.o24|exact G.o3|exact G.o63|exact G.o32) hw rfl) fun a h0=>?_)
 (first|refine YH 3 h0 rfl rfl rfl (by kernel_rfl) (by kernel_rfl) (by kernel_rfl) (fun _ _ _ h=>h) hS (fun w _=>aa h0 (.inl rfl) rfl) fun a h0=>?_|refine YH 3 h0 rfl rfl rfl (by kernel_rfl) (by kernel_rfl) (by kernel_rfl) (fun _ _ _ h=>h) hS (fun w _=>aa h0 (.inr rfl) rfl) fun a h0=>?_|refine YH 3 h0 rfl rfl rfl (by kernel_rfl) (by kernel_rfl) (by kernel_rfl) (fun _ _ _ h=>h) hS (fun w _=>ab h0 rfl rfl) fun a h0=>?_|refine YH 3 h0 rfl rfl rfl (by kernel_rfl) (by kernel_rfl) (by kernel_rfl) (fun _ _ _ h=>h) hS (fun w _=>ak h0 rfl rfl (by first|exact G.fa _ (by decide)|exact G.g0|exact G.g1)) fun a h0=>?_|refine YH 3 h0 rfl rfl rfl (by kernel_rfl) (by kernel_rfl) (by kernel_rfl) (fun _ _ _ h=>h) hS (fun w hw=>ai h0 rfl rfl (by first|exact G.o24|exact G.o3|exact G.o63|exact G.o32) hw rfl) fun a h0=>?_)
 (first|refine YH 4 h0 rfl rfl rfl (by kernel_rfl) (by kernel_rfl) (by kernel_rfl) (fun _ _ _ h=>h) hS (fun w _=>aa h0 (.inl rfl) rfl) fun a h0=>?_|refine YH 4 h0 rfl rfl rfl (by kernel_rfl) (by kernel_rfl) (by kernel_rfl) (fun _ _ _ h=>h) hS (fun w _=>aa h0 (.inr rfl) rfl) fun a h0=>?_|refine YH 4 h0 rfl rfl rfl (by kernel_rfl) (by kernel_rfl) (by kernel_rfl) (fun _ _ _ h=>h) hS (fun w _=>ab h0 rfl rfl) fun a h0=>?_|refine YH 4 h0 rfl rfl rfl (by kernel_rfl) (by kernel_rfl) (by kernel_rfl) (fun _ _ _ h=>h) hS (fun w _=>ak h0 rfl rfl (by first|exact G.fa _ (by decide)|exact G.g0|exact G.g1)) fun a h0=>?_|refine YH 4 h0 rfl rfl rfl (by kernel_rfl) (by kernel_rfl) (by kernel_rfl) (fun _ _ _ h=>h) hS (fun w hw=>ai h0 rfl rfl (by first|exact G.o24|exact G.o3|exact G.o63|exact G.o32) hw rfl) fun a h0=>?_)
 (first|refine YH 5 h0 rfl rfl rfl (by kernel_rfl) (by kernel_rfl) (by kernel_rfl) (fun _ _ _ h=>h) hS (fun w _=>aa h0 (.inl rfl) rfl) fun a h0=>?_|refine YH 5 h0 rfl rfl rfl (by kernel_rfl) (by kernel_rfl) (by kernel_rfl) (fun _ _ _ h=>h) hS (fun w _=>aa h0 (.inr rfl) rfl) fun a h0=>?_|refine YH 5 h0 rfl rfl rfl (by kernel_rfl) (by kernel_rfl) (by kernel_rfl) (fun _ _ _ h=>h) hS (fun w _=>ab h0 rfl rfl) fun a h0=>?_|refine YH 5 h0 rfl rfl rfl (by kernel_rfl) (by kernel_rfl) (by kernel_rfl) (fun _ _ _ h=>h) hS (fun w _=>ak h0 rfl rfl (by first|exact G.fa _ (by decide)|exact G.g0|exact G.g1)) fun a h0=>?_|refine YH 5 h0 rfl rfl rfl (by kernel_rfl) (by kernel_rfl) (by kernel_rfl) (fun _ _ _ h=>h) hS (fun w hw=>ai h0 rfl rfl (by first|exact G.o24|exact G.o3|exact G.o63|exact G.o32) hw rfl) fun a h0=>?_)
 (first|refine YH 6 h0 rfl rfl rfl (by kernel_rfl) (by kernel_rfl) (by kernel_rfl) (fun _ _ _ h=>h) hS (fun w _=>aa h0 (.inl rfl) rfl) fun a h0=>?_|refine YH 6 h0 rfl rfl rfl (by kernel_rfl) (by kernel_rfl) (by kernel_rfl) (fun _ _ _ h=>h) hS (fun w _=>aa h0 (.inr rfl) rfl) fun a h0=>?_|refine YH 6 h0 rfl rfl rfl (by kernel_rfl) (by kernel_rfl) (by kernel_rfl) (fun _ _ _ h=>h) hS (fun w _=>ab h0 rfl rfl) fun a h0=>?_|refine YH 6 h0 rfl rfl rfl (by kernel_rfl) (by kernel_rfl) (by kernel_rfl) (fun _ _ _ h=>h) hS (fun w _=>ak h0 rfl rfl (by first|exact G.fa _ (by decide)|exact G.g0|exact G.g1)) fun a h0=>?_|refine YH 6 h0 rfl rfl rfl (by kernel_rfl) (by kernel_rfl) (by kernel_rfl) (fun _ _ _ h=>h) hS (fun w hw=>ai h0 rfl rfl (by first|exact G.o24|exact G.o3|exact G.o63|exact G.o32) hw rfl) fun a h0=>?_)
 (first|refine YH 7 h0 rfl rfl rfl (by kernel_rfl) (by kernel_rfl) (by kernel_rfl) (fun _ _ _ h=>h) hS (fun w _=>aa h0 (.inl rfl) rfl) fun a h0=>?_|refine YH 7 h0 rfl rfl rfl (by kernel_rfl) (by kernel_rfl) (by kernel_rfl) (fun _ _ _ h=>h) hS (fun w _=>aa h0 (.inr rfl) rfl) fun a h0=>?_|refine YH 7 h0 rfl rfl rfl (by kernel_rfl) (by kernel_rfl) (by kernel_rfl) (fun _ _ _ h=>h) hS (fun w _=>ab h0 rfl rfl) fun a h0=>?_|refine YH 7 h0 rfl rfl rfl (by kernel_rfl) (by kernel_rfl) (by kernel_rfl) (fun _ _ _ h=>h) hS (fun w _=>ak h0 rfl rfl (by first|exact G.fa _ (by decide)|exact G.g0|exact G.g1)) fun a h0=>?_|refine YH 7 h0 rfl rfl rfl (by kernel_rfl) (by kernel_rfl) (by kernel_rfl) (fun _ _ _ h=>h) hS (fun w hw=>ai h0 rfl rfl (by first|exact G.o24|exact G.o3|exact G.o63|exact G.o32) hw rfl) fun a h0=>?_)
 (first|refine YH 8 h0 rfl rfl rfl (by kernel_rfl) (by kernel_rfl) (by kernel_rfl) (fun _ _ _ h=>h) hS (fun w _=>aa h0 (.inl rfl) rfl) fun a h0=>?_|refine YH 8 h0 rfl rfl rfl (by kernel_rfl) (by kernel_rfl) (by kernel_rfl) (fun _ _ _ h=>h) hS (fun w _=>aa h0 (.inr rfl) rfl) fun a h0=>?_|refine YH 8 h0 rfl rfl rfl (by kernel_rfl) (by kernel_rfl) (by kernel_rfl) (fun _ _ _ h=>h) hS (fun w _=>ab h0 rfl rfl) fun a h0=>?_|refine YH 8 h0 rfl rfl rfl (by kernel_rfl) (by kernel_rfl) (by kernel_rfl) (fun _ _ _ h=>h) hS (fun w _=>ak h0 rfl rfl (by first|exact G.fa _ (by decide)|exact G.g0|exact G.g1)) fun a h0=>?_|refine YH 8 h0 rfl rfl rfl (by kernel_rfl) (by kernel_rfl) (by kernel_rfl) (fun _ _ _ h=>h) hS (fun w hw=>ai h0 rfl rfl (by first|exact G.o24|exact G.o3|exact G.o63|exact G.o32) hw rfl) fun a h0=>?_)
 (first|refine YH 9 h0 rfl rfl rfl (by kernel_rfl) (by kernel_rfl) (by kernel_rfl) (fun _ _ _ h=>h) hS (fun w _=>aa h0 (.inl rfl) rfl) fun a h0=>?_|refine YH 9 h0 rfl rfl rfl (by kernel_rfl) (by kernel_rfl) (by kernel_rfl) (fun _ _ _ h=>h) hS (fun w _=>aa h0 (.inr rfl) rfl) fun a h0=>?_|refine YH 9 h0 rfl rfl rfl (by kernel_rfl) (by kernel_rfl) (by kernel_rfl) (fun _ _ _ h=>h) hS (fun w _=>ab h0 rfl rfl) fun a h0=>?_|refine YH 9 h0 rfl rfl rfl (by kernel_rfl) (by kernel_rfl) (by kernel_rfl) (fun _ _ _ h=>h) hS (fun w _=>ak h0 rfl rfl (by first|exact G.fa _ (by decide)|exact G.g0|exact G.g1)) fun a h0=>?_|refine YH 9 h0 rfl rfl rfl (by kernel_rfl) (by kernel_rfl) (by kernel_rfl) (fun _ _ _ h=>h) hS (fun w hw=>ai h0 rfl rfl (by first|exact G.o24|exact G.o3|exact G.o63|exact G.o32) hw rfl) fun a h0=>?_)
 (first|refine YH 10 h0 rfl rfl rfl (by kernel_rfl) (by kernel_rfl) (by kernel_rfl) (fun _ _ _ h=>h) hS (fun w _=>aa h0 (.inl rfl) rfl) fun a h0=>?_|refine YH 10 h0 rfl rfl rfl (by kernel_rfl) (by kernel_rfl) (by kernel_rfl) (fun _ _ _ h=>h) hS (fun w _=>aa h0 (.inr rfl) rfl) fun a h0=>?_|refine YH 10 h0 rfl rfl rfl (by kernel_rfl) (by kernel_rfl) (by kernel_rfl) (fun _ _ _ h=>h) hS (fun w _=>ab h0 rfl rfl) fun a h0=>?_|refine YH 10 h0 rfl rfl rfl (by kernel_rfl) (by kernel_rfl) (by kernel_rfl) (fun _ _ _ h=>h) hS (fun w _=>ak h0 rfl rfl (by first|exact G.fa _ (by decide)|exact G.g0|exact G.g1)) fun a h0=>?_|refine YH 10 h0 rfl rfl rfl (by kernel_rfl) (by kernel_rfl) (by kernel_rfl) (fun _ _ _ h=>h) hS (fun w hw=>ai h0 rfl rfl (by first|exact G.o24|exact G.o3|exact G.o63|exact G.o32) hw rfl) fun a h0=>?_)
 (first|refine YH 11 h0 rfl rfl rfl (by kernel_rfl) (by kernel_rfl) (by kernel_rfl) (fun _ _ _ h=>h) hS (fun w _=>aa h0 (.inl rfl) rfl) fun a h0=>?_|refine YH 11 h0 rfl rfl rfl (by kernel_rfl) (by kernel_rfl) (by kernel_rfl) (fun _ _ _ h=>h) hS (fun w _=>aa h0 (.inr rfl) rfl) fun a h0=>?_|refine YH 11 h0 rfl rfl rfl (by kernel_rfl) (by kernel_rfl) (by kernel_rfl) (fun _ _ _ h=>h) hS (fun w _=>ab h0 rfl rfl) fun a h0=>?_|refine YH 11 h0 rfl rfl rfl (by kernel_rfl) (by kernel_rfl) (by kernel_rfl) (fun _ _ _ h=>h) hS (fun w _=>ak h0 rfl rfl (by first|exact G.fa _ (by decide)|exact G.g0|exact G.g1)) fun a h0=>?_|refine YH 11 h0 rfl rfl rfl (by kernel_rfl) (by kernel_rfl) (by kernel_rfl) (fun _ _ _ h=>h) hS (fun w hw=>ai h0 rfl rfl (by first|exact G.o24|exact G.o3|exact G.o63|exact G.o32) hw rfl) fun a h0=>?_)
 (first|refine YH 12 h0 rfl rfl rfl (by kernel_rfl) (by kernel_rfl) (by kernel_rfl) (fun _ _ _ h=>h) hS (fun w _=>aa h0 (.inl rfl) rfl) fun a h0=>?_|refine YH 12 h0 rfl rfl rfl (by kernel_rfl) (by kernel_rfl) (by kernel_rfl) (fun _ _ _ h=>h) hS (fun w _=>aa h0 (.inr rfl) rfl) fun a h0=>?_|refine YH 12 h0 rfl rfl rfl (by kernel_rfl) (by kernel_rfl) (by kernel_rfl) (fun _ _ _ h=>h) hS (fun w _=>ab h0 rfl rfl) fun a h0=>?_|refine YH 12 h0 rfl rfl rfl (by kernel_rfl) (by kernel_rfl) (by kernel_rfl) (fun _ _ _ h=>h) hS (fun w _=>ak h0 rfl rfl (by first|exact G.fa _ (by decide)|exact G.g0|exact G.g1)) fun a h0=>?_|refine YH 12 h0 rfl rfl rfl (by kernel_rfl) (by kernel_rfl) (by kernel_rfl) (fun _ _ _ h=>h) hS (fun w hw=>ai h0 rfl rfl (by first|exact G.o24|exact G.o3|exact G.o63|exact G.o32) hw rfl) fun a h0=>?_)
 (first|refine YH 13 h0 rfl rfl rfl (by kernel_rfl) (by kernel_rfl) (by kernel_rfl) (fun _ _ _ h=>h) hS (fun w _=>aa h0 (.inl rfl) rfl) fun a h0=>?_|refine YH 13 h0 rfl rfl rfl (by kernel_rfl) (by kernel_rfl) (by kernel_rfl) (fun _ _ _ h=>h) hS (fun w _=>aa h0 (.inr rfl) rfl) fun a h0=>?_|refine YH 13 h0 rfl rfl rfl (by kernel_rfl) (by kernel_rfl) (by kernel_rfl) (fun _ _ _ h=>h) hS (fun w _=>ab h0 rfl rfl) fun a h0=>?_|refine YH 13 h0 rfl rfl rfl (by kernel_rfl) (by kernel_rfl) (by kernel_rfl) (fun _ _ _ h=>h) hS (fun w _=>ak h0 rfl rfl (by first|exact G.fa _ (by decide)|exact G.g0|exact G.g1)) fun a h0=>?_|refine YH 13 h0 rfl rfl rfl (by kernel_rfl) (by kernel_rfl) (by kernel_rfl) (fun _ _ _ h=>h) hS (fun w hw=>ai h0 rfl rfl (by first|exact G.o24|exact G.o3|exact G.o63|exact G.o32) hw rfl) fun a h0=>?_)
 (first|refine YH 14 h0 rfl rfl rfl (by kernel_rfl) (by kernel_rfl) (by kernel_rfl) (fun _ _ _ h=>h) hS (fun w _=>aa h0 (.inl rfl) rfl) fun a h0=>?_|refine YH 14 h0 rfl rfl rfl (by kernel_rfl) (by kernel_rfl) (by kernel_rfl) (fun _ _ _ h=>h) hS (fun w _=>aa h0 (.inr rfl) rfl) fun a h0=>?_|refine YH 14 h0 rfl rfl rfl (by kernel_rfl) (by kernel_rfl) (by kernel_rfl) (fun _ _ _ h=>h) hS (fun w _=>ab h0 rfl rfl) fun a h0=>?_|refine YH 14 h0 rfl rfl rfl (by kernel_rfl) (by kernel_rfl) (by kernel_rfl) (fun _ _ _ h=>h) hS (fun w _=>ak h0 rfl rfl (by first|exact G.fa _ (by decide)|exact G.g0|exact G.g1)) fun a h0=>?_|refine YH 14 h0 rfl rfl rfl (by kernel_rfl) (by kernel_rfl) (by kernel_rfl) (fun _ _ _ h=>h) hS (fun w hw=>ai h0 rfl rfl (by first|exact G.o24|exact G.o3|exact G.o63|exact G.o32) hw rfl) fun a h0=>?_)
 (first|refine YH 15 h0 rfl rfl rfl (by kernel_rfl) (by kernel_rfl) (by kernel_rfl) (fun _ _ _ h=>h) hS (fun w _=>aa h0 (.inl rfl) rfl) fun a h0=>?_|refine YH 15 h0 rfl rfl rfl (by kernel_rfl) (by kernel_rfl) (by kernel_rfl) (fun _ _ _ h=>h) hS (fun w _=>aa h0 (.inr rfl) rfl) fun a h0=>?_|refine YH 15 h0 rfl rfl rfl (by kernel_rfl) (by kernel_rfl) (by kernel_rfl) (fun _ _ _ h=>h) hS (fun w _=>ab h0 rfl rfl) fun a h0=>?_|refine YH 15 h0 rfl rfl rfl (by kernel_rfl) (by kernel_rfl) (by kernel_rfl) (fun _ _ _ h=>h) hS (fun w _=>ak h0 rfl rfl (by first|exact G.fa _ (by decide)|exact G.g0|exact G.g1)) fun a h0=>?_|refine YH 15 h0 rfl rfl rfl (by kernel_rfl) (by kernel_rfl) (by kernel_rfl) (fun _ _ _ h=>h) hS (fun w hw=>ai h0 rfl rfl (by first|exact G.o24|exact G.o3|exact G.o63|exact G.o32) hw rfl) fun a h0=>?_)
 (first|refine YH 16 h0 rfl rfl rfl (by kernel_rfl) (by kernel_rfl) (by kernel_rfl) (fun _ _ _ h=>h) hS (fun w _=>aa h0 (.inl rfl) rfl) fun a h0=>?_|refine YH 16 h0 rfl rfl rfl (by kernel_rfl) (by kernel_rfl) (by kernel_rfl) (fun _ _ _ h=>h) hS (fun w _=>aa h0 (.inr rfl) rfl) fun a h0=>?_|refine YH 16 h0 rfl rfl rfl (by kernel_rfl) (by kernel_rfl) (by kernel_rfl) (fun _ _ _ h=>h) hS (fun w _=>ab h0 rfl rfl) fun a h0=>?_|refine YH 16 h0 rfl rfl rfl (by kernel_rfl) (by kernel_rfl) (by kernel_rfl) (fun _ _ _ h=>h) hS (fun w _=>ak h0 rfl rfl (by first|exact G.fa _ (by decide)|exact G.g0|exact G.g1)) fun a h0=>?_|refine YH 16 h0 rfl rfl rfl (by kernel_rfl) (by kernel_rfl) (by kernel_rfl) (fun _ _ _ h=>h) hS (fun w hw=>ai h0 rfl rfl (by first|exact G.o24|exact G.o3|exact G.o63|exact G.o32) hw rfl) fun a h0=>?_)
 (first|refine YH 17 h0 rfl rfl rfl (by kernel_rfl) (by kernel_rfl) (by kernel_rfl) (fun _ _ _ h=>h) hS (fun w _=>aa h0 (.inl rfl) rfl) fun a h0=>?_|refine YH 17 h0 rfl rfl rfl (by kernel_rfl) (by kernel_rfl) (by kernel_rfl) (fun _ _ _ h=>h) hS (fun w _=>aa h0 (.inr rfl) rfl) fun a h0=>?_|refine YH 17 h0 rfl rfl rfl (by kernel_rfl) (by kernel_rfl) (by kernel_rfl) (fun _ _ _ h=>h) hS (fun w _=>ab h0 rfl rfl) fun a h0=>?_|refine YH 17 h0 rfl rfl rfl (by kernel_rfl) (by kernel_rfl) (by kernel_rfl) (fun _ _ _ h=>h) hS (fun w _=>ak h0 rfl rfl (by first|exact G.fa _ (by decide)|exact G.g0|exact G.g1)) fun a h0=>?_|refine YH 17 h0 rfl rfl rfl (by kernel_rfl) (by kernel_rfl) (by kernel_rfl) (fun _ _ _ h=>h) hS (fun w hw=>ai h0 rfl rfl (by first|exact G.o24|exact G.o3|exact G.o63|exact G.o32) hw rfl) fun a h0=>?_)
 (first|refine YH 18 h0 rfl rfl rfl (by kernel_rfl) (by kernel_rfl) (by kernel_rfl) (fun _ _ _ h=>h) hS (fun w _=>aa h0 (.inl rfl) rfl) fun a h0=>?_|refine YH 18 h0 rfl rfl rfl (by kernel_rfl) (by kernel_rfl) (by kernel_rfl) (fun _ _ _ h=>h) hS (fun w _=>aa h0 (.inr rfl) rfl) fun a h0=>?_|refine YH 18 h0 rfl rfl rfl (by kernel_rfl) (by kernel_rfl) (by kernel_rfl) (fun _ _ _ h=>h) hS (fun w _=>ab h0 rfl rfl) fun a h0=>?_|refine YH 18 h0 rfl rfl rfl (by kernel_rfl) (by kernel_rfl) (by kernel_rfl) (fun _ _ _ h=>h) hS (fun w _=>ak h0 rfl rfl (by first|exact G.fa _ (by decide)|exact G.g0|exact G.g1)) fun a h0=>?_|refine YH 18 h0 rfl rfl rfl (by kernel_rfl) (by kernel_rfl) (by kernel_rfl) (fun _ _ _ h=>h) hS (fun w hw=>ai h0 rfl rfl (by first|exact G.o24|exact G.o3|exact G.o63|exact G.o32) hw rfl) fun a h0=>?_)
 (first|refine YH 19 h0 rfl rfl rfl (by kernel_rfl) (by kernel_rfl) (by kernel_rfl) (fun _ _ _ h=>h) hS (fun w _=>aa h0 (.inl rfl) rfl) fun a h0=>?_|refine YH 19 h0 rfl rfl rfl (by kernel_rfl) (by kernel_rfl) (by kernel_rfl) (fun _ _ _ h=>h) hS (fun w _=>aa h0 (.inr rfl) rfl) fun a h0=>?_|refine YH 19 h0 rfl rfl rfl (by kernel_rfl) (by kernel_rfl) (by kernel_rfl) (fun _ _ _ h=>h) hS (fun w _=>ab h0 rfl rfl) fun a h0=>?_|refine YH 19 h0 rfl rfl rfl (by kernel_rfl) (by kernel_rfl) (by kernel_rfl) (fun _ _ _ h=>h) hS (fun w _=>ak h0 rfl rfl (by first|exact G.fa _ (by decide)|exact G.g0|exact G.g1)) fun a h0=>?_|refine YH 19 h0 rfl rfl rfl (by kernel_rfl) (by kernel_rfl) (by kernel_rfl) (fun _ _ _ h=>h) hS (fun w hw=>ai h0 rfl rfl (by first|exact G.o24|exact G.o3|exact G.o63|exact G.o32) hw rfl) fun a h0=>?_)
 (first|refine YH 20 h0 rfl rfl rfl (by kernel_rfl) (by kernel_rfl) (by kernel_rfl) (fun _ _ _ h=>h) hS (fun w _=>aa h0 (.inl rfl) rfl) fun a h0=>?_|refine YH 20 h0 rfl rfl rfl (by kernel_rfl) (by kernel_rfl) (by kernel_rfl) (fun _ _ _ h=>h) hS (fun w _=>aa h0 (.inr rfl) rfl) fun a h0=>?_|refine YH 20 h0 rfl rfl rfl (by kernel_rfl) (by kernel_rfl) (by kernel_rfl) (fun _ _ _ h=>h) hS (fun w _=>ab h0 rfl rfl) fun a h0=>?_|refine YH 20 h0 rfl rfl rfl (by kernel_rfl) (by kernel_rfl) (by kernel_rfl) (fun _ _ _ h=>h) hS (fun w _=>ak h0 rfl rfl (by first|exact G.fa _ (by decide)|exact G.g0|exact G.g1)) fun a h0=>?_|refine YH 20 h0 rfl rfl rfl (by kernel_rfl) (by kernel_rfl) (by kernel_rfl) (fun _ _ _ h=>h) hS (fun w hw=>ai h0 rfl rfl (by first|exact G.o24|exact G.o3|exact G.o63|exact G.o32) hw rfl) fun a h0=>?_)
 (first|refine YH 21 h0 rfl rfl rfl (by kernel_rfl) (by kernel_rfl) (by kernel_rfl) (fun _ _ _ h=>h) hS (fun w _=>aa h0 (.inl rfl) rfl) fun a h0=>?_|refine YH 21 h0 rfl rfl rfl (by kernel_rfl) (by kernel_rfl) (by kernel_rfl) (fun _ _ _ h=>h) hS (fun w _=>aa h0 (.inr rfl) rfl) fun a h0=>?_|refine YH 21 h0 rfl rfl rfl (by kernel_rfl) (by kernel_rfl) (by kernel_rfl) (fun _ _ _ h=>h) hS (fun w _=>ab h0 rfl rfl) fun a h0=>?_|refine YH 21 h0 rfl rfl rfl (by kernel_rfl) (by kernel_rfl) (by kernel_rfl) (fun _ _ _ h=>h) hS (fun w _=>ak h0 rfl rfl (by first|exact G.fa _ (by decide)|exact G.g0|exact G.g1)) fun a h0=>?_|refine YH 21 h0 rfl rfl rfl (by kernel_rfl) (by kernel_rfl) (by kernel_rfl) (fun _ _ _ h=>h) hS (fun w hw=>ai h0 rfl rfl (by first|exact G.o24|exact G.o3|exact G.o63|exact G.o32) hw rfl) fun a h0=>?_)
 (first|refine YH 22 h0 rfl rfl rfl (by kernel_rfl) (by kernel_rfl) (by kernel_rfl) (fun _ _ _ h=>h) hS (fun w _=>aa h0 (.inl rfl) rfl) fun a h0=>?_|refine YH 22 h0 rfl rfl rfl (by kernel_rfl) (by kernel_rfl) (by kernel_rfl) (fun _ _ _ h=>h) hS (fun w _=>aa h0 (.inr rfl) rfl) fun a h0=>?_|refine YH 22 h0 rfl rfl rfl (by kernel_rfl) (by kernel_rfl) (by kernel_rfl) (fun _ _ _ h=>h) hS (fun w _=>ab h0 rfl rfl) fun a h0=>?_|refine YH 22 h0 rfl rfl rfl (by kernel_rfl) (by kernel_rfl) (by kernel_rfl) (fun _ _ _ h=>h) hS (fun w _=>ak h0 rfl rfl (by first|exact G.fa _ (by decide)|exact G.g0|exact G.g1)) fun a h0=>?_|refine YH 22 h0 rfl rfl rfl (by kernel_rfl) (by kernel_rfl) (by kernel_rfl) (fun _ _ _ h=>h) hS (fun w hw=>ai h0 rfl rfl (by first|exact G.o24|exact G.o3|exact G.o63|exact G.o32) hw rfl) fun a h0=>?_)
 have h0:SL 50 [(0,Ptr b 0),(1,iv v),(4,Ptr b4 0),(15,sl k.i N),(16,iv v),(20,sl k.l N),(21,iv v),(25,sl k.o N),(26,iv v),(30,iv (p.n+1:Nat)),(34,iv (p.n+1:Nat))] a:=h0.keep [0,1,4,15,16,20,21,25,26,30,34]
 refine YH 23 h0 rfl rfl rfl (by kernel_rfl) (by kernel_rfl) (by kernel_rfl) (fun _ _ _ h=>h) hS (fun w _=>aH h0 rfl rfl rfl G.u24 G.o3 hv) fun a h0=>?_
 refine Y1H 24 (by kernel_rfl) (lu h0 rfl rfl rfl rfl rfl rfl G.o3 rfl rfl ix (by simp;omega) fun w4 ix u4=>?_)
 ((try have bx:=bx.up u4 (by decide));(try have ix:=ix.up u4 (by decide));(try have lx:=lx.up u4 (by decide));(try have ox:=ox.up u4 (by decide));(try have sx:=sx.up u4 (by decide));(try have rx:=rx.up u4 (by decide));(try have gx:=gx.up u4 (by decide));(try have gr:=cD gr u4 (by decide));(try have ed:=ed.up u4 (by decide));(try have cx:=cx.up u4 (by decide)))
 refine⟨bx.1,?_⟩
 refine YH 25 h0 rfl rfl rfl (by kernel_rfl) (by kernel_rfl) (by kernel_rfl) (fun _ _ _ h=>h) bx.1 (fun w _=>aH h0 rfl rfl rfl G.u24 G.o3 hv) fun a h0=>?_
 refine Y1H 26 (by kernel_rfl) (lu h0 rfl rfl rfl rfl rfl rfl G.o3 rfl rfl lx (by simp;omega) fun w5 lx u5=>?_)
 ((try have bx:=bx.up u5 (by decide));(try have ix:=ix.up u5 (by decide));(try have lx:=lx.up u5 (by decide));(try have ox:=ox.up u5 (by decide));(try have sx:=sx.up u5 (by decide));(try have rx:=rx.up u5 (by decide));(try have gx:=gx.up u5 (by decide));(try have gr:=cD gr u5 (by decide));(try have ed:=ed.up u5 (by decide));(try have cx:=cx.up u5 (by decide)))
 refine⟨bx.1,?_⟩
 refine YH 27 h0 rfl rfl rfl (by kernel_rfl) (by kernel_rfl) (by kernel_rfl) (fun _ _ _ h=>h) bx.1 (fun w _=>aH h0 rfl rfl rfl G.u63 G.o4 hv) fun a h0=>?_
 refine Y1H 28 (by kernel_rfl) (lu h0 rfl rfl rfl rfl rfl rfl G.o4 rfl rfl ox (by simp;omega) fun w6 ox u6=>?_)
 ((try have bx:=bx.up u6 (by decide));(try have ix:=ix.up u6 (by decide));(try have lx:=lx.up u6 (by decide));(try have ox:=ox.up u6 (by decide));(try have sx:=sx.up u6 (by decide));(try have rx:=rx.up u6 (by decide));(try have gx:=gx.up u6 (by decide));(try have gr:=cD gr u6 (by decide));(try have ed:=ed.up u6 (by decide));(try have cx:=cx.up u6 (by decide)))
 refine⟨bx.1,YeH (by kernel_rfl) ?_⟩
 have u:=u.trans ((u4.mono (by simp)).trans ((u5.mono (by simp)).trans (u6.mono (by simp))))
 have h0:SL 50 [(0,Ptr b 0),(1,iv v),(4,Ptr b4 0)] a:=h0.keep [0,1,4]
 refine ah (ae ?_)
 (first|refine L h0 rfl rfl (aa h0 (.inl rfl) rfl) fun a h0=>?_|refine L h0 rfl rfl (aa h0 (.inr rfl) rfl) fun a h0=>?_|refine L h0 rfl rfl (ab h0 rfl rfl) fun a h0=>?_|refine L h0 rfl rfl (ak h0 rfl rfl (by first|exact G.fa _ (by decide)|exact G.g0|exact G.g1)) fun a h0=>?_|refine L h0 rfl rfl (ai h0 rfl rfl (by first|exact G.o24|exact G.o3|exact G.o63|exact G.o32) (bx).1 rfl) fun a h0=>?_);(first|refine L h0 rfl rfl (aa h0 (.inl rfl) rfl) fun a h0=>?_|refine L h0 rfl rfl (aa h0 (.inr rfl) rfl) fun a h0=>?_|refine L h0 rfl rfl (ab h0 rfl rfl) fun a h0=>?_|refine L h0 rfl rfl (ak h0 rfl rfl (by first|exact G.fa _ (by decide)|exact G.g0|exact G.g1)) fun a h0=>?_|refine L h0 rfl rfl (ai h0 rfl rfl (by first|exact G.o24|exact G.o3|exact G.o63|exact G.o32) (bx).1 rfl) fun a h0=>?_);(first|refine L h0 rfl rfl (aa h0 (.inl rfl) rfl) fun a h0=>?_|refine L h0 rfl rfl (aa h0 (.inr rfl) rfl) fun a h0=>?_|refine L h0 rfl rfl (ab h0 rfl rfl) fun a h0=>?_|refine L h0 rfl rfl (ak h0 rfl rfl (by first|exact G.fa _ (by decide)|exact G.g0|exact G.g1)) fun a h0=>?_|refine L h0 rfl rfl (ai h0 rfl rfl (by first|exact G.o24|exact G.o3|exact G.o63|exact G.o32) (bx).1 rfl) fun a h0=>?_);(first|refine L h0 rfl rfl (aa h0 (.inl rfl) rfl) fun a h0=>?_|refine L h0 rfl rfl (aa h0 (.inr rfl) rfl) fun a h0=>?_|refine L h0 rfl rfl (ab h0 rfl rfl) fun a h0=>?_|refine L h0 rfl rfl (ak h0 rfl rfl (by first|exact G.fa _ (by decide)|exact G.g0|exact G.g1)) fun a h0=>?_|refine L h0 rfl rfl (ai h0 rfl rfl (by first|exact G.o24|exact G.o3|exact G.o63|exact G.o32) (bx).1 rfl) fun a h0=>?_);(first|refine L h0 rfl rfl (aa h0 (.inl rfl) rfl) fun a h0=>?_|refine L h0 rfl rfl (aa h0 (.inr rfl) rfl) fun a h0=>?_|refine L h0 rfl rfl (ab h0 rfl rfl) fun a h0=>?_|refine L h0 rfl rfl (ak h0 rfl rfl (by first|exact G.fa _ (by decide)|exact G.g0|exact G.g1)) fun a h0=>?_|refine L h0 rfl rfl (ai h0 rfl rfl (by first|exact G.o24|exact G.o3|exact G.o63|exact G.o32) (bx).1 rfl) fun a h0=>?_);(first|refine L h0 rfl rfl (aa h0 (.inl rfl) rfl) fun a h0=>?_|refine L h0 rfl rfl (aa h0 (.inr rfl) rfl) fun a h0=>?_|refine L h0 rfl rfl (ab h0 rfl rfl) fun a h0=>?_|refine L h0 rfl rfl (ak h0 rfl rfl (by first|exact G.fa _ (by decide)|exact G.g0|exact G.g1)) fun a h0=>?_|refine L h0 rfl rfl (ai h0 rfl rfl (by first|exact G.o24|exact G.o3|exact G.o63|exact G.o32) (bx).1 rfl) fun a h0=>?_)
 refine rM h0 rfl rfl rfl rfl rfl rfl rfl rfl rfl (by simp) G.u24 G.o3 rfl rfl sx (by simp;omega) fun vs w7 R7 a sx u7 one1 one2 h0=>?_
 ((try have bx:=bx.up u7 (by decide));(try have ix:=ix.up u7 (by decide));(try have lx:=lx.up u7 (by decide));(try have ox:=ox.up u7 (by decide));(try have sx:=sx.up u7 (by decide));(try have rx:=rx.up u7 (by decide));(try have gx:=gx.up u7 (by decide));(try have gr:=cD gr u7 (by decide));(try have ed:=ed.up u7 (by decide));(try have cx:=cx.up u7 (by decide)))
 (first|refine L h0 rfl rfl (aa h0 (.inl rfl) rfl) fun a h0=>?_|refine L h0 rfl rfl (aa h0 (.inr rfl) rfl) fun a h0=>?_|refine L h0 rfl rfl (ab h0 rfl rfl) fun a h0=>?_|refine L h0 rfl rfl (ak h0 rfl rfl (by first|exact G.fa _ (by decide)|exact G.g0|exact G.g1)) fun a h0=>?_|refine L h0 rfl rfl (ai h0 rfl rfl (by first|exact G.o24|exact G.o3|exact G.o63|exact G.o32) (bx).1 rfl) fun a h0=>?_);(first|refine L h0 rfl rfl (aa h0 (.inl rfl) rfl) fun a h0=>?_|refine L h0 rfl rfl (aa h0 (.inr rfl) rfl) fun a h0=>?_|refine L h0 rfl rfl (ab h0 rfl rfl) fun a h0=>?_|refine L h0 rfl rfl (ak h0 rfl rfl (by first|exact G.fa _ (by decide)|exact G.g0|exact G.g1)) fun a h0=>?_|refine L h0 rfl rfl (ai h0 rfl rfl (by first|exact G.o24|exact G.o3|exact G.o63|exact G.o32) (bx).1 rfl) fun a h0=>?_)
 refine Lst h0 rfl rfl rfl rfl rfl G.o24 one1 one2 bx (by simp) fun w9 bx u9=>?_
 have bx:Cl w9 R7 1 b 65 (nH N {k with s:=vs} (p.n+1)):=bx
 ((try have bx:=bx.up u9 (by decide));(try have ix:=ix.up u9 (by decide));(try have lx:=lx.up u9 (by decide));(try have ox:=ox.up u9 (by decide));(try have sx:=sx.up u9 (by decide));(try have rx:=rx.up u9 (by decide));(try have gx:=gx.up u9 (by decide));(try have gr:=cD gr u9 (by decide));(try have ed:=ed.up u9 (by decide));(try have cx:=cx.up u9 (by decide)))
 refine Le (ah (ae ?_))
 have h0:SL 50 [(0,Ptr b 0),(1,iv v),(4,Ptr b4 0)] a:=h0.keep [0,1,4]
 (first|refine L h0 rfl rfl (aa h0 (.inl rfl) rfl) fun a h0=>?_|refine L h0 rfl rfl (aa h0 (.inr rfl) rfl) fun a h0=>?_|refine L h0 rfl rfl (ab h0 rfl rfl) fun a h0=>?_)
 refine L h0 rfl rfl (aQ [(0,iv v)] rfl (by simp[show a.eval (.tmp 48)=iv v from h0.ev rfl]) (G.bt84 _)) fun a h0=>?_
 refine Ls h0 rfl rfl (mn [iv v,iv 0] h0 rfl rfl rfl G.b84 rfl (by intro u hu;simp at hu;rcases hu with rfl|rfl<;>rfl) cx.1 (by simp)) fun h0=>?_
 have u10:Up [9] R7 R7 w9 (w9.setRow b4 (spl [iv 0,iv 0].toArray.toList 0 [iv v,iv 0]).toArray):=⟨(Ch.setRow w9 b4 _).mono fun c _ e=>by subst e;simp[cx.2],fun _ _=>rfl⟩
 have e10:=setRow_heap w9 b4 _ (spl [iv 0,iv 0].toArray.toList 0 [iv v,iv 0]).toArray _ _ cx.1
 ((try have bx:=bx.up u10 (by decide));(try have ix:=ix.up u10 (by decide));(try have lx:=lx.up u10 (by decide));(try have ox:=ox.up u10 (by decide));(try have sx:=sx.up u10 (by decide));(try have rx:=rx.up u10 (by decide));(try have gx:=gx.up u10 (by decide));(try have gr:=cD gr u10 (by decide));(try have ed:=ed.up u10 (by decide));(try have cx:=cx.up u10 (by decide)))
 have e10:(w9.setRow b4 (spl [iv 0,iv 0].toArray.toList 0 [iv v,iv 0]).toArray).heap[b4]? =some (.cells #[iv v,iv 0] 84 (0,0)):=e10
 refine Le (aP ⟨h0.defers,_,Ar h0 rfl G.b84 rfl e10,rfl,R7,vs,?_,?_⟩)
 ·exact(u.trans ((u7.mono (by simp)).trans (u9.mono (by simp)))).fresh (Ch.setRow w9 b4 _) hb4
 ·refine⟨bx,?_,?_,?_,?_,rx,⟨xs,gl,gx,gr⟩,ed,by simp[hi],by simp[hl],by simp[ho],hf⟩
  ·simpa[List.map_set]using ix
  ·simpa[List.map_set]using lx
  ·simpa[List.map_set]using ox
  ·simpa using sx
end Go.TL.H.Gq
