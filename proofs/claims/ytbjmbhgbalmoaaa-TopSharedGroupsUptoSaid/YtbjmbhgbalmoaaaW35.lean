/- slices.Index, slices.Sorted(slices.Values(..)) at ints. -/
import Derived.Test.YtbjmbhgbalmoaaaW34
import Derived.RangeFuncSeq
import Derived.Lib.SlKeysI
set_option maxRecDepth 100000
namespace Go.TL.H.Gq
open Go
variable {P:Program} {w:World} {R:Nat→Nat}
theorem vS(G:GT P)(B:GB P){kk x:Nat}{v:Value}{S:List Nat}(hx:Ow w R kk 3 v (ivs S))(hm:x∈S)(hl:S.length≤1099511627776):Ret P 45 [v,iv x] w fun r w'=>w'=w∧∃i:Nat,r=iv i∧S[i]? =some x:=by
 obtain⟨g,cap,cs,rfl,hc,hg,dR,ht⟩:=hx.mem (by intro e;simp at e;subst e;simp at hm)
 refine aJ B.b45 ?_
 have h0:=SL.init (n:=19) [.slice (some ⟨g,0,none⟩) (ivs S).length cap,iv x] rfl
 (revert h0;generalize({tmps:=_,defers:=[]}:Act)=a;intro h0)
 refine ah (ae ?_)
 (first|refine L h0 rfl rfl (aa h0 (.inl rfl) rfl) fun a h0=>?_|refine L h0 rfl rfl (aa h0 (.inr rfl) rfl) fun a h0=>?_|refine L h0 rfl rfl (ab h0 rfl rfl) fun a h0=>?_)
 refine Le (ah (ah (ae ?_)))
 (first|refine L h0 rfl rfl (aa h0 (.inl rfl) rfl) fun a h0=>?_|refine L h0 rfl rfl (aa h0 (.inr rfl) rfl) fun a h0=>?_|refine L h0 rfl rfl (ab h0 rfl rfl) fun a h0=>?_)
 refine L h0 rfl rfl (aM h0 rfl rfl G.u24) fun a h0=>?_
 (first|refine L h0 rfl rfl (aa h0 (.inl rfl) rfl) fun a h0=>?_|refine L h0 rfl rfl (aa h0 (.inr rfl) rfl) fun a h0=>?_|refine L h0 rfl rfl (ab h0 rfl rfl) fun a h0=>?_)
 refine Le (au (aW (fun m a w1=>w1=w∧∃i:Nat,m+i=S.length∧(∀j,j<i→S[j]? ≠some x)∧SL 19 [(0,.slice (some ⟨g,0,none⟩) (ivs S).length cap),(1,iv x),(7,iv ((ivs S).length:Nat)),(8,iv i)] a) S.length ⟨rfl,0,rfl,by simp,h0.keep [0,1,7,8]⟩ ?_))
 rintro m a _ ⟨rfl,i,hmi,hno,h0⟩
 refine ah (ae ?_)
 refine L h0 rfl rfl (aG h0 rfl rfl rfl rfl) fun a h0=>?_
 have hi:i<S.length:=by
  rcases Nat.lt_or_ge i S.length with h|h
  ·exact h
  ·obtain⟨j,hj,he⟩:=List.getElem_of_mem hm
   exact absurd (by rw[List.getElem?_eq_getElem hj,he]) (hno j (by omega))
 refine Le (ah (ar (h0.ev rfl) (fun _=>aw ?_) (fun h=>absurd h (by simp;omega))))
 refine ah (au (ah (ae ?_)))
 (first|refine L h0 rfl rfl (aa h0 (.inl rfl) rfl) fun a h0=>?_|refine L h0 rfl rfl (aa h0 (.inr rfl) rfl) fun a h0=>?_|refine L h0 rfl rfl (ab h0 rfl rfl) fun a h0=>?_);(first|refine L h0 rfl rfl (aa h0 (.inl rfl) rfl) fun a h0=>?_|refine L h0 rfl rfl (aa h0 (.inr rfl) rfl) fun a h0=>?_|refine L h0 rfl rfl (ab h0 rfl rfl) fun a h0=>?_)
 refine Le (ah (ae ?_))
 (first|refine L h0 rfl rfl (aa h0 (.inl rfl) rfl) fun a h0=>?_|refine L h0 rfl rfl (aa h0 (.inr rfl) rfl) fun a h0=>?_|refine L h0 rfl rfl (ab h0 rfl rfl) fun a h0=>?_);(first|refine L h0 rfl rfl (aa h0 (.inl rfl) rfl) fun a h0=>?_|refine L h0 rfl rfl (aa h0 (.inr rfl) rfl) fun a h0=>?_|refine L h0 rfl rfl (ab h0 rfl rfl) fun a h0=>?_);(first|refine L h0 rfl rfl (aa h0 (.inl rfl) rfl) fun a h0=>?_|refine L h0 rfl rfl (aa h0 (.inr rfl) rfl) fun a h0=>?_|refine L h0 rfl rfl (ab h0 rfl rfl) fun a h0=>?_)
 refine L h0 rfl rfl (aH h0 rfl rfl rfl G.u24 G.o3 (by simpa using hi)) fun a h0=>?_
 refine L h0 rfl rfl (ai h0 rfl rfl G.o3 hg.1 (gy ht hi)) fun a h0=>?_
 refine L h0 rfl rfl (aG h0 rfl rfl rfl rfl) fun a h0=>?_
 refine Le (ar (h0.ev rfl) (fun he=>ah (ae ?_)) (fun he=>aw (ae ?_)))
 ·have he:S[i]=x:=by simp at he;omega
  (first|refine L h0 rfl rfl (aa h0 (.inl rfl) rfl) fun a h0=>?_|refine L h0 rfl rfl (aa h0 (.inr rfl) rfl) fun a h0=>?_|refine L h0 rfl rfl (ab h0 rfl rfl) fun a h0=>?_);(first|refine L h0 rfl rfl (aa h0 (.inl rfl) rfl) fun a h0=>?_|refine L h0 rfl rfl (aa h0 (.inr rfl) rfl) fun a h0=>?_|refine L h0 rfl rfl (ab h0 rfl rfl) fun a h0=>?_)
  exact Le (aP (cH h0 rfl ⟨rfl,i,rfl,by rw[List.getElem?_eq_getElem hi,he]⟩))
 ·have he:S[i]≠x:=by simp at he;omega
  refine L h0 rfl rfl (cC (i+1:Nat) h0 rfl rfl rfl (by omega) (by omega) (by omega)) fun a h0=>?_
  (first|refine L h0 rfl rfl (aa h0 (.inl rfl) rfl) fun a h0=>?_|refine L h0 rfl rfl (aa h0 (.inr rfl) rfl) fun a h0=>?_|refine L h0 rfl rfl (ab h0 rfl rfl) fun a h0=>?_)
  refine Le ⟨m - 1,by omega,rfl,i+1,by omega,fun j hj=>?_,h0.keep [0,1,7,8]⟩
  rcases Nat.lt_succ_iff_lt_or_eq.1 hj with hj|rfl
  ·exact hno j hj
  ·rw[List.getElem?_eq_getElem hi];simpa using he
end Go.TL.H.Gq
set_option maxRecDepth 100000
namespace Go.TL.H.Gq
open Go
variable {P:Program} {w:World} {R:Nat→Nat}
def As:Code:= .region 0 ([⟨(some 5),.assign (.tmp 7),0, "", #[],none⟩]:List Oper).toArray false
def Au:Code:= .block 1 (.region 0 ([⟨(some 8),.load 24 (.tmp 2),0, "", #[],none⟩,⟨(some 9),.move (.tmp 5),0, "", #[],none⟩,⟨(some 10),.buildSlice 24 1 #[(0,(.tmp 9))],0, "", #[],none⟩,⟨(some 11),.call ⟨(.builtin .append), #[(.tmp 8),(.tmp 10)], #[24,24]⟩,24, "", #[],none⟩,⟨none,.store 24 (.tmp 2) (.tmp 11),0, "", #[],none⟩]:List Oper).toArray false)
structure GS(P:Program):Prop where
 a54:norm (rf1 P 54).1=As
 d54:norm (rf1 P 54).2=Au
 sok:aD P 52=true
 sN:∀(p:Option Addr) (cap:Nat) (w:World),Calls P 52 #[.slice p 0 cap] w fun e w'=>e= .returned (.tuple #[])∧w'=w
 sI:∀(blk cap:Nat) (zs:List Int) (w:World),Sort.Holds (Value.int .i64) w blk 0 zs.toArray→blk<w.heap.size→zs.length<4611686018427387904→Calls P 52 #[.slice (some ⟨blk,0,none⟩) zs.length cap] w fun e w'=>
   e= .returned (.tuple #[])∧∃n os,w'=Sort.grow (Sort.putRow (Value.int .i64) (Sort.ahead w n) blk 0 (zs.mergeSort fun x y=>decide (x≤y)).toArray) os
theorem xw(G:GT P)(B:GB P){l Bs len cap:Nat}{p:Option Addr}{vs:Nat→Value}(hlen:len≤1099511627776)(J:Nat→World→Prop)
  (e7:∀k W,J k W→(∃bt fz,W.heap[Bs]? =some (.cells #[.slice p len cap] bt fz))∧∀i,i<len→∃b off cs bt fz,p=some ⟨b,off,none⟩∧W.heap[b]? =some (.cells cs bt fz)∧cs[off+i]? =some (vs i))
  (hy:∀k W,k<len→J k W→YieldAt (FW none) 0 P l #[vs k] W fun e W'=>e= .returned (.bool true)∧J (k+1) W'){W:World}(h0:J 0 W):
  Ret P 53 [.func (.yield l) #[] #[],Ptr Bs 0] W fun _ W'=>J len W':=by
 refine aJ B.b53 ?_
 have hJ0:=h0
 have h0:=SL.init (n:=16) [.func (.yield l) #[] #[],Ptr Bs 0] rfl
 (revert h0;generalize({tmps:=_,defers:=[]}:Act)=a;intro h0)
 obtain⟨⟨bt,fz,m1⟩,_⟩:=e7 0 W hJ0
 refine ah (ae ?_)
 refine L h0 rfl rfl (ai h0 rfl rfl G.o24 m1 rfl) fun a h0=>?_
 refine L h0 rfl rfl (aM h0 rfl rfl G.u24) fun a h0=>?_
 (first|refine L h0 rfl rfl (aa h0 (.inl rfl) rfl) fun a h0=>?_|refine L h0 rfl rfl (aa h0 (.inr rfl) rfl) fun a h0=>?_|refine L h0 rfl rfl (ab h0 rfl rfl) fun a h0=>?_)
 refine Le (au (aW (fun m a w1=>∃k:Nat,m+k=len∧SL 16 [(0,.func (.yield l) #[] #[]),(1,Ptr Bs 0),(5,.slice p len cap),(6,iv (len:Nat)),(7,iv k)] a∧J k w1) len ⟨0,rfl,h0.keep [0,1,5,6,7],hJ0⟩ ?_))
 rintro m a w1 ⟨k,hk,h0,hJ⟩
 refine ah (ae ?_)
 refine L h0 rfl rfl (aG h0 rfl rfl rfl rfl) fun a h0=>?_
 refine Le (ah (ar (h0.ev rfl) (fun hc=>aw ?_) (fun hc=>aN ?_)))
 ·have hkl:k<len:=by simpa using hc
  obtain⟨b,off,cs,bt2,fz2,rfl,m3,m4⟩:=(e7 k w1 hJ).2 k hkl
  refine ah (au (ah (ae ?_)))
  refine L h0 rfl rfl (aH h0 rfl rfl rfl G.u24 G.o3 hkl) fun a h0=>?_
  refine L h0 rfl rfl (ai h0 rfl rfl G.o3 m3 m4) fun a h0=>?_
  (first|refine L h0 rfl rfl (aa h0 (.inl rfl) rfl) fun a h0=>?_|refine L h0 rfl rfl (aa h0 (.inr rfl) rfl) fun a h0=>?_|refine L h0 rfl rfl (ab h0 rfl rfl) fun a h0=>?_)
  have h0:SL 16 [(0,.func (.yield l) #[] #[]),(1,Ptr Bs 0),(5,.slice (some ⟨b,off,none⟩) len cap),(6,iv (len:Nat)),(7,iv k),(4,vs k)] a:=h0.keep [0,1,5,6,7,4]
  refine Le (ah (yk (iW ?_)))
  refine LI h0 rfl (by simp) rfl (aa h0 (.inl rfl) rfl) fun a h0=>?_
  refine LI h0 rfl (by simp) rfl (aa h0 (.inl rfl) rfl) fun a h0=>?_
  refine mf rfl (qb rfl (h0.ev rfl) (by
   have e1:a.eval (.tmp 12)=vs k:=h0.ev rfl
   simp[e1]) (hy k w1 hkl hJ) (fun e w' h=>h.1) fun w2 hR=>?_)
  have h0:=h0.put (dst:=some 13) rfl (.bool true)
  refine LI h0 rfl (by simp) rfl (jo h0 rfl rfl) fun a h0=>?_
  refine wpListIn_nil (ar (t:=false) (h0.ev rfl) (fun h=>by cases h) fun _=>aw ?_)
  refine ae ?_
  refine L h0 rfl rfl (cC (k+1:Nat) h0 rfl rfl rfl (by omega) (by omega) (by omega)) fun a h0=>?_
  (first|refine L h0 rfl rfl (aa h0 (.inl rfl) rfl) fun a h0=>?_|refine L h0 rfl rfl (aa h0 (.inr rfl) rfl) fun a h0=>?_|refine L h0 rfl rfl (ab h0 rfl rfl) fun a h0=>?_)
  exact Le ⟨m - 1,by omega,k+1,by omega,h0.keep [0,1,5,6,7],hR.2⟩
 ·have hkl:k=len:=by simp at hc;omega
  subst hkl
  exact⟨h0.defers,.tuple #[],⟨[],rfl,rfl⟩,hJ⟩
theorem uq(G:GT P)(B:GB P)(H:GS P){bv m cap:Nat}{p:Option Addr}{T:List Nat}{bt:TypeId}{fz:Nat×Nat}(hT:T.length=m)(hm:m≤1099511627000)(hv:w.heap[bv]? =some (.cells #[.slice p m cap] bt fz))
  (e7:∀(i x:Nat),T[i]? =some x→∃b off cs bt fz,p=some ⟨b,off,none⟩∧w.heap[b]? =some (.cells cs bt fz)∧cs[off+i]? =some (iv x)):
  Ret P 54 [.slice none 0 0,.func (.func 53) #[] #[Ptr bv 0]] w fun r w'=>Ch (fun _=>False) w w'∧w'.ownsRow 0 3 1 r m (ivs T)∧∀g,r.ownBlock=some g→w.heap.size≤g:=by
 unfold Ret
 obtain⟨fn,c,hf,hbd,hc,hn,hres⟩:=B.b54.is
 refine callsIn_wide.1 (callsIn_of_wp_marks (F:=Fence.wide) (n:=0) hf hbd trivial (wpIn_wide.2 ?_))
 rw[hn]
 refine(?_:NW P (c54 (rf1 P 54).1 (rf1 P 54).2) _ {tmps:=[.slice none 0 0,.func (.func 53) #[] #[Ptr bv 0]].toArray++Array.replicate (13 - 2) undef,defers:=[]} w) c hc
 have h0:=SL.init (n:=13) [.slice none 0 0,.func (.func 53) #[] #[Ptr bv 0]] rfl
 revert h0
 generalize({tmps:=[Value.slice none 0 0,.func (.func 53) #[] #[Ptr bv 0]].toArray++Array.replicate (13 - 2) undef,defers:=[]}:Act)=a
 intro h0
 refine ah (ae ?_)
 refine L h0 rfl rfl (bC h0 rfl rfl) fun a h0=>?_
 rw[show(Value.slice none 0 0).cells= #[.slice none 0 0]from rfl]
 have g1:=Ch.alloc (fun _=>False) w (.cells #[.slice none 0 0] 24)
 have e1:=heap_alloc_new w (.cells #[.slice none 0 0] 24)
 have z1:w.heap.size<(w.alloc (.cells #[.slice none 0 0] 24)).heap.size:=aq e1
 generalize cF:w.heap.size=b2 at h0 e1 z1
 generalize w.alloc (.cells #[.slice none 0 0] 24)=w1 at g1 e1 z1 ⊢
 (first|refine L h0 rfl rfl (aa h0 (.inl rfl) rfl) fun a h0=>?_|refine L h0 rfl rfl (aa h0 (.inr rfl) rfl) fun a h0=>?_|refine L h0 rfl rfl (ab h0 rfl rfl) fun a h0=>?_)
 refine Le (ah (ah (ae ?_)))
 (first|refine L h0 rfl rfl (aa h0 (.inl rfl) rfl) fun a h0=>?_|refine L h0 rfl rfl (aa h0 (.inr rfl) rfl) fun a h0=>?_|refine L h0 rfl rfl (ab h0 rfl rfl) fun a h0=>?_)
 have h0:SL 13 [(2,Ptr b2 0),(6,.func (.func 53) #[] #[Ptr bv 0])] a:=h0.keep [2,6]
 refine Le (au (rK (bk1:=53) (lb:=[Ptr bv 0]) (R:=fun W=>Ch (fun c=>b2≤c∧c≠w1.heap.size) w1 W∧W.heap[w1.heap.size]? =some (.deferred (some []))∧∃v,W.heap[b2]? =some (.cells #[v] 24 (0,0))∧W.ownsRow 0 3 1 v m (ivs T)∧∀g,v.ownBlock=some g→b2≤g) (h0.ev rfl) B.b53.ok (fun fn'=>⟨_,rfl,?_⟩) (fun w6 rec hR hl=>?_)))
 ·-- the rounds
  generalize e9:({state:= .ready,pending:=none,fn:=fn',tmps:=a.tmps,params:= #[7],assign:=(rf1 P 54).1,body:=(rf1 P 54).2,defers:=w1.heap.size}:Loop)=rec
  have k1:=Ch.alloc (fun _=>False) w1 (.deferred (some []))
  have d1:=heap_alloc_new w1 (.deferred (some []))
  have y1:(w1.alloc (.deferred (some []))).heap.size=w1.heap.size+1:=by simp
  generalize w1.alloc (.deferred (some []))=w6 at k1 d1 y1 ⊢
  have k2:=Ch.alloc (fun _=>False) w6 (.loop rec)
  have d2:=heap_alloc_new w6 (.loop rec)
  rw[y1]at d2
  have d3:=k2.at d1 fun h=>h
  have k3:=k1.trans k2
  have m2:=k3.at e1 fun h=>h
  have mv:=(g1.trans k3).at hv fun h=>h
  generalize w6.alloc (.loop rec)=w7 at k2 k3 d2 d3 m2 mv ⊢
  have lv:bv<w.heap.size:=aq hv
  refine(xw G B (l:=w1.heap.size+1) (Bs:=bv) (p:=p) (len:=m) (cap:=cap) (vs:=fun i=>iv (T.getD i 0)) (by omega)
   (fun k W=>W.heap[w1.heap.size+1]? =some (.loop rec)∧Ch (fun c=>b2≤c∧c≠w1.heap.size) w7 W∧∃v,W.heap[b2]? =some (.cells #[v] 24 (0,0))∧W.ownsRow 0 3 1 v k (ivs (T.take k))∧∀g,v.ownBlock=some g→b2≤g) ?_ ?_ ⟨d2,Ch.refl _ _,_,m2,by simpa using World.ownsRow_nil w7 0 3 1,fun g h=>by simp[Value.ownBlock]at h⟩).mono ?_
  ·rintro k W ⟨_,q2,_⟩
   refine⟨⟨bt,fz,q2.at mv (by omega)⟩,fun i hi=>?_⟩
   obtain⟨b,off,cs,bt,fz,r1,r2,r3⟩:=e7 i (T.getD i 0) (by simp[hT,hi])
   have:=aq r2
   exact⟨b,off,cs,bt,fz,r1,q2.at ((g1.trans k3).at r2 fun h=>h) (by omega),r3⟩
  ·rintro k W hk ⟨q1,q2,v,q3,q4,q5⟩
   refine⟨_,_,_,_,run_yield q1 (by simp[←e9]),roundIn_of_wpIn trivial ?_⟩
   have ra:rec.assign=(rf1 P 54).1:=by rw[←e9]
   have rb:rec.body=(rf1 P 54).2:=by rw[←e9]
   have rt:(rec.params.zip #[iv (T.getD k 0:Nat)]).foldl (fun tmps x=>tmps.setIfInBounds x.1 x.2) rec.tmps=a.tmps.setIfInBounds 7 (iv (T.getD k 0:Nat)):=by
    rw[←e9]
    show Array.foldl _ a.tmps (#[7].zip _)=_
    rw[show(#[7]:Array Nat).zip #[iv (T.getD k 0:Nat)]= #[(7,iv (T.getD k 0:Nat))] by apply Array.ext';simp]
    simp
   have rs:rec.state= .ready:=by rw[←e9]
   have eI:SL 13 [(2,Ptr b2 0),(7,iv (T.getD k 0:Nat))] {tmps:=a.tmps.setIfInBounds 7 (iv (T.getD k 0:Nat)),defers:=[]}:=by
    have c1:SL 13 [(2,Ptr b2 0)] a:=h0.keep [2]
    have c2:=c1.put (dst:=some 7) rfl (iv (T.getD k 0:Nat))
    have c3:=c2.keep [2,7]
    exact⟨c3.size,rfl,c3.az⟩
   rw[ra,rb,rt]
   generalize({tmps:=a.tmps.setIfInBounds 7 (iv (T.getD k 0:Nat)),defers:=[]}:Act)=a1 at eI ⊢
   have hasg:∀Q:Exit→Act→World→Prop,(∀a2,SL 13 [(2,Ptr b2 0),(5,iv (T.getD k 0:Nat))] a2→Q .normal a2 W)→NI (some (w1.heap.size+1)) P As Q a1 W:=by
    intro Q hQ
    refine iW ?_
    refine LI eI rfl (by simp) rfl (aa eI (.inr rfl) rfl) fun a2 eI=>?_
    exact wpListIn_nil (hQ _ (eI.keep [2,5]))
   refine hasg _ (fun a2 ef=>?_) _ H.a54
   have lb:w1.heap.size+1<W.heap.size:=aq q1
   refine⟨_,run_beginRound q1 rs,?_⟩
   obtain⟨u1,u2⟩:=fm (w:=W) (b:=w1.heap.size+1) (o:= .loop {rec with state:= .busy}) (aq q1)
   change Ch _ W (W.putObj (w1.heap.size+1) (.loop {rec with state:= .busy}))at u1
   change (W.putObj (w1.heap.size+1) (.loop {rec with state:= .busy})).heap[_]? =_ at u2
   generalize W.putObj (w1.heap.size+1) (.loop {rec with state:= .busy})=W4 at u1 u2 ⊢
   have o2:=u1.at q3 (by omega)
   have nl:∀g,v.ownBlock=some g→¬ g=w1.heap.size+1:=fun g hg e=>by
    rcases q4.2 with⟨rfl,_⟩|⟨g',_,_,rfl,_,fP,_⟩
    ·simp[Value.ownBlock]at hg
    ·simp[Value.ownBlock]at hg;subst hg;subst e;rw[q1]at fP;cases fP
   have o4:=u1.ownsRow q4 nl
   have nb2:v.ownBlock≠some b2:=Lib.ownBlock_ne o4 o2 (by decide)
   have hbody:∀Q:Exit→Act→World→Prop,(∀a3 W5 v',a3.defers=[]→Ch (fun c=>c=b2∨v.ownBlock=some c) W4 W5→W5.heap[b2]? =some (.cells #[v'] 24 (0,0))→W5.ownsRow 0 3 1 v' (k+1) (ivs (T.take (k+1)))→(∀g,v'.ownBlock=some g→b2≤g)→Q .normal a3 W5)→NI (some (w1.heap.size+1)) P Au Q a2 W4:=by
    intro Q hQ
    refine rG (iW ?_)
    refine LI ef rfl (by simp) rfl (ai ef rfl rfl G.o24 o2 rfl) fun a3 ef=>?_
    refine LI ef rfl (by simp) rfl (aa ef (.inl rfl) rfl) fun a3 ef=>?_
    refine LI ef rfl (by simp) rfl (dW ef rfl rfl G.u24 G.o3 rfl) fun a3 ef=>?_
    have p1:=Ch.alloc (fun _=>False) W4 (.cells #[iv (T.getD k 0:Nat)] 3)
    have p2:=p1.ownsRow o4 fun _ _ h=>h
    have p3:=p1.at o2 fun h=>h
    have hW4:w.heap.size≤W4.heap.size:=by have:=u1.size;omega
    obtain⟨v',W5,cf,r1,r2,r3⟩:=mN (P:=P) (o:=⟨some 11,.call ⟨.builtin .append, #[.tmp 8,.tmp 10], #[24,24]⟩,24, "", #[],none⟩) ef rfl rfl rfl G.u24 G.o3 p2 (heap_alloc_new _ _) rfl (by omega)
    refine LI ef rfl (by simp) rfl cf fun a3 ef=>?_
    have p4:=r2.at p3 nb2
    have one:v'.oneCell'=true∧v'.cells= #[v']:=by rcases r1.2 with⟨rfl,_⟩|⟨_,_,_,rfl,_⟩<;>exact⟨rfl,rfl⟩
    refine mf rfl (nE (by simp) rfl (fJ ef rfl rfl rfl G.o24 one.1 one.2 p4 (by simp) (by omega)) ?_)
    have p5:=Ch.setRow W5 b2 ((#[v]:Array Value).setIfInBounds 0 v')
    have p6:=setRow_heap W5 b2 _ ((#[v]:Array Value).setIfInBounds 0 v') _ _ p4
    have p7:=p5.ownsRow r1 fun g hg e=>by subst e;exact Lib.ownBlock_ne r1 p4 (by decide) hg
    refine wpListIn_nil (hQ _ _ v' ef.defers ((p1.mono (fun _ _ h=>h.elim)).trans ((r2.mono fun _ _ h=> .inr h).trans (p5.mono fun _ _ h=> .inl h))) (by simpa using p6) ?_ fun g hg=>?_)
    ·have:ivs (T.take (k+1))=ivs (T.take k)++ [iv (T.getD k 0:Nat)]:=by
      rw[List.take_add_one];simp[List.getD_eq_getElem?_getD]
      cases hk':T[k]? with
      |none=>rw[List.getElem?_eq_none_iff]at hk';omega
      |some x=>simp
     rw[this];exact p7
    ·rcases r3 g hg with h|h
     ·exact q5 g h
     ·have:=p1.size;omega
   refine hbody _ (fun a3 W5 v' hd5 y1 y2 y3 y4=>?_) _ H.d54
   have gY:¬ (w1.heap.size+1=b2∨v.ownBlock=some (w1.heap.size+1)):=by
    rintro(h|h)
    ·omega
    ·exact nl _ h rfl
   have z4:=y1.at u2 gY
   have hen:=run_endRound (P:=P) none z4
   obtain⟨x1,x2⟩:=fm (w:=W5) (b:=w1.heap.size+1) (o:= .loop {{rec with state:= .busy}with state:= .ready,pending:=none}) (aq z4)
   have hrec':({{rec with state:= .busy}with state:= .ready,pending:=none}:Loop)=rec:=by rw[←e9]
   rw[hrec']at x1 x2
   have hfin:(W5.putObj (w1.heap.size+1) (.loop {{rec with state:= .busy}with state:=if(none:Option Code).isNone then .ready else .done,pending:=none}))={W5 with heap:=W5.heap.setIfInBounds (w1.heap.size+1) (.loop rec)}:=by
    rw[←e9];rfl
   rw[hfin]at hen
   have nd:v.ownBlock≠some w1.heap.size:=fun hg=>by
    have dd:=q2.at d3 (by omega)
    rcases q4.2 with⟨rfl,_⟩|⟨g',_,_,rfl,_,fP,_⟩
    ·simp[Value.ownBlock]at hg
    ·simp[Value.ownBlock]at hg;subst hg;rw[dd]at fP;cases fP
   refine⟨_,_,hen,rfl,x2,?_,v',x1.at y2 (by omega),x1.ownsRow y3 fun g hg e=>?_,y4⟩
   ·refine((q2.trans (u1.mono fun c _ (h:c=_)=>⟨by omega,by omega⟩)).trans (y1.mono fun c _ h=>?_)).trans (x1.mono fun c _ (h:c=_)=>⟨by omega,by omega⟩)
    rcases h with h|h
    ·exact⟨by omega,by omega⟩
    ·exact⟨q5 c h,fun e=>nd (e▸h)⟩
   ·have e:g=w1.heap.size+1:=e
    rcases y3.2 with⟨rfl,_⟩|⟨g',_,_,rfl,_,fP,_⟩
    ·simp[Value.ownBlock]at hg
    ·simp[Value.ownBlock]at hg;subst hg;subst e;rw[z4]at fP;cases fP
  ·rintro v W ⟨q1,q2,v',q3,q4,q5⟩
   exact⟨⟨(k3.mono (fun _ _ h=>h.elim)).trans' q2 (fun c hc h=>h),q2.at d3 (by omega),v',q3,by rw[List.take_of_length_le (by omega)]at q4;exact q4,q5⟩,q1⟩
 ·-- behind them
  obtain⟨q1,q2,v,q3,q4,q5⟩:=hR
  obtain⟨u1,u2⟩:=fm (w:=w6) (b:=w1.heap.size+1) (o:= .loop {rec with state:= .exhausted}) (aq hl)
  change Ch _ w6 (w6.putObj (w1.heap.size+1) (.loop {rec with state:= .exhausted}))at u1
  have o2:=u1.at q3 (by omega)
  have od:=u1.at q2 (by omega)
  have o4:=u1.ownsRow q4 fun g hg (e:g=_)=>by
   rcases q4.2 with⟨rfl,_⟩|⟨g',_,_,rfl,_,fP,_⟩
   ·simp[Value.ownBlock]at hg
   ·simp[Value.ownBlock]at hg;subst hg;subst e;rw[hl]at fP;cases fP
  have q7:=q1.trans (u1.mono fun c _ (h:c=_)=>(⟨by omega,by omega⟩:b2≤c∧c≠w1.heap.size))
  generalize w6.putObj (w1.heap.size+1) (.loop {rec with state:= .exhausted})=w8 at u1 o2 od o4 q7 ⊢
  refine ah (ae ?_)
  refine L1 (a:={a with defers:=_}) rfl (ai (a:=a) (v:=v) h0 rfl rfl G.o24 o2 rfl) ?_
  have h1:=h0.put (dst:=some 12) rfl v
  refine L1 (v:=v) (w':=w8) rfl (aa (a:=a.put (some 12) v) h1 (.inr rfl) rfl) ?_
  have h2:=h1.put (dst:=some 4) rfl v
  refine Le (aP ?_)
  obtain⟨x1,_⟩:=fm (w:=w8) (b:=w1.heap.size) (o:= .deferred none) (aq od)
  change Ch _ w8 (w8.putObj w1.heap.size (.deferred none))at x1
  have e2:((a.put (some 12) v).put (some 4) v).tmps.getD 4 undef=v:=h2.az 4 _ rfl
  have hres':(results fn ((a.put (some 12) v).put (some 4) v).tmps).run P (w8.putObj w1.heap.size (.deferred none))= .ok v (w8.putObj w1.heap.size (.deferred none)):=
   jl ⟨[v],by rw[hres];simp only[List.mapM_cons,List.mapM_nil,gh,e2];simp,rfl⟩
  refine⟨by simp,.inl ⟨w1.heap.size,w8.putObj w1.heap.size (.deferred none),rfl,run_takeDeferred od,?_⟩⟩
  show LeavesInM _ _ _ _ _ _ a.defers _ _
  rw[h0.defers]
  refine⟨_,hres',_,rfl,?_,x1.ownsRow o4 fun g hg (e:g=_)=>?_,fun g hg=>q5 g hg⟩
  ·refine g1.trans' ((q7.mono (S':=fun c=>b2≤c) fun c _ h=>h.1).trans (x1.mono fun c _ (h:c=_)=>(by omega:b2≤c))) fun c hc h=>by omega
  ·rcases o4.2 with⟨rfl,_⟩|⟨g',_,_,rfl,_,fP,_⟩
   ·simp[Value.ownBlock]at hg
   ·simp[Value.ownBlock]at hg;subst hg;subst e;rw[od]at fP;cases fP
theorem rZ(G:GT P)(B:GB P)(H:GS P){bv m cap:Nat}{p:Option Addr}{T:List Nat}{bt:TypeId}{fz:Nat×Nat}(hT:T.length=m)(hm:m≤1099511627000)(hv:w.heap[bv]? =some (.cells #[.slice p m cap] bt fz))
  (e7:∀(i x:Nat),T[i]? =some x→∃b off cs bt fz,p=some ⟨b,off,none⟩∧w.heap[b]? =some (.cells cs bt fz)∧cs[off+i]? =some (iv x)):
  Ret P 51 [.func (.func 53) #[] #[Ptr bv 0]] w fun r w'=>Ch (fun _=>False) w w'∧w'.ownsRow 0 3 1 r m (ivs T)∧∀g,r.ownBlock=some g→w.heap.size≤g:=by
 refine aJ B.b51 ?_
 have h0:=SL.init (n:=5) [.func (.func 53) #[] #[Ptr bv 0]] rfl
 (revert h0;generalize({tmps:=_,defers:=[]}:Act)=a;intro h0)
 refine ah (ae ?_)
 (first|refine L h0 rfl rfl (aa h0 (.inl rfl) rfl) fun a h0=>?_|refine L h0 rfl rfl (aa h0 (.inr rfl) rfl) fun a h0=>?_|refine L h0 rfl rfl (ab h0 rfl rfl) fun a h0=>?_)
 refine Le (ah (ae ?_))
 (first|refine L h0 rfl rfl (aa h0 (.inl rfl) rfl) fun a h0=>?_|refine L h0 rfl rfl (aa h0 (.inr rfl) rfl) fun a h0=>?_|refine L h0 rfl rfl (ab h0 rfl rfl) fun a h0=>?_)
 refine Lc (vs:=[.slice none 0 0,.func (.func 53) #[] #[Ptr bv 0]]) h0 rfl rfl rfl rfl rfl B.b54.ok (uq G B H hT hm hv e7) fun r w1 a hr h0=>?_
 (first|refine L h0 rfl rfl (aa h0 (.inl rfl) rfl) fun a h0=>?_|refine L h0 rfl rfl (aa h0 (.inr rfl) rfl) fun a h0=>?_|refine L h0 rfl rfl (ab h0 rfl rfl) fun a h0=>?_)
 exact Le (aP (cH h0 rfl hr))
theorem ur(G:GT P)(B:GB P)(H:GS P){bv m cap:Nat}{p:Option Addr}{T:List Nat}{bt:TypeId}{fz:Nat×Nat}(hT:T.length=m)(hm:m≤1099511627000)(hv:w.heap[bv]? =some (.cells #[.slice p m cap] bt fz))
  (e7:∀(i x:Nat),T[i]? =some x→∃b off cs bt fz,p=some ⟨b,off,none⟩∧w.heap[b]? =some (.cells cs bt fz)∧cs[off+i]? =some (iv x)):
  Ret P 46 [.func (.func 53) #[] #[Ptr bv 0]] w fun r w'=>Ch (fun _=>False) w w'∧∃ys:List Nat,ys.Perm T∧w'.ownsRow 0 3 1 r m (ivs ys)∧∀g,r.ownBlock=some g→w.heap.size≤g:=by
 refine aJ B.b46 ?_
 have h0:=SL.init (n:=9) [.func (.func 53) #[] #[Ptr bv 0]] rfl
 (revert h0;generalize({tmps:=_,defers:=[]}:Act)=a;intro h0)
 refine ah (ae ?_)
 (first|refine L h0 rfl rfl (aa h0 (.inl rfl) rfl) fun a h0=>?_|refine L h0 rfl rfl (aa h0 (.inr rfl) rfl) fun a h0=>?_|refine L h0 rfl rfl (ab h0 rfl rfl) fun a h0=>?_)
 refine Le (ah (ae ?_))
 (first|refine L h0 rfl rfl (aa h0 (.inl rfl) rfl) fun a h0=>?_|refine L h0 rfl rfl (aa h0 (.inr rfl) rfl) fun a h0=>?_|refine L h0 rfl rfl (ab h0 rfl rfl) fun a h0=>?_)
 refine Lc (vs:=[.func (.func 53) #[] #[Ptr bv 0]]) h0 rfl rfl rfl rfl rfl B.b51.ok (rZ G B H hT hm hv e7) fun r w1 a hr h0=>?_
 obtain⟨c1,o1,n1⟩:=hr
 (first|refine L h0 rfl rfl (aa h0 (.inl rfl) rfl) fun a h0=>?_|refine L h0 rfl rfl (aa h0 (.inr rfl) rfl) fun a h0=>?_|refine L h0 rfl rfl (ab h0 rfl rfl) fun a h0=>?_)
 refine Le (ah (ae ?_))
 (first|refine L h0 rfl rfl (aa h0 (.inl rfl) rfl) fun a h0=>?_|refine L h0 rfl rfl (aa h0 (.inr rfl) rfl) fun a h0=>?_|refine L h0 rfl rfl (ab h0 rfl rfl) fun a h0=>?_)
 have key:Ret P 52 [r] w1 fun q w2=>Ch (fun _=>False) w w2∧∃ys:List Nat,ys.Perm T∧w2.ownsRow 0 3 1 r m (ivs ys):=by
  by_cases hz:m=0
  ·have:∃p cap,r= .slice p 0 cap:=by
    rcases o1.2 with⟨rfl,_⟩|⟨g,cap,cur,rfl,_⟩
    ·exact⟨_,_,rfl⟩
    ·exact⟨_,_,by rw[hz]⟩
   obtain⟨p',cap',rfl⟩:=this
   refine Calls.mono (H.sN p' cap' w1) ?_
   rintro e w2 ⟨rfl,rfl⟩
   exact⟨_,rfl,c1,T,List.Perm.refl _,o1⟩
  ·rcases o1.2 with⟨_,h⟩|⟨g,cap',cur,rfl,hb,hg,h1,h2,h3,h4⟩
   ·exact absurd h hz
   ·have hgl:g<w1.heap.size:=aq hg
    obtain⟨zs,hzs⟩:∃zs:List Int,zs=T.map (fun x:Nat=>(x:Int)):=⟨_,rfl⟩
    have hzl:zs.length=m:=by rw[hzs];simpa using hT
    have dR:cur.toList.take zs.length=zs.map encZ:=by
     rw[hzl,hzs,List.map_map];rw[Nat.mul_one]at h4;exact h4
    have hs:=H.sI g cap' zs w1 (Go.Proofs.holds_of_block_i hg dR) hgl (by omega)
    rw[hzl]at hs
    refine Calls.mono hs ?_
    rintro e w2 ⟨rfl,n,os,rfl⟩
    obtain⟨us,hus⟩:∃us,us=zs.mergeSort (fun x y=>decide (x≤y)):=⟨_,rfl⟩
    rw[←hus]
    have hp:us.Perm zs:=by rw[hus];exact List.mergeSort_perm _ _
    have bI:=Go.Proofs.ownsRow_sorted_i (w:=w1) (n:=n) (os:=os) (base:=0) (ss:=zs) (ts:=us) hp.length_eq (Nat.zero_le _) hg (by omega) h2 h3
    have hgr:=Go.Proofs.grownBy_sorted_i (w:=w1) (g:=g) (n:=n) (os:=os) us.toArray
    have jQ:∀x∈us,((x.toNat:Nat):Int)=x:=fun x hx=>by
     have:=(hp.mem_iff.1 hx);rw[hzs]at this
     obtain⟨y,_,rfl⟩:=List.mem_map.1 this
     simp
    refine⟨_,rfl,c1.trans' (⟨hgr.os,hgr.tape,hgr.output,hgr.size,fun b hb hn=>hgr.block b hb fun e=>hn (by simpa using e)⟩:Ch (fun c=>c=g) w1 _) (fun c hc e=>by subst e;have:=n1 c rfl;omega),us.map Int.toNat,?_,?_⟩
    ·have:=hp.map Int.toNat
     rw[hzs]at this
     rw[List.map_map,show(Int.toNat ∘ fun x:Nat=>(x:Int))=id from funext fun x=>by simp,List.map_id]at this
     exact this
    ·rw[hzl]at bI
     have e:us.map encZ=ivs (us.map Int.toNat):=by
      show _=List.map _ (List.map _ _)
      rw[List.map_map]
      exact List.map_congr_left fun x hx=>by simp[encZ,jQ x hx]
     rw[←e];exact bI
 refine Lc (vs:=[r]) h0 rfl rfl rfl rfl rfl H.sok key fun q w2 a hr h0=>?_
 obtain⟨c2,ys,hp,o2⟩:=hr
 refine Le (ah (ae ?_))
 (first|refine L h0 rfl rfl (aa h0 (.inl rfl) rfl) fun a h0=>?_|refine L h0 rfl rfl (aa h0 (.inr rfl) rfl) fun a h0=>?_|refine L h0 rfl rfl (ab h0 rfl rfl) fun a h0=>?_);(first|refine L h0 rfl rfl (aa h0 (.inl rfl) rfl) fun a h0=>?_|refine L h0 rfl rfl (aa h0 (.inr rfl) rfl) fun a h0=>?_|refine L h0 rfl rfl (ab h0 rfl rfl) fun a h0=>?_)
 exact Le (aP (cH h0 rfl ⟨c2,ys,hp,o2,n1⟩))
end Go.TL.H.Gq
set_option maxRecDepth 100000
namespace Go.TL.H.Gq
open Go
variable {P:Program} {w:World} {R:Nat→Nat} {b N lo:Nat} {E:List (List Nat)} {k:Ks} {p:Pu}
theorem s8{T g cap:Nat}{cs:List Value}{ys:List Nat}(hg:Cl w R 0 g T cs)(ht:cs.take (ivs ys).length=ivs ys)(hc:(ivs ys).length≤cap)(hl:lo≤g):Rep w (fun c=>R c≠0) lo (.sl (eZ ys)) (.slice (some ⟨g,0,none⟩) (ivs ys).length cap):=by
 have:=Rep.sl (w:=w) (bad:=fun c=>R c≠0) (lo:=lo) (eZ ys) g 0 cap cs.toArray T (0,0) 1 (fun i _=>iv (ys.getD i 0:Nat)) (by simpa using hc) hg.1 (by simp[hg.2]) hl (fun _=>rfl) (fun i row h=>by
   simp only[List.getElem?_map,Option.map_eq_some_iff]at h;obtain⟨x,_,rfl⟩:=h;rfl) (fun i row j x h1 h2=>by
   simp only[List.getElem?_map,Option.map_eq_some_iff]at h1;obtain⟨y,hy,rfl⟩:=h1
   cases j with
   |zero=>
    simp at h2;subst h2
    have hi:i<ys.length:=(CA hy).1
    have:=gy ht hi
    rw[show 0+i*1+0=0+i by omega,this]
    simp[List.getD_eq_getElem?_getD,hi]
   |succ j=>simp at h2) (fun i row j x h1 h2=>by
   simp only[List.getElem?_map,Option.map_eq_some_iff]at h1;obtain⟨y,hy,rfl⟩:=h1
   cases j with
   |zero=>simp at h2;subst h2;simp[List.getD_eq_getElem?_getD,hy];exact .v _ rfl
   |succ j=>simp at h2)
 simpa using this
theorem qf{xs:List Value}{GG:List (List Nat)}{ys:List Nat}{v:Value}(h:bE w (fun c=>R c≠0) lo 1 (cM GG) xs)(hl:xs.length=GG.length)(hr:Rep w (fun c=>R c≠0) lo (.sl (eZ ys)) v):bE w (fun c=>R c≠0) lo 1 (cM (GG++ [ys])) (xs++ [v]):=by
 rw[show cM (GG++ [ys])=cM GG++ [[.sl (eZ ys)]] by simp]
 refine h.append (by simpa using hl) ⟨fun _ _=>v,fun i row hi=>?_,fun i row j x hi hj=>?_,fun i row j x hi hj=>?_⟩
 all_goals (cases i with
  |zero=>?_
  |succ i=>simp at hi)
 all_goals (simp at hi;subst hi)
 ·rfl
 ·cases j with
  |zero=>rfl
  |succ j=>simp at hj
 ·cases j with
  |zero=>simp at hj;subst hj;exact hr
  |succ j=>simp at hj
def FG(p:Pu)(ys F':List Nat):Prop:=(∀x∈F',x∈p.F∨x=p.G.length)∧∀x,(x∈ys→F'[x]? =some p.G.length)∧(x ∉ ys→F'[x]? =p.F[x]?)
theorem FG.set{ys F':List Nat}{j g:Nat}(h:FG p (ys.take j) F')(hj:j<ys.length)(hg:g=p.G.length)(hx:ys[j]<F'.length):FG p (ys.take (j+1)) (F'.set (0+ys[j]) g):=by
 subst hg
 refine⟨fun x hx=>?_,fun x=>?_⟩
 ·rcases List.mem_or_eq_of_mem_set hx with h1|h1
  ·exact h.1 x h1
  ·exact .inr h1
 ·rw[List.take_succ_eq_append_getElem hj,Nat.zero_add,List.mem_append,List.mem_singleton]
  by_cases e:x=ys[j]
  ·subst e
   exact⟨fun _=>by rw[List.getElem?_set_self hx],fun h=>absurd (.inr rfl) h⟩
  ·rw[List.getElem?_set_ne (Ne.symm e)]
   exact⟨fun hm=>(h.2 x).1 (hm.resolve_right e),fun hm=>(h.2 x).2 fun hn=>hm (.inl hn)⟩
theorem vT(G:GT P)(B:GB P)(H:GS P)(hF:Fs w R b N lo E k p){v:Nat}(hv:v∈p.S)(hS:∀x∈p.S,x<N)(aV:lo≤w.heap.size)(hs:p.S.length≤1099511627000)(hg:p.G.length≤1099511627000):
  Ret P 40 [Ptr b 0,iv v] w fun _ w'=>∃R' s' g' i ys O' F',Up [1,4,6,7] R R' w w'∧p.S[i]? =some v∧ys.Perm (p.S.drop i)∧FG p ys F'∧
   Fs w' R' b N lo E {k with s:=s',g:=g'} {p with S:=p.S.take i,O:=O',F:=F',G:=p.G++ [ys]}:=by
 refine aJ B.b40 ?_
 have h0:=SL.init (n:=65) [Ptr b 0,iv v] rfl
 (revert h0;generalize({tmps:=_,defers:=[]}:Act)=a;intro h0)
 obtain⟨bx,ix,lx,ox,sx,rx,⟨xs,gl,gx,gr⟩,ed,hi,hl,ho,hf⟩:=hF
 refine ah (ae ?_)
 (first|refine L h0 rfl rfl (aa h0 (.inl rfl) rfl) fun a h0=>?_|refine L h0 rfl rfl (aa h0 (.inr rfl) rfl) fun a h0=>?_|refine L h0 rfl rfl (ab h0 rfl rfl) fun a h0=>?_|refine L h0 rfl rfl (ak h0 rfl rfl (by first|exact G.fa _ (by decide)|exact G.g0|exact G.g1)) fun a h0=>?_|refine L h0 rfl rfl (ai h0 rfl rfl (by first|exact G.o24|exact G.o3|exact G.o63|exact G.o32) (bx).1 rfl) fun a h0=>?_);(first|refine L h0 rfl rfl (aa h0 (.inl rfl) rfl) fun a h0=>?_|refine L h0 rfl rfl (aa h0 (.inr rfl) rfl) fun a h0=>?_|refine L h0 rfl rfl (ab h0 rfl rfl) fun a h0=>?_|refine L h0 rfl rfl (ak h0 rfl rfl (by first|exact G.fa _ (by decide)|exact G.g0|exact G.g1)) fun a h0=>?_|refine L h0 rfl rfl (ai h0 rfl rfl (by first|exact G.o24|exact G.o3|exact G.o63|exact G.o32) (bx).1 rfl) fun a h0=>?_);(first|refine L h0 rfl rfl (aa h0 (.inl rfl) rfl) fun a h0=>?_|refine L h0 rfl rfl (aa h0 (.inr rfl) rfl) fun a h0=>?_|refine L h0 rfl rfl (ab h0 rfl rfl) fun a h0=>?_|refine L h0 rfl rfl (ak h0 rfl rfl (by first|exact G.fa _ (by decide)|exact G.g0|exact G.g1)) fun a h0=>?_|refine L h0 rfl rfl (ai h0 rfl rfl (by first|exact G.o24|exact G.o3|exact G.o63|exact G.o32) (bx).1 rfl) fun a h0=>?_);(first|refine L h0 rfl rfl (aa h0 (.inl rfl) rfl) fun a h0=>?_|refine L h0 rfl rfl (aa h0 (.inr rfl) rfl) fun a h0=>?_|refine L h0 rfl rfl (ab h0 rfl rfl) fun a h0=>?_|refine L h0 rfl rfl (ak h0 rfl rfl (by first|exact G.fa _ (by decide)|exact G.g0|exact G.g1)) fun a h0=>?_|refine L h0 rfl rfl (ai h0 rfl rfl (by first|exact G.o24|exact G.o3|exact G.o63|exact G.o32) (bx).1 rfl) fun a h0=>?_);(first|refine L h0 rfl rfl (aa h0 (.inl rfl) rfl) fun a h0=>?_|refine L h0 rfl rfl (aa h0 (.inr rfl) rfl) fun a h0=>?_|refine L h0 rfl rfl (ab h0 rfl rfl) fun a h0=>?_|refine L h0 rfl rfl (ak h0 rfl rfl (by first|exact G.fa _ (by decide)|exact G.g0|exact G.g1)) fun a h0=>?_|refine L h0 rfl rfl (ai h0 rfl rfl (by first|exact G.o24|exact G.o3|exact G.o63|exact G.o32) (bx).1 rfl) fun a h0=>?_)
 refine Lc (vs:=[k.s,iv v]) h0 rfl rfl rfl rfl rfl B.b45.ok (vS G B sx hv (by omega)) fun r w0 a hr h0=>?_
 obtain⟨rfl,i,rfl,hiv⟩:=hr
 have fh:i<p.S.length:=(CA hiv).1
 (first|refine L h0 rfl rfl (aa h0 (.inl rfl) rfl) fun a h0=>?_|refine L h0 rfl rfl (aa h0 (.inr rfl) rfl) fun a h0=>?_|refine L h0 rfl rfl (ab h0 rfl rfl) fun a h0=>?_)
 have h0:SL 65 [(0,Ptr b 0),(1,iv v),(4,iv i)] a:=h0.keep [0,1,4]
 obtain⟨g,cap,cs,hks,hc,hg1,dR,ht⟩:=sx.mem (by intro e;simp at e;rw[e]at hv;simp at hv)
 have hmx:cap≤maxLen:=by rw[hks]at sx;exact sx.max
 refine Le (ah (ae ?_))
 (first|refine L h0 rfl rfl (aa h0 (.inl rfl) rfl) fun a h0=>?_|refine L h0 rfl rfl (aa h0 (.inr rfl) rfl) fun a h0=>?_|refine L h0 rfl rfl (ab h0 rfl rfl) fun a h0=>?_|refine L h0 rfl rfl (ak h0 rfl rfl (by first|exact G.fa _ (by decide)|exact G.g0|exact G.g1)) fun a h0=>?_|refine L h0 rfl rfl (ai h0 rfl rfl (by first|exact G.o24|exact G.o3|exact G.o63|exact G.o32) (bx).1 rfl) fun a h0=>?_);(first|refine L h0 rfl rfl (aa h0 (.inl rfl) rfl) fun a h0=>?_|refine L h0 rfl rfl (aa h0 (.inr rfl) rfl) fun a h0=>?_|refine L h0 rfl rfl (ab h0 rfl rfl) fun a h0=>?_|refine L h0 rfl rfl (ak h0 rfl rfl (by first|exact G.fa _ (by decide)|exact G.g0|exact G.g1)) fun a h0=>?_|refine L h0 rfl rfl (ai h0 rfl rfl (by first|exact G.o24|exact G.o3|exact G.o63|exact G.o32) (bx).1 rfl) fun a h0=>?_);(first|refine L h0 rfl rfl (aa h0 (.inl rfl) rfl) fun a h0=>?_|refine L h0 rfl rfl (aa h0 (.inr rfl) rfl) fun a h0=>?_|refine L h0 rfl rfl (ab h0 rfl rfl) fun a h0=>?_|refine L h0 rfl rfl (ak h0 rfl rfl (by first|exact G.fa _ (by decide)|exact G.g0|exact G.g1)) fun a h0=>?_|refine L h0 rfl rfl (ai h0 rfl rfl (by first|exact G.o24|exact G.o3|exact G.o63|exact G.o32) (bx).1 rfl) fun a h0=>?_);(first|refine L h0 rfl rfl (aa h0 (.inl rfl) rfl) fun a h0=>?_|refine L h0 rfl rfl (aa h0 (.inr rfl) rfl) fun a h0=>?_|refine L h0 rfl rfl (ab h0 rfl rfl) fun a h0=>?_|refine L h0 rfl rfl (ak h0 rfl rfl (by first|exact G.fa _ (by decide)|exact G.g0|exact G.g1)) fun a h0=>?_|refine L h0 rfl rfl (ai h0 rfl rfl (by first|exact G.o24|exact G.o3|exact G.o63|exact G.o32) (bx).1 rfl) fun a h0=>?_);(first|refine L h0 rfl rfl (aa h0 (.inl rfl) rfl) fun a h0=>?_|refine L h0 rfl rfl (aa h0 (.inr rfl) rfl) fun a h0=>?_|refine L h0 rfl rfl (ab h0 rfl rfl) fun a h0=>?_|refine L h0 rfl rfl (ak h0 rfl rfl (by first|exact G.fa _ (by decide)|exact G.g0|exact G.g1)) fun a h0=>?_|refine L h0 rfl rfl (ai h0 rfl rfl (by first|exact G.o24|exact G.o3|exact G.o63|exact G.o32) (bx).1 rfl) fun a h0=>?_)
 refine L h0 rfl rfl (Am (t:=24) (b:=g) (m:=(ivs p.S).length) (c:=cap) h0 rfl (by rw[←hks];rfl) rfl G.u24 G.o3 (by simpa using fh) hc) fun a h0=>?_
 refine Lc (vs:=[.slice (some ⟨g,i,none⟩) ((ivs p.S).length - i) (cap - i)]) h0 rfl rfl rfl rfl rfl B.b47.ok (rJ (B.b47:Body P 47 4 [.tmp 2] (um 24 53)) _ _ _ w0) fun r w1 a hr h0=>?_
 obtain⟨rfl,rfl⟩:=hr
 have u1:=Up.alloc [] R w0 (.cells #[.slice (some ⟨g,i,none⟩) ((ivs p.S).length - i) (cap - i)] 24) 0
 have e1:=heap_alloc_new w0 (.cells #[.slice (some ⟨g,i,none⟩) ((ivs p.S).length - i) (cap - i)] 24)
 ((try have bx:=bx.up u1 (by decide));(try have ix:=ix.up u1 (by decide));(try have lx:=lx.up u1 (by decide));(try have ox:=ox.up u1 (by decide));(try have sx:=sx.up u1 (by decide));(try have rx:=rx.up u1 (by decide));(try have gx:=gx.up u1 (by decide));(try have gr:=cD gr u1 (by decide));(try have ed:=ed.up u1 (by decide));(try have cx:=cx.up u1 (by decide)))
 have hg1:=hg1.up u1 (by decide)
 have z1:w0.heap.size≤(w0.alloc (.cells #[.slice (some ⟨g,i,none⟩) ((ivs p.S).length - i) (cap - i)] 24)).heap.size:=u1.1.size
 generalize w0.alloc (.cells #[.slice (some ⟨g,i,none⟩) ((ivs p.S).length - i) (cap - i)] 24)=w1 at*
 refine Lc (vs:=[.func (.func 53) #[] #[Ptr w0.heap.size 0]]) h0 rfl rfl rfl rfl rfl B.b46.ok (ur G B H (T:=p.S.drop i) (by simp) (by simp;omega) e1 (fun j x hj=>?_)) fun r w2 a hr h0=>?_
 ·rw[List.getElem?_drop]at hj
  have cd:i+j<p.S.length:=(CA hj).1
  have:=gy ht cd
  refine⟨g,i,cs.toArray,3,(0,0),rfl,hg1.1,?_⟩
  rw[Nat.zero_add]at this
  rw[this]
  rw[List.getElem?_eq_getElem cd]at hj
  rw[Option.some.inj hj]
 obtain⟨c2,ys,hp,o2,n2⟩:=hr
 have hyl:ys.length=p.S.length - i:=by rw[hp.length_eq];simp
 have u2:Up [] (ext R w0.heap.size 0) (ext (ext R w0.heap.size 0) w1.heap.size 0) w1 w2:=⟨c2.mono fun _ _ h=>h.elim,fun c hc=>by simp[ext,hc]⟩
 have ox2:Ow w2 (ext (ext R w0.heap.size 0) w1.heap.size 0) 0 3 r (ivs ys):=⟨by
  have e:(ivs p.S).length - i=(ivs ys).length:=by simp[hyl]
  rw[e]at o2;exact o2,fun g hg=>by simp[ext,show ¬ g<w1.heap.size by have:=n2 g hg;omega]⟩
 have n2':∀g,r.ownBlock=some g→lo≤g:=fun g hg=>by have:=n2 g hg;omega
 ((try have bx:=bx.up u2 (by decide));(try have ix:=ix.up u2 (by decide));(try have lx:=lx.up u2 (by decide));(try have ox:=ox.up u2 (by decide));(try have sx:=sx.up u2 (by decide));(try have rx:=rx.up u2 (by decide));(try have gx:=gx.up u2 (by decide));(try have gr:=cD gr u2 (by decide));(try have ed:=ed.up u2 (by decide));(try have cx:=cx.up u2 (by decide)))
 have hg1:=hg1.up u2 (by decide)
 have u:=u1.trans u2
 generalize ext (ext R w0.heap.size 0) w1.heap.size 0=R2 at*
 clear u1 u2 e1 c2 o2 n2
 (first|refine L h0 rfl rfl (aa h0 (.inl rfl) rfl) fun a h0=>?_|refine L h0 rfl rfl (aa h0 (.inr rfl) rfl) fun a h0=>?_|refine L h0 rfl rfl (ab h0 rfl rfl) fun a h0=>?_)
 have h0:SL 65 [(0,Ptr b 0),(4,iv i),(5,r)] a:=h0.keep [0,4,5]
 obtain⟨g2,dT,cs2,rfl,hc2,iC,hcs2,fD⟩:=ox2.mem (by simp;intro e;subst e;simp at hyl;omega)
 refine Le (ah (ae ?_))
 (first|refine L h0 rfl rfl (aa h0 (.inl rfl) rfl) fun a h0=>?_|refine L h0 rfl rfl (aa h0 (.inr rfl) rfl) fun a h0=>?_|refine L h0 rfl rfl (ab h0 rfl rfl) fun a h0=>?_|refine L h0 rfl rfl (ak h0 rfl rfl (by first|exact G.fa _ (by decide)|exact G.g0|exact G.g1)) fun a h0=>?_|refine L h0 rfl rfl (ai h0 rfl rfl (by first|exact G.o24|exact G.o3|exact G.o63|exact G.o32) (bx).1 rfl) fun a h0=>?_);(first|refine L h0 rfl rfl (aa h0 (.inl rfl) rfl) fun a h0=>?_|refine L h0 rfl rfl (aa h0 (.inr rfl) rfl) fun a h0=>?_|refine L h0 rfl rfl (ab h0 rfl rfl) fun a h0=>?_|refine L h0 rfl rfl (ak h0 rfl rfl (by first|exact G.fa _ (by decide)|exact G.g0|exact G.g1)) fun a h0=>?_|refine L h0 rfl rfl (ai h0 rfl rfl (by first|exact G.o24|exact G.o3|exact G.o63|exact G.o32) (bx).1 rfl) fun a h0=>?_);(first|refine L h0 rfl rfl (aa h0 (.inl rfl) rfl) fun a h0=>?_|refine L h0 rfl rfl (aa h0 (.inr rfl) rfl) fun a h0=>?_|refine L h0 rfl rfl (ab h0 rfl rfl) fun a h0=>?_|refine L h0 rfl rfl (ak h0 rfl rfl (by first|exact G.fa _ (by decide)|exact G.g0|exact G.g1)) fun a h0=>?_|refine L h0 rfl rfl (ai h0 rfl rfl (by first|exact G.o24|exact G.o3|exact G.o63|exact G.o32) (bx).1 rfl) fun a h0=>?_);(first|refine L h0 rfl rfl (aa h0 (.inl rfl) rfl) fun a h0=>?_|refine L h0 rfl rfl (aa h0 (.inr rfl) rfl) fun a h0=>?_|refine L h0 rfl rfl (ab h0 rfl rfl) fun a h0=>?_|refine L h0 rfl rfl (ak h0 rfl rfl (by first|exact G.fa _ (by decide)|exact G.g0|exact G.g1)) fun a h0=>?_|refine L h0 rfl rfl (ai h0 rfl rfl (by first|exact G.o24|exact G.o3|exact G.o63|exact G.o32) (bx).1 rfl) fun a h0=>?_);(first|refine L h0 rfl rfl (aa h0 (.inl rfl) rfl) fun a h0=>?_|refine L h0 rfl rfl (aa h0 (.inr rfl) rfl) fun a h0=>?_|refine L h0 rfl rfl (ab h0 rfl rfl) fun a h0=>?_|refine L h0 rfl rfl (ak h0 rfl rfl (by first|exact G.fa _ (by decide)|exact G.g0|exact G.g1)) fun a h0=>?_|refine L h0 rfl rfl (ai h0 rfl rfl (by first|exact G.o24|exact G.o3|exact G.o63|exact G.o32) (bx).1 rfl) fun a h0=>?_);(first|refine L h0 rfl rfl (aa h0 (.inl rfl) rfl) fun a h0=>?_|refine L h0 rfl rfl (aa h0 (.inr rfl) rfl) fun a h0=>?_|refine L h0 rfl rfl (ab h0 rfl rfl) fun a h0=>?_|refine L h0 rfl rfl (ak h0 rfl rfl (by first|exact G.fa _ (by decide)|exact G.g0|exact G.g1)) fun a h0=>?_|refine L h0 rfl rfl (ai h0 rfl rfl (by first|exact G.o24|exact G.o3|exact G.o63|exact G.o32) (bx).1 rfl) fun a h0=>?_)
 refine L h0 rfl rfl (ym (t:=24) (b:=g) (m:=(ivs p.S).length) (c:=cap) h0 rfl (by rw[←hks];rfl) rfl G.u24 G.o3 (by simp;omega) hc) fun a h0=>?_
 (first|refine L h0 rfl rfl (aa h0 (.inl rfl) rfl) fun a h0=>?_|refine L h0 rfl rfl (aa h0 (.inr rfl) rfl) fun a h0=>?_|refine L h0 rfl rfl (ab h0 rfl rfl) fun a h0=>?_|refine L h0 rfl rfl (ak h0 rfl rfl (by first|exact G.fa _ (by decide)|exact G.g0|exact G.g1)) fun a h0=>?_|refine L h0 rfl rfl (ai h0 rfl rfl (by first|exact G.o24|exact G.o3|exact G.o63|exact G.o32) (bx).1 rfl) fun a h0=>?_);(first|refine L h0 rfl rfl (aa h0 (.inl rfl) rfl) fun a h0=>?_|refine L h0 rfl rfl (aa h0 (.inr rfl) rfl) fun a h0=>?_|refine L h0 rfl rfl (ab h0 rfl rfl) fun a h0=>?_|refine L h0 rfl rfl (ak h0 rfl rfl (by first|exact G.fa _ (by decide)|exact G.g0|exact G.g1)) fun a h0=>?_|refine L h0 rfl rfl (ai h0 rfl rfl (by first|exact G.o24|exact G.o3|exact G.o63|exact G.o32) (bx).1 rfl) fun a h0=>?_)
 refine Lst h0 rfl rfl rfl rfl rfl G.o24 rfl rfl bx (by simp) fun w3 bx u3=>?_
 have bx:Cl w3 R2 1 b 65 (nH N {k with s:= .slice (some ⟨g,0,none⟩) i cap} p.n):=bx
 ((try have bx:=bx.up u3 (by decide));(try have ix:=ix.up u3 (by decide));(try have lx:=lx.up u3 (by decide));(try have ox:=ox.up u3 (by decide));(try have sx:=sx.up u3 (by decide));(try have rx:=rx.up u3 (by decide));(try have gx:=gx.up u3 (by decide));(try have gr:=cD gr u3 (by decide));(try have ed:=ed.up u3 (by decide));(try have cx:=cx.up u3 (by decide)))
 have hg1:=hg1.up u3 (by decide)
 have iC:=iC.up u3 (by decide)
 have sx:Ow w3 R2 5 3 (.slice (some ⟨g,0,none⟩) i cap) (ivs (p.S.take i)):=by
  have:=Ow.of (xs:=ivs (p.S.take i)) hg1 (by simpa using dR) (by simp at hc ⊢;omega) hmx (by
   have h1:=congrArg (List.take i) ht
   rw[List.take_take]at h1
   simp at h1 ⊢
   rw[show min i p.S.length=i by omega]
   rw[show min i p.S.length=i by omega]at h1
   rw[h1])
  simpa[show min i p.S.length=i by omega]using this
 have u:=(u.mono (S':=[1,4,6,7]) (by simp)).trans (u3.mono (by simp))
 have h0:SL 65 [(0,Ptr b 0),(5,.slice (some ⟨g2,0,none⟩) (ivs ys).length dT)] a:=h0.keep [0,5]
 refine Le (ah (ah (ae ?_)))
 (first|refine L h0 rfl rfl (aa h0 (.inl rfl) rfl) fun a h0=>?_|refine L h0 rfl rfl (aa h0 (.inr rfl) rfl) fun a h0=>?_|refine L h0 rfl rfl (ab h0 rfl rfl) fun a h0=>?_)
 refine L h0 rfl rfl (aM h0 rfl rfl G.u24) fun a h0=>?_
 (first|refine L h0 rfl rfl (aa h0 (.inl rfl) rfl) fun a h0=>?_|refine L h0 rfl rfl (aa h0 (.inr rfl) rfl) fun a h0=>?_|refine L h0 rfl rfl (ab h0 rfl rfl) fun a h0=>?_)
 have dE:=s8 iC fD hc2 (n2' g2 rfl)
 refine Le (NW.mono (Q:=fun e a w4=>e= .normal∧SL 65 [(0,Ptr b 0),(5,.slice (some ⟨g2,0,none⟩) (ivs ys).length dT)] a∧∃(O':List Bool) (F':List Nat),O'.length=N∧F'.length=N∧Up [4,6] R2 R2 w3 w4∧Cl w4 R2 4 k.o 4 (bvs O')∧Cl w4 R2 6 k.f 3 (ivs F')∧FG p ys F') ?_ ?_)
 ·refine au (aW (fun m a w4=>∃j:Nat,m+j=ys.length∧SL 65 [(0,Ptr b 0),(5,.slice (some ⟨g2,0,none⟩) (ivs ys).length dT),(31,.slice (some ⟨g2,0,none⟩) (ivs ys).length dT),(32,iv ((ivs ys).length:Nat)),(33,iv j)] a∧∃(O':List Bool) (F':List Nat),O'.length=N∧F'.length=N∧Up [4,6] R2 R2 w3 w4∧Cl w4 R2 4 k.o 4 (bvs O')∧Cl w4 R2 6 k.f 3 (ivs F')∧FG p (ys.take j) F') ys.length ⟨0,rfl,h0.keep [0,5,31,32,33],p.O,p.F,ho,hf,Up.rfl,ox,rx,fun x hx=> .inl hx,fun x=>⟨fun h=>by simp at h,fun _=>rfl⟩⟩ ?_)
  rintro m a w4 ⟨j,hmj,h0,O',F',hO',hF',u4,ox,rx,hFF⟩
  refine ah (ae ?_)
  refine L h0 rfl rfl (aG h0 rfl rfl rfl rfl) fun a h0=>?_
  refine Le (ah (ar (h0.ev rfl) (fun hc=>aw ?_) (fun hc=>aN ?_)))
  ·have cd:j<ys.length:=by simpa using hc
   have fQ:ys[j]<N:=hS _ (List.mem_of_mem_drop (hp.mem_iff.1 (List.getElem_mem cd)))
   have bx:=bx.up u4 (by decide)
   have iC:=iC.up u4 (by decide)
   have gx:=gx.up u4 (by decide)
   refine ah (au (ah (ae ?_)))
   refine L h0 rfl rfl (aH h0 rfl rfl rfl G.u24 G.o3 (by simpa using cd)) fun a h0=>?_
   refine L h0 rfl rfl (ai h0 rfl rfl G.o3 iC.1 (gy fD cd)) fun a h0=>?_
   (first|refine L h0 rfl rfl (aa h0 (.inl rfl) rfl) fun a h0=>?_|refine L h0 rfl rfl (aa h0 (.inr rfl) rfl) fun a h0=>?_|refine L h0 rfl rfl (ab h0 rfl rfl) fun a h0=>?_)
   have h0:SL 65 [(0,Ptr b 0),(5,.slice (some ⟨g2,0,none⟩) (ivs ys).length dT),(31,.slice (some ⟨g2,0,none⟩) (ivs ys).length dT),(32,iv ((ivs ys).length:Nat)),(33,iv j),(7,iv (ys[j]:Nat))] a:=h0.keep [0,5,31,32,33,7]
   refine Le (ah (ae ?_))
   (first|refine L h0 rfl rfl (aa h0 (.inl rfl) rfl) fun a h0=>?_|refine L h0 rfl rfl (aa h0 (.inr rfl) rfl) fun a h0=>?_|refine L h0 rfl rfl (ab h0 rfl rfl) fun a h0=>?_|refine L h0 rfl rfl (ak h0 rfl rfl (by first|exact G.fa _ (by decide)|exact G.g0|exact G.g1)) fun a h0=>?_|refine L h0 rfl rfl (ai h0 rfl rfl (by first|exact G.o24|exact G.o3|exact G.o63|exact G.o32) (bx).1 rfl) fun a h0=>?_);(first|refine L h0 rfl rfl (aa h0 (.inl rfl) rfl) fun a h0=>?_|refine L h0 rfl rfl (aa h0 (.inr rfl) rfl) fun a h0=>?_|refine L h0 rfl rfl (ab h0 rfl rfl) fun a h0=>?_|refine L h0 rfl rfl (ak h0 rfl rfl (by first|exact G.fa _ (by decide)|exact G.g0|exact G.g1)) fun a h0=>?_|refine L h0 rfl rfl (ai h0 rfl rfl (by first|exact G.o24|exact G.o3|exact G.o63|exact G.o32) (bx).1 rfl) fun a h0=>?_);(first|refine L h0 rfl rfl (aa h0 (.inl rfl) rfl) fun a h0=>?_|refine L h0 rfl rfl (aa h0 (.inr rfl) rfl) fun a h0=>?_|refine L h0 rfl rfl (ab h0 rfl rfl) fun a h0=>?_|refine L h0 rfl rfl (ak h0 rfl rfl (by first|exact G.fa _ (by decide)|exact G.g0|exact G.g1)) fun a h0=>?_|refine L h0 rfl rfl (ai h0 rfl rfl (by first|exact G.o24|exact G.o3|exact G.o63|exact G.o32) (bx).1 rfl) fun a h0=>?_);(first|refine L h0 rfl rfl (aa h0 (.inl rfl) rfl) fun a h0=>?_|refine L h0 rfl rfl (aa h0 (.inr rfl) rfl) fun a h0=>?_|refine L h0 rfl rfl (ab h0 rfl rfl) fun a h0=>?_|refine L h0 rfl rfl (ak h0 rfl rfl (by first|exact G.fa _ (by decide)|exact G.g0|exact G.g1)) fun a h0=>?_|refine L h0 rfl rfl (ai h0 rfl rfl (by first|exact G.o24|exact G.o3|exact G.o63|exact G.o32) (bx).1 rfl) fun a h0=>?_);(first|refine L h0 rfl rfl (aa h0 (.inl rfl) rfl) fun a h0=>?_|refine L h0 rfl rfl (aa h0 (.inr rfl) rfl) fun a h0=>?_|refine L h0 rfl rfl (ab h0 rfl rfl) fun a h0=>?_|refine L h0 rfl rfl (ak h0 rfl rfl (by first|exact G.fa _ (by decide)|exact G.g0|exact G.g1)) fun a h0=>?_|refine L h0 rfl rfl (ai h0 rfl rfl (by first|exact G.o24|exact G.o3|exact G.o63|exact G.o32) (bx).1 rfl) fun a h0=>?_)
   refine L h0 rfl rfl (aH h0 rfl rfl rfl G.u63 G.o4 fQ) fun a h0=>?_
   refine Lst h0 rfl rfl rfl rfl rfl G.o4 rfl rfl ox (by simp;omega) fun w5 ox u5=>?_
   have bx:=bx.up u5 (by decide)
   have rx:=rx.up u5 (by decide)
   have gx:=gx.up u5 (by decide)
   have h0:SL 65 [(0,Ptr b 0),(5,.slice (some ⟨g2,0,none⟩) (ivs ys).length dT),(31,.slice (some ⟨g2,0,none⟩) (ivs ys).length dT),(32,iv ((ivs ys).length:Nat)),(33,iv j),(7,iv (ys[j]:Nat))] a:=h0.keep [0,5,31,32,33,7]
   refine Le (jO (R:=R2) 11 G.mix (by kernel_rfl) fun w6 u6=>?_)
   have bx:=bx.up u6 (by decide)
   have rx:=rx.up u6 (by decide)
   have ox:=ox.up u6 (by decide)
   have gx:=gx.up u6 (by decide)
   (first|refine T h0 rfl rfl (aa h0 (.inl rfl) rfl) fun a h0=>?_|refine T h0 rfl rfl (aa h0 (.inr rfl) rfl) fun a h0=>?_|refine T h0 rfl rfl (ab h0 rfl rfl) fun a h0=>?_|refine T h0 rfl rfl (ak h0 rfl rfl (by first|exact G.fa _ (by decide)|exact G.g0|exact G.g1)) fun a h0=>?_|refine T h0 rfl rfl (ai h0 rfl rfl (by first|exact G.o24|exact G.o3|exact G.o63|exact G.o32) (bx).1 rfl) fun a h0=>?_);(first|refine T h0 rfl rfl (aa h0 (.inl rfl) rfl) fun a h0=>?_|refine T h0 rfl rfl (aa h0 (.inr rfl) rfl) fun a h0=>?_|refine T h0 rfl rfl (ab h0 rfl rfl) fun a h0=>?_|refine T h0 rfl rfl (ak h0 rfl rfl (by first|exact G.fa _ (by decide)|exact G.g0|exact G.g1)) fun a h0=>?_|refine T h0 rfl rfl (ai h0 rfl rfl (by first|exact G.o24|exact G.o3|exact G.o63|exact G.o32) (bx).1 rfl) fun a h0=>?_);(first|refine T h0 rfl rfl (aa h0 (.inl rfl) rfl) fun a h0=>?_|refine T h0 rfl rfl (aa h0 (.inr rfl) rfl) fun a h0=>?_|refine T h0 rfl rfl (ab h0 rfl rfl) fun a h0=>?_|refine T h0 rfl rfl (ak h0 rfl rfl (by first|exact G.fa _ (by decide)|exact G.g0|exact G.g1)) fun a h0=>?_|refine T h0 rfl rfl (ai h0 rfl rfl (by first|exact G.o24|exact G.o3|exact G.o63|exact G.o32) (bx).1 rfl) fun a h0=>?_);(first|refine T h0 rfl rfl (aa h0 (.inl rfl) rfl) fun a h0=>?_|refine T h0 rfl rfl (aa h0 (.inr rfl) rfl) fun a h0=>?_|refine T h0 rfl rfl (ab h0 rfl rfl) fun a h0=>?_|refine T h0 rfl rfl (ak h0 rfl rfl (by first|exact G.fa _ (by decide)|exact G.g0|exact G.g1)) fun a h0=>?_|refine T h0 rfl rfl (ai h0 rfl rfl (by first|exact G.o24|exact G.o3|exact G.o63|exact G.o32) (bx).1 rfl) fun a h0=>?_);(first|refine T h0 rfl rfl (aa h0 (.inl rfl) rfl) fun a h0=>?_|refine T h0 rfl rfl (aa h0 (.inr rfl) rfl) fun a h0=>?_|refine T h0 rfl rfl (ab h0 rfl rfl) fun a h0=>?_|refine T h0 rfl rfl (ak h0 rfl rfl (by first|exact G.fa _ (by decide)|exact G.g0|exact G.g1)) fun a h0=>?_|refine T h0 rfl rfl (ai h0 rfl rfl (by first|exact G.o24|exact G.o3|exact G.o63|exact G.o32) (bx).1 rfl) fun a h0=>?_);(first|refine T h0 rfl rfl (aa h0 (.inl rfl) rfl) fun a h0=>?_|refine T h0 rfl rfl (aa h0 (.inr rfl) rfl) fun a h0=>?_|refine T h0 rfl rfl (ab h0 rfl rfl) fun a h0=>?_|refine T h0 rfl rfl (ak h0 rfl rfl (by first|exact G.fa _ (by decide)|exact G.g0|exact G.g1)) fun a h0=>?_|refine T h0 rfl rfl (ai h0 rfl rfl (by first|exact G.o24|exact G.o3|exact G.o63|exact G.o32) (bx).1 rfl) fun a h0=>?_);(first|refine T h0 rfl rfl (aa h0 (.inl rfl) rfl) fun a h0=>?_|refine T h0 rfl rfl (aa h0 (.inr rfl) rfl) fun a h0=>?_|refine T h0 rfl rfl (ab h0 rfl rfl) fun a h0=>?_|refine T h0 rfl rfl (ak h0 rfl rfl (by first|exact G.fa _ (by decide)|exact G.g0|exact G.g1)) fun a h0=>?_|refine T h0 rfl rfl (ai h0 rfl rfl (by first|exact G.o24|exact G.o3|exact G.o63|exact G.o32) (bx).1 rfl) fun a h0=>?_);(first|refine T h0 rfl rfl (aa h0 (.inl rfl) rfl) fun a h0=>?_|refine T h0 rfl rfl (aa h0 (.inr rfl) rfl) fun a h0=>?_|refine T h0 rfl rfl (ab h0 rfl rfl) fun a h0=>?_|refine T h0 rfl rfl (ak h0 rfl rfl (by first|exact G.fa _ (by decide)|exact G.g0|exact G.g1)) fun a h0=>?_|refine T h0 rfl rfl (ai h0 rfl rfl (by first|exact G.o24|exact G.o3|exact G.o63|exact G.o32) (bx).1 rfl) fun a h0=>?_);(first|refine T h0 rfl rfl (aa h0 (.inl rfl) rfl) fun a h0=>?_|refine T h0 rfl rfl (aa h0 (.inr rfl) rfl) fun a h0=>?_|refine T h0 rfl rfl (ab h0 rfl rfl) fun a h0=>?_|refine T h0 rfl rfl (ak h0 rfl rfl (by first|exact G.fa _ (by decide)|exact G.g0|exact G.g1)) fun a h0=>?_|refine T h0 rfl rfl (ai h0 rfl rfl (by first|exact G.o24|exact G.o3|exact G.o63|exact G.o32) (bx).1 rfl) fun a h0=>?_)
   refine T h0 rfl rfl (ir h0 rfl rfl gx.1 G.u32) fun a h0=>?_
   refine T h0 rfl rfl (aH h0 rfl rfl rfl G.u24 G.o3 fQ) fun a h0=>?_
   refine Te (Lst h0 rfl rfl rfl rfl rfl G.o3 rfl rfl rx (by simp;omega) fun w7 rx u7=>?_)
   have ox:=ox.up u7 (by decide)
   refine Le (ae ?_)
   have h0:SL 65 [(0,Ptr b 0),(5,.slice (some ⟨g2,0,none⟩) (ivs ys).length dT),(31,.slice (some ⟨g2,0,none⟩) (ivs ys).length dT),(32,iv ((ivs ys).length:Nat)),(33,iv j)] a:=h0.keep [0,5,31,32,33]
   refine L h0 rfl rfl (cC (j+1:Nat) h0 rfl rfl rfl (by omega) (by omega) (by omega)) fun a h0=>?_
   (first|refine L h0 rfl rfl (aa h0 (.inl rfl) rfl) fun a h0=>?_|refine L h0 rfl rfl (aa h0 (.inr rfl) rfl) fun a h0=>?_|refine L h0 rfl rfl (ab h0 rfl rfl) fun a h0=>?_)
   refine Le ⟨m - 1,by omega,j+1,by omega,h0.keep [0,5,31,32,33],O'.set (0+ys[j]) false,F'.set (0+ys[j]) xs.length,by simpa using hO',by simpa using hF',u4.trans ((u5.mono (by simp)).trans ((u6.mono (by simp)).trans (u7.mono (by simp)))),?_,?_,hFF.set cd gl (by omega)⟩
   ·rw[←Bw];exact ox
   ·rw[←xv];exact rx
  ·have hj:j=ys.length:=by simp at hc;omega
   subst hj
   rw[List.take_length]at hFF
   exact⟨rfl,h0.keep [0,5],O',F',hO',hF',u4,ox,rx,hFF⟩
 rintro _ a w4 ⟨rfl,h0,O',F',hO',hF',u4,ox,rx,hFF⟩
 have bx:=bx.up u4 (by decide)
 have ix:=ix.up u4 (by decide)
 have lx:=lx.up u4 (by decide)
 have sx:=sx.up u4 (by decide)
 have gx:=gx.up u4 (by decide)
 have gr:=cD gr u4 (by decide)
 have ed:=ed.up u4 (by decide)
 have dE:Fz w3 R2 lo (.sl (eZ ys)) (.slice (some ⟨g2,0,none⟩) (ivs ys).length dT):=dE
 have dE:=dE.up u4 (by decide)
 refine ae ?_
 (first|refine L h0 rfl rfl (aa h0 (.inl rfl) rfl) fun a h0=>?_|refine L h0 rfl rfl (aa h0 (.inr rfl) rfl) fun a h0=>?_|refine L h0 rfl rfl (ab h0 rfl rfl) fun a h0=>?_|refine L h0 rfl rfl (ak h0 rfl rfl (by first|exact G.fa _ (by decide)|exact G.g0|exact G.g1)) fun a h0=>?_|refine L h0 rfl rfl (ai h0 rfl rfl (by first|exact G.o24|exact G.o3|exact G.o63|exact G.o32) (bx).1 rfl) fun a h0=>?_);(first|refine L h0 rfl rfl (aa h0 (.inl rfl) rfl) fun a h0=>?_|refine L h0 rfl rfl (aa h0 (.inr rfl) rfl) fun a h0=>?_|refine L h0 rfl rfl (ab h0 rfl rfl) fun a h0=>?_|refine L h0 rfl rfl (ak h0 rfl rfl (by first|exact G.fa _ (by decide)|exact G.g0|exact G.g1)) fun a h0=>?_|refine L h0 rfl rfl (ai h0 rfl rfl (by first|exact G.o24|exact G.o3|exact G.o63|exact G.o32) (bx).1 rfl) fun a h0=>?_);(first|refine L h0 rfl rfl (aa h0 (.inl rfl) rfl) fun a h0=>?_|refine L h0 rfl rfl (aa h0 (.inr rfl) rfl) fun a h0=>?_|refine L h0 rfl rfl (ab h0 rfl rfl) fun a h0=>?_|refine L h0 rfl rfl (ak h0 rfl rfl (by first|exact G.fa _ (by decide)|exact G.g0|exact G.g1)) fun a h0=>?_|refine L h0 rfl rfl (ai h0 rfl rfl (by first|exact G.o24|exact G.o3|exact G.o63|exact G.o32) (bx).1 rfl) fun a h0=>?_);(first|refine L h0 rfl rfl (aa h0 (.inl rfl) rfl) fun a h0=>?_|refine L h0 rfl rfl (aa h0 (.inr rfl) rfl) fun a h0=>?_|refine L h0 rfl rfl (ab h0 rfl rfl) fun a h0=>?_|refine L h0 rfl rfl (ak h0 rfl rfl (by first|exact G.fa _ (by decide)|exact G.g0|exact G.g1)) fun a h0=>?_|refine L h0 rfl rfl (ai h0 rfl rfl (by first|exact G.o24|exact G.o3|exact G.o63|exact G.o32) (bx).1 rfl) fun a h0=>?_);(first|refine L h0 rfl rfl (aa h0 (.inl rfl) rfl) fun a h0=>?_|refine L h0 rfl rfl (aa h0 (.inr rfl) rfl) fun a h0=>?_|refine L h0 rfl rfl (ab h0 rfl rfl) fun a h0=>?_|refine L h0 rfl rfl (ak h0 rfl rfl (by first|exact G.fa _ (by decide)|exact G.g0|exact G.g1)) fun a h0=>?_|refine L h0 rfl rfl (ai h0 rfl rfl (by first|exact G.o24|exact G.o3|exact G.o63|exact G.o32) (bx).1 rfl) fun a h0=>?_);(first|refine L h0 rfl rfl (aa h0 (.inl rfl) rfl) fun a h0=>?_|refine L h0 rfl rfl (aa h0 (.inr rfl) rfl) fun a h0=>?_|refine L h0 rfl rfl (ab h0 rfl rfl) fun a h0=>?_|refine L h0 rfl rfl (ak h0 rfl rfl (by first|exact G.fa _ (by decide)|exact G.g0|exact G.g1)) fun a h0=>?_|refine L h0 rfl rfl (ai h0 rfl rfl (by first|exact G.o24|exact G.o3|exact G.o63|exact G.o32) (bx).1 rfl) fun a h0=>?_)
 refine rM h0 rfl rfl rfl rfl rfl rfl rfl rfl rfl (by simp) G.u32 G.o24 rfl rfl gx (by omega) fun vg w7 R7 a gx u7 one1 one2 h0=>?_
 ((try have bx:=bx.up u7 (by decide));(try have ix:=ix.up u7 (by decide));(try have lx:=lx.up u7 (by decide));(try have ox:=ox.up u7 (by decide));(try have sx:=sx.up u7 (by decide));(try have rx:=rx.up u7 (by decide));(try have gx:=gx.up u7 (by decide));(try have gr:=cD gr u7 (by decide));(try have ed:=ed.up u7 (by decide));(try have cx:=cx.up u7 (by decide)))
 have dE:=dE.up u7 (by decide)
 (first|refine L h0 rfl rfl (aa h0 (.inl rfl) rfl) fun a h0=>?_|refine L h0 rfl rfl (aa h0 (.inr rfl) rfl) fun a h0=>?_|refine L h0 rfl rfl (ab h0 rfl rfl) fun a h0=>?_|refine L h0 rfl rfl (ak h0 rfl rfl (by first|exact G.fa _ (by decide)|exact G.g0|exact G.g1)) fun a h0=>?_|refine L h0 rfl rfl (ai h0 rfl rfl (by first|exact G.o24|exact G.o3|exact G.o63|exact G.o32) (bx).1 rfl) fun a h0=>?_);(first|refine L h0 rfl rfl (aa h0 (.inl rfl) rfl) fun a h0=>?_|refine L h0 rfl rfl (aa h0 (.inr rfl) rfl) fun a h0=>?_|refine L h0 rfl rfl (ab h0 rfl rfl) fun a h0=>?_|refine L h0 rfl rfl (ak h0 rfl rfl (by first|exact G.fa _ (by decide)|exact G.g0|exact G.g1)) fun a h0=>?_|refine L h0 rfl rfl (ai h0 rfl rfl (by first|exact G.o24|exact G.o3|exact G.o63|exact G.o32) (bx).1 rfl) fun a h0=>?_)
 refine Lst h0 rfl rfl rfl rfl rfl G.o32 one1 one2 bx (by simp) fun w9 bx u9=>?_
 have bx:Cl w9 R7 1 b 65 (nH N {k with s:= .slice (some ⟨g,0,none⟩) i cap,g:=vg} p.n):=bx
 ((try have bx:=bx.up u9 (by decide));(try have ix:=ix.up u9 (by decide));(try have lx:=lx.up u9 (by decide));(try have ox:=ox.up u9 (by decide));(try have sx:=sx.up u9 (by decide));(try have rx:=rx.up u9 (by decide));(try have gx:=gx.up u9 (by decide));(try have gr:=cD gr u9 (by decide));(try have ed:=ed.up u9 (by decide));(try have cx:=cx.up u9 (by decide)))
 have dE:=dE.up u9 (by decide)
 have hr3:Rep w9 (fun c=>R7 c≠0) lo (.sl (eZ ys)) (.slice (some ⟨g2,0,none⟩) (ivs ys).length dT):=dE
 refine Le ⟨h0.defers,.tuple #[],⟨[],rfl,rfl⟩,R7,.slice (some ⟨g,0,none⟩) i cap,vg,i,ys,O',F',u.trans ((u4.mono (by simp)).trans ((u7.mono (by simp)).trans (u9.mono (by simp)))),hiv,hp,hFF,?_⟩
 exact⟨bx,ix,lx,ox,sx,rx,⟨xs++ [.slice (some ⟨g2,0,none⟩) (ivs ys).length dT],by simp[gl],gx,qf gr gl hr3⟩,ed,hi,hl,hO',hF'⟩
end Go.TL.H.Gq
namespace Go.TL.Gr
structure TJ(N:Nat)(way stack:List Nat)(index:List Nat):Prop where
 sub:List.Sublist way stack
 nd:stack.Nodup
 inb:∀s∈stack,s<N∧∃x,index[s]? =some x∧x≠0
theorem TJ.met{N v:Nat}{way stack:List Nat}{index:List Nat}{n:Nat}(h:TJ N way stack index)(hN:index.length=N)(hv:index[v]? =some 0)(hn:n≠0):TJ N (way++ [v]) (stack++ [v]) (index.set v n):=by
 have hvl:v<index.length:=(CA hv).1
 have hns:v ∉ stack:=fun hm=>by
  obtain⟨_,x,hx,hx0⟩:=h.inb v hm
  rw[hv]at hx;cases hx;exact hx0 rfl
 refine⟨h.sub.append (List.Sublist.refl _),List.nodup_append.2 ⟨h.nd,by simp,fun a ha b hb=>?_⟩,fun s hs=>?_⟩
 ·simp at hb;subst hb;intro e;subst e;exact hns ha
 ·rcases CC hs with hs|hs
  ·obtain⟨h1,x,hx,hx0⟩:=h.inb s hs
   refine⟨h1,x,?_,hx0⟩
   rw[List.getElem?_set_ne (fun e=>by subst e;exact hns hs)];exact hx
  ·simp at hs;subst hs
   exact⟨by omega,n,by simp[hvl],hn⟩
theorem TJ.pop{N v:Nat}{way stack:List Nat}{index:List Nat}(h:TJ N (way++ [v]) stack index):TJ N way stack index:=
 ⟨(List.sublist_append_left way [v]).trans h.sub,h.nd,h.inb⟩
theorem TJ.mem{N v:Nat}{way stack:List Nat}{index:List Nat}(h:TJ N (way++ [v]) stack index):v∈stack:=h.sub.subset (by simp)
theorem TJ.cut{N v i:Nat}{way stack:List Nat}{index:List Nat}(h:TJ N (way++ [v]) stack index)(hi:stack[i]? =some v):TJ N way (stack.take i) index:=by
 have fh:i<stack.length:=(CA hi).1
 have hs:stack=stack.take i++v::stack.drop (i+1):=by
  conv=>lhs;rw[←List.take_append_drop i stack]
  congr 1
  rw[List.drop_eq_getElem_cons fh]
  congr 1
  rw[List.getElem?_eq_getElem fh]at hi;exact Option.some.inj hi
 have hnd:=h.nd
 rw[hs]at hnd
 obtain⟨n1,n2,n3⟩:=List.nodup_append.1 hnd
 have hvd:v ∉ stack.drop (i+1):=(List.nodup_cons.1 n2).1
 have hva:v ∉ stack.take i:=fun hm=>n3 v hm v (by simp) rfl
 have gN:=h.sub
 rw[hs]at gN
 obtain⟨l1,l2,e,s1,s2⟩:=List.sublist_append_iff.1 gN
 have dQ:l2≠ []:=fun e0=>by
  subst e0
  rw[List.append_nil]at e
  exact hva (s1.subset (by rw[←e];simp))
 obtain⟨xs,y,rfl⟩:=(List.eq_nil_or_concat l2).resolve_left dQ
 rw[List.concat_eq_append]at e s2
 rw[←List.append_assoc]at e
 obtain⟨e1,e2⟩:=List.append_inj' e rfl
 simp at e2;subst e2
 have hx:xs=[]:=by
  cases xs with
  |nil=>rfl
  |cons x xs=>
   exfalso
   cases s2 with
   |cons _ s=>exact hvd (s.subset (by simp))
   |cons_cons _ s=>exact hvd (s.subset (by simp))
 subst hx
 rw[List.append_nil]at e1
 subst e1
 exact⟨s1,(List.take_sublist i stack).nodup h.nd,fun s hm=>h.inb s (List.mem_of_mem_take hm)⟩
def iK(l:List Nat):Nat:=(l.filter (· ==0)).length
theorem qg:∀{l:List Nat} {v:Nat} {n:Nat},l[v]? =some 0→n≠0→iK (l.set v n)+1=iK l
 | [],v,n,h,_=>by simp at h
 |x::l,0,n,h,hn=>by
  simp at h;subst h
  simp[iK,hn]
 |x::l,v+1,n,h,hn=>by
  have:=qg (l:=l) (v:=v) (n:=n) (by simpa using h) hn
  simp only[iK,List.set_cons_succ,List.filter_cons]at this ⊢
  split
  ·simp only[List.length_cons];omega
  ·exact this
def unm:List (List Nat)→List Nat→Nat
 |e::E,x::I=>(if x=0 then e.length+2 else 0)+unm E I
 |_,_=>0
theorem s9:∀{E:List (List Nat)} {I:List Nat} {v:Nat} {n:Nat} {e:List Nat},I[v]? =some 0→E[v]? =some e→n≠0→unm E (I.set v n)+(e.length+2)=unm E I
 | [],I,v,n,e,_,h,_=>by simp at h
 |_::_,[],v,n,e,h,_,_=>by simp at h
 |e'::E,x::I,0,n,e,h1,h2,hn=>by
  simp at h1 h2;subst h1;subst h2
  simp only[List.set_cons_zero,unm,if_neg hn]
  simp;omega
 |e'::E,x::I,v+1,n,e,h1,h2,hn=>by
  have:=s9 (E:=E) (I:=I) (v:=v) (n:=n) (e:=e) (by simpa using h1) (by simpa using h2) hn
  simp only[List.set_cons_succ,unm];omega
def kc(E:List (List Nat)):List (Nat×Nat)→Nat
 | []=>0
 |(v,k)::r=>(E.getD v []).length - k+1+kc E r
theorem iY(E:List (List Nat))(v k:Nat):∀r,kc E (r++ [(v,k)])=kc E r+((E.getD v []).length - k+1)
 | []=>by simp[kc]
 |(a,b)::r=>by simp only[List.cons_append,kc,iY E v k r];omega
end Go.TL.Gr
