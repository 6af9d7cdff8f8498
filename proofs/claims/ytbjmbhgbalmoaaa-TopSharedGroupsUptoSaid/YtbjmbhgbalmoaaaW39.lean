/- order, by hand. -/
import Derived.Test.YtbjmbhgbalmoaaaW38
set_option maxRecDepth 100000
namespace Go.TL.H.Gq
open Go Go.TL.Gr
variable {P:Program} {w:World} {R:Nat→Nat} {b N lo:Nat} {E:List (List Nat)} {k:Ks} {p:Pu}
abbrev izs(l:List Int):List Value:=l.map fun(x:Int)=>iv x
theorem Ax(l:List Int)(i:Nat)(x:Int):(izs l).set i (iv x)=izs (l.set i x):=by simp[List.map_set]
def SO(n:Nat):List Nat:=10::11::12::30::31::(List.range n).map (1000+ ·)
theorem vY{n x:Nat}(h:x∈SO n):10≤x∧x≠99:=by
 simp only[SO,List.mem_cons,List.mem_map]at h
 rcases h with rfl|rfl|rfl|rfl|rfl|⟨y,_,rfl⟩<;>omega
structure Oi(w0 w:World)(R0 R:Nat→Nat)(b N lo:Nat)(E:List (List Nat))(k:Ks)(p:Pu)(bw bu:Nat)(ws:List Int)(ll:List (List Nat))(os:List Value):Prop where
 fs:Fs w R b N lo E k p
 wt:Cl w R 30 bw 3 (izs ws)
 ul:Pl w R 1000 os ll
 uo:Cl w R 31 bu 24 os
 up:Up (SO p.G.length) R0 R w0 w
 wl:ws.length=p.G.length
 ln:ll.length=p.G.length
theorem Oi.mv{w0 w w':World}{R0 R R':Nat→Nat}{bw bu:Nat}{ws:List Int}{ll:List (List Nat)}{os:List Value}{S:List Nat}(h:Oi w0 w R0 R b N lo E k p bw bu ws ll os)(u:Up S R R' w w')(hS:∀x∈S,x=10∨x=11∨x=12):Oi w0 w' R0 R' b N lo E k p bw bu ws ll os:=
 ⟨h.fs.up u fun x hx=>by rcases hS x hx with rfl|rfl|rfl<;>omega,h.wt.up u fun hx=>by rcases hS _ hx with h|h|h<;>omega,h.ul.up u fun x hx=>by rcases hS x hx with rfl|rfl|rfl<;>omega,h.uo.up u fun hx=>by rcases hS _ hx with h|h|h<;>omega,
  h.up.trans (u.mono fun x hx=>by rcases hS x hx with rfl|rfl|rfl<;>simp[SO]),h.wl,h.ln⟩
theorem Oi.ws{w0 w w':World}{R0 R R':Nat→Nat}{bw bu:Nat}{ws ws':List Int}{ll:List (List Nat)}{os:List Value}(h:Oi w0 w R0 R b N lo E k p bw bu ws ll os)(c:Cl w' R' 30 bw 3 (izs ws'))(u:Up [30] R R' w w')(hl:ws'.length=ws.length):Oi w0 w' R0 R' b N lo E k p bw bu ws' ll os:=
 ⟨h.fs.up u (by simp),c,h.ul.up u (by simp),h.uo.up u (by simp),h.up.trans (u.mono fun x hx=>by simp at hx;subst hx;simp[SO]),hl.trans h.wl,h.ln⟩
theorem Ay{w:World}{R:Nat→Nat}{xs:List Value}{GG:List (List Nat)}(h:bE w (fun c=>R c≠0) lo 1 (cM GG) xs){i:Nat}{l:List Nat}(hi:GG[i]? =some l):∃v,xs[i]? =some v∧Rep w (fun c=>R c≠0) lo (.sl (eZ l)) v:=by
 obtain⟨f,_,h2,h3⟩:=h
 have hr:(cM GG)[i]? =some [.sl (eZ l)]:=by simp[hi]
 exact⟨f i 0,by have:=h2 i _ 0 _ hr rfl;simpa using this,h3 i _ 0 _ hr rfl⟩
theorem uv(h:Fs w R b N lo E k p){i:Nat}{l:List Nat}(hi:p.G[i]? =some l):∃bg cap cs t fz v,k.g= .slice (some ⟨bg,0,none⟩) p.G.length cap∧w.heap[bg]? =some (.cells cs t fz)∧cs[0+i]? =some v∧Rep w (fun c=>R c≠0) lo (.sl (eZ l)) v∧v.oneCell'=true∧v.cells= #[v]:=by
 obtain⟨xs,h1,h2,h3⟩:=h.gr
 obtain⟨v,hv,hr⟩:=Ay h3 hi
 have fh:=(CA hv).1
 obtain⟨g,cap,cs,e,hc,hg,dR,ht⟩:=h2.mem (fun e=>by rw[e]at fh;simp at fh)
 rw[h1]at e ht hc
 refine⟨g,cap,cs.toArray,_,_,v,e,hg.1,?_,hr,?_⟩
 ·rw[←ht,List.getElem?_take_of_lt (by omega)]at hv
  simpa using hv
 ·obtain⟨p',c',rfl⟩:=aZ hr
  exact⟨rfl,rfl⟩
def Os(b N:Nat)(k:Ks)(p:Pu)(w:World):Prop:=w.heap[b]? =some (.cells (nH N k p.n).toArray 65 (0,0))∧w.heap[k.f]? =some (.cells (ivs p.F).toArray 3 (0,0))
theorem Fs.os(h:Fs w R b N lo E k p):Os b N k p w:=⟨h.box.1,h.of.1⟩
theorem ze{n i j:Nat}{u v:Value}{sl:aT}{a:Act}(h:SL n ((i,u)::(j,v)::sl) a)(hij:i≠j):SL n ((j,v)::(i,u)::sl) a:=⟨h.size,h.defers,fun t x hl=>h.az t x (by
 by_cases h1:t=i
 ·subst h1;rw[av _ _ _ _ hij,aE]at hl;rw[aE];exact hl
 ·by_cases h2:t=j
  ·subst h2;rw[aE]at hl;rw[av _ _ _ _ h1,aE];exact hl
  ·rw[av _ _ _ _ h2,av _ _ _ _ h1]at hl;rw[av _ _ _ _ h1,av _ _ _ _ h2];exact hl)⟩
theorem Y2r{ops:Array Oper}{Q:Exit→Act→World→Prop}{S:World→Prop}{oi oj:Oper}{n di dj fuel:Nat}{sl:aT}{a:Act}{w w1:World}{u v:Value}(i j:Nat){listed l':Array Bool}(h:SL n sl a)(hi:ops[i]? =some oi)(hj:ops[j]? =some oj)(gi:oi.guard=none)(gj:oj.guard=none)
  (ei:oi.dst=some di)(ej:oj.dst=some dj)(hd:di≠dj)(ki:dok n oi.dst=true)(kj:dok n oj.dst=true)(hr:Region.ready .any ops listed=[i,j])(hr1:Region.ready .any ops (listed.setIfInBounds i true)=[j])(dE:Region.ready .any ops (listed.setIfInBounds j true)=[i])
  (l1:(listed.setIfInBounds i true).setIfInBounds j true=l')(l2:(listed.setIfInBounds j true).setIfInBounds i true=l')(hS:S w)(hS1:S w1)
  (xi:∀a sl',(∀t x,lk sl t=some x→lk sl' t=some x)→SL n sl' a→∀w',w'=w∨w'=w1→(execOp a.eval oi).run P w'= .ok (.value v) w')(xj:∀a sl',(∀t x,lk sl t=some x→lk sl' t=some x)→SL n sl' a→(execOp a.eval oj).run P w= .ok (.value u) w1)
  (ni:lk sl di=none)(nj:lk sl dj=none)
  (k:∀a',SL n ((dj,u)::(di,v)::sl) a'→wpAnyH P .any ops Q S fuel l' a' w1):wpAnyH P .any ops Q S (fuel+2) listed a w:=by
 have w1':∀{d:Nat} {z:Value},lk sl d=none→∀t x,lk sl t=some x→lk ((d,z)::sl) t=some x:=fun hn t x hx=>by
  rw[av _ _ _ _ (fun e=>by subst e;rw[hn]at hx;cases hx)];exact hx
 refine wpAnyH_all hr (by simp) fun q hq=>?_
 simp at hq
 rcases hq with rfl|rfl
 ·refine aj h hi gi ki (xi a sl (fun _ _ h=>h) h w (.inl rfl)) fun a1 h1=>⟨hS,?_⟩
  rw[ei]at h1
  refine Y1H j hr1 (aj h1 hj gj kj (xj a1 _ (w1' ni) h1) fun a2 h2=>⟨hS1,?_⟩)
  rw[ej]at h2
  rw[l1];exact k a2 h2
 ·refine aj h hj gj kj (xj a sl (fun _ _ h=>h) h) fun a1 h1=>⟨hS1,?_⟩
  rw[ej]at h1
  refine Y1H i dE (aj h1 hi gi ki (xi a1 _ (w1' nj) h1 w1 (.inr rfl)) fun a2 h2=>⟨hS1,?_⟩)
  rw[ei]at h2
  rw[l2];exact k a2 (ze h2 hd)
theorem vZ{sl sl':aT}(hs:∀t x,lk sl t=some x→lk sl' t=some x){x:Operand}{v:Value}(e:H.ev sl x=some v):H.ev sl' x=some v:=by
 cases x with
 |tmp t=>exact hs t v e
 |_=>exact e
def Om(b N lo:Nat)(E:List (List Nat))(k:Ks)(p:Pu)(w0:World)(R0:Nat→Nat)(bw bu bt:Nat)(ll:List (List Nat))(os:List Value)(w:World)(R:Nat→Nat)(ws:List Int)(ts:List Nat)(vo:Value)(xs:List Value)(gs:List (List Nat))(m:Nat):Prop:=
 Oi w0 w R0 R b N lo E k p bw bu ws ll os∧HB w R bt ts∧(∀x∈ts,∃g,p.F[x]? =some g∧g<p.G.length)∧Ow w R 12 24 vo xs∧xs.length=gs.length∧bE w (fun c=>R c≠0) lo 1 (cM gs) xs∧
  m=tW p.F p.G ts+fO p.G ws∧dh gs+(tW p.F p.G ts+fO p.G ws)≤dh p.G∧gs.length≤dh gs∧(∀g∈gs,∀x∈g,x<N)∧∀x∈ws, -((gs.length:Int)*1000000000000)≤x∧x≤1000000000000
theorem th{bad:Nat→Prop}:bE w bad lo 1 (cM []) []:=⟨fun _ _=>undef,fun i row h=>by simp at h,fun i row j x h=>by simp at h,fun i row j x h=>by simp at h⟩
set_option maxHeartbeats 1000000 in
theorem v8(G:GT P)(B:GB P)(hF:Fs w R b N lo E k p)(hW:WF N E p)(hN:N≤1000000):
  Ret P 29 [Ptr b 0] w fun r w'=>∃R' xs gs,Up (SO p.G.length) R R' w w'∧Ow w' R' 12 24 r xs∧xs.length=gs.length∧bE w' (fun c=>R' c≠0) lo 1 (cM gs) xs∧dh gs≤N∧gs.length≤N∧∀g∈gs,∀x∈g,x<N:=by
 have hMN:p.G.length≤N:=by have:=hW.gl;have:=hW.nz;omega
 have hSN:dh p.G≤N:=by have:=hW.gw;have:=hW.nz;simp only[dh];omega
 have hlF:=hF.lF
 refine aJ B.b29 ?_
 have h0:=SL.init (n:=179) [Ptr b 0] rfl
 (revert h0;generalize({tmps:=_,defers:=[]}:Act)=a;intro h0)
 refine ah (ae ?_)
 (first|refine L h0 rfl rfl (aa h0 (.inl rfl) rfl) fun a h0=>?_|refine L h0 rfl rfl (aa h0 (.inr rfl) rfl) fun a h0=>?_|refine L h0 rfl rfl (ab h0 rfl rfl) fun a h0=>?_)
 refine Le (ah (ae ?_))
 (first|refine L h0 rfl rfl (aa h0 (.inl rfl) rfl) fun a h0=>?_|refine L h0 rfl rfl (aa h0 (.inr rfl) rfl) fun a h0=>?_|refine L h0 rfl rfl (ab h0 rfl rfl) fun a h0=>?_|refine L h0 rfl rfl (ak h0 rfl rfl (by first|exact G.fa _ (by decide)|exact G.g0|exact G.g1)) fun a h0=>?_|refine L h0 rfl rfl (ai h0 rfl rfl (by first|exact G.o24|exact G.o3|exact G.o63|exact G.o32) (hF.box).1 rfl) fun a h0=>?_);(first|refine L h0 rfl rfl (aa h0 (.inl rfl) rfl) fun a h0=>?_|refine L h0 rfl rfl (aa h0 (.inr rfl) rfl) fun a h0=>?_|refine L h0 rfl rfl (ab h0 rfl rfl) fun a h0=>?_|refine L h0 rfl rfl (ak h0 rfl rfl (by first|exact G.fa _ (by decide)|exact G.g0|exact G.g1)) fun a h0=>?_|refine L h0 rfl rfl (ai h0 rfl rfl (by first|exact G.o24|exact G.o3|exact G.o63|exact G.o32) (hF.box).1 rfl) fun a h0=>?_);(first|refine L h0 rfl rfl (aa h0 (.inl rfl) rfl) fun a h0=>?_|refine L h0 rfl rfl (aa h0 (.inr rfl) rfl) fun a h0=>?_|refine L h0 rfl rfl (ab h0 rfl rfl) fun a h0=>?_|refine L h0 rfl rfl (ak h0 rfl rfl (by first|exact G.fa _ (by decide)|exact G.g0|exact G.g1)) fun a h0=>?_|refine L h0 rfl rfl (ai h0 rfl rfl (by first|exact G.o24|exact G.o3|exact G.o63|exact G.o32) (hF.box).1 rfl) fun a h0=>?_);(first|refine L h0 rfl rfl (aa h0 (.inl rfl) rfl) fun a h0=>?_|refine L h0 rfl rfl (aa h0 (.inr rfl) rfl) fun a h0=>?_|refine L h0 rfl rfl (ab h0 rfl rfl) fun a h0=>?_|refine L h0 rfl rfl (ak h0 rfl rfl (by first|exact G.fa _ (by decide)|exact G.g0|exact G.g1)) fun a h0=>?_|refine L h0 rfl rfl (ai h0 rfl rfl (by first|exact G.o24|exact G.o3|exact G.o63|exact G.o32) (hF.box).1 rfl) fun a h0=>?_)
 obtain⟨xs0,gl0,gx0,gr0⟩:=hF.gr
 refine L h0 rfl rfl (ir h0 rfl rfl gx0.1 G.u32) fun a h0=>?_
 rw[gl0]at h0
 refine Lmk R 30 h0 rfl rfl rfl rfl rfl G.u24 G.o3 (by omega) fun bw w1 R1 a c1 u1 hbw h0=>?_
 (first|refine L h0 rfl rfl (aa h0 (.inl rfl) rfl) fun a h0=>?_|refine L h0 rfl rfl (aa h0 (.inr rfl) rfl) fun a h0=>?_|refine L h0 rfl rfl (ab h0 rfl rfl) fun a h0=>?_)
 have F1:=hF.up u1 (by simp)
 have h0:SL 179 [(0,Ptr b 0),(3,sl bw p.G.length)] a:=h0.keep [0,3]
 refine Le (ah (ae ?_))
 (first|refine L h0 rfl rfl (aa h0 (.inl rfl) rfl) fun a h0=>?_|refine L h0 rfl rfl (aa h0 (.inr rfl) rfl) fun a h0=>?_|refine L h0 rfl rfl (ab h0 rfl rfl) fun a h0=>?_|refine L h0 rfl rfl (ak h0 rfl rfl (by first|exact G.fa _ (by decide)|exact G.g0|exact G.g1)) fun a h0=>?_|refine L h0 rfl rfl (ai h0 rfl rfl (by first|exact G.o24|exact G.o3|exact G.o63|exact G.o32) (F1.box).1 rfl) fun a h0=>?_);(first|refine L h0 rfl rfl (aa h0 (.inl rfl) rfl) fun a h0=>?_|refine L h0 rfl rfl (aa h0 (.inr rfl) rfl) fun a h0=>?_|refine L h0 rfl rfl (ab h0 rfl rfl) fun a h0=>?_|refine L h0 rfl rfl (ak h0 rfl rfl (by first|exact G.fa _ (by decide)|exact G.g0|exact G.g1)) fun a h0=>?_|refine L h0 rfl rfl (ai h0 rfl rfl (by first|exact G.o24|exact G.o3|exact G.o63|exact G.o32) (F1.box).1 rfl) fun a h0=>?_);(first|refine L h0 rfl rfl (aa h0 (.inl rfl) rfl) fun a h0=>?_|refine L h0 rfl rfl (aa h0 (.inr rfl) rfl) fun a h0=>?_|refine L h0 rfl rfl (ab h0 rfl rfl) fun a h0=>?_|refine L h0 rfl rfl (ak h0 rfl rfl (by first|exact G.fa _ (by decide)|exact G.g0|exact G.g1)) fun a h0=>?_|refine L h0 rfl rfl (ai h0 rfl rfl (by first|exact G.o24|exact G.o3|exact G.o63|exact G.o32) (F1.box).1 rfl) fun a h0=>?_);(first|refine L h0 rfl rfl (aa h0 (.inl rfl) rfl) fun a h0=>?_|refine L h0 rfl rfl (aa h0 (.inr rfl) rfl) fun a h0=>?_|refine L h0 rfl rfl (ab h0 rfl rfl) fun a h0=>?_|refine L h0 rfl rfl (ak h0 rfl rfl (by first|exact G.fa _ (by decide)|exact G.g0|exact G.g1)) fun a h0=>?_|refine L h0 rfl rfl (ai h0 rfl rfl (by first|exact G.o24|exact G.o3|exact G.o63|exact G.o32) (F1.box).1 rfl) fun a h0=>?_)
 obtain⟨xs1,gl1,gx1,gr1⟩:=F1.gr
 refine L h0 rfl rfl (ir h0 rfl rfl gx1.1 G.u32) fun a h0=>?_
 rw[gl1]at h0
 refine Lmk R1 31 h0 rfl rfl rfl rfl rfl G.u32 G.o24 (by omega) fun bu w2 R2 a c2 u2 hbu h0=>?_
 (first|refine L h0 rfl rfl (aa h0 (.inl rfl) rfl) fun a h0=>?_|refine L h0 rfl rfl (aa h0 (.inr rfl) rfl) fun a h0=>?_|refine L h0 rfl rfl (ab h0 rfl rfl) fun a h0=>?_)
 have F2:=F1.up u2 (by simp)
 have h0:SL 179 [(0,Ptr b 0),(3,sl bw p.G.length),(4,sl bu p.G.length)] a:=h0.keep [0,3,4]
 have I2:Oi w w2 R R2 b N lo E k p bw bu (List.replicate p.G.length 0) (List.replicate p.G.length []) (List.replicate p.G.length (.slice none 0 0)):=
  ⟨F2,by simpa using c1.up u2 (by decide),Pl.new 1000 _,c2,(u1.trans u2).mono (by simp),by simp,by simp⟩
 clear F1 F2 gx0 gr0 gx1 gr1 c1 c2
 obtain⟨pE,cE,hkE⟩:=aZ hF.ed
 rw[show(cM E).length=N by simp[hW.el]]at hkE
 refine Le (ah (ah (ae ?_)))
 (first|refine L h0 rfl rfl (aa h0 (.inl rfl) rfl) fun a h0=>?_|refine L h0 rfl rfl (aa h0 (.inr rfl) rfl) fun a h0=>?_|refine L h0 rfl rfl (ab h0 rfl rfl) fun a h0=>?_|refine L h0 rfl rfl (ak h0 rfl rfl (by first|exact G.fa _ (by decide)|exact G.g0|exact G.g1)) fun a h0=>?_|refine L h0 rfl rfl (ai h0 rfl rfl (by first|exact G.o24|exact G.o3|exact G.o63|exact G.o32) (I2.fs.box).1 rfl) fun a h0=>?_);(first|refine L h0 rfl rfl (aa h0 (.inl rfl) rfl) fun a h0=>?_|refine L h0 rfl rfl (aa h0 (.inr rfl) rfl) fun a h0=>?_|refine L h0 rfl rfl (ab h0 rfl rfl) fun a h0=>?_|refine L h0 rfl rfl (ak h0 rfl rfl (by first|exact G.fa _ (by decide)|exact G.g0|exact G.g1)) fun a h0=>?_|refine L h0 rfl rfl (ai h0 rfl rfl (by first|exact G.o24|exact G.o3|exact G.o63|exact G.o32) (I2.fs.box).1 rfl) fun a h0=>?_);(first|refine L h0 rfl rfl (aa h0 (.inl rfl) rfl) fun a h0=>?_|refine L h0 rfl rfl (aa h0 (.inr rfl) rfl) fun a h0=>?_|refine L h0 rfl rfl (ab h0 rfl rfl) fun a h0=>?_|refine L h0 rfl rfl (ak h0 rfl rfl (by first|exact G.fa _ (by decide)|exact G.g0|exact G.g1)) fun a h0=>?_|refine L h0 rfl rfl (ai h0 rfl rfl (by first|exact G.o24|exact G.o3|exact G.o63|exact G.o32) (I2.fs.box).1 rfl) fun a h0=>?_);(first|refine L h0 rfl rfl (aa h0 (.inl rfl) rfl) fun a h0=>?_|refine L h0 rfl rfl (aa h0 (.inr rfl) rfl) fun a h0=>?_|refine L h0 rfl rfl (ab h0 rfl rfl) fun a h0=>?_|refine L h0 rfl rfl (ak h0 rfl rfl (by first|exact G.fa _ (by decide)|exact G.g0|exact G.g1)) fun a h0=>?_|refine L h0 rfl rfl (ai h0 rfl rfl (by first|exact G.o24|exact G.o3|exact G.o63|exact G.o32) (I2.fs.box).1 rfl) fun a h0=>?_)
 refine L h0 rfl rfl (aM (p:=pE) (m:=N) (c:=cE) h0 rfl (by rw[←hkE];rfl) G.u32) fun a h0=>?_
 (first|refine L h0 rfl rfl (aa h0 (.inl rfl) rfl) fun a h0=>?_|refine L h0 rfl rfl (aa h0 (.inr rfl) rfl) fun a h0=>?_|refine L h0 rfl rfl (ab h0 rfl rfl) fun a h0=>?_)
 refine Le (NW.mono (Q:=fun e a w3=>e= .normal∧SL 179 [(0,Ptr b 0),(3,sl bw p.G.length),(4,sl bu p.G.length)] a∧∃R3 ws ll os,Oi w w3 R R3 b N lo E k p bw bu ws ll os∧(∀x∈ws,(0:Int)≤x∧x≤1000000000000)∧∀l∈ll,l.length≤1000000000000∧∀y∈l,y<p.G.length) ?_ ?_)
 ·refine au (aW (fun m a w3=>∃j:Nat,m+j=N∧SL 179 [(0,Ptr b 0),(3,sl bw p.G.length),(4,sl bu p.G.length),(31,k.e),(32,iv (N:Nat)),(33,iv j)] a∧∃R3 ws ll os,Oi w w3 R R3 b N lo E k p bw bu ws ll os∧(∀x∈ws,(0:Int)≤x∧x≤j*1000000)∧∀l∈ll,l.length≤j*1000000∧∀y∈l,y<p.G.length) N ⟨0,rfl,h0.keep [0,3,4,31,32,33],R2,_,_,_,I2,fun x hx=>by rw[List.mem_replicate]at hx;omega,fun l hl=>by rw[List.mem_replicate]at hl;rw[hl.2];simp⟩ ?_)
  rintro m a w3 ⟨j,hmj,h0,R3,ws,ll,os,I3,hws,gz⟩
  refine ah (ae ?_)
  refine L h0 rfl rfl (aG h0 rfl rfl rfl rfl) fun a h0=>?_
  refine Le (ah (ar (h0.ev rfl) (fun hc=>aw ?_) (fun hc=>aN ⟨rfl,h0.keep [0,3,4],R3,ws,ll,os,I3,fun x hx=>?_,fun l hl=>?_⟩)))
  rotate_left
  ·have:=hws x hx;omega
  ·have:=gz l hl;exact⟨by omega,this.2⟩
  have hj:j<N:=by simpa using hc
  obtain⟨l,hl⟩:∃l,E[j]? =some l:=⟨_,List.getElem?_eq_getElem (by rw[hW.el];exact hj)⟩
  have hlb:=hW.ls l (CE hl)
  have hlN:∀y∈l,y<N:=hW.eb l (CE hl)
  obtain⟨ge,oe,ce,cse,te,fze,ue,hke,he1,he2,he3⟩:=da (x:= .sl (eZ l)) (i:=j) I3.fs.ed (by simp[hl])
  obtain⟨pe,dT,rfl⟩:=aZ he3
  rw[show(cM E).length=N by simp[hW.el]]at hke
  rw[show(eZ l).length=l.length by simp]at he2 he3
  refine ah (au (ah (ae ?_)))
  (first|refine L h0 rfl rfl (aa h0 (.inl rfl) rfl) fun a h0=>?_|refine L h0 rfl rfl (aa h0 (.inr rfl) rfl) fun a h0=>?_|refine L h0 rfl rfl (ab h0 rfl rfl) fun a h0=>?_)
  refine L h0 rfl rfl (aH (t:=32) (b:=ge) (o':=oe) (m:=N) (c:=ce) h0 rfl (by rw[←hke];rfl) rfl G.u32 G.o24 hj) fun a h0=>?_
  refine L h0 rfl rfl (ai h0 rfl rfl G.o24 he1 he2) fun a h0=>?_
  (first|refine L h0 rfl rfl (aa h0 (.inl rfl) rfl) fun a h0=>?_|refine L h0 rfl rfl (aa h0 (.inr rfl) rfl) fun a h0=>?_|refine L h0 rfl rfl (ab h0 rfl rfl) fun a h0=>?_);(first|refine L h0 rfl rfl (aa h0 (.inl rfl) rfl) fun a h0=>?_|refine L h0 rfl rfl (aa h0 (.inr rfl) rfl) fun a h0=>?_|refine L h0 rfl rfl (ab h0 rfl rfl) fun a h0=>?_)
  refine Le (ah (ae ?_))
  (first|refine L h0 rfl rfl (aa h0 (.inl rfl) rfl) fun a h0=>?_|refine L h0 rfl rfl (aa h0 (.inr rfl) rfl) fun a h0=>?_|refine L h0 rfl rfl (ab h0 rfl rfl) fun a h0=>?_)
  refine L h0 rfl rfl (aM h0 rfl rfl G.u24) fun a h0=>?_
  (first|refine L h0 rfl rfl (aa h0 (.inl rfl) rfl) fun a h0=>?_|refine L h0 rfl rfl (aa h0 (.inr rfl) rfl) fun a h0=>?_|refine L h0 rfl rfl (ab h0 rfl rfl) fun a h0=>?_)
  refine Le (au (aW (fun m' a w4=>∃q:Nat,m'+q=l.length∧SL 179 [(0,Ptr b 0),(3,sl bw p.G.length),(4,sl bu p.G.length),(31,k.e),(32,iv (N:Nat)),(33,iv j),(5,iv j),(38,.slice pe l.length dT),(39,iv (l.length:Nat)),(40,iv q)] a∧∃R4 ws ll os,Oi w w4 R R4 b N lo E k p bw bu ws ll os∧Up (SO p.G.length) R3 R4 w3 w4∧(∀x∈ws,(0:Int)≤x∧x≤j*1000000+q)∧∀l∈ll,l.length≤j*1000000+q∧∀y∈l,y<p.G.length) l.length ⟨0,rfl,h0.keep [0,3,4,31,32,33,5,38,39,40],R3,ws,ll,os,I3,Up.rfl,fun x hx=>by have:=hws x hx;omega,fun l hl=>by have:=gz l hl;exact⟨by omega,this.2⟩⟩ ?_))
  clear h0 I3 hws gz ws ll os
  rintro m' a w4 ⟨q,hmq,h0,R4,ws,ll,os,I4,u34,hws,gz⟩
  refine ah (ae ?_)
  refine L h0 rfl rfl (aG h0 rfl rfl rfl rfl) fun a h0=>?_
  refine Le (ah (ar (h0.ev rfl) (fun hc=>aw ?_) (fun hc=>aN (ae ?_))))
  rotate_left
  ·have hq:q=l.length:=by simp at hc;omega
   refine L h0 rfl rfl (cC (j+1:Nat) h0 rfl rfl rfl (by omega) (by omega) (by omega)) fun a h0=>?_
   (first|refine L h0 rfl rfl (aa h0 (.inl rfl) rfl) fun a h0=>?_|refine L h0 rfl rfl (aa h0 (.inr rfl) rfl) fun a h0=>?_|refine L h0 rfl rfl (ab h0 rfl rfl) fun a h0=>?_)
   refine Le ⟨m - 1,by omega,j+1,by omega,h0.keep [0,3,4,31,32,33],R4,ws,ll,os,I4,fun x hx=>?_,fun l hl=>?_⟩
   ·have:=hws x hx;omega
   ·have:=gz l hl;exact⟨by omega,this.2⟩
  have hql:q<l.length:=by simpa using hc
  have fQ:l[q]<N:=hlN _ (List.getElem_mem hql)
  have he4:=(show Fz w3 R3 0 _ _ from he3).up u34 (fun h=>by have:=vY h;omega)
  obtain⟨gi,oi,ci,csi,ti,fzi,ui,hki,hi1,hi2,hi3⟩:=da (x:= .v (iv (l[q]:Nat))) (i:=q) he4 (by simp[hql])
  have hui:ui=iv (l[q]:Nat):=by cases hi3;rfl
  subst hui
  rw[show(eZ l).length=l.length by simp]at hki
  refine ah (au (ah (ae ?_)))
  refine L h0 rfl rfl (aH (t:=24) (b:=gi) (o':=oi) (m:=l.length) (c:=ci) h0 rfl (by rw[←hki];rfl) rfl G.u24 G.o3 hql) fun a h0=>?_
  refine L h0 rfl rfl (ai h0 rfl rfl G.o3 hi1 hi2) fun a h0=>?_
  (first|refine L h0 rfl rfl (aa h0 (.inl rfl) rfl) fun a h0=>?_|refine L h0 rfl rfl (aa h0 (.inr rfl) rfl) fun a h0=>?_|refine L h0 rfl rfl (ab h0 rfl rfl) fun a h0=>?_)
  have h0:SL 179 [(0,Ptr b 0),(3,sl bw p.G.length),(4,sl bu p.G.length),(31,k.e),(32,iv (N:Nat)),(33,iv j),(5,iv j),(38,.slice pe l.length dT),(39,iv (l.length:Nat)),(40,iv q),(8,iv (l[q]:Nat))] a:=h0.keep [0,3,4,31,32,33,5,38,39,40,8]
  refine Le (ah (j0 (R:=R4) G.mix (by kernel_rfl) fun w5 u5=>?_))
  have I5:=I4.mv u5 (by simp)
  have u35:=u34.trans (u5.mono (by simp))
  clear I4 u34 u5
  (first|refine T h0 rfl rfl (aa h0 (.inl rfl) rfl) fun a h0=>?_|refine T h0 rfl rfl (aa h0 (.inr rfl) rfl) fun a h0=>?_|refine T h0 rfl rfl (ab h0 rfl rfl) fun a h0=>?_|refine T h0 rfl rfl (ak h0 rfl rfl (by first|exact G.fa _ (by decide)|exact G.g0|exact G.g1)) fun a h0=>?_|refine T h0 rfl rfl (ai h0 rfl rfl (by first|exact G.o24|exact G.o3|exact G.o63|exact G.o32) (I5.fs.box).1 rfl) fun a h0=>?_);(first|refine T h0 rfl rfl (aa h0 (.inl rfl) rfl) fun a h0=>?_|refine T h0 rfl rfl (aa h0 (.inr rfl) rfl) fun a h0=>?_|refine T h0 rfl rfl (ab h0 rfl rfl) fun a h0=>?_|refine T h0 rfl rfl (ak h0 rfl rfl (by first|exact G.fa _ (by decide)|exact G.g0|exact G.g1)) fun a h0=>?_|refine T h0 rfl rfl (ai h0 rfl rfl (by first|exact G.o24|exact G.o3|exact G.o63|exact G.o32) (I5.fs.box).1 rfl) fun a h0=>?_);(first|refine T h0 rfl rfl (aa h0 (.inl rfl) rfl) fun a h0=>?_|refine T h0 rfl rfl (aa h0 (.inr rfl) rfl) fun a h0=>?_|refine T h0 rfl rfl (ab h0 rfl rfl) fun a h0=>?_|refine T h0 rfl rfl (ak h0 rfl rfl (by first|exact G.fa _ (by decide)|exact G.g0|exact G.g1)) fun a h0=>?_|refine T h0 rfl rfl (ai h0 rfl rfl (by first|exact G.o24|exact G.o3|exact G.o63|exact G.o32) (I5.fs.box).1 rfl) fun a h0=>?_);(first|refine T h0 rfl rfl (aa h0 (.inl rfl) rfl) fun a h0=>?_|refine T h0 rfl rfl (aa h0 (.inr rfl) rfl) fun a h0=>?_|refine T h0 rfl rfl (ab h0 rfl rfl) fun a h0=>?_|refine T h0 rfl rfl (ak h0 rfl rfl (by first|exact G.fa _ (by decide)|exact G.g0|exact G.g1)) fun a h0=>?_|refine T h0 rfl rfl (ai h0 rfl rfl (by first|exact G.o24|exact G.o3|exact G.o63|exact G.o32) (I5.fs.box).1 rfl) fun a h0=>?_);(first|refine T h0 rfl rfl (aa h0 (.inl rfl) rfl) fun a h0=>?_|refine T h0 rfl rfl (aa h0 (.inr rfl) rfl) fun a h0=>?_|refine T h0 rfl rfl (ab h0 rfl rfl) fun a h0=>?_|refine T h0 rfl rfl (ak h0 rfl rfl (by first|exact G.fa _ (by decide)|exact G.g0|exact G.g1)) fun a h0=>?_|refine T h0 rfl rfl (ai h0 rfl rfl (by first|exact G.o24|exact G.o3|exact G.o63|exact G.o32) (I5.fs.box).1 rfl) fun a h0=>?_)
  refine T h0 rfl rfl (aH h0 rfl rfl rfl G.u24 G.o3 hj) fun a h0=>?_
  refine T h0 rfl rfl (ai (v:=iv ((p.F[j]'(by omega)):Nat)) h0 rfl rfl G.o3 I5.fs.of.1 (by simp[hlF,hj])) fun a h0=>?_
  (first|refine T h0 rfl rfl (aa h0 (.inl rfl) rfl) fun a h0=>?_|refine T h0 rfl rfl (aa h0 (.inr rfl) rfl) fun a h0=>?_|refine T h0 rfl rfl (ab h0 rfl rfl) fun a h0=>?_|refine T h0 rfl rfl (ak h0 rfl rfl (by first|exact G.fa _ (by decide)|exact G.g0|exact G.g1)) fun a h0=>?_|refine T h0 rfl rfl (ai h0 rfl rfl (by first|exact G.o24|exact G.o3|exact G.o63|exact G.o32) (I5.fs.box).1 rfl) fun a h0=>?_);(first|refine T h0 rfl rfl (aa h0 (.inl rfl) rfl) fun a h0=>?_|refine T h0 rfl rfl (aa h0 (.inr rfl) rfl) fun a h0=>?_|refine T h0 rfl rfl (ab h0 rfl rfl) fun a h0=>?_|refine T h0 rfl rfl (ak h0 rfl rfl (by first|exact G.fa _ (by decide)|exact G.g0|exact G.g1)) fun a h0=>?_|refine T h0 rfl rfl (ai h0 rfl rfl (by first|exact G.o24|exact G.o3|exact G.o63|exact G.o32) (I5.fs.box).1 rfl) fun a h0=>?_);(first|refine T h0 rfl rfl (aa h0 (.inl rfl) rfl) fun a h0=>?_|refine T h0 rfl rfl (aa h0 (.inr rfl) rfl) fun a h0=>?_|refine T h0 rfl rfl (ab h0 rfl rfl) fun a h0=>?_|refine T h0 rfl rfl (ak h0 rfl rfl (by first|exact G.fa _ (by decide)|exact G.g0|exact G.g1)) fun a h0=>?_|refine T h0 rfl rfl (ai h0 rfl rfl (by first|exact G.o24|exact G.o3|exact G.o63|exact G.o32) (I5.fs.box).1 rfl) fun a h0=>?_);(first|refine T h0 rfl rfl (aa h0 (.inl rfl) rfl) fun a h0=>?_|refine T h0 rfl rfl (aa h0 (.inr rfl) rfl) fun a h0=>?_|refine T h0 rfl rfl (ab h0 rfl rfl) fun a h0=>?_|refine T h0 rfl rfl (ak h0 rfl rfl (by first|exact G.fa _ (by decide)|exact G.g0|exact G.g1)) fun a h0=>?_|refine T h0 rfl rfl (ai h0 rfl rfl (by first|exact G.o24|exact G.o3|exact G.o63|exact G.o32) (I5.fs.box).1 rfl) fun a h0=>?_);(first|refine T h0 rfl rfl (aa h0 (.inl rfl) rfl) fun a h0=>?_|refine T h0 rfl rfl (aa h0 (.inr rfl) rfl) fun a h0=>?_|refine T h0 rfl rfl (ab h0 rfl rfl) fun a h0=>?_|refine T h0 rfl rfl (ak h0 rfl rfl (by first|exact G.fa _ (by decide)|exact G.g0|exact G.g1)) fun a h0=>?_|refine T h0 rfl rfl (ai h0 rfl rfl (by first|exact G.o24|exact G.o3|exact G.o63|exact G.o32) (I5.fs.box).1 rfl) fun a h0=>?_)
  refine T h0 rfl rfl (aH h0 rfl rfl rfl G.u24 G.o3 fQ) fun a h0=>?_
  refine T h0 rfl rfl (ai (v:=iv ((p.F[l[q]]'(by omega)):Nat)) h0 rfl rfl G.o3 I5.fs.of.1 (by simp[hlF,fQ])) fun a h0=>?_
  refine T h0 rfl rfl (aG h0 rfl rfl rfl rfl) fun a h0=>?_
  obtain⟨fj,hfj⟩:∃f,f=p.F[j]'(by omega):=⟨_,rfl⟩
  obtain⟨fy,hfy⟩:∃f,f=p.F[l[q]]'(by omega):=⟨_,rfl⟩
  have hfj':p.F[j]? =some fj:=by rw[hfj];exact List.getElem?_eq_getElem _
  have hfy':p.F[l[q]]? =some fy:=by rw[hfy];exact List.getElem?_eq_getElem _
  have hfjb:=hW.fb fj (CE hfj')
  have hfyb:=hW.fb fy (CE hfy')
  rw[←hfj, ←hfy]at h0
  refine Te (ar (h0.ev rfl) (fun hc=>?_) (fun hc=>aw (ae ?_)))
  rotate_left
  ·refine L h0 rfl rfl (cC (q+1:Nat) h0 rfl rfl rfl (by omega) (by omega) (by omega)) fun a h0=>?_
   (first|refine L h0 rfl rfl (aa h0 (.inl rfl) rfl) fun a h0=>?_|refine L h0 rfl rfl (aa h0 (.inr rfl) rfl) fun a h0=>?_|refine L h0 rfl rfl (ab h0 rfl rfl) fun a h0=>?_)
   refine Le ⟨m' - 1,by omega,q+1,by omega,h0.keep [0,3,4,31,32,33,5,38,39,40],R4,ws,ll,os,I5,u35,fun x hx=>?_,fun l hl=>?_⟩
   ·have:=hws x hx;omega
   ·have:=gz l hl;exact⟨by omega,this.2⟩
  have gY:fj≠fy:=by simp at hc;omega
  have hjM:fj<p.G.length:=by omega
  have hyM:fy<p.G.length:=by omega
  have hfjl:p.F[j]'(by omega)=fj:=hfj.symm
  have hfyl:p.F[l[q]]'(by omega)=fy:=hfy.symm
  have h0:SL 179 [(0,Ptr b 0),(3,sl bw p.G.length),(4,sl bu p.G.length),(31,k.e),(32,iv (N:Nat)),(33,iv j),(5,iv j),(38,.slice pe l.length dT),(39,iv (l.length:Nat)),(40,iv q),(8,iv (l[q]:Nat))] a:=h0.keep [0,3,4,31,32,33,5,38,39,40,8]
  obtain⟨x,hx⟩:∃x,ws[fj]? =some x:=⟨_,List.getElem?_eq_getElem (by rw[I5.wl];exact hjM)⟩
  have hxb:=hws x (CE hx)
  refine ah (ae ?_)
  (first|refine L h0 rfl rfl (aa h0 (.inl rfl) rfl) fun a h0=>?_|refine L h0 rfl rfl (aa h0 (.inr rfl) rfl) fun a h0=>?_|refine L h0 rfl rfl (ab h0 rfl rfl) fun a h0=>?_|refine L h0 rfl rfl (ak h0 rfl rfl (by first|exact G.fa _ (by decide)|exact G.g0|exact G.g1)) fun a h0=>?_|refine L h0 rfl rfl (ai h0 rfl rfl (by first|exact G.o24|exact G.o3|exact G.o63|exact G.o32) (I5.fs.box).1 rfl) fun a h0=>?_);(first|refine L h0 rfl rfl (aa h0 (.inl rfl) rfl) fun a h0=>?_|refine L h0 rfl rfl (aa h0 (.inr rfl) rfl) fun a h0=>?_|refine L h0 rfl rfl (ab h0 rfl rfl) fun a h0=>?_|refine L h0 rfl rfl (ak h0 rfl rfl (by first|exact G.fa _ (by decide)|exact G.g0|exact G.g1)) fun a h0=>?_|refine L h0 rfl rfl (ai h0 rfl rfl (by first|exact G.o24|exact G.o3|exact G.o63|exact G.o32) (I5.fs.box).1 rfl) fun a h0=>?_);(first|refine L h0 rfl rfl (aa h0 (.inl rfl) rfl) fun a h0=>?_|refine L h0 rfl rfl (aa h0 (.inr rfl) rfl) fun a h0=>?_|refine L h0 rfl rfl (ab h0 rfl rfl) fun a h0=>?_|refine L h0 rfl rfl (ak h0 rfl rfl (by first|exact G.fa _ (by decide)|exact G.g0|exact G.g1)) fun a h0=>?_|refine L h0 rfl rfl (ai h0 rfl rfl (by first|exact G.o24|exact G.o3|exact G.o63|exact G.o32) (I5.fs.box).1 rfl) fun a h0=>?_);(first|refine L h0 rfl rfl (aa h0 (.inl rfl) rfl) fun a h0=>?_|refine L h0 rfl rfl (aa h0 (.inr rfl) rfl) fun a h0=>?_|refine L h0 rfl rfl (ab h0 rfl rfl) fun a h0=>?_|refine L h0 rfl rfl (ak h0 rfl rfl (by first|exact G.fa _ (by decide)|exact G.g0|exact G.g1)) fun a h0=>?_|refine L h0 rfl rfl (ai h0 rfl rfl (by first|exact G.o24|exact G.o3|exact G.o63|exact G.o32) (I5.fs.box).1 rfl) fun a h0=>?_);(first|refine L h0 rfl rfl (aa h0 (.inl rfl) rfl) fun a h0=>?_|refine L h0 rfl rfl (aa h0 (.inr rfl) rfl) fun a h0=>?_|refine L h0 rfl rfl (ab h0 rfl rfl) fun a h0=>?_|refine L h0 rfl rfl (ak h0 rfl rfl (by first|exact G.fa _ (by decide)|exact G.g0|exact G.g1)) fun a h0=>?_|refine L h0 rfl rfl (ai h0 rfl rfl (by first|exact G.o24|exact G.o3|exact G.o63|exact G.o32) (I5.fs.box).1 rfl) fun a h0=>?_);(first|refine L h0 rfl rfl (aa h0 (.inl rfl) rfl) fun a h0=>?_|refine L h0 rfl rfl (aa h0 (.inr rfl) rfl) fun a h0=>?_|refine L h0 rfl rfl (ab h0 rfl rfl) fun a h0=>?_|refine L h0 rfl rfl (ak h0 rfl rfl (by first|exact G.fa _ (by decide)|exact G.g0|exact G.g1)) fun a h0=>?_|refine L h0 rfl rfl (ai h0 rfl rfl (by first|exact G.o24|exact G.o3|exact G.o63|exact G.o32) (I5.fs.box).1 rfl) fun a h0=>?_)
  refine L h0 rfl rfl (aH h0 rfl rfl rfl G.u24 G.o3 hj) fun a h0=>?_
  refine L h0 rfl rfl (ai (v:=iv (fj:Nat)) h0 rfl rfl G.o3 I5.fs.of.1 (by simp[hfj'])) fun a h0=>?_
  refine L h0 rfl rfl (aH h0 rfl rfl rfl G.u24 G.o3 hjM) fun a h0=>?_
  refine L h0 rfl rfl (ai (v:=iv x) h0 rfl rfl G.o3 I5.wt.1 (by simp[hx])) fun a h0=>?_
  refine L h0 rfl rfl (cC (x+1) h0 rfl rfl rfl (by omega) (by omega) (by omega)) fun a h0=>?_
  refine L h0 rfl rfl (aH h0 rfl rfl rfl G.u24 G.o3 hjM) fun a h0=>?_
  refine Lst h0 rfl rfl rfl rfl rfl G.o3 rfl rfl I5.wt (by simp[I5.wl];omega) fun w6 c6 u6=>?_
  rw[Ax,Nat.zero_add]at c6
  have I6:=I5.ws c6 u6 (by simp)
  have u36:=u35.trans (u6.mono (S':=SO p.G.length) fun x hx=>by simp at hx;subst hx;simp[SO])
  have h0:SL 179 [(0,Ptr b 0),(3,sl bw p.G.length),(4,sl bu p.G.length),(31,k.e),(32,iv (N:Nat)),(33,iv j),(5,iv j),(38,.slice pe l.length dT),(39,iv (l.length:Nat)),(40,iv q),(8,iv (l[q]:Nat))] a:=h0.keep [0,3,4,31,32,33,5,38,39,40,8]
  refine Le (nI (R:=R4) (Os b N k p) 29 rfl G.mix fun w7 u7=>?_)
  have I7:=I6.mv u7 (by simp)
  have u37:=u36.trans (u7.mono (by simp))
  obtain⟨lj,hlj⟩:∃lj,ll[fy]? =some lj:=⟨_,List.getElem?_eq_getElem (by rw[I7.ln];exact hyM)⟩
  obtain⟨vj,hvj⟩:∃vj,os[fy]? =some vj:=⟨_,List.getElem?_eq_getElem (by rw[I7.ul.1,I7.ln];exact hyM)⟩
  have xj:=I7.ul.2 fy vj lj hvj hlj
  have hljb:=gz lj (CE hlj)
  have hS:=I7.fs.os
  (first|refine YH 0 h0 rfl rfl rfl (by kernel_rfl) (by kernel_rfl) (by kernel_rfl) (fun _ _ _ h=>by cases h.1) hS (fun w _=>aa h0 (.inl rfl) rfl) fun a h0=>?_|refine YH 0 h0 rfl rfl rfl (by kernel_rfl) (by kernel_rfl) (by kernel_rfl) (fun _ _ _ h=>by cases h.1) hS (fun w _=>aa h0 (.inr rfl) rfl) fun a h0=>?_|refine YH 0 h0 rfl rfl rfl (by kernel_rfl) (by kernel_rfl) (by kernel_rfl) (fun _ _ _ h=>by cases h.1) hS (fun w _=>ab h0 rfl rfl) fun a h0=>?_|refine YH 0 h0 rfl rfl rfl (by kernel_rfl) (by kernel_rfl) (by kernel_rfl) (fun _ _ _ h=>by cases h.1) hS (fun w _=>ak h0 rfl rfl (by first|exact G.f0|exact G.f6|exact G.f7)) fun a h0=>?_|refine YH 0 h0 rfl rfl rfl (by kernel_rfl) (by kernel_rfl) (by kernel_rfl) (fun _ _ _ h=>by cases h.1) hS (fun w hw=>ai h0 rfl rfl (by first|exact G.o24|exact G.o32) hw.1 rfl) fun a h0=>?_)
  (first|refine YH 1 h0 rfl rfl rfl (by kernel_rfl) (by kernel_rfl) (by kernel_rfl) (fun _ _ _ h=>by cases h.1) hS (fun w _=>aa h0 (.inl rfl) rfl) fun a h0=>?_|refine YH 1 h0 rfl rfl rfl (by kernel_rfl) (by kernel_rfl) (by kernel_rfl) (fun _ _ _ h=>by cases h.1) hS (fun w _=>aa h0 (.inr rfl) rfl) fun a h0=>?_|refine YH 1 h0 rfl rfl rfl (by kernel_rfl) (by kernel_rfl) (by kernel_rfl) (fun _ _ _ h=>by cases h.1) hS (fun w _=>ab h0 rfl rfl) fun a h0=>?_|refine YH 1 h0 rfl rfl rfl (by kernel_rfl) (by kernel_rfl) (by kernel_rfl) (fun _ _ _ h=>by cases h.1) hS (fun w _=>ak h0 rfl rfl (by first|exact G.f0|exact G.f6|exact G.f7)) fun a h0=>?_|refine YH 1 h0 rfl rfl rfl (by kernel_rfl) (by kernel_rfl) (by kernel_rfl) (fun _ _ _ h=>by cases h.1) hS (fun w hw=>ai h0 rfl rfl (by first|exact G.o24|exact G.o32) hw.1 rfl) fun a h0=>?_)
  (first|refine YH 2 h0 rfl rfl rfl (by kernel_rfl) (by kernel_rfl) (by kernel_rfl) (fun _ _ _ h=>by cases h.1) hS (fun w _=>aa h0 (.inl rfl) rfl) fun a h0=>?_|refine YH 2 h0 rfl rfl rfl (by kernel_rfl) (by kernel_rfl) (by kernel_rfl) (fun _ _ _ h=>by cases h.1) hS (fun w _=>aa h0 (.inr rfl) rfl) fun a h0=>?_|refine YH 2 h0 rfl rfl rfl (by kernel_rfl) (by kernel_rfl) (by kernel_rfl) (fun _ _ _ h=>by cases h.1) hS (fun w _=>ab h0 rfl rfl) fun a h0=>?_|refine YH 2 h0 rfl rfl rfl (by kernel_rfl) (by kernel_rfl) (by kernel_rfl) (fun _ _ _ h=>by cases h.1) hS (fun w _=>ak h0 rfl rfl (by first|exact G.f0|exact G.f6|exact G.f7)) fun a h0=>?_|refine YH 2 h0 rfl rfl rfl (by kernel_rfl) (by kernel_rfl) (by kernel_rfl) (fun _ _ _ h=>by cases h.1) hS (fun w hw=>ai h0 rfl rfl (by first|exact G.o24|exact G.o32) hw.1 rfl) fun a h0=>?_)
  (first|refine YH 3 h0 rfl rfl rfl (by kernel_rfl) (by kernel_rfl) (by kernel_rfl) (fun _ _ _ h=>by cases h.1) hS (fun w _=>aa h0 (.inl rfl) rfl) fun a h0=>?_|refine YH 3 h0 rfl rfl rfl (by kernel_rfl) (by kernel_rfl) (by kernel_rfl) (fun _ _ _ h=>by cases h.1) hS (fun w _=>aa h0 (.inr rfl) rfl) fun a h0=>?_|refine YH 3 h0 rfl rfl rfl (by kernel_rfl) (by kernel_rfl) (by kernel_rfl) (fun _ _ _ h=>by cases h.1) hS (fun w _=>ab h0 rfl rfl) fun a h0=>?_|refine YH 3 h0 rfl rfl rfl (by kernel_rfl) (by kernel_rfl) (by kernel_rfl) (fun _ _ _ h=>by cases h.1) hS (fun w _=>ak h0 rfl rfl (by first|exact G.f0|exact G.f6|exact G.f7)) fun a h0=>?_|refine YH 3 h0 rfl rfl rfl (by kernel_rfl) (by kernel_rfl) (by kernel_rfl) (fun _ _ _ h=>by cases h.1) hS (fun w hw=>ai h0 rfl rfl (by first|exact G.o24|exact G.o32) hw.1 rfl) fun a h0=>?_)
  (first|refine YH 4 h0 rfl rfl rfl (by kernel_rfl) (by kernel_rfl) (by kernel_rfl) (fun _ _ _ h=>by cases h.1) hS (fun w _=>aa h0 (.inl rfl) rfl) fun a h0=>?_|refine YH 4 h0 rfl rfl rfl (by kernel_rfl) (by kernel_rfl) (by kernel_rfl) (fun _ _ _ h=>by cases h.1) hS (fun w _=>aa h0 (.inr rfl) rfl) fun a h0=>?_|refine YH 4 h0 rfl rfl rfl (by kernel_rfl) (by kernel_rfl) (by kernel_rfl) (fun _ _ _ h=>by cases h.1) hS (fun w _=>ab h0 rfl rfl) fun a h0=>?_|refine YH 4 h0 rfl rfl rfl (by kernel_rfl) (by kernel_rfl) (by kernel_rfl) (fun _ _ _ h=>by cases h.1) hS (fun w _=>ak h0 rfl rfl (by first|exact G.f0|exact G.f6|exact G.f7)) fun a h0=>?_|refine YH 4 h0 rfl rfl rfl (by kernel_rfl) (by kernel_rfl) (by kernel_rfl) (fun _ _ _ h=>by cases h.1) hS (fun w hw=>ai h0 rfl rfl (by first|exact G.o24|exact G.o32) hw.1 rfl) fun a h0=>?_)
  (first|refine YH 5 h0 rfl rfl rfl (by kernel_rfl) (by kernel_rfl) (by kernel_rfl) (fun _ _ _ h=>by cases h.1) hS (fun w _=>aa h0 (.inl rfl) rfl) fun a h0=>?_|refine YH 5 h0 rfl rfl rfl (by kernel_rfl) (by kernel_rfl) (by kernel_rfl) (fun _ _ _ h=>by cases h.1) hS (fun w _=>aa h0 (.inr rfl) rfl) fun a h0=>?_|refine YH 5 h0 rfl rfl rfl (by kernel_rfl) (by kernel_rfl) (by kernel_rfl) (fun _ _ _ h=>by cases h.1) hS (fun w _=>ab h0 rfl rfl) fun a h0=>?_|refine YH 5 h0 rfl rfl rfl (by kernel_rfl) (by kernel_rfl) (by kernel_rfl) (fun _ _ _ h=>by cases h.1) hS (fun w _=>ak h0 rfl rfl (by first|exact G.f0|exact G.f6|exact G.f7)) fun a h0=>?_|refine YH 5 h0 rfl rfl rfl (by kernel_rfl) (by kernel_rfl) (by kernel_rfl) (fun _ _ _ h=>by cases h.1) hS (fun w hw=>ai h0 rfl rfl (by first|exact G.o24|exact G.o32) hw.1 rfl) fun a h0=>?_)
  refine YH 6 h0 rfl rfl rfl (by kernel_rfl) (by kernel_rfl) (by kernel_rfl) (fun _ _ _ h=>by cases h.1) hS (fun w _=>aH h0 rfl rfl rfl G.u24 G.o3 fQ) fun a h0=>?_
  refine YH 7 h0 rfl rfl rfl (by kernel_rfl) (by kernel_rfl) (by kernel_rfl) (fun _ _ _ h=>by cases h.1) hS (fun w hw=>ai (v:=iv (fy:Nat)) h0 rfl rfl G.o3 hw.2 (by simp[hfy'])) fun a h0=>?_
  (first|refine YH 8 h0 rfl rfl rfl (by kernel_rfl) (by kernel_rfl) (by kernel_rfl) (fun _ _ _ h=>by cases h.1) hS (fun w _=>aa h0 (.inl rfl) rfl) fun a h0=>?_|refine YH 8 h0 rfl rfl rfl (by kernel_rfl) (by kernel_rfl) (by kernel_rfl) (fun _ _ _ h=>by cases h.1) hS (fun w _=>aa h0 (.inr rfl) rfl) fun a h0=>?_|refine YH 8 h0 rfl rfl rfl (by kernel_rfl) (by kernel_rfl) (by kernel_rfl) (fun _ _ _ h=>by cases h.1) hS (fun w _=>ab h0 rfl rfl) fun a h0=>?_|refine YH 8 h0 rfl rfl rfl (by kernel_rfl) (by kernel_rfl) (by kernel_rfl) (fun _ _ _ h=>by cases h.1) hS (fun w _=>ak h0 rfl rfl (by first|exact G.f0|exact G.f6|exact G.f7)) fun a h0=>?_|refine YH 8 h0 rfl rfl rfl (by kernel_rfl) (by kernel_rfl) (by kernel_rfl) (fun _ _ _ h=>by cases h.1) hS (fun w hw=>ai h0 rfl rfl (by first|exact G.o24|exact G.o32) hw.1 rfl) fun a h0=>?_)
  (first|refine YH 9 h0 rfl rfl rfl (by kernel_rfl) (by kernel_rfl) (by kernel_rfl) (fun _ _ _ h=>by cases h.1) hS (fun w _=>aa h0 (.inl rfl) rfl) fun a h0=>?_|refine YH 9 h0 rfl rfl rfl (by kernel_rfl) (by kernel_rfl) (by kernel_rfl) (fun _ _ _ h=>by cases h.1) hS (fun w _=>aa h0 (.inr rfl) rfl) fun a h0=>?_|refine YH 9 h0 rfl rfl rfl (by kernel_rfl) (by kernel_rfl) (by kernel_rfl) (fun _ _ _ h=>by cases h.1) hS (fun w _=>ab h0 rfl rfl) fun a h0=>?_|refine YH 9 h0 rfl rfl rfl (by kernel_rfl) (by kernel_rfl) (by kernel_rfl) (fun _ _ _ h=>by cases h.1) hS (fun w _=>ak h0 rfl rfl (by first|exact G.f0|exact G.f6|exact G.f7)) fun a h0=>?_|refine YH 9 h0 rfl rfl rfl (by kernel_rfl) (by kernel_rfl) (by kernel_rfl) (fun _ _ _ h=>by cases h.1) hS (fun w hw=>ai h0 rfl rfl (by first|exact G.o24|exact G.o32) hw.1 rfl) fun a h0=>?_)
  (first|refine YH 10 h0 rfl rfl rfl (by kernel_rfl) (by kernel_rfl) (by kernel_rfl) (fun _ _ _ h=>by cases h.1) hS (fun w _=>aa h0 (.inl rfl) rfl) fun a h0=>?_|refine YH 10 h0 rfl rfl rfl (by kernel_rfl) (by kernel_rfl) (by kernel_rfl) (fun _ _ _ h=>by cases h.1) hS (fun w _=>aa h0 (.inr rfl) rfl) fun a h0=>?_|refine YH 10 h0 rfl rfl rfl (by kernel_rfl) (by kernel_rfl) (by kernel_rfl) (fun _ _ _ h=>by cases h.1) hS (fun w _=>ab h0 rfl rfl) fun a h0=>?_|refine YH 10 h0 rfl rfl rfl (by kernel_rfl) (by kernel_rfl) (by kernel_rfl) (fun _ _ _ h=>by cases h.1) hS (fun w _=>ak h0 rfl rfl (by first|exact G.f0|exact G.f6|exact G.f7)) fun a h0=>?_|refine YH 10 h0 rfl rfl rfl (by kernel_rfl) (by kernel_rfl) (by kernel_rfl) (fun _ _ _ h=>by cases h.1) hS (fun w hw=>ai h0 rfl rfl (by first|exact G.o24|exact G.o32) hw.1 rfl) fun a h0=>?_)
  (first|refine YH 11 h0 rfl rfl rfl (by kernel_rfl) (by kernel_rfl) (by kernel_rfl) (fun _ _ _ h=>by cases h.1) hS (fun w _=>aa h0 (.inl rfl) rfl) fun a h0=>?_|refine YH 11 h0 rfl rfl rfl (by kernel_rfl) (by kernel_rfl) (by kernel_rfl) (fun _ _ _ h=>by cases h.1) hS (fun w _=>aa h0 (.inr rfl) rfl) fun a h0=>?_|refine YH 11 h0 rfl rfl rfl (by kernel_rfl) (by kernel_rfl) (by kernel_rfl) (fun _ _ _ h=>by cases h.1) hS (fun w _=>ab h0 rfl rfl) fun a h0=>?_|refine YH 11 h0 rfl rfl rfl (by kernel_rfl) (by kernel_rfl) (by kernel_rfl) (fun _ _ _ h=>by cases h.1) hS (fun w _=>ak h0 rfl rfl (by first|exact G.f0|exact G.f6|exact G.f7)) fun a h0=>?_|refine YH 11 h0 rfl rfl rfl (by kernel_rfl) (by kernel_rfl) (by kernel_rfl) (fun _ _ _ h=>by cases h.1) hS (fun w hw=>ai h0 rfl rfl (by first|exact G.o24|exact G.o32) hw.1 rfl) fun a h0=>?_)
  (first|refine YH 12 h0 rfl rfl rfl (by kernel_rfl) (by kernel_rfl) (by kernel_rfl) (fun _ _ _ h=>by cases h.1) hS (fun w _=>aa h0 (.inl rfl) rfl) fun a h0=>?_|refine YH 12 h0 rfl rfl rfl (by kernel_rfl) (by kernel_rfl) (by kernel_rfl) (fun _ _ _ h=>by cases h.1) hS (fun w _=>aa h0 (.inr rfl) rfl) fun a h0=>?_|refine YH 12 h0 rfl rfl rfl (by kernel_rfl) (by kernel_rfl) (by kernel_rfl) (fun _ _ _ h=>by cases h.1) hS (fun w _=>ab h0 rfl rfl) fun a h0=>?_|refine YH 12 h0 rfl rfl rfl (by kernel_rfl) (by kernel_rfl) (by kernel_rfl) (fun _ _ _ h=>by cases h.1) hS (fun w _=>ak h0 rfl rfl (by first|exact G.f0|exact G.f6|exact G.f7)) fun a h0=>?_|refine YH 12 h0 rfl rfl rfl (by kernel_rfl) (by kernel_rfl) (by kernel_rfl) (fun _ _ _ h=>by cases h.1) hS (fun w hw=>ai h0 rfl rfl (by first|exact G.o24|exact G.o32) hw.1 rfl) fun a h0=>?_)
  (first|refine YH 13 h0 rfl rfl rfl (by kernel_rfl) (by kernel_rfl) (by kernel_rfl) (fun _ _ _ h=>by cases h.1) hS (fun w _=>aa h0 (.inl rfl) rfl) fun a h0=>?_|refine YH 13 h0 rfl rfl rfl (by kernel_rfl) (by kernel_rfl) (by kernel_rfl) (fun _ _ _ h=>by cases h.1) hS (fun w _=>aa h0 (.inr rfl) rfl) fun a h0=>?_|refine YH 13 h0 rfl rfl rfl (by kernel_rfl) (by kernel_rfl) (by kernel_rfl) (fun _ _ _ h=>by cases h.1) hS (fun w _=>ab h0 rfl rfl) fun a h0=>?_|refine YH 13 h0 rfl rfl rfl (by kernel_rfl) (by kernel_rfl) (by kernel_rfl) (fun _ _ _ h=>by cases h.1) hS (fun w _=>ak h0 rfl rfl (by first|exact G.f0|exact G.f6|exact G.f7)) fun a h0=>?_|refine YH 13 h0 rfl rfl rfl (by kernel_rfl) (by kernel_rfl) (by kernel_rfl) (fun _ _ _ h=>by cases h.1) hS (fun w hw=>ai h0 rfl rfl (by first|exact G.o24|exact G.o32) hw.1 rfl) fun a h0=>?_)
  refine YH 14 h0 rfl rfl rfl (by kernel_rfl) (by kernel_rfl) (by kernel_rfl) (fun _ _ _ h=>by cases h.1) hS (fun w _=>aH h0 rfl rfl rfl G.u24 G.o3 fQ) fun a h0=>?_
  refine YH 15 h0 rfl rfl rfl (by kernel_rfl) (by kernel_rfl) (by kernel_rfl) (fun _ _ _ h=>by cases h.1) hS (fun w hw=>ai (v:=iv (fy:Nat)) h0 rfl rfl G.o3 hw.2 (by simp[hfy'])) fun a h0=>?_
  refine YH 16 h0 rfl rfl rfl (by kernel_rfl) (by kernel_rfl) (by kernel_rfl) (fun _ _ _ h=>by cases h.1) hS (fun w _=>aH h0 rfl rfl rfl G.u32 G.o24 hyM) fun a h0=>?_
  (first|refine YH 18 h0 rfl rfl rfl (by kernel_rfl) (by kernel_rfl) (by kernel_rfl) (fun _ _ _ h=>by cases h.1) hS (fun w _=>aa h0 (.inl rfl) rfl) fun a h0=>?_|refine YH 18 h0 rfl rfl rfl (by kernel_rfl) (by kernel_rfl) (by kernel_rfl) (fun _ _ _ h=>by cases h.1) hS (fun w _=>aa h0 (.inr rfl) rfl) fun a h0=>?_|refine YH 18 h0 rfl rfl rfl (by kernel_rfl) (by kernel_rfl) (by kernel_rfl) (fun _ _ _ h=>by cases h.1) hS (fun w _=>ab h0 rfl rfl) fun a h0=>?_|refine YH 18 h0 rfl rfl rfl (by kernel_rfl) (by kernel_rfl) (by kernel_rfl) (fun _ _ _ h=>by cases h.1) hS (fun w _=>ak h0 rfl rfl (by first|exact G.f0|exact G.f6|exact G.f7)) fun a h0=>?_|refine YH 18 h0 rfl rfl rfl (by kernel_rfl) (by kernel_rfl) (by kernel_rfl) (fun _ _ _ h=>by cases h.1) hS (fun w hw=>ai h0 rfl rfl (by first|exact G.o24|exact G.o32) hw.1 rfl) fun a h0=>?_)
  (first|refine YH 19 h0 rfl rfl rfl (by kernel_rfl) (by kernel_rfl) (by kernel_rfl) (fun _ _ _ h=>by cases h.1) hS (fun w _=>aa h0 (.inl rfl) rfl) fun a h0=>?_|refine YH 19 h0 rfl rfl rfl (by kernel_rfl) (by kernel_rfl) (by kernel_rfl) (fun _ _ _ h=>by cases h.1) hS (fun w _=>aa h0 (.inr rfl) rfl) fun a h0=>?_|refine YH 19 h0 rfl rfl rfl (by kernel_rfl) (by kernel_rfl) (by kernel_rfl) (fun _ _ _ h=>by cases h.1) hS (fun w _=>ab h0 rfl rfl) fun a h0=>?_|refine YH 19 h0 rfl rfl rfl (by kernel_rfl) (by kernel_rfl) (by kernel_rfl) (fun _ _ _ h=>by cases h.1) hS (fun w _=>ak h0 rfl rfl (by first|exact G.f0|exact G.f6|exact G.f7)) fun a h0=>?_|refine YH 19 h0 rfl rfl rfl (by kernel_rfl) (by kernel_rfl) (by kernel_rfl) (fun _ _ _ h=>by cases h.1) hS (fun w hw=>ai h0 rfl rfl (by first|exact G.o24|exact G.o32) hw.1 rfl) fun a h0=>?_)
  (first|refine YH 20 h0 rfl rfl rfl (by kernel_rfl) (by kernel_rfl) (by kernel_rfl) (fun _ _ _ h=>by cases h.1) hS (fun w _=>aa h0 (.inl rfl) rfl) fun a h0=>?_|refine YH 20 h0 rfl rfl rfl (by kernel_rfl) (by kernel_rfl) (by kernel_rfl) (fun _ _ _ h=>by cases h.1) hS (fun w _=>aa h0 (.inr rfl) rfl) fun a h0=>?_|refine YH 20 h0 rfl rfl rfl (by kernel_rfl) (by kernel_rfl) (by kernel_rfl) (fun _ _ _ h=>by cases h.1) hS (fun w _=>ab h0 rfl rfl) fun a h0=>?_|refine YH 20 h0 rfl rfl rfl (by kernel_rfl) (by kernel_rfl) (by kernel_rfl) (fun _ _ _ h=>by cases h.1) hS (fun w _=>ak h0 rfl rfl (by first|exact G.f0|exact G.f6|exact G.f7)) fun a h0=>?_|refine YH 20 h0 rfl rfl rfl (by kernel_rfl) (by kernel_rfl) (by kernel_rfl) (fun _ _ _ h=>by cases h.1) hS (fun w hw=>ai h0 rfl rfl (by first|exact G.o24|exact G.o32) hw.1 rfl) fun a h0=>?_)
  (first|refine YH 21 h0 rfl rfl rfl (by kernel_rfl) (by kernel_rfl) (by kernel_rfl) (fun _ _ _ h=>by cases h.1) hS (fun w _=>aa h0 (.inl rfl) rfl) fun a h0=>?_|refine YH 21 h0 rfl rfl rfl (by kernel_rfl) (by kernel_rfl) (by kernel_rfl) (fun _ _ _ h=>by cases h.1) hS (fun w _=>aa h0 (.inr rfl) rfl) fun a h0=>?_|refine YH 21 h0 rfl rfl rfl (by kernel_rfl) (by kernel_rfl) (by kernel_rfl) (fun _ _ _ h=>by cases h.1) hS (fun w _=>ab h0 rfl rfl) fun a h0=>?_|refine YH 21 h0 rfl rfl rfl (by kernel_rfl) (by kernel_rfl) (by kernel_rfl) (fun _ _ _ h=>by cases h.1) hS (fun w _=>ak h0 rfl rfl (by first|exact G.f0|exact G.f6|exact G.f7)) fun a h0=>?_|refine YH 21 h0 rfl rfl rfl (by kernel_rfl) (by kernel_rfl) (by kernel_rfl) (fun _ _ _ h=>by cases h.1) hS (fun w hw=>ai h0 rfl rfl (by first|exact G.o24|exact G.o32) hw.1 rfl) fun a h0=>?_)
  (first|refine YH 22 h0 rfl rfl rfl (by kernel_rfl) (by kernel_rfl) (by kernel_rfl) (fun _ _ _ h=>by cases h.1) hS (fun w _=>aa h0 (.inl rfl) rfl) fun a h0=>?_|refine YH 22 h0 rfl rfl rfl (by kernel_rfl) (by kernel_rfl) (by kernel_rfl) (fun _ _ _ h=>by cases h.1) hS (fun w _=>aa h0 (.inr rfl) rfl) fun a h0=>?_|refine YH 22 h0 rfl rfl rfl (by kernel_rfl) (by kernel_rfl) (by kernel_rfl) (fun _ _ _ h=>by cases h.1) hS (fun w _=>ab h0 rfl rfl) fun a h0=>?_|refine YH 22 h0 rfl rfl rfl (by kernel_rfl) (by kernel_rfl) (by kernel_rfl) (fun _ _ _ h=>by cases h.1) hS (fun w _=>ak h0 rfl rfl (by first|exact G.f0|exact G.f6|exact G.f7)) fun a h0=>?_|refine YH 22 h0 rfl rfl rfl (by kernel_rfl) (by kernel_rfl) (by kernel_rfl) (fun _ _ _ h=>by cases h.1) hS (fun w hw=>ai h0 rfl rfl (by first|exact G.o24|exact G.o32) hw.1 rfl) fun a h0=>?_)
  refine YH 23 h0 rfl rfl rfl (by kernel_rfl) (by kernel_rfl) (by kernel_rfl) (fun _ _ _ h=>by cases h.1) hS (fun w _=>aH h0 rfl rfl rfl G.u24 G.o3 hj) fun a h0=>?_
  refine YH 24 h0 rfl rfl rfl (by kernel_rfl) (by kernel_rfl) (by kernel_rfl) (fun _ _ _ h=>by cases h.1) hS (fun w hw=>ai (v:=iv (fj:Nat)) h0 rfl rfl G.o3 hw.2 (by simp[hfj'])) fun a h0=>?_
  have u8:=Up.alloc [] R4 w7 (.cells #[iv (fj:Nat)] 3) 9
  have I8:=I7.mv u8 (by simp)
  have x8:=xj.up u8 (by simp)
  have e8:=heap_alloc_new w7 (.cells #[iv (fj:Nat)] 3)
  refine Y2r 17 25 h0 rfl rfl rfl rfl rfl rfl (by decide) rfl rfl (by kernel_rfl) (by kernel_rfl) (by kernel_rfl) rfl rfl hS I8.fs.os (fun a sl' hs h' w' hw'=>ai (v:=vj) h' rfl (vZ hs rfl) G.o24 (by rcases hw' with rfl|rfl<;>first|exact I7.uo.1|exact I8.uo.1) (by simpa using hvj)) (fun a sl' hs h'=>dW h' rfl (vZ hs rfl) G.u24 G.o3 rfl) rfl rfl fun a h0=>?_
  generalize w7.alloc (.cells #[iv (fj:Nat)] 3)=w8 at*
  refine Y1H 26 (by kernel_rfl) (s5 h0 rfl rfl rfl (mN h0 rfl rfl rfl G.u24 G.o3 x8.1 e8 rfl (by simp;omega)) fun v9 wn a hr h0=>?_)
  obtain⟨bI,a8,gM⟩:=hr
  have one:v9.oneCell'=true∧v9.cells= #[v9]:=by rcases bI.2 with⟨rfl,_⟩|⟨_,_,_,rfl,_⟩<;>exact⟨rfl,rfl⟩
  obtain⟨x9,un⟩:=x8.app bI a8 gM
  have On:Os b N k p wn:=(I8.fs.up un (by simp;omega)).os
  refine⟨On,?_⟩
  refine Y1H 27 (by kernel_rfl) (aj h0 rfl rfl rfl (aH h0 rfl rfl rfl G.u32 G.o24 hyM) fun a h0=>⟨On,?_⟩)
  refine Y1H 28 (by kernel_rfl) (lu h0 rfl rfl rfl rfl rfl rfl G.o24 one.1 one.2 (I8.uo.up un (by simp;omega)) (by rw[I8.ul.1,I8.ln];omega) fun w9 c9 u9=>?_)
  rw[Nat.zero_add]at c9
  have gN:∀x∈ [1000+fy],x∈SO p.G.length:=fun x hx=>by simp at hx;subst hx;simp[SO,hyM]
  have u89:=(u8.mono (by simp)).trans ((un.mono gN).trans (u9.mono (S':=SO p.G.length) fun x hx=>by simp at hx;subst hx;simp[SO]))
  have I9:Oi w w9 R _ b N lo E k p bw bu (ws.set fj (x+1)) (ll.set fy (lj++ [fj])) (os.set fy v9):=
   ⟨(I8.fs.up un (by simp;omega)).up u9 (by simp),(I8.wt.up un (by simp;omega)).up u9 (by simp),(I8.ul.app hlj (by simpa using x9) un).up u9 (by simp),c9,I7.up.trans u89,by simp[I7.wl],by simp[I7.ln]⟩
  refine⟨I9.fs.os,YeH (by kernel_rfl) ?_⟩
  refine ae ?_
  refine L h0 rfl rfl (cC (q+1:Nat) h0 rfl rfl rfl (by omega) (by omega) (by omega)) fun a h0=>?_
  (first|refine L h0 rfl rfl (aa h0 (.inl rfl) rfl) fun a h0=>?_|refine L h0 rfl rfl (aa h0 (.inr rfl) rfl) fun a h0=>?_|refine L h0 rfl rfl (ab h0 rfl rfl) fun a h0=>?_)
  refine Le ⟨m' - 1,by omega,q+1,by omega,h0.keep [0,3,4,31,32,33,5,38,39,40],_,_,_,_,I9,u37.trans u89,fun z hz=>?_,fun z hz=>?_⟩
  ·rcases List.mem_or_eq_of_mem_set hz with h|h
   ·have:=hws z h;omega
   ·omega
  ·rcases List.mem_or_eq_of_mem_set hz with h|h
   ·have:=gz z h;exact⟨by omega,this.2⟩
   ·subst h
    refine⟨by simp;omega,fun y hy=>?_⟩
    rcases CC hy with h|h
    ·exact hljb.2 y h
    ·simp at h;omega
 rintro _ a w3 ⟨rfl,h0,R3,ws,ll,os,I3,hws,gz⟩
 refine ah (ae ?_)
 refine Bv R3 10 h0 rfl rfl rfl G.o88 fun bt w4 R4 a c4 u4 hbt h0=>?_
 have I4:=I3.mv u4 (by simp)
 have H4:HB w4 R4 bt []:=⟨_,c4,Ow.nil w4 R4 11 3⟩
 refine Le (ah (ah (ae ?_)))
 (first|refine L h0 rfl rfl (aa h0 (.inl rfl) rfl) fun a h0=>?_|refine L h0 rfl rfl (aa h0 (.inr rfl) rfl) fun a h0=>?_|refine L h0 rfl rfl (ab h0 rfl rfl) fun a h0=>?_)
 refine L h0 rfl rfl (aM h0 rfl rfl G.u24) fun a h0=>?_
 (first|refine L h0 rfl rfl (aa h0 (.inl rfl) rfl) fun a h0=>?_|refine L h0 rfl rfl (aa h0 (.inr rfl) rfl) fun a h0=>?_|refine L h0 rfl rfl (ab h0 rfl rfl) fun a h0=>?_)
 refine Le (NW.mono (Q:=fun e a w5=>e= .normal∧SL 179 [(0,Ptr b 0),(3,sl bw p.G.length),(4,sl bu p.G.length),(9,Ptr bt 0)] a∧∃R5 ts,Oi w w5 R R5 b N lo E k p bw bu ws ll os∧HB w5 R5 bt ts∧(∀x∈ts,∃g,p.F[x]? =some g∧g<p.G.length)∧tW p.F p.G ts+fO p.G ws≤dh p.G) ?_ ?_)
 ·refine au (aW (fun m a w5=>∃j:Nat,m+j=p.G.length∧SL 179 [(0,Ptr b 0),(3,sl bw p.G.length),(4,sl bu p.G.length),(9,Ptr bt 0),(101,sl bw p.G.length),(102,iv (p.G.length:Nat)),(103,iv j)] a∧∃R5 ts,Oi w w5 R R5 b N lo E k p bw bu ws ll os∧HB w5 R5 bt ts∧(∀x∈ts,∃g,p.F[x]? =some g∧g<p.G.length)∧tW p.F p.G ts+fO p.G ws+zrW (p.G.drop j) (ws.drop j)≤dh p.G∧ts.length≤j) p.G.length ⟨0,rfl,h0.keep [0,3,4,9,101,102,103],R4,[],I4,H4,by simp,by have:=vX p.G ws;simp[tW];omega,Nat.le_refl _⟩ ?_)
  clear h0 I3 I4 H4 c4 u4
  rintro m a w5 ⟨j,hmj,h0,R5,ts,I5,H5,hts,hpt,htl⟩
  refine ah (ae ?_)
  refine L h0 rfl rfl (aG h0 rfl rfl rfl rfl) fun a h0=>?_
  refine Le (ah (ar (h0.ev rfl) (fun hc=>aw ?_) (fun hc=>aN ⟨rfl,h0.keep [0,3,4,9],R5,ts,I5,H5,hts,by omega⟩)))
  have hj:j<p.G.length:=by simpa using hc
  obtain⟨l,hl⟩:∃l,p.G[j]? =some l:=⟨_,List.getElem?_eq_getElem hj⟩
  obtain⟨x,hx⟩:∃x,ws[j]? =some x:=⟨_,List.getElem?_eq_getElem (by rw[I5.wl];exact hj)⟩
  have hzd:=xA hl hx
  refine ah (au (ah (ae ?_)))
  (first|refine L h0 rfl rfl (aa h0 (.inl rfl) rfl) fun a h0=>?_|refine L h0 rfl rfl (aa h0 (.inr rfl) rfl) fun a h0=>?_|refine L h0 rfl rfl (ab h0 rfl rfl) fun a h0=>?_)
  refine L h0 rfl rfl (aH h0 rfl rfl rfl G.u24 G.o3 hj) fun a h0=>?_
  refine L h0 rfl rfl (ai (v:=iv x) h0 rfl rfl G.o3 I5.wt.1 (by simp[hx])) fun a h0=>?_
  (first|refine L h0 rfl rfl (aa h0 (.inl rfl) rfl) fun a h0=>?_|refine L h0 rfl rfl (aa h0 (.inr rfl) rfl) fun a h0=>?_|refine L h0 rfl rfl (ab h0 rfl rfl) fun a h0=>?_);(first|refine L h0 rfl rfl (aa h0 (.inl rfl) rfl) fun a h0=>?_|refine L h0 rfl rfl (aa h0 (.inr rfl) rfl) fun a h0=>?_|refine L h0 rfl rfl (ab h0 rfl rfl) fun a h0=>?_)
  refine Le (ah (ae ?_))
  (first|refine L h0 rfl rfl (aa h0 (.inl rfl) rfl) fun a h0=>?_|refine L h0 rfl rfl (aa h0 (.inr rfl) rfl) fun a h0=>?_|refine L h0 rfl rfl (ab h0 rfl rfl) fun a h0=>?_)
  refine L h0 rfl rfl (aG h0 rfl rfl rfl rfl) fun a h0=>?_
  refine Le (ar (h0.ev rfl) (fun hc=>ae ?_) (fun hc=>aw (ae ?_)))
  rotate_left
  ·have hx0:x≠0:=by simpa using hc
   rw[if_neg hx0]at hzd
   refine L h0 rfl rfl (cC (j+1:Nat) h0 rfl rfl rfl (by omega) (by omega) (by omega)) fun a h0=>?_
   (first|refine L h0 rfl rfl (aa h0 (.inl rfl) rfl) fun a h0=>?_|refine L h0 rfl rfl (aa h0 (.inr rfl) rfl) fun a h0=>?_|refine L h0 rfl rfl (ab h0 rfl rfl) fun a h0=>?_)
   exact Le ⟨m - 1,by omega,j+1,by omega,h0.keep [0,3,4,9,101,102,103],R5,ts,I5,H5,hts,by omega,by omega⟩
  have hx0:x=0:=by simpa using hc
  rw[if_pos hx0]at hzd
  obtain⟨hlne,hlN⟩:=hW.gb l (CE hl)
  have cA:0<l.length:=List.length_pos_iff.2 hlne
  obtain⟨bg,cg,cs,tg,fg,vg,hkg,q1,q2,q3,_,_⟩:=uv I5.fs hl
  obtain⟨g',off,cap',cs',t',fz',u',hvg,r1,r2,r3⟩:=da (x:= .v (iv (l[0]:Nat))) (i:=0) q3 (by simp[cA])
  have hu':u'=iv (l[0]:Nat):=by cases r3;rfl
  subst hu'
  rw[show(eZ l).length=l.length by simp]at hvg
  subst hvg
  have hgo:=hW.go j l hl l[0] (List.getElem_mem cA)
  refine L h0 rfl rfl (mO h0 rfl rfl G.u90 (fun _ h=>by cases h)) fun a h0=>?_
  (first|refine L h0 rfl rfl (aa h0 (.inl rfl) rfl) fun a h0=>?_|refine L h0 rfl rfl (aa h0 (.inr rfl) rfl) fun a h0=>?_|refine L h0 rfl rfl (ab h0 rfl rfl) fun a h0=>?_|refine L h0 rfl rfl (ak h0 rfl rfl (by first|exact G.fa _ (by decide)|exact G.g0|exact G.g1)) fun a h0=>?_|refine L h0 rfl rfl (ai h0 rfl rfl (by first|exact G.o24|exact G.o3|exact G.o63|exact G.o32) (I5.fs.box).1 rfl) fun a h0=>?_);(first|refine L h0 rfl rfl (aa h0 (.inl rfl) rfl) fun a h0=>?_|refine L h0 rfl rfl (aa h0 (.inr rfl) rfl) fun a h0=>?_|refine L h0 rfl rfl (ab h0 rfl rfl) fun a h0=>?_|refine L h0 rfl rfl (ak h0 rfl rfl (by first|exact G.fa _ (by decide)|exact G.g0|exact G.g1)) fun a h0=>?_|refine L h0 rfl rfl (ai h0 rfl rfl (by first|exact G.o24|exact G.o3|exact G.o63|exact G.o32) (I5.fs.box).1 rfl) fun a h0=>?_);(first|refine L h0 rfl rfl (aa h0 (.inl rfl) rfl) fun a h0=>?_|refine L h0 rfl rfl (aa h0 (.inr rfl) rfl) fun a h0=>?_|refine L h0 rfl rfl (ab h0 rfl rfl) fun a h0=>?_|refine L h0 rfl rfl (ak h0 rfl rfl (by first|exact G.fa _ (by decide)|exact G.g0|exact G.g1)) fun a h0=>?_|refine L h0 rfl rfl (ai h0 rfl rfl (by first|exact G.o24|exact G.o3|exact G.o63|exact G.o32) (I5.fs.box).1 rfl) fun a h0=>?_);(first|refine L h0 rfl rfl (aa h0 (.inl rfl) rfl) fun a h0=>?_|refine L h0 rfl rfl (aa h0 (.inr rfl) rfl) fun a h0=>?_|refine L h0 rfl rfl (ab h0 rfl rfl) fun a h0=>?_|refine L h0 rfl rfl (ak h0 rfl rfl (by first|exact G.fa _ (by decide)|exact G.g0|exact G.g1)) fun a h0=>?_|refine L h0 rfl rfl (ai h0 rfl rfl (by first|exact G.o24|exact G.o3|exact G.o63|exact G.o32) (I5.fs.box).1 rfl) fun a h0=>?_);(first|refine L h0 rfl rfl (aa h0 (.inl rfl) rfl) fun a h0=>?_|refine L h0 rfl rfl (aa h0 (.inr rfl) rfl) fun a h0=>?_|refine L h0 rfl rfl (ab h0 rfl rfl) fun a h0=>?_|refine L h0 rfl rfl (ak h0 rfl rfl (by first|exact G.fa _ (by decide)|exact G.g0|exact G.g1)) fun a h0=>?_|refine L h0 rfl rfl (ai h0 rfl rfl (by first|exact G.o24|exact G.o3|exact G.o63|exact G.o32) (I5.fs.box).1 rfl) fun a h0=>?_)
  refine L h0 rfl rfl (aH (t:=32) (b:=bg) (o':=0) (m:=p.G.length) (c:=cg) h0 rfl (by rw[←hkg];rfl) rfl G.u32 G.o24 hj) fun a h0=>?_
  refine L h0 rfl rfl (ai h0 rfl rfl G.o24 q1 q2) fun a h0=>?_
  refine L h0 rfl rfl (aH (i:=0) h0 rfl rfl rfl G.u24 G.o3 cA) fun a h0=>?_
  refine L h0 rfl rfl (ai h0 rfl rfl G.o3 r1 r2) fun a h0=>?_
  refine L h0 rfl rfl (mO h0 rfl rfl G.u3 (fun _ h=>by cases h)) fun a h0=>?_
  refine Lc (vs:=[.iface 90 (Ptr bt 0),.iface 3 (iv (l[0]:Nat))]) h0 rfl rfl rfl rfl rfl B.b41.ok (qe G B H5 (by omega)) fun r w6 a hr h0=>?_
  obtain⟨rfl,R6,u6,ys,H6,hys⟩:=hr
  have I6:=I5.mv u6 (by simp)
  refine Le (ae ?_)
  refine L h0 rfl rfl (cC (j+1:Nat) h0 rfl rfl rfl (by omega) (by omega) (by omega)) fun a h0=>?_
  (first|refine L h0 rfl rfl (aa h0 (.inl rfl) rfl) fun a h0=>?_|refine L h0 rfl rfl (aa h0 (.inr rfl) rfl) fun a h0=>?_|refine L h0 rfl rfl (ab h0 rfl rfl) fun a h0=>?_)
  refine Le ⟨m - 1,by omega,j+1,by omega,h0.keep [0,3,4,9,101,102,103],R6,ys,I6,H6,fun y hy=>?_,?_,?_⟩
  ·rcases CC (hys.2.mem_iff.1 hy)with h|h
   ·exact hts y h
   ·simp at h;subst h;exact⟨j,hgo.1,hj⟩
  ·rw[mP hys.2,tf hgo.1 hl];omega
  ·have:=hys.1;simp at this;omega
 rintro _ a w5 ⟨rfl,h0,R5,ts,I5,H5,hts,hpt⟩
 refine ah (ae ?_)
 (first|refine L h0 rfl rfl (aa h0 (.inl rfl) rfl) fun a h0=>?_|refine L h0 rfl rfl (aa h0 (.inr rfl) rfl) fun a h0=>?_|refine L h0 rfl rfl (ab h0 rfl rfl) fun a h0=>?_)
 refine Le (ah (NW.mono (Q:=fun e a w6=>e= .normal∧∃R6 ws ts vo xs gs m,SL 179 [(12,vo)] a∧Om b N lo E k p w R bw bu bt ll os w6 R6 ws ts vo xs gs m) ?_ ?_))
 ·refine au (aW (fun m a w6=>∃R6 ws ts vo xs gs,SL 179 [(0,Ptr b 0),(3,sl bw p.G.length),(4,sl bu p.G.length),(9,Ptr bt 0),(12,vo)] a∧Om b N lo E k p w R bw bu bt ll os w6 R6 ws ts vo xs gs m) (tW p.F p.G ts+fO p.G ws) ⟨R5,ws,ts,_,[],[],h0.keep [0,3,4,9,12],I5,H5,hts,Ow.nil w5 R5 12 24,rfl,th,rfl,by simpa[dh]using hpt,by simp,by simp,fun x hx=>by have:=hws x hx;omega⟩ ?_)
  clear h0 I5 H5 hts hpt hws I3 I4 ws ts
  rintro m a w6 ⟨R6,ws,ts,vo,xs,gs,h0,I6,H6,hts,xo,hxl,hrs,rfl,hpt,hgl,hgN,hws⟩
  have htl:ts.length≤tW p.F p.G ts:=rP fun x hx=>by
   obtain⟨g,h1,h2⟩:=hts x hx
   exact⟨g,p.G[g],h1,List.getElem?_eq_getElem h2,(hW.gb _ (List.getElem_mem h2)).1⟩
  obtain⟨vt,ht1,fD⟩:=H6
  refine ah (ah (ae ?_))
  refine L h0 rfl rfl (ai (v:=vt) h0 rfl rfl G.o88 ht1.1 rfl) fun a h0=>?_
  refine L h0 rfl rfl (ir h0 rfl rfl fD.1 G.u88) fun a h0=>?_
  refine L h0 rfl rfl (aG h0 rfl rfl rfl rfl) fun a h0=>?_
  have H6:HB w6 R6 bt ts:=⟨vt,ht1,fD⟩
  refine Le (ar (h0.ev rfl) (fun hc=>aw ?_) (fun hc=>aN ⟨rfl,R6,ws,ts,vo,xs,gs,_,h0.keep [12],I6,H6,hts,xo,hxl,hrs,rfl,hpt,hgl,hgN,hws⟩))
  have gY:ts≠ []:=fun e=>by subst e;simp at hc
  have h0:SL 179 [(0,Ptr b 0),(3,sl bw p.G.length),(4,sl bu p.G.length),(9,Ptr bt 0),(12,vo)] a:=h0.keep [0,3,4,9,12]
  refine au (ah (nI (R:=R6) (Os b N k p) 10 rfl G.mix fun w7 u7=>?_))
  have I7:=I6.mv u7 (by simp)
  have H7:=H6.up u7 (by simp) (by simp)
  have xo:=xo.up u7 (by simp)
  have hrs:=cD hrs u7 (by simp)
  have hS:=I7.fs.os
  (first|refine YH 0 h0 rfl rfl rfl (by kernel_rfl) (by kernel_rfl) (by kernel_rfl) (fun _ _ _ h=>by cases h.1) hS (fun w _=>aa h0 (.inl rfl) rfl) fun a h0=>?_|refine YH 0 h0 rfl rfl rfl (by kernel_rfl) (by kernel_rfl) (by kernel_rfl) (fun _ _ _ h=>by cases h.1) hS (fun w _=>aa h0 (.inr rfl) rfl) fun a h0=>?_|refine YH 0 h0 rfl rfl rfl (by kernel_rfl) (by kernel_rfl) (by kernel_rfl) (fun _ _ _ h=>by cases h.1) hS (fun w _=>ab h0 rfl rfl) fun a h0=>?_|refine YH 0 h0 rfl rfl rfl (by kernel_rfl) (by kernel_rfl) (by kernel_rfl) (fun _ _ _ h=>by cases h.1) hS (fun w _=>ak h0 rfl rfl (by first|exact G.f0|exact G.f6|exact G.f7)) fun a h0=>?_|refine YH 0 h0 rfl rfl rfl (by kernel_rfl) (by kernel_rfl) (by kernel_rfl) (fun _ _ _ h=>by cases h.1) hS (fun w hw=>ai h0 rfl rfl (by first|exact G.o24|exact G.o32) hw.1 rfl) fun a h0=>?_)
  (first|refine YH 1 h0 rfl rfl rfl (by kernel_rfl) (by kernel_rfl) (by kernel_rfl) (fun _ _ _ h=>by cases h.1) hS (fun w _=>aa h0 (.inl rfl) rfl) fun a h0=>?_|refine YH 1 h0 rfl rfl rfl (by kernel_rfl) (by kernel_rfl) (by kernel_rfl) (fun _ _ _ h=>by cases h.1) hS (fun w _=>aa h0 (.inr rfl) rfl) fun a h0=>?_|refine YH 1 h0 rfl rfl rfl (by kernel_rfl) (by kernel_rfl) (by kernel_rfl) (fun _ _ _ h=>by cases h.1) hS (fun w _=>ab h0 rfl rfl) fun a h0=>?_|refine YH 1 h0 rfl rfl rfl (by kernel_rfl) (by kernel_rfl) (by kernel_rfl) (fun _ _ _ h=>by cases h.1) hS (fun w _=>ak h0 rfl rfl (by first|exact G.f0|exact G.f6|exact G.f7)) fun a h0=>?_|refine YH 1 h0 rfl rfl rfl (by kernel_rfl) (by kernel_rfl) (by kernel_rfl) (fun _ _ _ h=>by cases h.1) hS (fun w hw=>ai h0 rfl rfl (by first|exact G.o24|exact G.o32) hw.1 rfl) fun a h0=>?_)
  (first|refine YH 2 h0 rfl rfl rfl (by kernel_rfl) (by kernel_rfl) (by kernel_rfl) (fun _ _ _ h=>by cases h.1) hS (fun w _=>aa h0 (.inl rfl) rfl) fun a h0=>?_|refine YH 2 h0 rfl rfl rfl (by kernel_rfl) (by kernel_rfl) (by kernel_rfl) (fun _ _ _ h=>by cases h.1) hS (fun w _=>aa h0 (.inr rfl) rfl) fun a h0=>?_|refine YH 2 h0 rfl rfl rfl (by kernel_rfl) (by kernel_rfl) (by kernel_rfl) (fun _ _ _ h=>by cases h.1) hS (fun w _=>ab h0 rfl rfl) fun a h0=>?_|refine YH 2 h0 rfl rfl rfl (by kernel_rfl) (by kernel_rfl) (by kernel_rfl) (fun _ _ _ h=>by cases h.1) hS (fun w _=>ak h0 rfl rfl (by first|exact G.f0|exact G.f6|exact G.f7)) fun a h0=>?_|refine YH 2 h0 rfl rfl rfl (by kernel_rfl) (by kernel_rfl) (by kernel_rfl) (fun _ _ _ h=>by cases h.1) hS (fun w hw=>ai h0 rfl rfl (by first|exact G.o24|exact G.o32) hw.1 rfl) fun a h0=>?_)
  (first|refine YH 3 h0 rfl rfl rfl (by kernel_rfl) (by kernel_rfl) (by kernel_rfl) (fun _ _ _ h=>by cases h.1) hS (fun w _=>aa h0 (.inl rfl) rfl) fun a h0=>?_|refine YH 3 h0 rfl rfl rfl (by kernel_rfl) (by kernel_rfl) (by kernel_rfl) (fun _ _ _ h=>by cases h.1) hS (fun w _=>aa h0 (.inr rfl) rfl) fun a h0=>?_|refine YH 3 h0 rfl rfl rfl (by kernel_rfl) (by kernel_rfl) (by kernel_rfl) (fun _ _ _ h=>by cases h.1) hS (fun w _=>ab h0 rfl rfl) fun a h0=>?_|refine YH 3 h0 rfl rfl rfl (by kernel_rfl) (by kernel_rfl) (by kernel_rfl) (fun _ _ _ h=>by cases h.1) hS (fun w _=>ak h0 rfl rfl (by first|exact G.f0|exact G.f6|exact G.f7)) fun a h0=>?_|refine YH 3 h0 rfl rfl rfl (by kernel_rfl) (by kernel_rfl) (by kernel_rfl) (fun _ _ _ h=>by cases h.1) hS (fun w hw=>ai h0 rfl rfl (by first|exact G.o24|exact G.o32) hw.1 rfl) fun a h0=>?_)
  refine YH 4 h0 rfl rfl rfl (by kernel_rfl) (by kernel_rfl) (by kernel_rfl) (fun _ _ _ h=>by cases h.1) hS (fun w _=>mO h0 rfl rfl G.u90 (fun _ h=>by cases h)) fun a h0=>?_
  refine Y1H 5 (by kernel_rfl) (bF (vs:=[.iface 90 (Ptr bt 0)]) h0 rfl rfl rfl rfl rfl rfl B.b42.ok (xt G B H7 gY (by omega)) fun r w8 a hr h0=>?_)
  obtain⟨u8,x,ys,rfl,H8,hperm⟩:=hr
  have I8:=I7.mv u8 (by simp)
  have xo:=xo.up u8 (by simp)
  have hrs:=cD hrs u8 (by simp)
  obtain⟨g,hFx,hg⟩:=hts x (hperm.mem_iff.2 Cy)
  have hxN:x<N:=by have:=(CA hFx).1;omega
  have hys:∀y∈ys,∃g,p.F[y]? =some g∧g<p.G.length:=fun y hy=>hts y (hperm.mem_iff.2 (Cx _ hy))
  obtain⟨l,hl⟩:∃l,p.G[g]? =some l:=⟨_,List.getElem?_eq_getElem hg⟩
  obtain⟨hlne,hlN⟩:=hW.gb l (CE hl)
  have cA:0<l.length:=List.length_pos_iff.2 hlne
  have htw:tW p.F p.G ts=l.length+tW p.F p.G ys:=(mP hperm).trans (pn hFx hl)
  refine⟨I8.fs.os,?_⟩
  refine Y1H 6 (by kernel_rfl) (aj h0 rfl rfl rfl (vR h0 rfl rfl G.u3 (fun _ h=>by cases h)) fun a h0=>⟨I8.fs.os,?_⟩)
  refine Y1H 7 (by kernel_rfl) (aj h0 rfl rfl rfl (aH h0 rfl rfl rfl G.u24 G.o3 hxN) fun a h0=>⟨I8.fs.os,?_⟩)
  refine Y1H 8 (by kernel_rfl) (aj h0 rfl rfl rfl (ai (v:=iv (g:Nat)) h0 rfl rfl G.o3 I8.fs.of.1 (by simp[hFx])) fun a h0=>⟨I8.fs.os,?_⟩)
  refine Y1H 9 (by kernel_rfl) (aj h0 rfl rfl rfl (aa h0 (.inr rfl) rfl) fun a h0=>⟨I8.fs.os,YeH (by kernel_rfl) ?_⟩)
  have h0:SL 179 [(0,Ptr b 0),(3,sl bw p.G.length),(4,sl bu p.G.length),(9,Ptr bt 0),(12,vo),(13,iv g)] a:=h0.keep [0,3,4,9,12,13]
  obtain⟨bg,cg,cs,tg,fg,vg,hkg,q1,q2,q3,o1,o2⟩:=uv I8.fs hl
  refine ah (ae ?_)
  (first|refine L h0 rfl rfl (aa h0 (.inl rfl) rfl) fun a h0=>?_|refine L h0 rfl rfl (aa h0 (.inr rfl) rfl) fun a h0=>?_|refine L h0 rfl rfl (ab h0 rfl rfl) fun a h0=>?_|refine L h0 rfl rfl (ak h0 rfl rfl (by first|exact G.fa _ (by decide)|exact G.g0|exact G.g1)) fun a h0=>?_|refine L h0 rfl rfl (ai h0 rfl rfl (by first|exact G.o24|exact G.o3|exact G.o63|exact G.o32) (I8.fs.box).1 rfl) fun a h0=>?_);(first|refine L h0 rfl rfl (aa h0 (.inl rfl) rfl) fun a h0=>?_|refine L h0 rfl rfl (aa h0 (.inr rfl) rfl) fun a h0=>?_|refine L h0 rfl rfl (ab h0 rfl rfl) fun a h0=>?_|refine L h0 rfl rfl (ak h0 rfl rfl (by first|exact G.fa _ (by decide)|exact G.g0|exact G.g1)) fun a h0=>?_|refine L h0 rfl rfl (ai h0 rfl rfl (by first|exact G.o24|exact G.o3|exact G.o63|exact G.o32) (I8.fs.box).1 rfl) fun a h0=>?_);(first|refine L h0 rfl rfl (aa h0 (.inl rfl) rfl) fun a h0=>?_|refine L h0 rfl rfl (aa h0 (.inr rfl) rfl) fun a h0=>?_|refine L h0 rfl rfl (ab h0 rfl rfl) fun a h0=>?_|refine L h0 rfl rfl (ak h0 rfl rfl (by first|exact G.fa _ (by decide)|exact G.g0|exact G.g1)) fun a h0=>?_|refine L h0 rfl rfl (ai h0 rfl rfl (by first|exact G.o24|exact G.o3|exact G.o63|exact G.o32) (I8.fs.box).1 rfl) fun a h0=>?_);(first|refine L h0 rfl rfl (aa h0 (.inl rfl) rfl) fun a h0=>?_|refine L h0 rfl rfl (aa h0 (.inr rfl) rfl) fun a h0=>?_|refine L h0 rfl rfl (ab h0 rfl rfl) fun a h0=>?_|refine L h0 rfl rfl (ak h0 rfl rfl (by first|exact G.fa _ (by decide)|exact G.g0|exact G.g1)) fun a h0=>?_|refine L h0 rfl rfl (ai h0 rfl rfl (by first|exact G.o24|exact G.o3|exact G.o63|exact G.o32) (I8.fs.box).1 rfl) fun a h0=>?_);(first|refine L h0 rfl rfl (aa h0 (.inl rfl) rfl) fun a h0=>?_|refine L h0 rfl rfl (aa h0 (.inr rfl) rfl) fun a h0=>?_|refine L h0 rfl rfl (ab h0 rfl rfl) fun a h0=>?_|refine L h0 rfl rfl (ak h0 rfl rfl (by first|exact G.fa _ (by decide)|exact G.g0|exact G.g1)) fun a h0=>?_|refine L h0 rfl rfl (ai h0 rfl rfl (by first|exact G.o24|exact G.o3|exact G.o63|exact G.o32) (I8.fs.box).1 rfl) fun a h0=>?_);(first|refine L h0 rfl rfl (aa h0 (.inl rfl) rfl) fun a h0=>?_|refine L h0 rfl rfl (aa h0 (.inr rfl) rfl) fun a h0=>?_|refine L h0 rfl rfl (ab h0 rfl rfl) fun a h0=>?_|refine L h0 rfl rfl (ak h0 rfl rfl (by first|exact G.fa _ (by decide)|exact G.g0|exact G.g1)) fun a h0=>?_|refine L h0 rfl rfl (ai h0 rfl rfl (by first|exact G.o24|exact G.o3|exact G.o63|exact G.o32) (I8.fs.box).1 rfl) fun a h0=>?_)
  refine L h0 rfl rfl (aH (t:=32) (b:=bg) (o':=0) (m:=p.G.length) (c:=cg) h0 rfl (by rw[←hkg];rfl) rfl G.u32 G.o24 hg) fun a h0=>?_
  refine L h0 rfl rfl (ai h0 rfl rfl G.o24 q1 q2) fun a h0=>?_
  refine rM h0 rfl rfl rfl rfl rfl rfl rfl rfl rfl (by simp) G.u32 G.o24 o2 o1 xo (by omega) fun vo' w9 R9 a xo u9 _ _ h0=>?_
  (first|refine L h0 rfl rfl (aa h0 (.inl rfl) rfl) fun a h0=>?_|refine L h0 rfl rfl (aa h0 (.inr rfl) rfl) fun a h0=>?_|refine L h0 rfl rfl (ab h0 rfl rfl) fun a h0=>?_)
  have I9:=I8.mv u9 (by simp)
  have H9:=H8.up u9 (by simp) (by simp)
  have hrs:=qf (cD hrs u9 (by simp)) hxl ((show Fz w8 R6 lo _ _ from q3).up u9 (by simp))
  have h0:SL 179 [(0,Ptr b 0),(3,sl bw p.G.length),(4,sl bu p.G.length),(9,Ptr bt 0),(12,vo'),(13,iv g)] a:=h0.keep [0,3,4,9,12,13]
  obtain⟨lg,hlg⟩:∃lg,ll[g]? =some lg:=⟨_,List.getElem?_eq_getElem (by rw[I9.ln];exact hg)⟩
  obtain⟨vu,hvu⟩:∃vu,os[g]? =some vu:=⟨_,List.getElem?_eq_getElem (by rw[I9.ul.1,I9.ln];exact hg)⟩
  have hlgb:=gz lg (CE hlg)
  refine Le (ah (ae ?_))
  (first|refine L h0 rfl rfl (aa h0 (.inl rfl) rfl) fun a h0=>?_|refine L h0 rfl rfl (aa h0 (.inr rfl) rfl) fun a h0=>?_|refine L h0 rfl rfl (ab h0 rfl rfl) fun a h0=>?_);(first|refine L h0 rfl rfl (aa h0 (.inl rfl) rfl) fun a h0=>?_|refine L h0 rfl rfl (aa h0 (.inr rfl) rfl) fun a h0=>?_|refine L h0 rfl rfl (ab h0 rfl rfl) fun a h0=>?_)
  refine L h0 rfl rfl (aH h0 rfl rfl rfl G.u32 G.o24 hg) fun a h0=>?_
  refine L h0 rfl rfl (ai (v:=vu) h0 rfl rfl G.o24 I9.uo.1 (by simpa using hvu)) fun a h0=>?_
  refine L h0 rfl rfl (ir h0 rfl rfl (I9.ul.2 g vu lg hvu hlg).1 G.u24) fun a h0=>?_
  (first|refine L h0 rfl rfl (aa h0 (.inl rfl) rfl) fun a h0=>?_|refine L h0 rfl rfl (aa h0 (.inr rfl) rfl) fun a h0=>?_|refine L h0 rfl rfl (ab h0 rfl rfl) fun a h0=>?_)
  refine Le (au (aW (fun m' a w'=>∃q:Nat,m'+q=lg.length∧SL 179 [(0,Ptr b 0),(3,sl bw p.G.length),(4,sl bu p.G.length),(9,Ptr bt 0),(12,vo'),(148,vu),(149,iv ((ivs lg).length:Nat)),(150,iv q)] a∧∃R' ws' ts',Oi w w' R R' b N lo E k p bw bu ws' ll os∧HB w' R' bt ts'∧(∀x∈ts',∃g,p.F[x]? =some g∧g<p.G.length)∧Up [10,11,30] R9 R' w9 w'∧l.length+(tW p.F p.G ts'+fO p.G ws')=tW p.F p.G ts+fO p.G ws∧∀x∈ws', -((gs.length:Int)*1000000000000+q)≤x∧x≤1000000000000) lg.length
   ⟨0,rfl,h0.keep [0,3,4,9,12,148,149,150],R9,ws,ys,I9,H9,hys,Up.rfl,by rw[htw];omega,fun x hx=>by have:=hws x hx;omega⟩ ?_))
  clear h0 I9 H9 hys hS I6 I7 I8 H6 H7 H8 ht1 fD
  rintro m' a wa ⟨q,hmq,h0,Ra,ws',ts',Ia,Ha,hts',ua,hpt',hws'⟩
  refine ah (ae ?_)
  refine L h0 rfl rfl (aG h0 rfl rfl rfl rfl) fun a h0=>?_
  refine Le (ah (ar (h0.ev rfl) (fun hc=>aw ?_) (fun hc=>aN ?_)))
  rotate_left
  ·have hq:q=lg.length:=by simp at hc;omega
   have hsn:=qh gs l
   refine⟨tW p.F p.G ts'+fO p.G ws',by omega,Ra,ws',ts',vo',xs++ [vg],gs++ [l],h0.keep [0,3,4,9,12],Ia,Ha,hts',xo.up ua (by simp),by simp[hxl],cD hrs ua (by simp),rfl,by omega,by rw[List.length_append,List.length_singleton];omega,fun g' fP=>?_,fun x hx=>?_⟩
   ·rcases CC fP with h|h
    ·exact hgN g' h
    ·simp at h;subst h;exact hlN
   ·have:=hws' x hx
    rw[List.length_append,List.length_singleton]
    omega
  have hq:q<lg.length:=by simpa using hc
  have hu:=hlgb.2 _ (List.getElem_mem hq)
  obtain⟨bl,cl,cls,hvl,c1,c2,c3,c4⟩:=(Ia.ul.2 g vu lg hvu hlg).mem (by simp;intro e;subst e;simp at hq)
  obtain⟨u,hud⟩:∃u,u=lg[q]:=⟨_,rfl⟩
  have hu:u<p.G.length:=by rw[hud];exact hu
  obtain⟨x',hx'⟩:∃x,ws'[u]? =some x:=⟨_,List.getElem?_eq_getElem (by rw[Ia.wl];exact hu)⟩
  have hxb:=hws' x' (CE hx')
  have hul:u<ws'.length:=by rw[Ia.wl];exact hu
  have hgsN:gs.length≤N:=by omega
  refine ah (au (ah (ae ?_)))
  refine L h0 rfl rfl (aH (t:=24) (b:=bl) (o':=0) (m:=(ivs lg).length) (c:=cl) h0 rfl (by rw[←hvl];rfl) rfl G.u24 G.o3 (by simpa using hq)) fun a h0=>?_
  refine L h0 rfl rfl (ai (v:=iv (u:Nat)) h0 rfl rfl G.o3 c2.1 (by rw[hud];exact gy c4 hq)) fun a h0=>?_
  (first|refine L h0 rfl rfl (aa h0 (.inl rfl) rfl) fun a h0=>?_|refine L h0 rfl rfl (aa h0 (.inr rfl) rfl) fun a h0=>?_|refine L h0 rfl rfl (ab h0 rfl rfl) fun a h0=>?_)
  have h0:SL 179 [(0,Ptr b 0),(3,sl bw p.G.length),(4,sl bu p.G.length),(9,Ptr bt 0),(12,vo'),(148,vu),(149,iv ((ivs lg).length:Nat)),(150,iv q),(15,iv u)] a:=h0.keep [0,3,4,9,12,148,149,150,15]
  refine Le (ah (ae ?_))
  (first|refine L h0 rfl rfl (aa h0 (.inl rfl) rfl) fun a h0=>?_|refine L h0 rfl rfl (aa h0 (.inr rfl) rfl) fun a h0=>?_|refine L h0 rfl rfl (ab h0 rfl rfl) fun a h0=>?_);(first|refine L h0 rfl rfl (aa h0 (.inl rfl) rfl) fun a h0=>?_|refine L h0 rfl rfl (aa h0 (.inr rfl) rfl) fun a h0=>?_|refine L h0 rfl rfl (ab h0 rfl rfl) fun a h0=>?_)
  refine L h0 rfl rfl (aH h0 rfl rfl rfl G.u24 G.o3 hu) fun a h0=>?_
  refine L h0 rfl rfl (ai (v:=iv x') h0 rfl rfl G.o3 Ia.wt.1 (by simp[hx'])) fun a h0=>?_
  refine L h0 rfl rfl (iu (x' - 1) h0 rfl rfl rfl (by omega) (by omega) (by omega)) fun a h0=>?_
  refine L h0 rfl rfl (aH h0 rfl rfl rfl G.u24 G.o3 hu) fun a h0=>?_
  refine Lst h0 rfl rfl rfl rfl rfl G.o3 rfl rfl Ia.wt (by simp;omega) fun wb cb ub=>?_
  rw[Ax,Nat.zero_add]at cb
  have Ib:=Ia.ws cb ub (by simp)
  have Hb:=Ha.up ub (by simp) (by simp)
  have uab:=ua.trans (ub.mono (S':=[10,11,30]) (by simp))
  have h0:SL 179 [(0,Ptr b 0),(3,sl bw p.G.length),(4,sl bu p.G.length),(9,Ptr bt 0),(12,vo'),(148,vu),(149,iv ((ivs lg).length:Nat)),(150,iv q),(15,iv u)] a:=h0.keep [0,3,4,9,12,148,149,150,15]
  obtain⟨l2,dQ⟩:∃l,p.G[u]? =some l:=⟨_,List.getElem?_eq_getElem hu⟩
  have hps:=rN dQ hx'
  have hwb:∀z∈ws'.set u (x' - 1), -((gs.length:Int)*1000000000000+(q+1:Nat))≤z∧z≤1000000000000:=fun z hz=>by
   rcases List.mem_or_eq_of_mem_set hz with h|h
   ·have:=hws' z h;omega
   ·omega
  refine Le (ah (ae ?_))
  (first|refine L h0 rfl rfl (aa h0 (.inl rfl) rfl) fun a h0=>?_|refine L h0 rfl rfl (aa h0 (.inr rfl) rfl) fun a h0=>?_|refine L h0 rfl rfl (ab h0 rfl rfl) fun a h0=>?_);(first|refine L h0 rfl rfl (aa h0 (.inl rfl) rfl) fun a h0=>?_|refine L h0 rfl rfl (aa h0 (.inr rfl) rfl) fun a h0=>?_|refine L h0 rfl rfl (ab h0 rfl rfl) fun a h0=>?_)
  refine L h0 rfl rfl (aH h0 rfl rfl rfl G.u24 G.o3 hu) fun a h0=>?_
  refine L h0 rfl rfl (ai (v:=iv (x' - 1)) h0 rfl rfl G.o3 Ib.wt.1 (by simp[hul])) fun a h0=>?_
  refine L h0 rfl rfl (aG h0 rfl rfl rfl rfl) fun a h0=>?_
  refine Le (ar (h0.ev rfl) (fun hc=>ae ?_) (fun hc=>aw (ae ?_)))
  rotate_left
  ·have hx0:¬ x'=1:=by
    have:x' - 1≠0:=by simpa using hc
    omega
   rw[if_neg hx0]at hps
   refine L h0 rfl rfl (cC (q+1:Nat) h0 rfl rfl rfl (by omega) (by omega) (by omega)) fun a h0=>?_
   (first|refine L h0 rfl rfl (aa h0 (.inl rfl) rfl) fun a h0=>?_|refine L h0 rfl rfl (aa h0 (.inr rfl) rfl) fun a h0=>?_|refine L h0 rfl rfl (ab h0 rfl rfl) fun a h0=>?_)
   exact Le ⟨m' - 1,by omega,q+1,by omega,h0.keep [0,3,4,9,12,148,149,150],Ra,_,ts',Ib,Hb,hts',uab,by omega,hwb⟩
  have hx0:x'=1:=by
   have:x' - 1=0:=by simpa using hc
   omega
  rw[if_pos hx0]at hps
  obtain⟨hl2ne,hl2N⟩:=hW.gb l2 (CE dQ)
  have hl20:0<l2.length:=List.length_pos_iff.2 hl2ne
  obtain⟨bg2,cg2,cs2,tg2,fg2,vg2,hkg2,q12,q22,q32,_,_⟩:=uv Ib.fs dQ
  obtain⟨g',off,cap',cs',t',fz',u',hvg,r1,r2,r3⟩:=da (x:= .v (iv (l2[0]:Nat))) (i:=0) q32 (by simp[hl20])
  have hu':u'=iv (l2[0]:Nat):=by cases r3;rfl
  subst hu'
  rw[show(eZ l2).length=l2.length by simp]at hvg
  subst hvg
  have hgo:=hW.go u l2 dQ l2[0] (List.getElem_mem hl20)
  have htl':ts'.length≤tW p.F p.G ts':=rP fun x hx=>by
   obtain⟨g,h1,h2⟩:=hts' x hx
   exact⟨g,p.G[g],h1,List.getElem?_eq_getElem h2,(hW.gb _ (List.getElem_mem h2)).1⟩
  refine L h0 rfl rfl (mO h0 rfl rfl G.u90 (fun _ h=>by cases h)) fun a h0=>?_
  (first|refine L h0 rfl rfl (aa h0 (.inl rfl) rfl) fun a h0=>?_|refine L h0 rfl rfl (aa h0 (.inr rfl) rfl) fun a h0=>?_|refine L h0 rfl rfl (ab h0 rfl rfl) fun a h0=>?_|refine L h0 rfl rfl (ak h0 rfl rfl (by first|exact G.fa _ (by decide)|exact G.g0|exact G.g1)) fun a h0=>?_|refine L h0 rfl rfl (ai h0 rfl rfl (by first|exact G.o24|exact G.o3|exact G.o63|exact G.o32) (Ib.fs.box).1 rfl) fun a h0=>?_);(first|refine L h0 rfl rfl (aa h0 (.inl rfl) rfl) fun a h0=>?_|refine L h0 rfl rfl (aa h0 (.inr rfl) rfl) fun a h0=>?_|refine L h0 rfl rfl (ab h0 rfl rfl) fun a h0=>?_|refine L h0 rfl rfl (ak h0 rfl rfl (by first|exact G.fa _ (by decide)|exact G.g0|exact G.g1)) fun a h0=>?_|refine L h0 rfl rfl (ai h0 rfl rfl (by first|exact G.o24|exact G.o3|exact G.o63|exact G.o32) (Ib.fs.box).1 rfl) fun a h0=>?_);(first|refine L h0 rfl rfl (aa h0 (.inl rfl) rfl) fun a h0=>?_|refine L h0 rfl rfl (aa h0 (.inr rfl) rfl) fun a h0=>?_|refine L h0 rfl rfl (ab h0 rfl rfl) fun a h0=>?_|refine L h0 rfl rfl (ak h0 rfl rfl (by first|exact G.fa _ (by decide)|exact G.g0|exact G.g1)) fun a h0=>?_|refine L h0 rfl rfl (ai h0 rfl rfl (by first|exact G.o24|exact G.o3|exact G.o63|exact G.o32) (Ib.fs.box).1 rfl) fun a h0=>?_);(first|refine L h0 rfl rfl (aa h0 (.inl rfl) rfl) fun a h0=>?_|refine L h0 rfl rfl (aa h0 (.inr rfl) rfl) fun a h0=>?_|refine L h0 rfl rfl (ab h0 rfl rfl) fun a h0=>?_|refine L h0 rfl rfl (ak h0 rfl rfl (by first|exact G.fa _ (by decide)|exact G.g0|exact G.g1)) fun a h0=>?_|refine L h0 rfl rfl (ai h0 rfl rfl (by first|exact G.o24|exact G.o3|exact G.o63|exact G.o32) (Ib.fs.box).1 rfl) fun a h0=>?_);(first|refine L h0 rfl rfl (aa h0 (.inl rfl) rfl) fun a h0=>?_|refine L h0 rfl rfl (aa h0 (.inr rfl) rfl) fun a h0=>?_|refine L h0 rfl rfl (ab h0 rfl rfl) fun a h0=>?_|refine L h0 rfl rfl (ak h0 rfl rfl (by first|exact G.fa _ (by decide)|exact G.g0|exact G.g1)) fun a h0=>?_|refine L h0 rfl rfl (ai h0 rfl rfl (by first|exact G.o24|exact G.o3|exact G.o63|exact G.o32) (Ib.fs.box).1 rfl) fun a h0=>?_)
  refine L h0 rfl rfl (aH (t:=32) (b:=bg2) (o':=0) (m:=p.G.length) (c:=cg2) h0 rfl (by rw[←hkg2];rfl) rfl G.u32 G.o24 hu) fun a h0=>?_
  refine L h0 rfl rfl (ai h0 rfl rfl G.o24 q12 q22) fun a h0=>?_
  refine L h0 rfl rfl (aH (i:=0) h0 rfl rfl rfl G.u24 G.o3 hl20) fun a h0=>?_
  refine L h0 rfl rfl (ai h0 rfl rfl G.o3 r1 r2) fun a h0=>?_
  refine L h0 rfl rfl (mO h0 rfl rfl G.u3 (fun _ h=>by cases h)) fun a h0=>?_
  refine Lc (vs:=[.iface 90 (Ptr bt 0),.iface 3 (iv (l2[0]:Nat))]) h0 rfl rfl rfl rfl rfl B.b41.ok (qe G B Hb (by omega)) fun r wc a hr h0=>?_
  obtain⟨rfl,Rc,uc,zs,Hc,hzs⟩:=hr
  have Ic:=Ib.mv uc (by simp)
  refine Le (ae ?_)
  refine L h0 rfl rfl (cC (q+1:Nat) h0 rfl rfl rfl (by omega) (by omega) (by omega)) fun a h0=>?_
  (first|refine L h0 rfl rfl (aa h0 (.inl rfl) rfl) fun a h0=>?_|refine L h0 rfl rfl (aa h0 (.inr rfl) rfl) fun a h0=>?_|refine L h0 rfl rfl (ab h0 rfl rfl) fun a h0=>?_)
  refine Le ⟨m' - 1,by omega,q+1,by omega,h0.keep [0,3,4,9,12,148,149,150],Rc,_,zs,Ic,Hc,fun y hy=>?_,uab.trans (uc.mono (by simp)),?_,hwb⟩
  ·rcases CC (hzs.2.mem_iff.1 hy)with h|h
   ·exact hts' y h
   ·simp at h;subst h;exact⟨u,hgo.1,hu⟩
  ·rw[mP hzs.2,tf hgo.1 dQ];omega
 rintro _ a w6 ⟨rfl,R6,ws,ts,vo,xs,gs,m,h0,I6,H6,hts,xo,hxl,hrs,rfl,hpt,hgl,hgN,hws⟩
 refine ah (ae ?_)
 (first|refine L h0 rfl rfl (aa h0 (.inl rfl) rfl) fun a h0=>?_|refine L h0 rfl rfl (aa h0 (.inr rfl) rfl) fun a h0=>?_|refine L h0 rfl rfl (ab h0 rfl rfl) fun a h0=>?_);(first|refine L h0 rfl rfl (aa h0 (.inl rfl) rfl) fun a h0=>?_|refine L h0 rfl rfl (aa h0 (.inr rfl) rfl) fun a h0=>?_|refine L h0 rfl rfl (ab h0 rfl rfl) fun a h0=>?_)
 exact Le (aP (cH h0 rfl ⟨R6,xs,gs,I6.up,xo,hxl,hrs,by omega,by omega,hgN⟩))
end Go.TL.H.Gq
