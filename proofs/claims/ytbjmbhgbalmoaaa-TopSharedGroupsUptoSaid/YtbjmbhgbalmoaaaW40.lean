/- Of, by hand. -/
import Derived.Test.YtbjmbhgbalmoaaaW39
set_option maxRecDepth 100000
namespace Go.TL.H.Gq
open Go Go.TL.Gr
variable {P:Program} {w:World} {R:Nat→Nat} {lo:Nat}
theorem ay{Q:Exit→Act→World→Prop}{K:Act→World→Prop}{i n:Nat}{sl:aT}{a:Act}{ops:Array Oper}(R:Nat→Nat){o:Oper}{t e:TypeId}{l c:Operand}{z:Value}{m:Nat}{k1 k2:IntKind}(k:Nat)(h:SL n sl a)(hi:ops[i]? =some o)(hg:o.guard=none)(hd:dok n o.dst=true)(ho:o.op= .makeSlice t l c)(el:ev sl l=some (.int k1 (m:Nat)))(ec:ev sl c=some (.int k2 (m:Nat)))(ht:P.underlying t=some (.slice e))(hT:One P e z)(hm:m≤1099511627776)
  (k':∀b' w' R' a',Cl w' R' k b' e (List.replicate m z)→Up [] R R' w w'→w.heap.size≤b'→SL n (bz o.dst (.slice (some ⟨b',0,none⟩) m m) sl) a'→K a' w'):wpOp P ops Q i K a w:=
 aj h hi hg hd (nU h ho el ec ht hT hm) fun a h=>k' _ _ _ a (Cl.new w R k e _) (Up.alloc [] R w _ k) (Nat.le_refl _) h
def p0(N:Nat):Pu:=⟨List.replicate N 0,List.replicate N 0,List.replicate N false,[],0,List.replicate N 0,[]⟩
def k0(v:Value)(bi bl bo bf:Nat):Ks:=⟨v,bi,bl,bo,.slice none 0 0,bf,.slice none 0 0⟩
theorem lM:∀N:Nat,Gr.iK (List.replicate N (0:Nat))=N
 |0=>rfl
 |N+1=>by have:=lM N;simp only[Gr.iK,List.replicate_succ,List.filter_cons]at this ⊢;simp
theorem WF0{N:Nat}{E:List (List Nat)}(h1:E.length=N)(h2:∀l∈E,∀x∈l,x<N)(h3:∀l∈E,l.length≤1000000):WF N E (p0 N):=
 ⟨h1,h2,h3,List.nodup_nil,by simp[p0],by simp[p0,lM],fun x hx=>by simp[p0]at hx;exact .inl hx.2,by simp[p0],by simp[p0],by simp[p0]⟩
def yp(N lo:Nat)(E:List (List Nat))(R:Nat→Nat)(w0:World)(s0 s1:Value)(a:Act)(w:World):Prop:=∃R' b k,SL 53 [(0,s0),(1,s1),(8,Ptr b 0)] a∧Fs w R' b N lo E k (p0 N)∧Up [] R R' w0 w
theorem cO{N bi bl bo bf:Nat}{E:List (List Nat)}{vE s0 s1:Value}{wn:World}{Rn:Nat→Nat}{a:Act}(ed:Fz w R 0 (.sl (cM E)) vE)(c3:Cl wn Rn 2 bi 3 (List.replicate N (iv 0)))(c6:Cl wn Rn 3 bl 3 (List.replicate N (iv 0)))(c9:Cl wn Rn 4 bo 4 (List.replicate N (.bool false)))(c12:Cl wn Rn 6 bf 3 (List.replicate N (iv 0)))
  (ua:Up [] R Rn w wn)(h0:SL 53 [(0,s0),(1,s1),(8,Ptr wn.heap.size 0)] a):yp N lo E R w s0 s1 a (wn.alloc (.cells #[vE,sl bi N,sl bl N,sl bo N,.slice none 0 0,iv 0,sl bf N,.slice none 0 0] 65)):=by
 have un:=Up.alloc [] Rn wn (.cells #[vE,sl bi N,sl bl N,sl bo N,.slice none 0 0,iv 0,sl bf N,.slice none 0 0] 65) 1
 have cb:=Cl.new wn Rn 1 65 [vE,sl bi N,sl bl N,sl bo N,.slice none 0 0,iv 0,sl bf N,.slice none 0 0]
 have ed:=(ed.up ua (by simp)).up un (by simp)
 have c3:=c3.up un (by simp)
 have c6:=c6.up un (by simp)
 have c9:=c9.up un (by simp)
 have c12:=c12.up un (by simp)
 refine⟨_,wn.heap.size,k0 vE bi bl bo bf,h0,⟨cb,?_,?_,?_,Ow.nil _ _ 5 3,?_,⟨[],rfl,Ow.nil _ _ 7 24,th⟩,ed,by simp[p0],by simp[p0],by simp[p0],by simp[p0]⟩,ua.trans un⟩
 ·simpa[p0,k0]using c3
 ·simpa[p0,k0]using c6
 ·simpa[p0,k0]using c9
 ·simpa[p0,k0]using c12
theorem rQ:∀{ll:List (List (List UInt8))} {l:List (List UInt8)},l∈ll→l.length≤e6 ll
 |x::ll,l,h=>by
  simp only[e6,List.map_cons,List.sum_cons]
  rcases CD h with rfl|h
  ·omega
  ·have:=rQ h;simp only[e6]at this;omega
def OfR(lo N:Nat)(R:Nat→Nat)(w:World)(r:Value)(w':World):Prop:=
 ∃R',Up [] R R' w w'∧(∀c,R' c=0∨R' c=99)∧((∃e:Int,e≠0∧r= .tuple #[.slice none 0 0,iv e])∨∃gs v,r= .tuple #[v,iv 0]∧Rep w' (fun c=>R' c≠0) lo (.sl (cM gs)) v∧dh gs≤N∧gs.length≤N∧(∀g∈gs,∀x∈g,x<N)∧N≤20000)
set_option maxHeartbeats 1000000 in
theorem rL(G:GT P)(B:GB P)(H:GS P){vN vU:Value}{ss:List (List UInt8)}{uu:List (List (List UInt8))}(hN:Fz w R 0 (.sl (bG ss)) vN)(hU:Fz w R 0 (.sl (ly uu)) vU)(hR:∀c,R c=0∨R c=99)
  (h1:ss.length≤1073741824)(h2:uu.length≤1073741824)(h3:∀l∈uu,l.length≤1073741824)(aV:lo≤w.heap.size):Ret P 8 [vN,vU] w fun r w'=>OfR lo ss.length R w r w':=by
 obtain⟨pN,cN,hvN⟩:=aZ hN
 rw[show(bG ss).length=ss.length by simp[bG]]at hvN
 refine aJ B.b8 ?_
 have h0:=SL.init (n:=53) [vN,vU] rfl
 (revert h0;generalize({tmps:=_,defers:=[]}:Act)=a;intro h0)
 refine ah (ae ?_)
 (first|refine L h0 rfl rfl (aa h0 (.inl rfl) rfl) fun a h0=>?_|refine L h0 rfl rfl (aa h0 (.inr rfl) rfl) fun a h0=>?_|refine L h0 rfl rfl (ab h0 rfl rfl) fun a h0=>?_);(first|refine L h0 rfl rfl (aa h0 (.inl rfl) rfl) fun a h0=>?_|refine L h0 rfl rfl (aa h0 (.inr rfl) rfl) fun a h0=>?_|refine L h0 rfl rfl (ab h0 rfl rfl) fun a h0=>?_)
 refine Le (ah (ae ?_))
 (first|refine L h0 rfl rfl (aa h0 (.inl rfl) rfl) fun a h0=>?_|refine L h0 rfl rfl (aa h0 (.inr rfl) rfl) fun a h0=>?_|refine L h0 rfl rfl (ab h0 rfl rfl) fun a h0=>?_);(first|refine L h0 rfl rfl (aa h0 (.inl rfl) rfl) fun a h0=>?_|refine L h0 rfl rfl (aa h0 (.inr rfl) rfl) fun a h0=>?_|refine L h0 rfl rfl (ab h0 rfl rfl) fun a h0=>?_)
 refine Lc (vs:=[vN,vU]) h0 rfl rfl rfl rfl rfl B.b27.ok (vW G B hN hU hR h1 h2 h3) fun r w1 a hr h0=>?_
 obtain⟨R1,u1,hR1,hr⟩:=hr
 have dm:=u1.1.size
 rcases hr with⟨e,he,rfl⟩|⟨E,vE,rfl,ed,hE,hs1,ef⟩
 ·(first|refine L h0 rfl rfl (aa h0 (.inl rfl) rfl) fun a h0=>?_|refine L h0 rfl rfl (aa h0 (.inr rfl) rfl) fun a h0=>?_|refine L h0 rfl rfl (ab h0 rfl rfl) fun a h0=>?_)
  refine L h0 rfl rfl (aB h0 rfl rfl rfl) fun a h0=>?_
  refine L h0 rfl rfl (aB h0 rfl rfl rfl) fun a h0=>?_
  (first|refine L h0 rfl rfl (aa h0 (.inl rfl) rfl) fun a h0=>?_|refine L h0 rfl rfl (aa h0 (.inr rfl) rfl) fun a h0=>?_|refine L h0 rfl rfl (ab h0 rfl rfl) fun a h0=>?_);(first|refine L h0 rfl rfl (aa h0 (.inl rfl) rfl) fun a h0=>?_|refine L h0 rfl rfl (aa h0 (.inr rfl) rfl) fun a h0=>?_|refine L h0 rfl rfl (ab h0 rfl rfl) fun a h0=>?_)
  refine Le (ah (ah (ae ?_)))
  (first|refine L h0 rfl rfl (aa h0 (.inl rfl) rfl) fun a h0=>?_|refine L h0 rfl rfl (aa h0 (.inr rfl) rfl) fun a h0=>?_|refine L h0 rfl rfl (ab h0 rfl rfl) fun a h0=>?_)
  refine L h0 rfl rfl (aG h0 rfl rfl rfl rfl) fun a h0=>?_
  refine Le (ar (t:=true) (by rw[h0.ev rfl];simp[he]) (fun _=>ah (ae ?_)) (fun h=>by cases h))
  (first|refine L h0 rfl rfl (aa h0 (.inl rfl) rfl) fun a h0=>?_|refine L h0 rfl rfl (aa h0 (.inr rfl) rfl) fun a h0=>?_|refine L h0 rfl rfl (ab h0 rfl rfl) fun a h0=>?_);(first|refine L h0 rfl rfl (aa h0 (.inl rfl) rfl) fun a h0=>?_|refine L h0 rfl rfl (aa h0 (.inr rfl) rfl) fun a h0=>?_|refine L h0 rfl rfl (ab h0 rfl rfl) fun a h0=>?_);(first|refine L h0 rfl rfl (aa h0 (.inl rfl) rfl) fun a h0=>?_|refine L h0 rfl rfl (aa h0 (.inr rfl) rfl) fun a h0=>?_|refine L h0 rfl rfl (ab h0 rfl rfl) fun a h0=>?_)
  exact Le (aP (lz h0 rfl rfl ⟨R1,u1,hR1,.inl ⟨e,he,rfl⟩⟩))
 (first|refine L h0 rfl rfl (aa h0 (.inl rfl) rfl) fun a h0=>?_|refine L h0 rfl rfl (aa h0 (.inr rfl) rfl) fun a h0=>?_|refine L h0 rfl rfl (ab h0 rfl rfl) fun a h0=>?_)
 refine L h0 rfl rfl (aB h0 rfl rfl rfl) fun a h0=>?_
 refine L h0 rfl rfl (aB h0 rfl rfl rfl) fun a h0=>?_
 (first|refine L h0 rfl rfl (aa h0 (.inl rfl) rfl) fun a h0=>?_|refine L h0 rfl rfl (aa h0 (.inr rfl) rfl) fun a h0=>?_|refine L h0 rfl rfl (ab h0 rfl rfl) fun a h0=>?_);(first|refine L h0 rfl rfl (aa h0 (.inl rfl) rfl) fun a h0=>?_|refine L h0 rfl rfl (aa h0 (.inr rfl) rfl) fun a h0=>?_|refine L h0 rfl rfl (ab h0 rfl rfl) fun a h0=>?_)
 refine Le (ah (ah (ae ?_)))
 (first|refine L h0 rfl rfl (aa h0 (.inl rfl) rfl) fun a h0=>?_|refine L h0 rfl rfl (aa h0 (.inr rfl) rfl) fun a h0=>?_|refine L h0 rfl rfl (ab h0 rfl rfl) fun a h0=>?_)
 refine L h0 rfl rfl (aG h0 rfl rfl rfl rfl) fun a h0=>?_
 refine Le (ar (t:=false) (h0.ev rfl) (fun h=>by cases h) (fun _=>aw ?_))
 obtain⟨pE,cE,fE⟩:=aZ ed
 have h0:SL 53 [(0,vN),(1,vU),(6,vE)] a:=h0.keep [0,1,6]
 obtain⟨N,hNN⟩:∃N,N=ss.length:=⟨_,rfl⟩
 have hm:N≤1099511627776:=by omega
 rw[←hNN]at hvN
 subst hvN
 refine ah (xu (R:=R1) 16 rfl G.mix fun w2 ua=>?_)
 refine nC (yp N lo E R1 w1 (.slice pN N cN) vU) (fun c a w h=>?_) (fun a w3 hl=>?_) fun hp hQ=>?_
 ·first|exact h|cases h.1
 rotate_left
 ·obtain⟨Rn,hRn⟩:∃Rn,Rn=R1:=⟨_,rfl⟩
  have ua:Up [] R1 Rn w1 w2:=by rw[hRn];exact ua
  refine Y (i:=0) h0 rfl rfl rfl (by kernel_rfl) (by kernel_rfl) (by kernel_rfl) hp (fun w=>aa h0 (.inl rfl) rfl) fun a h0=>?_
  refine Y (i:=1) h0 rfl rfl rfl (by kernel_rfl) (by kernel_rfl) (by kernel_rfl) hp (fun w=>aa h0 (.inl rfl) rfl) fun a h0=>?_
  refine Y (i:=2) h0 rfl rfl rfl (by kernel_rfl) (by kernel_rfl) (by kernel_rfl) hp (fun w=>aM h0 rfl rfl G.u22) fun a h0=>?_
  refine Y (i:=4) h0 rfl rfl rfl (by kernel_rfl) (by kernel_rfl) (by kernel_rfl) hp (fun w=>aa h0 (.inl rfl) rfl) fun a h0=>?_
  refine Y (i:=5) h0 rfl rfl rfl (by kernel_rfl) (by kernel_rfl) (by kernel_rfl) hp (fun w=>aM h0 rfl rfl G.u22) fun a h0=>?_
  refine Y (i:=7) h0 rfl rfl rfl (by kernel_rfl) (by kernel_rfl) (by kernel_rfl) hp (fun w=>aa h0 (.inl rfl) rfl) fun a h0=>?_
  refine Y (i:=8) h0 rfl rfl rfl (by kernel_rfl) (by kernel_rfl) (by kernel_rfl) hp (fun w=>aM h0 rfl rfl G.u22) fun a h0=>?_
  refine Y (i:=10) h0 rfl rfl rfl (by kernel_rfl) (by kernel_rfl) (by kernel_rfl) hp (fun w=>aa h0 (.inl rfl) rfl) fun a h0=>?_
  refine Y (i:=11) h0 rfl rfl rfl (by kernel_rfl) (by kernel_rfl) (by kernel_rfl) hp (fun w=>aM h0 rfl rfl G.u22) fun a h0=>?_
  have h0:SL 53 [(0,.slice pN N cN),(1,vU),(19,vE),(21,iv N),(24,iv N),(27,iv N),(30,iv N)] a:=h0.keep [0,1,19,21,24,27,30]
  refine wpAny_all (rs:=[3,6,9,12]) (by kernel_rfl) (by simp) fun q hq=>?_
  simp only[List.mem_cons,List.mem_nil_iff,or_false]at hq
  rcases hq with rfl|rfl|rfl|rfl
  ·refine ay Rn 2 h0 rfl rfl rfl rfl rfl rfl G.u24 G.o3 hm fun bi wn Rn a c3 un _ h0=>?_
   have ua:=ua.trans un
   refine wpAny_all (rs:=[6,9,12]) (by kernel_rfl) (by simp) fun q hq=>?_
   simp only[List.mem_cons,List.mem_nil_iff,or_false]at hq
   rcases hq with rfl|rfl|rfl
   ·refine ay Rn 3 h0 rfl rfl rfl rfl rfl rfl G.u24 G.o3 hm fun bl wn Rn a c6 un _ h0=>?_
    have ua:=ua.trans un
    have c3:=c3.up un (by simp)
    refine wpAny_all (rs:=[9,12]) (by kernel_rfl) (by simp) fun q hq=>?_
    simp only[List.mem_cons,List.mem_nil_iff,or_false]at hq
    rcases hq with rfl|rfl
    ·refine ay Rn 4 h0 rfl rfl rfl rfl rfl rfl G.u63 G.o4 hm fun bo wn Rn a c9 un _ h0=>?_
     have ua:=ua.trans un
     have c3:=c3.up un (by simp)
     have c6:=c6.up un (by simp)
     refine Y1 12 (by kernel_rfl) (ay Rn 6 h0 rfl rfl rfl rfl rfl rfl G.u24 G.o3 hm fun bf wn Rn a c12 un _ h0=>?_)
     have ua:=ua.trans un
     have c3:=c3.up un (by simp)
     have c6:=c6.up un (by simp)
     have c9:=c9.up un (by simp)
     refine Y1 13 (by kernel_rfl) (aj h0 rfl rfl rfl (aQ (cs:= #[vE,sl bi N,sl bl N,sl bo N,.slice none 0 0,iv 0,sl bf N,.slice none 0 0]) [(0,vE),(1,sl bi N),(2,sl bl N),(3,sl bo N),(6,sl bf N)] rfl (by simp[show a.eval (.tmp 19)=vE from h0.ev rfl,show a.eval (.tmp 22)=sl bi N from h0.ev rfl,show a.eval (.tmp 25)=sl bl N from h0.ev rfl,show a.eval (.tmp 28)=sl bo N from h0.ev rfl,show a.eval (.tmp 31)=sl bf N from h0.ev rfl]) (by rw[fE];exact G.bt65 _ _ _ _ _ _ _ _)) fun a h0=>?_)
     refine Y1 14 (by kernel_rfl) (aj h0 rfl rfl rfl (bC h0 rfl rfl) fun a h0=>?_)
     refine Y1 15 (by kernel_rfl) (aj h0 rfl rfl rfl (aa h0 (.inr rfl) rfl) fun a h0=>Ye (by kernel_rfl) (hQ a _ ?_))
     exact cO ed c3 c6 c9 c12 ua (h0.keep [0,1,8])
    ·refine ay Rn 6 h0 rfl rfl rfl rfl rfl rfl G.u24 G.o3 hm fun bf wn Rn a c12 un _ h0=>?_
     have ua:=ua.trans un
     have c3:=c3.up un (by simp)
     have c6:=c6.up un (by simp)
     refine Y1 9 (by kernel_rfl) (ay Rn 4 h0 rfl rfl rfl rfl rfl rfl G.u63 G.o4 hm fun bo wn Rn a c9 un _ h0=>?_)
     have ua:=ua.trans un
     have c3:=c3.up un (by simp)
     have c6:=c6.up un (by simp)
     have c12:=c12.up un (by simp)
     refine Y1 13 (by kernel_rfl) (aj h0 rfl rfl rfl (aQ (cs:= #[vE,sl bi N,sl bl N,sl bo N,.slice none 0 0,iv 0,sl bf N,.slice none 0 0]) [(0,vE),(1,sl bi N),(2,sl bl N),(3,sl bo N),(6,sl bf N)] rfl (by simp[show a.eval (.tmp 19)=vE from h0.ev rfl,show a.eval (.tmp 22)=sl bi N from h0.ev rfl,show a.eval (.tmp 25)=sl bl N from h0.ev rfl,show a.eval (.tmp 28)=sl bo N from h0.ev rfl,show a.eval (.tmp 31)=sl bf N from h0.ev rfl]) (by rw[fE];exact G.bt65 _ _ _ _ _ _ _ _)) fun a h0=>?_)
     refine Y1 14 (by kernel_rfl) (aj h0 rfl rfl rfl (bC h0 rfl rfl) fun a h0=>?_)
     refine Y1 15 (by kernel_rfl) (aj h0 rfl rfl rfl (aa h0 (.inr rfl) rfl) fun a h0=>Ye (by kernel_rfl) (hQ a _ ?_))
     exact cO ed c3 c6 c9 c12 ua (h0.keep [0,1,8])
   ·refine ay Rn 4 h0 rfl rfl rfl rfl rfl rfl G.u63 G.o4 hm fun bo wn Rn a c9 un _ h0=>?_
    have ua:=ua.trans un
    have c3:=c3.up un (by simp)
    refine wpAny_all (rs:=[6,12]) (by kernel_rfl) (by simp) fun q hq=>?_
    simp only[List.mem_cons,List.mem_nil_iff,or_false]at hq
    rcases hq with rfl|rfl
    ·refine ay Rn 3 h0 rfl rfl rfl rfl rfl rfl G.u24 G.o3 hm fun bl wn Rn a c6 un _ h0=>?_
     have ua:=ua.trans un
     have c3:=c3.up un (by simp)
     have c9:=c9.up un (by simp)
     refine Y1 12 (by kernel_rfl) (ay Rn 6 h0 rfl rfl rfl rfl rfl rfl G.u24 G.o3 hm fun bf wn Rn a c12 un _ h0=>?_)
     have ua:=ua.trans un
     have c3:=c3.up un (by simp)
     have c9:=c9.up un (by simp)
     have c6:=c6.up un (by simp)
     refine Y1 13 (by kernel_rfl) (aj h0 rfl rfl rfl (aQ (cs:= #[vE,sl bi N,sl bl N,sl bo N,.slice none 0 0,iv 0,sl bf N,.slice none 0 0]) [(0,vE),(1,sl bi N),(2,sl bl N),(3,sl bo N),(6,sl bf N)] rfl (by simp[show a.eval (.tmp 19)=vE from h0.ev rfl,show a.eval (.tmp 22)=sl bi N from h0.ev rfl,show a.eval (.tmp 25)=sl bl N from h0.ev rfl,show a.eval (.tmp 28)=sl bo N from h0.ev rfl,show a.eval (.tmp 31)=sl bf N from h0.ev rfl]) (by rw[fE];exact G.bt65 _ _ _ _ _ _ _ _)) fun a h0=>?_)
     refine Y1 14 (by kernel_rfl) (aj h0 rfl rfl rfl (bC h0 rfl rfl) fun a h0=>?_)
     refine Y1 15 (by kernel_rfl) (aj h0 rfl rfl rfl (aa h0 (.inr rfl) rfl) fun a h0=>Ye (by kernel_rfl) (hQ a _ ?_))
     exact cO ed c3 c6 c9 c12 ua (h0.keep [0,1,8])
    ·refine ay Rn 6 h0 rfl rfl rfl rfl rfl rfl G.u24 G.o3 hm fun bf wn Rn a c12 un _ h0=>?_
     have ua:=ua.trans un
     have c3:=c3.up un (by simp)
     have c9:=c9.up un (by simp)
     refine Y1 6 (by kernel_rfl) (ay Rn 3 h0 rfl rfl rfl rfl rfl rfl G.u24 G.o3 hm fun bl wn Rn a c6 un _ h0=>?_)
     have ua:=ua.trans un
     have c3:=c3.up un (by simp)
     have c9:=c9.up un (by simp)
     have c12:=c12.up un (by simp)
     refine Y1 13 (by kernel_rfl) (aj h0 rfl rfl rfl (aQ (cs:= #[vE,sl bi N,sl bl N,sl bo N,.slice none 0 0,iv 0,sl bf N,.slice none 0 0]) [(0,vE),(1,sl bi N),(2,sl bl N),(3,sl bo N),(6,sl bf N)] rfl (by simp[show a.eval (.tmp 19)=vE from h0.ev rfl,show a.eval (.tmp 22)=sl bi N from h0.ev rfl,show a.eval (.tmp 25)=sl bl N from h0.ev rfl,show a.eval (.tmp 28)=sl bo N from h0.ev rfl,show a.eval (.tmp 31)=sl bf N from h0.ev rfl]) (by rw[fE];exact G.bt65 _ _ _ _ _ _ _ _)) fun a h0=>?_)
     refine Y1 14 (by kernel_rfl) (aj h0 rfl rfl rfl (bC h0 rfl rfl) fun a h0=>?_)
     refine Y1 15 (by kernel_rfl) (aj h0 rfl rfl rfl (aa h0 (.inr rfl) rfl) fun a h0=>Ye (by kernel_rfl) (hQ a _ ?_))
     exact cO ed c3 c6 c9 c12 ua (h0.keep [0,1,8])
   ·refine ay Rn 6 h0 rfl rfl rfl rfl rfl rfl G.u24 G.o3 hm fun bf wn Rn a c12 un _ h0=>?_
    have ua:=ua.trans un
    have c3:=c3.up un (by simp)
    refine wpAny_all (rs:=[6,9]) (by kernel_rfl) (by simp) fun q hq=>?_
    simp only[List.mem_cons,List.mem_nil_iff,or_false]at hq
    rcases hq with rfl|rfl
    ·refine ay Rn 3 h0 rfl rfl rfl rfl rfl rfl G.u24 G.o3 hm fun bl wn Rn a c6 un _ h0=>?_
     have ua:=ua.trans un
     have c3:=c3.up un (by simp)
     have c12:=c12.up un (by simp)
     refine Y1 9 (by kernel_rfl) (ay Rn 4 h0 rfl rfl rfl rfl rfl rfl G.u63 G.o4 hm fun bo wn Rn a c9 un _ h0=>?_)
     have ua:=ua.trans un
     have c3:=c3.up un (by simp)
     have c12:=c12.up un (by simp)
     have c6:=c6.up un (by simp)
     refine Y1 13 (by kernel_rfl) (aj h0 rfl rfl rfl (aQ (cs:= #[vE,sl bi N,sl bl N,sl bo N,.slice none 0 0,iv 0,sl bf N,.slice none 0 0]) [(0,vE),(1,sl bi N),(2,sl bl N),(3,sl bo N),(6,sl bf N)] rfl (by simp[show a.eval (.tmp 19)=vE from h0.ev rfl,show a.eval (.tmp 22)=sl bi N from h0.ev rfl,show a.eval (.tmp 25)=sl bl N from h0.ev rfl,show a.eval (.tmp 28)=sl bo N from h0.ev rfl,show a.eval (.tmp 31)=sl bf N from h0.ev rfl]) (by rw[fE];exact G.bt65 _ _ _ _ _ _ _ _)) fun a h0=>?_)
     refine Y1 14 (by kernel_rfl) (aj h0 rfl rfl rfl (bC h0 rfl rfl) fun a h0=>?_)
     refine Y1 15 (by kernel_rfl) (aj h0 rfl rfl rfl (aa h0 (.inr rfl) rfl) fun a h0=>Ye (by kernel_rfl) (hQ a _ ?_))
     exact cO ed c3 c6 c9 c12 ua (h0.keep [0,1,8])
    ·refine ay Rn 4 h0 rfl rfl rfl rfl rfl rfl G.u63 G.o4 hm fun bo wn Rn a c9 un _ h0=>?_
     have ua:=ua.trans un
     have c3:=c3.up un (by simp)
     have c12:=c12.up un (by simp)
     refine Y1 6 (by kernel_rfl) (ay Rn 3 h0 rfl rfl rfl rfl rfl rfl G.u24 G.o3 hm fun bl wn Rn a c6 un _ h0=>?_)
     have ua:=ua.trans un
     have c3:=c3.up un (by simp)
     have c12:=c12.up un (by simp)
     have c9:=c9.up un (by simp)
     refine Y1 13 (by kernel_rfl) (aj h0 rfl rfl rfl (aQ (cs:= #[vE,sl bi N,sl bl N,sl bo N,.slice none 0 0,iv 0,sl bf N,.slice none 0 0]) [(0,vE),(1,sl bi N),(2,sl bl N),(3,sl bo N),(6,sl bf N)] rfl (by simp[show a.eval (.tmp 19)=vE from h0.ev rfl,show a.eval (.tmp 22)=sl bi N from h0.ev rfl,show a.eval (.tmp 25)=sl bl N from h0.ev rfl,show a.eval (.tmp 28)=sl bo N from h0.ev rfl,show a.eval (.tmp 31)=sl bf N from h0.ev rfl]) (by rw[fE];exact G.bt65 _ _ _ _ _ _ _ _)) fun a h0=>?_)
     refine Y1 14 (by kernel_rfl) (aj h0 rfl rfl rfl (bC h0 rfl rfl) fun a h0=>?_)
     refine Y1 15 (by kernel_rfl) (aj h0 rfl rfl rfl (aa h0 (.inr rfl) rfl) fun a h0=>Ye (by kernel_rfl) (hQ a _ ?_))
     exact cO ed c3 c6 c9 c12 ua (h0.keep [0,1,8])
  ·refine ay Rn 3 h0 rfl rfl rfl rfl rfl rfl G.u24 G.o3 hm fun bl wn Rn a c6 un _ h0=>?_
   have ua:=ua.trans un
   refine wpAny_all (rs:=[3,9,12]) (by kernel_rfl) (by simp) fun q hq=>?_
   simp only[List.mem_cons,List.mem_nil_iff,or_false]at hq
   rcases hq with rfl|rfl|rfl
   ·refine ay Rn 2 h0 rfl rfl rfl rfl rfl rfl G.u24 G.o3 hm fun bi wn Rn a c3 un _ h0=>?_
    have ua:=ua.trans un
    have c6:=c6.up un (by simp)
    refine wpAny_all (rs:=[9,12]) (by kernel_rfl) (by simp) fun q hq=>?_
    simp only[List.mem_cons,List.mem_nil_iff,or_false]at hq
    rcases hq with rfl|rfl
    ·refine ay Rn 4 h0 rfl rfl rfl rfl rfl rfl G.u63 G.o4 hm fun bo wn Rn a c9 un _ h0=>?_
     have ua:=ua.trans un
     have c6:=c6.up un (by simp)
     have c3:=c3.up un (by simp)
     refine Y1 12 (by kernel_rfl) (ay Rn 6 h0 rfl rfl rfl rfl rfl rfl G.u24 G.o3 hm fun bf wn Rn a c12 un _ h0=>?_)
     have ua:=ua.trans un
     have c6:=c6.up un (by simp)
     have c3:=c3.up un (by simp)
     have c9:=c9.up un (by simp)
     refine Y1 13 (by kernel_rfl) (aj h0 rfl rfl rfl (aQ (cs:= #[vE,sl bi N,sl bl N,sl bo N,.slice none 0 0,iv 0,sl bf N,.slice none 0 0]) [(0,vE),(1,sl bi N),(2,sl bl N),(3,sl bo N),(6,sl bf N)] rfl (by simp[show a.eval (.tmp 19)=vE from h0.ev rfl,show a.eval (.tmp 22)=sl bi N from h0.ev rfl,show a.eval (.tmp 25)=sl bl N from h0.ev rfl,show a.eval (.tmp 28)=sl bo N from h0.ev rfl,show a.eval (.tmp 31)=sl bf N from h0.ev rfl]) (by rw[fE];exact G.bt65 _ _ _ _ _ _ _ _)) fun a h0=>?_)
     refine Y1 14 (by kernel_rfl) (aj h0 rfl rfl rfl (bC h0 rfl rfl) fun a h0=>?_)
     refine Y1 15 (by kernel_rfl) (aj h0 rfl rfl rfl (aa h0 (.inr rfl) rfl) fun a h0=>Ye (by kernel_rfl) (hQ a _ ?_))
     exact cO ed c3 c6 c9 c12 ua (h0.keep [0,1,8])
    ·refine ay Rn 6 h0 rfl rfl rfl rfl rfl rfl G.u24 G.o3 hm fun bf wn Rn a c12 un _ h0=>?_
     have ua:=ua.trans un
     have c6:=c6.up un (by simp)
     have c3:=c3.up un (by simp)
     refine Y1 9 (by kernel_rfl) (ay Rn 4 h0 rfl rfl rfl rfl rfl rfl G.u63 G.o4 hm fun bo wn Rn a c9 un _ h0=>?_)
     have ua:=ua.trans un
     have c6:=c6.up un (by simp)
     have c3:=c3.up un (by simp)
     have c12:=c12.up un (by simp)
     refine Y1 13 (by kernel_rfl) (aj h0 rfl rfl rfl (aQ (cs:= #[vE,sl bi N,sl bl N,sl bo N,.slice none 0 0,iv 0,sl bf N,.slice none 0 0]) [(0,vE),(1,sl bi N),(2,sl bl N),(3,sl bo N),(6,sl bf N)] rfl (by simp[show a.eval (.tmp 19)=vE from h0.ev rfl,show a.eval (.tmp 22)=sl bi N from h0.ev rfl,show a.eval (.tmp 25)=sl bl N from h0.ev rfl,show a.eval (.tmp 28)=sl bo N from h0.ev rfl,show a.eval (.tmp 31)=sl bf N from h0.ev rfl]) (by rw[fE];exact G.bt65 _ _ _ _ _ _ _ _)) fun a h0=>?_)
     refine Y1 14 (by kernel_rfl) (aj h0 rfl rfl rfl (bC h0 rfl rfl) fun a h0=>?_)
     refine Y1 15 (by kernel_rfl) (aj h0 rfl rfl rfl (aa h0 (.inr rfl) rfl) fun a h0=>Ye (by kernel_rfl) (hQ a _ ?_))
     exact cO ed c3 c6 c9 c12 ua (h0.keep [0,1,8])
   ·refine ay Rn 4 h0 rfl rfl rfl rfl rfl rfl G.u63 G.o4 hm fun bo wn Rn a c9 un _ h0=>?_
    have ua:=ua.trans un
    have c6:=c6.up un (by simp)
    refine wpAny_all (rs:=[3,12]) (by kernel_rfl) (by simp) fun q hq=>?_
    simp only[List.mem_cons,List.mem_nil_iff,or_false]at hq
    rcases hq with rfl|rfl
    ·refine ay Rn 2 h0 rfl rfl rfl rfl rfl rfl G.u24 G.o3 hm fun bi wn Rn a c3 un _ h0=>?_
     have ua:=ua.trans un
     have c6:=c6.up un (by simp)
     have c9:=c9.up un (by simp)
     refine Y1 12 (by kernel_rfl) (ay Rn 6 h0 rfl rfl rfl rfl rfl rfl G.u24 G.o3 hm fun bf wn Rn a c12 un _ h0=>?_)
     have ua:=ua.trans un
     have c6:=c6.up un (by simp)
     have c9:=c9.up un (by simp)
     have c3:=c3.up un (by simp)
     refine Y1 13 (by kernel_rfl) (aj h0 rfl rfl rfl (aQ (cs:= #[vE,sl bi N,sl bl N,sl bo N,.slice none 0 0,iv 0,sl bf N,.slice none 0 0]) [(0,vE),(1,sl bi N),(2,sl bl N),(3,sl bo N),(6,sl bf N)] rfl (by simp[show a.eval (.tmp 19)=vE from h0.ev rfl,show a.eval (.tmp 22)=sl bi N from h0.ev rfl,show a.eval (.tmp 25)=sl bl N from h0.ev rfl,show a.eval (.tmp 28)=sl bo N from h0.ev rfl,show a.eval (.tmp 31)=sl bf N from h0.ev rfl]) (by rw[fE];exact G.bt65 _ _ _ _ _ _ _ _)) fun a h0=>?_)
     refine Y1 14 (by kernel_rfl) (aj h0 rfl rfl rfl (bC h0 rfl rfl) fun a h0=>?_)
     refine Y1 15 (by kernel_rfl) (aj h0 rfl rfl rfl (aa h0 (.inr rfl) rfl) fun a h0=>Ye (by kernel_rfl) (hQ a _ ?_))
     exact cO ed c3 c6 c9 c12 ua (h0.keep [0,1,8])
    ·refine ay Rn 6 h0 rfl rfl rfl rfl rfl rfl G.u24 G.o3 hm fun bf wn Rn a c12 un _ h0=>?_
     have ua:=ua.trans un
     have c6:=c6.up un (by simp)
     have c9:=c9.up un (by simp)
     refine Y1 3 (by kernel_rfl) (ay Rn 2 h0 rfl rfl rfl rfl rfl rfl G.u24 G.o3 hm fun bi wn Rn a c3 un _ h0=>?_)
     have ua:=ua.trans un
     have c6:=c6.up un (by simp)
     have c9:=c9.up un (by simp)
     have c12:=c12.up un (by simp)
     refine Y1 13 (by kernel_rfl) (aj h0 rfl rfl rfl (aQ (cs:= #[vE,sl bi N,sl bl N,sl bo N,.slice none 0 0,iv 0,sl bf N,.slice none 0 0]) [(0,vE),(1,sl bi N),(2,sl bl N),(3,sl bo N),(6,sl bf N)] rfl (by simp[show a.eval (.tmp 19)=vE from h0.ev rfl,show a.eval (.tmp 22)=sl bi N from h0.ev rfl,show a.eval (.tmp 25)=sl bl N from h0.ev rfl,show a.eval (.tmp 28)=sl bo N from h0.ev rfl,show a.eval (.tmp 31)=sl bf N from h0.ev rfl]) (by rw[fE];exact G.bt65 _ _ _ _ _ _ _ _)) fun a h0=>?_)
     refine Y1 14 (by kernel_rfl) (aj h0 rfl rfl rfl (bC h0 rfl rfl) fun a h0=>?_)
     refine Y1 15 (by kernel_rfl) (aj h0 rfl rfl rfl (aa h0 (.inr rfl) rfl) fun a h0=>Ye (by kernel_rfl) (hQ a _ ?_))
     exact cO ed c3 c6 c9 c12 ua (h0.keep [0,1,8])
   ·refine ay Rn 6 h0 rfl rfl rfl rfl rfl rfl G.u24 G.o3 hm fun bf wn Rn a c12 un _ h0=>?_
    have ua:=ua.trans un
    have c6:=c6.up un (by simp)
    refine wpAny_all (rs:=[3,9]) (by kernel_rfl) (by simp) fun q hq=>?_
    simp only[List.mem_cons,List.mem_nil_iff,or_false]at hq
    rcases hq with rfl|rfl
    ·refine ay Rn 2 h0 rfl rfl rfl rfl rfl rfl G.u24 G.o3 hm fun bi wn Rn a c3 un _ h0=>?_
     have ua:=ua.trans un
     have c6:=c6.up un (by simp)
     have c12:=c12.up un (by simp)
     refine Y1 9 (by kernel_rfl) (ay Rn 4 h0 rfl rfl rfl rfl rfl rfl G.u63 G.o4 hm fun bo wn Rn a c9 un _ h0=>?_)
     have ua:=ua.trans un
     have c6:=c6.up un (by simp)
     have c12:=c12.up un (by simp)
     have c3:=c3.up un (by simp)
     refine Y1 13 (by kernel_rfl) (aj h0 rfl rfl rfl (aQ (cs:= #[vE,sl bi N,sl bl N,sl bo N,.slice none 0 0,iv 0,sl bf N,.slice none 0 0]) [(0,vE),(1,sl bi N),(2,sl bl N),(3,sl bo N),(6,sl bf N)] rfl (by simp[show a.eval (.tmp 19)=vE from h0.ev rfl,show a.eval (.tmp 22)=sl bi N from h0.ev rfl,show a.eval (.tmp 25)=sl bl N from h0.ev rfl,show a.eval (.tmp 28)=sl bo N from h0.ev rfl,show a.eval (.tmp 31)=sl bf N from h0.ev rfl]) (by rw[fE];exact G.bt65 _ _ _ _ _ _ _ _)) fun a h0=>?_)
     refine Y1 14 (by kernel_rfl) (aj h0 rfl rfl rfl (bC h0 rfl rfl) fun a h0=>?_)
     refine Y1 15 (by kernel_rfl) (aj h0 rfl rfl rfl (aa h0 (.inr rfl) rfl) fun a h0=>Ye (by kernel_rfl) (hQ a _ ?_))
     exact cO ed c3 c6 c9 c12 ua (h0.keep [0,1,8])
    ·refine ay Rn 4 h0 rfl rfl rfl rfl rfl rfl G.u63 G.o4 hm fun bo wn Rn a c9 un _ h0=>?_
     have ua:=ua.trans un
     have c6:=c6.up un (by simp)
     have c12:=c12.up un (by simp)
     refine Y1 3 (by kernel_rfl) (ay Rn 2 h0 rfl rfl rfl rfl rfl rfl G.u24 G.o3 hm fun bi wn Rn a c3 un _ h0=>?_)
     have ua:=ua.trans un
     have c6:=c6.up un (by simp)
     have c12:=c12.up un (by simp)
     have c9:=c9.up un (by simp)
     refine Y1 13 (by kernel_rfl) (aj h0 rfl rfl rfl (aQ (cs:= #[vE,sl bi N,sl bl N,sl bo N,.slice none 0 0,iv 0,sl bf N,.slice none 0 0]) [(0,vE),(1,sl bi N),(2,sl bl N),(3,sl bo N),(6,sl bf N)] rfl (by simp[show a.eval (.tmp 19)=vE from h0.ev rfl,show a.eval (.tmp 22)=sl bi N from h0.ev rfl,show a.eval (.tmp 25)=sl bl N from h0.ev rfl,show a.eval (.tmp 28)=sl bo N from h0.ev rfl,show a.eval (.tmp 31)=sl bf N from h0.ev rfl]) (by rw[fE];exact G.bt65 _ _ _ _ _ _ _ _)) fun a h0=>?_)
     refine Y1 14 (by kernel_rfl) (aj h0 rfl rfl rfl (bC h0 rfl rfl) fun a h0=>?_)
     refine Y1 15 (by kernel_rfl) (aj h0 rfl rfl rfl (aa h0 (.inr rfl) rfl) fun a h0=>Ye (by kernel_rfl) (hQ a _ ?_))
     exact cO ed c3 c6 c9 c12 ua (h0.keep [0,1,8])
  ·refine ay Rn 4 h0 rfl rfl rfl rfl rfl rfl G.u63 G.o4 hm fun bo wn Rn a c9 un _ h0=>?_
   have ua:=ua.trans un
   refine wpAny_all (rs:=[3,6,12]) (by kernel_rfl) (by simp) fun q hq=>?_
   simp only[List.mem_cons,List.mem_nil_iff,or_false]at hq
   rcases hq with rfl|rfl|rfl
   ·refine ay Rn 2 h0 rfl rfl rfl rfl rfl rfl G.u24 G.o3 hm fun bi wn Rn a c3 un _ h0=>?_
    have ua:=ua.trans un
    have c9:=c9.up un (by simp)
    refine wpAny_all (rs:=[6,12]) (by kernel_rfl) (by simp) fun q hq=>?_
    simp only[List.mem_cons,List.mem_nil_iff,or_false]at hq
    rcases hq with rfl|rfl
    ·refine ay Rn 3 h0 rfl rfl rfl rfl rfl rfl G.u24 G.o3 hm fun bl wn Rn a c6 un _ h0=>?_
     have ua:=ua.trans un
     have c9:=c9.up un (by simp)
     have c3:=c3.up un (by simp)
     refine Y1 12 (by kernel_rfl) (ay Rn 6 h0 rfl rfl rfl rfl rfl rfl G.u24 G.o3 hm fun bf wn Rn a c12 un _ h0=>?_)
     have ua:=ua.trans un
     have c9:=c9.up un (by simp)
     have c3:=c3.up un (by simp)
     have c6:=c6.up un (by simp)
     refine Y1 13 (by kernel_rfl) (aj h0 rfl rfl rfl (aQ (cs:= #[vE,sl bi N,sl bl N,sl bo N,.slice none 0 0,iv 0,sl bf N,.slice none 0 0]) [(0,vE),(1,sl bi N),(2,sl bl N),(3,sl bo N),(6,sl bf N)] rfl (by simp[show a.eval (.tmp 19)=vE from h0.ev rfl,show a.eval (.tmp 22)=sl bi N from h0.ev rfl,show a.eval (.tmp 25)=sl bl N from h0.ev rfl,show a.eval (.tmp 28)=sl bo N from h0.ev rfl,show a.eval (.tmp 31)=sl bf N from h0.ev rfl]) (by rw[fE];exact G.bt65 _ _ _ _ _ _ _ _)) fun a h0=>?_)
     refine Y1 14 (by kernel_rfl) (aj h0 rfl rfl rfl (bC h0 rfl rfl) fun a h0=>?_)
     refine Y1 15 (by kernel_rfl) (aj h0 rfl rfl rfl (aa h0 (.inr rfl) rfl) fun a h0=>Ye (by kernel_rfl) (hQ a _ ?_))
     exact cO ed c3 c6 c9 c12 ua (h0.keep [0,1,8])
    ·refine ay Rn 6 h0 rfl rfl rfl rfl rfl rfl G.u24 G.o3 hm fun bf wn Rn a c12 un _ h0=>?_
     have ua:=ua.trans un
     have c9:=c9.up un (by simp)
     have c3:=c3.up un (by simp)
     refine Y1 6 (by kernel_rfl) (ay Rn 3 h0 rfl rfl rfl rfl rfl rfl G.u24 G.o3 hm fun bl wn Rn a c6 un _ h0=>?_)
     have ua:=ua.trans un
     have c9:=c9.up un (by simp)
     have c3:=c3.up un (by simp)
     have c12:=c12.up un (by simp)
     refine Y1 13 (by kernel_rfl) (aj h0 rfl rfl rfl (aQ (cs:= #[vE,sl bi N,sl bl N,sl bo N,.slice none 0 0,iv 0,sl bf N,.slice none 0 0]) [(0,vE),(1,sl bi N),(2,sl bl N),(3,sl bo N),(6,sl bf N)] rfl (by simp[show a.eval (.tmp 19)=vE from h0.ev rfl,show a.eval (.tmp 22)=sl bi N from h0.ev rfl,show a.eval (.tmp 25)=sl bl N from h0.ev rfl,show a.eval (.tmp 28)=sl bo N from h0.ev rfl,show a.eval (.tmp 31)=sl bf N from h0.ev rfl]) (by rw[fE];exact G.bt65 _ _ _ _ _ _ _ _)) fun a h0=>?_)
     refine Y1 14 (by kernel_rfl) (aj h0 rfl rfl rfl (bC h0 rfl rfl) fun a h0=>?_)
     refine Y1 15 (by kernel_rfl) (aj h0 rfl rfl rfl (aa h0 (.inr rfl) rfl) fun a h0=>Ye (by kernel_rfl) (hQ a _ ?_))
     exact cO ed c3 c6 c9 c12 ua (h0.keep [0,1,8])
   ·refine ay Rn 3 h0 rfl rfl rfl rfl rfl rfl G.u24 G.o3 hm fun bl wn Rn a c6 un _ h0=>?_
    have ua:=ua.trans un
    have c9:=c9.up un (by simp)
    refine wpAny_all (rs:=[3,12]) (by kernel_rfl) (by simp) fun q hq=>?_
    simp only[List.mem_cons,List.mem_nil_iff,or_false]at hq
    rcases hq with rfl|rfl
    ·refine ay Rn 2 h0 rfl rfl rfl rfl rfl rfl G.u24 G.o3 hm fun bi wn Rn a c3 un _ h0=>?_
     have ua:=ua.trans un
     have c9:=c9.up un (by simp)
     have c6:=c6.up un (by simp)
     refine Y1 12 (by kernel_rfl) (ay Rn 6 h0 rfl rfl rfl rfl rfl rfl G.u24 G.o3 hm fun bf wn Rn a c12 un _ h0=>?_)
     have ua:=ua.trans un
     have c9:=c9.up un (by simp)
     have c6:=c6.up un (by simp)
     have c3:=c3.up un (by simp)
     refine Y1 13 (by kernel_rfl) (aj h0 rfl rfl rfl (aQ (cs:= #[vE,sl bi N,sl bl N,sl bo N,.slice none 0 0,iv 0,sl bf N,.slice none 0 0]) [(0,vE),(1,sl bi N),(2,sl bl N),(3,sl bo N),(6,sl bf N)] rfl (by simp[show a.eval (.tmp 19)=vE from h0.ev rfl,show a.eval (.tmp 22)=sl bi N from h0.ev rfl,show a.eval (.tmp 25)=sl bl N from h0.ev rfl,show a.eval (.tmp 28)=sl bo N from h0.ev rfl,show a.eval (.tmp 31)=sl bf N from h0.ev rfl]) (by rw[fE];exact G.bt65 _ _ _ _ _ _ _ _)) fun a h0=>?_)
     refine Y1 14 (by kernel_rfl) (aj h0 rfl rfl rfl (bC h0 rfl rfl) fun a h0=>?_)
     refine Y1 15 (by kernel_rfl) (aj h0 rfl rfl rfl (aa h0 (.inr rfl) rfl) fun a h0=>Ye (by kernel_rfl) (hQ a _ ?_))
     exact cO ed c3 c6 c9 c12 ua (h0.keep [0,1,8])
    ·refine ay Rn 6 h0 rfl rfl rfl rfl rfl rfl G.u24 G.o3 hm fun bf wn Rn a c12 un _ h0=>?_
     have ua:=ua.trans un
     have c9:=c9.up un (by simp)
     have c6:=c6.up un (by simp)
     refine Y1 3 (by kernel_rfl) (ay Rn 2 h0 rfl rfl rfl rfl rfl rfl G.u24 G.o3 hm fun bi wn Rn a c3 un _ h0=>?_)
     have ua:=ua.trans un
     have c9:=c9.up un (by simp)
     have c6:=c6.up un (by simp)
     have c12:=c12.up un (by simp)
     refine Y1 13 (by kernel_rfl) (aj h0 rfl rfl rfl (aQ (cs:= #[vE,sl bi N,sl bl N,sl bo N,.slice none 0 0,iv 0,sl bf N,.slice none 0 0]) [(0,vE),(1,sl bi N),(2,sl bl N),(3,sl bo N),(6,sl bf N)] rfl (by simp[show a.eval (.tmp 19)=vE from h0.ev rfl,show a.eval (.tmp 22)=sl bi N from h0.ev rfl,show a.eval (.tmp 25)=sl bl N from h0.ev rfl,show a.eval (.tmp 28)=sl bo N from h0.ev rfl,show a.eval (.tmp 31)=sl bf N from h0.ev rfl]) (by rw[fE];exact G.bt65 _ _ _ _ _ _ _ _)) fun a h0=>?_)
     refine Y1 14 (by kernel_rfl) (aj h0 rfl rfl rfl (bC h0 rfl rfl) fun a h0=>?_)
     refine Y1 15 (by kernel_rfl) (aj h0 rfl rfl rfl (aa h0 (.inr rfl) rfl) fun a h0=>Ye (by kernel_rfl) (hQ a _ ?_))
     exact cO ed c3 c6 c9 c12 ua (h0.keep [0,1,8])
   ·refine ay Rn 6 h0 rfl rfl rfl rfl rfl rfl G.u24 G.o3 hm fun bf wn Rn a c12 un _ h0=>?_
    have ua:=ua.trans un
    have c9:=c9.up un (by simp)
    refine wpAny_all (rs:=[3,6]) (by kernel_rfl) (by simp) fun q hq=>?_
    simp only[List.mem_cons,List.mem_nil_iff,or_false]at hq
    rcases hq with rfl|rfl
    ·refine ay Rn 2 h0 rfl rfl rfl rfl rfl rfl G.u24 G.o3 hm fun bi wn Rn a c3 un _ h0=>?_
     have ua:=ua.trans un
     have c9:=c9.up un (by simp)
     have c12:=c12.up un (by simp)
     refine Y1 6 (by kernel_rfl) (ay Rn 3 h0 rfl rfl rfl rfl rfl rfl G.u24 G.o3 hm fun bl wn Rn a c6 un _ h0=>?_)
     have ua:=ua.trans un
     have c9:=c9.up un (by simp)
     have c12:=c12.up un (by simp)
     have c3:=c3.up un (by simp)
     refine Y1 13 (by kernel_rfl) (aj h0 rfl rfl rfl (aQ (cs:= #[vE,sl bi N,sl bl N,sl bo N,.slice none 0 0,iv 0,sl bf N,.slice none 0 0]) [(0,vE),(1,sl bi N),(2,sl bl N),(3,sl bo N),(6,sl bf N)] rfl (by simp[show a.eval (.tmp 19)=vE from h0.ev rfl,show a.eval (.tmp 22)=sl bi N from h0.ev rfl,show a.eval (.tmp 25)=sl bl N from h0.ev rfl,show a.eval (.tmp 28)=sl bo N from h0.ev rfl,show a.eval (.tmp 31)=sl bf N from h0.ev rfl]) (by rw[fE];exact G.bt65 _ _ _ _ _ _ _ _)) fun a h0=>?_)
     refine Y1 14 (by kernel_rfl) (aj h0 rfl rfl rfl (bC h0 rfl rfl) fun a h0=>?_)
     refine Y1 15 (by kernel_rfl) (aj h0 rfl rfl rfl (aa h0 (.inr rfl) rfl) fun a h0=>Ye (by kernel_rfl) (hQ a _ ?_))
     exact cO ed c3 c6 c9 c12 ua (h0.keep [0,1,8])
    ·refine ay Rn 3 h0 rfl rfl rfl rfl rfl rfl G.u24 G.o3 hm fun bl wn Rn a c6 un _ h0=>?_
     have ua:=ua.trans un
     have c9:=c9.up un (by simp)
     have c12:=c12.up un (by simp)
     refine Y1 3 (by kernel_rfl) (ay Rn 2 h0 rfl rfl rfl rfl rfl rfl G.u24 G.o3 hm fun bi wn Rn a c3 un _ h0=>?_)
     have ua:=ua.trans un
     have c9:=c9.up un (by simp)
     have c12:=c12.up un (by simp)
     have c6:=c6.up un (by simp)
     refine Y1 13 (by kernel_rfl) (aj h0 rfl rfl rfl (aQ (cs:= #[vE,sl bi N,sl bl N,sl bo N,.slice none 0 0,iv 0,sl bf N,.slice none 0 0]) [(0,vE),(1,sl bi N),(2,sl bl N),(3,sl bo N),(6,sl bf N)] rfl (by simp[show a.eval (.tmp 19)=vE from h0.ev rfl,show a.eval (.tmp 22)=sl bi N from h0.ev rfl,show a.eval (.tmp 25)=sl bl N from h0.ev rfl,show a.eval (.tmp 28)=sl bo N from h0.ev rfl,show a.eval (.tmp 31)=sl bf N from h0.ev rfl]) (by rw[fE];exact G.bt65 _ _ _ _ _ _ _ _)) fun a h0=>?_)
     refine Y1 14 (by kernel_rfl) (aj h0 rfl rfl rfl (bC h0 rfl rfl) fun a h0=>?_)
     refine Y1 15 (by kernel_rfl) (aj h0 rfl rfl rfl (aa h0 (.inr rfl) rfl) fun a h0=>Ye (by kernel_rfl) (hQ a _ ?_))
     exact cO ed c3 c6 c9 c12 ua (h0.keep [0,1,8])
  ·refine ay Rn 6 h0 rfl rfl rfl rfl rfl rfl G.u24 G.o3 hm fun bf wn Rn a c12 un _ h0=>?_
   have ua:=ua.trans un
   refine wpAny_all (rs:=[3,6,9]) (by kernel_rfl) (by simp) fun q hq=>?_
   simp only[List.mem_cons,List.mem_nil_iff,or_false]at hq
   rcases hq with rfl|rfl|rfl
   ·refine ay Rn 2 h0 rfl rfl rfl rfl rfl rfl G.u24 G.o3 hm fun bi wn Rn a c3 un _ h0=>?_
    have ua:=ua.trans un
    have c12:=c12.up un (by simp)
    refine wpAny_all (rs:=[6,9]) (by kernel_rfl) (by simp) fun q hq=>?_
    simp only[List.mem_cons,List.mem_nil_iff,or_false]at hq
    rcases hq with rfl|rfl
    ·refine ay Rn 3 h0 rfl rfl rfl rfl rfl rfl G.u24 G.o3 hm fun bl wn Rn a c6 un _ h0=>?_
     have ua:=ua.trans un
     have c12:=c12.up un (by simp)
     have c3:=c3.up un (by simp)
     refine Y1 9 (by kernel_rfl) (ay Rn 4 h0 rfl rfl rfl rfl rfl rfl G.u63 G.o4 hm fun bo wn Rn a c9 un _ h0=>?_)
     have ua:=ua.trans un
     have c12:=c12.up un (by simp)
     have c3:=c3.up un (by simp)
     have c6:=c6.up un (by simp)
     refine Y1 13 (by kernel_rfl) (aj h0 rfl rfl rfl (aQ (cs:= #[vE,sl bi N,sl bl N,sl bo N,.slice none 0 0,iv 0,sl bf N,.slice none 0 0]) [(0,vE),(1,sl bi N),(2,sl bl N),(3,sl bo N),(6,sl bf N)] rfl (by simp[show a.eval (.tmp 19)=vE from h0.ev rfl,show a.eval (.tmp 22)=sl bi N from h0.ev rfl,show a.eval (.tmp 25)=sl bl N from h0.ev rfl,show a.eval (.tmp 28)=sl bo N from h0.ev rfl,show a.eval (.tmp 31)=sl bf N from h0.ev rfl]) (by rw[fE];exact G.bt65 _ _ _ _ _ _ _ _)) fun a h0=>?_)
     refine Y1 14 (by kernel_rfl) (aj h0 rfl rfl rfl (bC h0 rfl rfl) fun a h0=>?_)
     refine Y1 15 (by kernel_rfl) (aj h0 rfl rfl rfl (aa h0 (.inr rfl) rfl) fun a h0=>Ye (by kernel_rfl) (hQ a _ ?_))
     exact cO ed c3 c6 c9 c12 ua (h0.keep [0,1,8])
    ·refine ay Rn 4 h0 rfl rfl rfl rfl rfl rfl G.u63 G.o4 hm fun bo wn Rn a c9 un _ h0=>?_
     have ua:=ua.trans un
     have c12:=c12.up un (by simp)
     have c3:=c3.up un (by simp)
     refine Y1 6 (by kernel_rfl) (ay Rn 3 h0 rfl rfl rfl rfl rfl rfl G.u24 G.o3 hm fun bl wn Rn a c6 un _ h0=>?_)
     have ua:=ua.trans un
     have c12:=c12.up un (by simp)
     have c3:=c3.up un (by simp)
     have c9:=c9.up un (by simp)
     refine Y1 13 (by kernel_rfl) (aj h0 rfl rfl rfl (aQ (cs:= #[vE,sl bi N,sl bl N,sl bo N,.slice none 0 0,iv 0,sl bf N,.slice none 0 0]) [(0,vE),(1,sl bi N),(2,sl bl N),(3,sl bo N),(6,sl bf N)] rfl (by simp[show a.eval (.tmp 19)=vE from h0.ev rfl,show a.eval (.tmp 22)=sl bi N from h0.ev rfl,show a.eval (.tmp 25)=sl bl N from h0.ev rfl,show a.eval (.tmp 28)=sl bo N from h0.ev rfl,show a.eval (.tmp 31)=sl bf N from h0.ev rfl]) (by rw[fE];exact G.bt65 _ _ _ _ _ _ _ _)) fun a h0=>?_)
     refine Y1 14 (by kernel_rfl) (aj h0 rfl rfl rfl (bC h0 rfl rfl) fun a h0=>?_)
     refine Y1 15 (by kernel_rfl) (aj h0 rfl rfl rfl (aa h0 (.inr rfl) rfl) fun a h0=>Ye (by kernel_rfl) (hQ a _ ?_))
     exact cO ed c3 c6 c9 c12 ua (h0.keep [0,1,8])
   ·refine ay Rn 3 h0 rfl rfl rfl rfl rfl rfl G.u24 G.o3 hm fun bl wn Rn a c6 un _ h0=>?_
    have ua:=ua.trans un
    have c12:=c12.up un (by simp)
    refine wpAny_all (rs:=[3,9]) (by kernel_rfl) (by simp) fun q hq=>?_
    simp only[List.mem_cons,List.mem_nil_iff,or_false]at hq
    rcases hq with rfl|rfl
    ·refine ay Rn 2 h0 rfl rfl rfl rfl rfl rfl G.u24 G.o3 hm fun bi wn Rn a c3 un _ h0=>?_
     have ua:=ua.trans un
     have c12:=c12.up un (by simp)
     have c6:=c6.up un (by simp)
     refine Y1 9 (by kernel_rfl) (ay Rn 4 h0 rfl rfl rfl rfl rfl rfl G.u63 G.o4 hm fun bo wn Rn a c9 un _ h0=>?_)
     have ua:=ua.trans un
     have c12:=c12.up un (by simp)
     have c6:=c6.up un (by simp)
     have c3:=c3.up un (by simp)
     refine Y1 13 (by kernel_rfl) (aj h0 rfl rfl rfl (aQ (cs:= #[vE,sl bi N,sl bl N,sl bo N,.slice none 0 0,iv 0,sl bf N,.slice none 0 0]) [(0,vE),(1,sl bi N),(2,sl bl N),(3,sl bo N),(6,sl bf N)] rfl (by simp[show a.eval (.tmp 19)=vE from h0.ev rfl,show a.eval (.tmp 22)=sl bi N from h0.ev rfl,show a.eval (.tmp 25)=sl bl N from h0.ev rfl,show a.eval (.tmp 28)=sl bo N from h0.ev rfl,show a.eval (.tmp 31)=sl bf N from h0.ev rfl]) (by rw[fE];exact G.bt65 _ _ _ _ _ _ _ _)) fun a h0=>?_)
     refine Y1 14 (by kernel_rfl) (aj h0 rfl rfl rfl (bC h0 rfl rfl) fun a h0=>?_)
     refine Y1 15 (by kernel_rfl) (aj h0 rfl rfl rfl (aa h0 (.inr rfl) rfl) fun a h0=>Ye (by kernel_rfl) (hQ a _ ?_))
     exact cO ed c3 c6 c9 c12 ua (h0.keep [0,1,8])
    ·refine ay Rn 4 h0 rfl rfl rfl rfl rfl rfl G.u63 G.o4 hm fun bo wn Rn a c9 un _ h0=>?_
     have ua:=ua.trans un
     have c12:=c12.up un (by simp)
     have c6:=c6.up un (by simp)
     refine Y1 3 (by kernel_rfl) (ay Rn 2 h0 rfl rfl rfl rfl rfl rfl G.u24 G.o3 hm fun bi wn Rn a c3 un _ h0=>?_)
     have ua:=ua.trans un
     have c12:=c12.up un (by simp)
     have c6:=c6.up un (by simp)
     have c9:=c9.up un (by simp)
     refine Y1 13 (by kernel_rfl) (aj h0 rfl rfl rfl (aQ (cs:= #[vE,sl bi N,sl bl N,sl bo N,.slice none 0 0,iv 0,sl bf N,.slice none 0 0]) [(0,vE),(1,sl bi N),(2,sl bl N),(3,sl bo N),(6,sl bf N)] rfl (by simp[show a.eval (.tmp 19)=vE from h0.ev rfl,show a.eval (.tmp 22)=sl bi N from h0.ev rfl,show a.eval (.tmp 25)=sl bl N from h0.ev rfl,show a.eval (.tmp 28)=sl bo N from h0.ev rfl,show a.eval (.tmp 31)=sl bf N from h0.ev rfl]) (by rw[fE];exact G.bt65 _ _ _ _ _ _ _ _)) fun a h0=>?_)
     refine Y1 14 (by kernel_rfl) (aj h0 rfl rfl rfl (bC h0 rfl rfl) fun a h0=>?_)
     refine Y1 15 (by kernel_rfl) (aj h0 rfl rfl rfl (aa h0 (.inr rfl) rfl) fun a h0=>Ye (by kernel_rfl) (hQ a _ ?_))
     exact cO ed c3 c6 c9 c12 ua (h0.keep [0,1,8])
   ·refine ay Rn 4 h0 rfl rfl rfl rfl rfl rfl G.u63 G.o4 hm fun bo wn Rn a c9 un _ h0=>?_
    have ua:=ua.trans un
    have c12:=c12.up un (by simp)
    refine wpAny_all (rs:=[3,6]) (by kernel_rfl) (by simp) fun q hq=>?_
    simp only[List.mem_cons,List.mem_nil_iff,or_false]at hq
    rcases hq with rfl|rfl
    ·refine ay Rn 2 h0 rfl rfl rfl rfl rfl rfl G.u24 G.o3 hm fun bi wn Rn a c3 un _ h0=>?_
     have ua:=ua.trans un
     have c12:=c12.up un (by simp)
     have c9:=c9.up un (by simp)
     refine Y1 6 (by kernel_rfl) (ay Rn 3 h0 rfl rfl rfl rfl rfl rfl G.u24 G.o3 hm fun bl wn Rn a c6 un _ h0=>?_)
     have ua:=ua.trans un
     have c12:=c12.up un (by simp)
     have c9:=c9.up un (by simp)
     have c3:=c3.up un (by simp)
     refine Y1 13 (by kernel_rfl) (aj h0 rfl rfl rfl (aQ (cs:= #[vE,sl bi N,sl bl N,sl bo N,.slice none 0 0,iv 0,sl bf N,.slice none 0 0]) [(0,vE),(1,sl bi N),(2,sl bl N),(3,sl bo N),(6,sl bf N)] rfl (by simp[show a.eval (.tmp 19)=vE from h0.ev rfl,show a.eval (.tmp 22)=sl bi N from h0.ev rfl,show a.eval (.tmp 25)=sl bl N from h0.ev rfl,show a.eval (.tmp 28)=sl bo N from h0.ev rfl,show a.eval (.tmp 31)=sl bf N from h0.ev rfl]) (by rw[fE];exact G.bt65 _ _ _ _ _ _ _ _)) fun a h0=>?_)
     refine Y1 14 (by kernel_rfl) (aj h0 rfl rfl rfl (bC h0 rfl rfl) fun a h0=>?_)
     refine Y1 15 (by kernel_rfl) (aj h0 rfl rfl rfl (aa h0 (.inr rfl) rfl) fun a h0=>Ye (by kernel_rfl) (hQ a _ ?_))
     exact cO ed c3 c6 c9 c12 ua (h0.keep [0,1,8])
    ·refine ay Rn 3 h0 rfl rfl rfl rfl rfl rfl G.u24 G.o3 hm fun bl wn Rn a c6 un _ h0=>?_
     have ua:=ua.trans un
     have c12:=c12.up un (by simp)
     have c9:=c9.up un (by simp)
     refine Y1 3 (by kernel_rfl) (ay Rn 2 h0 rfl rfl rfl rfl rfl rfl G.u24 G.o3 hm fun bi wn Rn a c3 un _ h0=>?_)
     have ua:=ua.trans un
     have c12:=c12.up un (by simp)
     have c9:=c9.up un (by simp)
     have c6:=c6.up un (by simp)
     refine Y1 13 (by kernel_rfl) (aj h0 rfl rfl rfl (aQ (cs:= #[vE,sl bi N,sl bl N,sl bo N,.slice none 0 0,iv 0,sl bf N,.slice none 0 0]) [(0,vE),(1,sl bi N),(2,sl bl N),(3,sl bo N),(6,sl bf N)] rfl (by simp[show a.eval (.tmp 19)=vE from h0.ev rfl,show a.eval (.tmp 22)=sl bi N from h0.ev rfl,show a.eval (.tmp 25)=sl bl N from h0.ev rfl,show a.eval (.tmp 28)=sl bo N from h0.ev rfl,show a.eval (.tmp 31)=sl bf N from h0.ev rfl]) (by rw[fE];exact G.bt65 _ _ _ _ _ _ _ _)) fun a h0=>?_)
     refine Y1 14 (by kernel_rfl) (aj h0 rfl rfl rfl (bC h0 rfl rfl) fun a h0=>?_)
     refine Y1 15 (by kernel_rfl) (aj h0 rfl rfl rfl (aa h0 (.inr rfl) rfl) fun a h0=>Ye (by kernel_rfl) (hQ a _ ?_))
     exact cO ed c3 c6 c9 c12 ua (h0.keep [0,1,8])
 obtain⟨R3,b,k,h0,F3,u3⟩:=hl
 rw[←hNN]at hE hs1
 have hls:∀l∈E,l.length≤1000000:=fun l hl=>by
  obtain⟨i,hi,rfl⟩:=List.getElem_of_mem hl
  have hiu:i<uu.length:=by rw[hE.2.1, ←hE.1];exact hi
  have h4:=hE.2.2.2 i _ _ (List.getElem?_eq_getElem hi) (List.getElem?_eq_getElem hiu)
  have h5:=rQ (List.getElem_mem hiu)
  omega
 have W3:=WF0 hE.1 hE.2.2.1 hls
 have hlo3:lo≤w3.heap.size:=by have:=u3.1.size;omega
 refine ah (ah (ae ?_))
 (first|refine L h0 rfl rfl (aa h0 (.inl rfl) rfl) fun a h0=>?_|refine L h0 rfl rfl (aa h0 (.inr rfl) rfl) fun a h0=>?_|refine L h0 rfl rfl (ab h0 rfl rfl) fun a h0=>?_)
 refine L h0 rfl rfl (aM h0 rfl rfl G.u22) fun a h0=>?_
 (first|refine L h0 rfl rfl (aa h0 (.inl rfl) rfl) fun a h0=>?_|refine L h0 rfl rfl (aa h0 (.inr rfl) rfl) fun a h0=>?_|refine L h0 rfl rfl (ab h0 rfl rfl) fun a h0=>?_)
 refine Le (NW.mono (Q:=fun e a w4=>e= .normal∧SL 53 [(8,Ptr b 0)] a∧∃R4 k p,Fs w4 R4 b N lo E k p∧WF N E p∧Up [1,2,3,4,5,6,7,8] R3 R4 w3 w4) ?_ ?_)
 ·refine au (aW (fun m a w4=>∃j:Nat,m+j=N∧SL 53 [(8,Ptr b 0),(35,iv (N:Nat)),(36,iv j)] a∧∃R4 k p,Fs w4 R4 b N lo E k p∧WF N E p∧Up [1,2,3,4,5,6,7,8] R3 R4 w3 w4) N ⟨0,rfl,h0.keep [8,35,36],R3,k,_,F3,W3,Up.rfl⟩ ?_)
  clear h0 F3 W3
  rintro m a w4 ⟨j,hmj,h0,R4,k,p,F4,W4,u4⟩
  refine ah (ae ?_)
  refine L h0 rfl rfl (aG h0 rfl rfl rfl rfl) fun a h0=>?_
  refine Le (ah (ar (h0.ev rfl) (fun hc=>aw ?_) (fun hc=>aN ⟨rfl,h0.keep [8],R4,k,p,F4,W4,u4⟩)))
  have hj:j<N:=by simpa using hc
  have hlI:=F4.lI
  have hlo4:lo≤w4.heap.size:=by have:=u4.1.size;omega
  refine ah (au (ah (ae ?_)))
  (first|refine L h0 rfl rfl (aa h0 (.inl rfl) rfl) fun a h0=>?_|refine L h0 rfl rfl (aa h0 (.inr rfl) rfl) fun a h0=>?_|refine L h0 rfl rfl (ab h0 rfl rfl) fun a h0=>?_);(first|refine L h0 rfl rfl (aa h0 (.inl rfl) rfl) fun a h0=>?_|refine L h0 rfl rfl (aa h0 (.inr rfl) rfl) fun a h0=>?_|refine L h0 rfl rfl (ab h0 rfl rfl) fun a h0=>?_)
  refine Le (ah (ae ?_))
  (first|refine L h0 rfl rfl (aa h0 (.inl rfl) rfl) fun a h0=>?_|refine L h0 rfl rfl (aa h0 (.inr rfl) rfl) fun a h0=>?_|refine L h0 rfl rfl (ab h0 rfl rfl) fun a h0=>?_|refine L h0 rfl rfl (ak h0 rfl rfl (by first|exact G.fa _ (by decide)|exact G.g0|exact G.g1)) fun a h0=>?_|refine L h0 rfl rfl (ai h0 rfl rfl (by first|exact G.o24|exact G.o3|exact G.o63|exact G.o32) (F4.box).1 rfl) fun a h0=>?_);(first|refine L h0 rfl rfl (aa h0 (.inl rfl) rfl) fun a h0=>?_|refine L h0 rfl rfl (aa h0 (.inr rfl) rfl) fun a h0=>?_|refine L h0 rfl rfl (ab h0 rfl rfl) fun a h0=>?_|refine L h0 rfl rfl (ak h0 rfl rfl (by first|exact G.fa _ (by decide)|exact G.g0|exact G.g1)) fun a h0=>?_|refine L h0 rfl rfl (ai h0 rfl rfl (by first|exact G.o24|exact G.o3|exact G.o63|exact G.o32) (F4.box).1 rfl) fun a h0=>?_);(first|refine L h0 rfl rfl (aa h0 (.inl rfl) rfl) fun a h0=>?_|refine L h0 rfl rfl (aa h0 (.inr rfl) rfl) fun a h0=>?_|refine L h0 rfl rfl (ab h0 rfl rfl) fun a h0=>?_|refine L h0 rfl rfl (ak h0 rfl rfl (by first|exact G.fa _ (by decide)|exact G.g0|exact G.g1)) fun a h0=>?_|refine L h0 rfl rfl (ai h0 rfl rfl (by first|exact G.o24|exact G.o3|exact G.o63|exact G.o32) (F4.box).1 rfl) fun a h0=>?_);(first|refine L h0 rfl rfl (aa h0 (.inl rfl) rfl) fun a h0=>?_|refine L h0 rfl rfl (aa h0 (.inr rfl) rfl) fun a h0=>?_|refine L h0 rfl rfl (ab h0 rfl rfl) fun a h0=>?_|refine L h0 rfl rfl (ak h0 rfl rfl (by first|exact G.fa _ (by decide)|exact G.g0|exact G.g1)) fun a h0=>?_|refine L h0 rfl rfl (ai h0 rfl rfl (by first|exact G.o24|exact G.o3|exact G.o63|exact G.o32) (F4.box).1 rfl) fun a h0=>?_);(first|refine L h0 rfl rfl (aa h0 (.inl rfl) rfl) fun a h0=>?_|refine L h0 rfl rfl (aa h0 (.inr rfl) rfl) fun a h0=>?_|refine L h0 rfl rfl (ab h0 rfl rfl) fun a h0=>?_|refine L h0 rfl rfl (ak h0 rfl rfl (by first|exact G.fa _ (by decide)|exact G.g0|exact G.g1)) fun a h0=>?_|refine L h0 rfl rfl (ai h0 rfl rfl (by first|exact G.o24|exact G.o3|exact G.o63|exact G.o32) (F4.box).1 rfl) fun a h0=>?_)
  refine L h0 rfl rfl (aH h0 rfl rfl rfl G.u24 G.o3 hj) fun a h0=>?_
  refine L h0 rfl rfl (ai (v:=iv ((p.I[j]'(by omega)):Nat)) h0 rfl rfl G.o3 F4.idx.1 (by simp[hlI,hj])) fun a h0=>?_
  refine L h0 rfl rfl (aG h0 rfl rfl rfl rfl) fun a h0=>?_
  refine Le (ar (h0.ev rfl) (fun hc=>ae ?_) (fun hc=>aw (ae ?_)))
  ·have hz:p.I[j]? =some 0:=by
    rw[List.getElem?_eq_getElem (by omega)];simp at hc;rw[hc]
   (first|refine L h0 rfl rfl (aa h0 (.inl rfl) rfl) fun a h0=>?_|refine L h0 rfl rfl (aa h0 (.inr rfl) rfl) fun a h0=>?_|refine L h0 rfl rfl (ab h0 rfl rfl) fun a h0=>?_);(first|refine L h0 rfl rfl (aa h0 (.inl rfl) rfl) fun a h0=>?_|refine L h0 rfl rfl (aa h0 (.inr rfl) rfl) fun a h0=>?_|refine L h0 rfl rfl (ab h0 rfl rfl) fun a h0=>?_)
   refine Lc (vs:=[Ptr b 0,iv j]) h0 rfl rfl rfl rfl rfl B.b28.ok (xx G B H F4 W4 hz (by omega) hlo4) fun r w5 a hr h0=>?_
   obtain⟨R5,k5,p5,u5,F5,W5⟩:=hr
   refine Le (ae ?_)
   refine L h0 rfl rfl (cC (j+1:Nat) h0 rfl rfl rfl (by omega) (by omega) (by omega)) fun a h0=>?_
   (first|refine L h0 rfl rfl (aa h0 (.inl rfl) rfl) fun a h0=>?_|refine L h0 rfl rfl (aa h0 (.inr rfl) rfl) fun a h0=>?_|refine L h0 rfl rfl (ab h0 rfl rfl) fun a h0=>?_)
   exact Le ⟨m - 1,by omega,j+1,by omega,h0.keep [8,35,36],R5,k5,p5,F5,W5,u4.trans u5⟩
  ·refine L h0 rfl rfl (cC (j+1:Nat) h0 rfl rfl rfl (by omega) (by omega) (by omega)) fun a h0=>?_
   (first|refine L h0 rfl rfl (aa h0 (.inl rfl) rfl) fun a h0=>?_|refine L h0 rfl rfl (aa h0 (.inr rfl) rfl) fun a h0=>?_|refine L h0 rfl rfl (ab h0 rfl rfl) fun a h0=>?_)
   exact Le ⟨m - 1,by omega,j+1,by omega,h0.keep [8,35,36],R4,k,p,F4,W4,u4⟩
 rintro _ a w4 ⟨rfl,h0,R4,k,p,F4,W4,u4⟩
 refine ah (ae ?_)
 (first|refine L h0 rfl rfl (aa h0 (.inl rfl) rfl) fun a h0=>?_|refine L h0 rfl rfl (aa h0 (.inr rfl) rfl) fun a h0=>?_|refine L h0 rfl rfl (ab h0 rfl rfl) fun a h0=>?_)
 refine Lc (vs:=[Ptr b 0]) h0 rfl rfl rfl rfl rfl B.b29.ok (v8 G B F4 W4 (by omega)) fun r w5 a hr h0=>?_
 obtain⟨R5,xs,gs,u5,xo,hxl,hrs,hg1,iC,hg3⟩:=hr
 (first|refine L h0 rfl rfl (aa h0 (.inl rfl) rfl) fun a h0=>?_|refine L h0 rfl rfl (aa h0 (.inr rfl) rfl) fun a h0=>?_|refine L h0 rfl rfl (ab h0 rfl rfl) fun a h0=>?_);(first|refine L h0 rfl rfl (aa h0 (.inl rfl) rfl) fun a h0=>?_|refine L h0 rfl rfl (aa h0 (.inr rfl) rfl) fun a h0=>?_|refine L h0 rfl rfl (ab h0 rfl rfl) fun a h0=>?_)
 have hU5:Up (SO p.G.length++ [1,2,3,4,5,6,7,8]) R R5 w w5:=(u1.mono (by simp)).trans ((u3.mono (by simp)).trans ((u4.mono fun x hx=>List.mem_append_right _ hx).trans (u5.mono fun x hx=>List.mem_append_left _ hx)))
 have hno:∀x∈SO p.G.length++ [1,2,3,4,5,6,7,8],x≠0∧x≠99:=fun x hx=>by
  rcases CC hx with h|h
  ·have:=vY h;omega
  ·simp at h;omega
 have hfin:Up [] R (fun c=>if c<w.heap.size then R c else 0) w w5:=⟨hU5.1.mono fun c _ hc=>by
  have:=hno _ hc
  rcases hR c with h|h<;>rw[h]at this<;>omega,fun c hc=>by simp[hc]⟩
 have hR5:∀c,R5 c=0∨R5 c=12∨R5 c=99→R5 c≠99→(if c<w.heap.size then R c else 0)=0:=fun c _ hn=>by
  split
  ·rename_i hc
   rcases hR c with h|h
   ·exact h
   ·exact absurd ((hU5.2 c hc).trans h) hn
  ·rfl
 rw[hNN]at hg1 iC hg3
 refine Le (aP (lz h0 rfl rfl ⟨_,hfin,fun c=>?_,.inr ⟨gs,r,rfl,?_,hg1,iC,hg3,by omega⟩⟩))
 ·show(if c<w.heap.size then R c else 0)=0∨(if c<w.heap.size then R c else 0)=99
  split
  ·exact hR c
  ·exact .inl rfl
 have hrs':bE w5 (fun c=>(if c<w.heap.size then R c else 0)≠0) lo 1 (cM gs) xs:=bE.mono (Nat.le_refl _) (fun c o hc hn=>by
  have h0:R5 c=0:=Classical.not_not.1 hn
  exact⟨hc,by simp only[ne_eq,Classical.not_not];exact hR5 c (.inl h0) (by omega)⟩) hrs
 by_cases hx:xs=[]
 ·have hgs:gs=[]:=by rw[hx]at hxl;exact List.length_eq_zero_iff.1 hxl.symm
  subst hgs
  rcases xo.1.2 with⟨rfl,_⟩|⟨g,cap,cur,e,_,hg,hnc,_,hs,ht⟩
  ·exact .nil none 0
  ·rw[e,hx];exact .nil _ _
 ·obtain⟨g,cap,cs,e,hc,hg,dR,ht⟩:=xo.mem hx
  have hgw:¬ g<w.heap.size:=fun h=>by
   have h1:=hU5.2 g h
   rw[hg.2]at h1
   rcases hR g with h2|h2<;>omega
  have hgl:(cM gs).length=xs.length:=by simp[hxl]
  have hh:=ke (lo:=lo) (cap:=cap) hrs' hgl.symm hg.1 (by simp[hgw]) (by omega) (by omega) ht
  rw[hgl]at hh
  rw[e];exact hh
end Go.TL.H.Gq
set_option maxRecDepth 100000
namespace Go.TL.H.Gq
open Go
def c12:Code:=(.seq (.region 0 ([⟨(some 6),.assign (.const (.bool false)),0, "", #[],none⟩]:List Oper).toArray false) (.seq (.seq (.region 0 ([⟨(some 9),.move (.tmp 2),0, "", #[],none⟩,⟨(some 10),.call ⟨(.builtin .len), #[(.tmp 9)], #[24]⟩,3, "", #[],none⟩,⟨(some 11),.move (.const (.int .i64 0)),0, "", #[],none⟩]:List Oper).toArray false) (.block 0 (.loop (.seq (.region 0 ([⟨(some 12),.binOp .lss 3 (.tmp 11) (.tmp 10) 3,0, "", #[],none⟩]:List Oper).toArray false) (.seq (.cond (.tmp 12) .skip (.exit 0)) (.seq (.block 1 (.seq (.region 0 ([⟨(some 13),.indexAddr 24 (.tmp 9) (.tmp 11),0, "", #[],none⟩,⟨(some 14),.load 3 (.tmp 13),0, "", #[],none⟩,⟨(some 8),.assign (.tmp 14),0, "", #[],none⟩]:List Oper).toArray false) (.seq (.region 0 ([⟨(some 15),.move (.tmp 8),0, "", #[],none⟩,⟨(some 16),.binOp .lss 3 (.tmp 15) (.const (.int .i64 0)) 3,0, "", #[],none⟩,⟨(some 17),.move (.tmp 16),0, "", #[],none⟩,⟨(some 18),.move (.tmp 8),0, "", #[],(some (2,false))⟩,⟨(some 19),.move (.tmp 0),0, "", #[],(some (2,false))⟩,⟨(some 20),.call ⟨(.builtin .len), #[(.tmp 19)], #[22]⟩,3, "", #[],(some (2,false))⟩,⟨(some 21),.binOp .geq 3 (.tmp 18) (.tmp 20) 3,0, "", #[],(some (2,false))⟩,⟨(some 22),.pick (.tmp 17) (.const (.bool true)) (.tmp 21),0, "", #[],none⟩,⟨(some 23),.move (.tmp 22),0, "", #[],none⟩,⟨(some 24),.move (.tmp 8),0, "", #[],(some (8,false))⟩,⟨(some 25),.move (.tmp 1),0, "", #[],(some (8,false))⟩,⟨(some 26),.call ⟨(.builtin .len), #[(.tmp 25)], #[23]⟩,3, "", #[],(some (8,false))⟩,⟨(some 27),.binOp .geq 3 (.tmp 24) (.tmp 26) 3,0, "", #[],(some (8,false))⟩,⟨(some 28),.pick (.tmp 23) (.const (.bool true)) (.tmp 27),0, "", #[],none⟩]:List Oper).toArray false) (.cond (.tmp 28) (.seq (.region 0 ([⟨(some 6),.assign (.const (.bool false)),0, "", #[],none⟩]:List Oper).toArray false) .ret) .skip)))) (.region 0 ([⟨(some 29),.binOp .add 3 (.tmp 11) (.const (.int .i64 1)) 3,0, "", #[],none⟩,⟨(some 11),.move (.tmp 29),0, "", #[],none⟩]:List Oper).toArray false))))))) (.seq (.seq (.region 0 ([⟨(some 30),.move (.tmp 2),0, "", #[],none⟩,⟨(some 31),.call ⟨(.builtin .len), #[(.tmp 30)], #[24]⟩,3, "", #[],none⟩]:List Oper).toArray false) (.block 2 (.seq (.region 0 ([⟨(some 33),.binOp .eql 3 (.tmp 31) (.const (.int .i64 0)) 3,0, "", #[],none⟩,⟨(some 32),.assign (.tmp 33),0, "", #[],none⟩]:List Oper).toArray false) (.cond (.tmp 32) (.seq (.region 0 ([⟨(some 6),.assign (.const (.bool false)),0, "", #[],none⟩]:List Oper).toArray false) .ret) (.seq (.region 0 ([⟨(some 35),.binOp .eql 3 (.tmp 31) (.const (.int .i64 1)) 3,0, "", #[],none⟩,⟨(some 34),.assign (.tmp 35),0, "", #[],none⟩]:List Oper).toArray false) (.cond (.tmp 34) (.seq (.region 0 ([⟨(some 36),.move (.tmp 1),0, "", #[],none⟩,⟨(some 37),.move (.tmp 2),0, "", #[],none⟩,⟨(some 38),.indexAddr 24 (.tmp 37) (.const (.int .i64 0)),0, "", #[eD 1],none⟩,⟨(some 39),.load 3 (.tmp 38),0, "", #[eD 2],none⟩,⟨(some 40),.indexAddr 23 (.tmp 36) (.tmp 39),0, "", #[eD 0,eD 3],none⟩,⟨(some 41),.load 22 (.tmp 40),0, "", #[eD 4],none⟩,⟨(some 42),.move (.tmp 0),0, "", #[],none⟩,⟨(some 43),.move (.tmp 2),0, "", #[],none⟩,⟨(some 44),.indexAddr 24 (.tmp 43) (.const (.int .i64 0)),0, "", #[eD 7],none⟩,⟨(some 45),.load 3 (.tmp 44),0, "", #[eD 8],none⟩,⟨(some 46),.indexAddr 22 (.tmp 42) (.tmp 45),0, "", #[eD 6,eD 9],none⟩,⟨(some 47),.load 9 (.tmp 46),0, "", #[eD 10],none⟩,⟨(some 48),.call ⟨(.value (.func 31)), #[(.tmp 41),(.tmp 47)], #[]⟩,0, "", #[eD 5,eD 11],none⟩,⟨(some 6),.assign (.tmp 48),0, "", #[eD 12,eC 12,eP 0,eP 1,eP 2,eP 3,eP 4,eP 5,eP 6,eP 7,eP 8,eP 9,eP 10,eP 11,eP 12],none⟩]:List Oper).toArray true) .ret) .skip)))))) (.seq (.region 0 ([⟨(some 6),.assign (.const (.bool true)),0, "", #[],none⟩]:List Oper).toArray false) .ret))))
def c31:Code:=(.seq (.region 0 ([⟨(some 4),.assign (.const (.bool false)),0, "", #[],none⟩]:List Oper).toArray false) (.seq (.region 0 ([⟨(some 5),.move (.tmp 0),0, "", #[],none⟩,⟨(some 6),.move (.tmp 1),0, "", #[],none⟩,⟨(some 7),.call ⟨(.value (.func 43)), #[(.tmp 5),(.tmp 6)], #[]⟩,0, "", #[],none⟩,⟨(some 8),.binOp .geq 3 (.tmp 7) (.const (.int .i64 0)) 3,0, "", #[],none⟩,⟨(some 4),.assign (.tmp 8),0, "", #[],none⟩]:List Oper).toArray false) .ret))
def c43:Code:=(.seq (.region 0 ([⟨(some 4),.assign (.const (.int .i64 0)),0, "", #[],none⟩]:List Oper).toArray false) (.seq (.seq (.region 0 ([⟨(some 6),.move (.tmp 0),0, "", #[],none⟩,⟨(some 7),.call ⟨(.builtin .len), #[(.tmp 6)], #[22]⟩,3, "", #[],none⟩,⟨(some 8),.move (.const (.int .i64 0)),0, "", #[],none⟩]:List Oper).toArray false) (.block 0 (.loop (.seq (.region 0 ([⟨(some 9),.binOp .lss 3 (.tmp 8) (.tmp 7) 3,0, "", #[],none⟩]:List Oper).toArray false) (.seq (.cond (.tmp 9) .skip (.exit 0)) (.seq (.block 1 (.seq (.region 0 ([⟨(some 10),.move (.tmp 8),0, "", #[],none⟩,⟨(some 5),.assign (.tmp 10),0, "", #[],none⟩]:List Oper).toArray false) (.seq (.region 0 ([⟨(some 11),.move (.tmp 1),0, "", #[],none⟩,⟨(some 12),.move (.tmp 0),0, "", #[],none⟩,⟨(some 13),.move (.tmp 5),0, "", #[],none⟩,⟨(some 14),.indexAddr 22 (.tmp 12) (.tmp 13),0, "", #[],none⟩,⟨(some 15),.load 9 (.tmp 14),0, "", #[],none⟩,⟨(some 16),.binOp .eql 9 (.tmp 11) (.tmp 15) 9,0, "", #[],none⟩]:List Oper).toArray false) (.cond (.tmp 16) (.seq (.region 0 ([⟨(some 17),.move (.tmp 5),0, "", #[],none⟩,⟨(some 4),.assign (.tmp 17),0, "", #[],none⟩]:List Oper).toArray false) .ret) .skip)))) (.region 0 ([⟨(some 18),.binOp .add 3 (.tmp 8) (.const (.int .i64 1)) 3,0, "", #[],none⟩,⟨(some 8),.move (.tmp 18),0, "", #[],none⟩]:List Oper).toArray false))))))) (.seq (.region 0 ([⟨(some 4),.assign (.const (.int .i64 (-1))),0, "", #[],none⟩]:List Oper).toArray false) .ret)))
structure GB2(P:Program):Prop where
 b12:Body P 12 49 [.tmp 6] c12
 b31:Body P 31 9 [.tmp 4] c31
 b43:Body P 43 19 [.tmp 4] c43
end Go.TL.H.Gq
