/- look and alike: results seen, and compared. -/
import Derived.Test.YtbjmbhgbalmoaaaW10
import Derived.Laws.MakeOwn
import Derived.Test.YtbjmbhgbalmoaaaW08
namespace Go.TL.H
open Go
structure TZ where
 LE:TypeId
 LF:TypeId
 FT:TypeId
structure nk(P:Program)(y:TY)(z:TZ):Prop where
 leU:P.underlying z.LE=some (.slice y.E)
 lfU:P.underlying z.LF=some (.slice z.FT)
 ft:One P z.FT .nilFunc
def qJ(g:FuncId):Code:=rg [p1 3 (.move (t 0)),p1 4 (.call ⟨.value (.func g), #[t 3,t 1], #[]⟩)]
inductive RS where
 |no
 |one(F g:FuncId)(bx:Nat)
def RS.len:RS→Nat
 | .no=>0
 | .one _ _ _=>1
def clo(F:FuncId)(bx:Nat):Value:= .func (.func F) #[] #[Ptr bx 0]
def gF(w:World)(l:Value):RS→Prop
 | .no=>∃p c,l= .slice p 0 c
 | .one F _ bx=>∃bl tt,l= .slice (some ⟨bl,0,none⟩) 1 1∧w.heap[bl]? =some (.cells #[clo F bx] tt (0,0))
def Seen(P:Program)(_y:TY)(D:cT)(wr:Bool)(c:aK):RS→Prop
 | .no=>True
 | .one F g bx=>Body P F 5 [] (qJ g)∧∃r d,lk D g=some r∧r.ck.length≤1000∧∀(j:Nat) (k:CK),r.ck[j]? =some k→Pl P wr false c d bx j k
def Bh:Eye:=⟨[],[],0⟩
theorem bd0{K:Nat}(h:K≤1000):Bd K 0 0:=⟨by simp only[Phi];omega,by simp only[Dd];omega⟩
theorem Gr.small{K n s:Nat}{hn:Bool}(g:Gr K hn 0 0 n s)(hK:K≤1000):n≤3300000∧s≤7000000000000:=by
 have hb:=(bd0 hK).step (K2:=0) g (by omega)
 have h1:=hb.phi;have h2:=hb.str
 have h3:=lP n
 exact⟨by omega,by omega⟩
theorem uP{P:Program}{y:TY}{D:cT}{mark wr:Bool}{d:Nat}{F g:FuncId}{r:Row}(hB:Body P F 5 [] (qJ g))(aC:aD P g=true)(hC:qH P y D mark false wr d g r){w:World}{be bx:Nat}{vn vs:Value}{e:Eye}{c:aK}
  (hE:bO y w be vn vs e mark false)(hz:Zn c w)(hd:∀b,EB be vn vs b→c b=none)(hp:∀(j:Nat) (k:CK),r.ck[j]? =some k→Pl P wr false c d bx j k)(hb:Bd r.ck.length e.n.length e.s.length):
  Ret P F [Ptr be 0,Ptr bx 0] w (Out y mark false r.ck.length r.hn (fun a b=>See D false c (.fn g bx 0) a b) w be vn vs e c):=by
 refine aJ hB ?_
 have hs:=SL.init (n:=5) [Ptr be 0,Ptr bx 0] rfl
 revert hs
 generalize({tmps:=_,defers:=[]}:Act)=a
 intro hs
 refine ae ?_
 refine L hs rfl rfl (aa hs (.inl rfl) rfl) fun a hs=>?_
 have iA:=hC w be bx 0 vn vs e c hE hz hd (by simpa using hp) hb
 refine Lc hs rfl rfl rfl rfl rfl aC iA fun v w3 a hO hs=>?_
 obtain⟨_,dK,bP,e',c',hP⟩:=hO
 exact Le (kT hs ⟨rfl,dK,bP,e',c',hP⟩)
theorem mr{y:TY}{w:World}{be:Nat}{tt:TypeId}{m r:Bool}{at':Int}(h:w.heap[be]? =some (.cells (an ao ao at' m r) tt (0,0))):bO y w be ao ao ⟨[],[],at'⟩ m r:=
 ⟨⟨tt,h⟩,World.ownsRow_nil w 0 y.I 1,World.ownsRow_nil w 0 y.S 1,by simp[ao,Value.ownBlock],by simp[ao,Value.ownBlock],by simp[ao,Value.ownBlock]⟩
theorem bD.quiet{y:TY}{room:Bool}{K:Nat}{h:Bool}{Sr:Eye→Eye→Prop}{w:World}{be:Nat}{vn vs:Value}{e:Eye}{c:aK}{w':World}{dK bP:Value}{e':Eye}{c':aK}(hP:bD y false room K h Sr w be vn vs e c w' dK bP e' c')(hz:Zn c w):
  Ch (fun b=>EB be vn vs b) w w':=by
 refine⟨hP.ch.os,hP.ch.tape,hP.ch.output,hP.ch.size,fun b hb hn=>?_⟩
 cases hc:c b with
 |none=>exact hP.ch.keep b hb (by rintro(h|h);exact hn h;exact h hc)
 |some o=>
  rw[hz b o hc]
  have:=(hP.same rfl).1
  exact hP.zn b o (by rw[this];exact hc)
def uQ(y:TY)(D:cT)(c:aK)(lo:Nat)(w:World)(v:Value):RS→Prop
 | .no=>∃p cp,v= .slice p 0 cp
 | .one _ g bx=>∃bo vn vs e,v= .slice (some ⟨bo,0,none⟩) 1 1∧bO y w bo vn vs e false false∧See D false c (.fn g bx 0) Bh e∧e.n.length≤3300000∧e.s.length≤7000000000000∧∀b,EB bo vn vs b→c b=none∧lo≤b
def mu(y:TY)(z:TZ):Code:=
 .seq (rg [p1 2 (.assign (.const (.slice none 0 0)))])
  (.seq (rg [p1 5 (.move (t 0)),pt 6 (eX (t 5) z.LF) y.I,p1 7 (.makeSlice z.LE (t 6) (t 6)),p1 3 (.assign (t 7))])
   (.seq (.seq (rg [p1 4 (.assign (ci 0))])
    (.block 0 (.loop (.seq (.seq (rg [p1 8 (.move (t 4)),p1 9 (.move (t 0)),pt 10 (eX (t 9) z.LF) y.I,p1 11 (.binOp .lss y.I (t 8) (t 10) y.I)]) (.cond (t 11) .skip (.exit 0)))
     (.seq (.block 1 (rd [q1 14 (.move (t 0)) [],q1 15 (.move (t 4)) [],q1 16 (.indexAddr z.LF (t 14) (t 15)) [eD 0,eD 1],q1 17 (.load z.FT (t 16)) [eD 2],q1 18 (.move (t 3)) [],q1 19 (.move (t 4)) [],q1 20 (.indexAddr z.LE (t 18) (t 19)) [eD 4,eD 5],
       q1 21 (.call ⟨.value (t 17), #[t 20], #[]⟩) [eD 3,eD 6]]))
      (rg [p1 12 (.move (t 4)),p1 13 (.binOp .add y.I (t 12) (ci 1) y.I),p1 4 (.assign (t 13))]))))))
    (.seq (rg [p1 22 (.move (t 3)),p1 2 (.assign (t 22))]) .ret)))
theorem nU{P:Program}{o:Oper}{n:Nat}{sl:aT}{a:Act}{w:World}{x ix:Operand}{LT e:TypeId}{zs:List Value}{m:Nat}(h:SL n sl a)(ho:o.op= .makeSlice LT x ix)(ex:ev sl x=some (.int .i64 (m:Int)))(ei:ev sl ix=some (.int .i64 (m:Int)))
  (ht:P.underlying LT=some (.slice e))(hT:Big P e zs)(hm:m≤1)(hzl:zs.length≤1000):(execOp a.eval o).run P w= .ok (.value (.slice (some ⟨w.heap.size,0,none⟩) m m)) (w.alloc (.cells (madeCells zs.toArray (m*zs.length)) e)):=by
 obtain⟨i,hi,_,hs,hz,hb⟩:=hT.is
 have hbb:(i.bytes:Int)*(m:Int)≤281474976710656:=by
  have:i.bytes*m≤1024*1:=Nat.mul_le_mul hb hm
  have h2:((i.bytes*m:Nat):Int)≤1024:=by omega
  rw[Int.natCast_mul]at h2;omega
 have:=run_makeSlice (P:=P) (w:=w) LT e i (.agg zs.toArray) ht hi hz .i64 .i64 (m:Int) (m:Int) (by omega) (by omega) (by rw[hs];have:=Nat.mul_le_mul hm hzl;simp only[Int.toNat_natCast];omega) hbb (by omega)
 simp only[Int.toNat_natCast,hs]at this
 simp[execOp,ho,h.ev ex,h.ev ei,this,Value.cells]
theorem look_ok{P:Program}{y:TY}{z:TZ}(K:Kit P y)(K2:nk P y z){D:cT}(hD:iL P y D){f:FuncId}(hB:Body P f 23 [.tmp 2] (mu y z)){w:World}{l:Value}{rs:RS}{c:aK}{wr:Bool}(hl:gF w l rs)(hse:Seen P y D wr c rs)(hz:Zn c w)(hlb:∀b,c b≠none→b<w.heap.size):
  Ret P f [l] w fun v w'=>uQ y D c w.heap.size w' v rs∧Ch (fun _=>False) w w':=by
 obtain⟨pl,cl,hlv⟩:∃pl cl,l= .slice pl rs.len cl:=by
  cases rs with
  |no=>obtain⟨p,c,h⟩:=hl;exact⟨p,c,h⟩
  |one F g bx=>obtain⟨bl,tt,h,_⟩:=hl;exact⟨_,_,h⟩
 have hm1:rs.len≤1:=by cases rs<;>simp[RS.len]
 refine aJ hB ?_
 have hs:=SL.init (n:=23) [l] rfl
 revert hs
 generalize({tmps:=_,defers:=[]}:Act)=a
 intro hs
 refine ah (ae ?_)
 refine L hs rfl rfl (aa hs (.inr rfl) rfl) fun a hs=>?_
 refine Le (ah (ae ?_))
 refine L hs rfl rfl (aa hs (.inl rfl) rfl) fun a hs=>?_
 refine L hs rfl rfl (aM hs rfl (by rw[←hlv];rfl) K2.lfU) fun a hs=>?_
 refine L hs rfl rfl (nU hs rfl rfl rfl K2.leU K.eB hm1 (by decide)) fun a hs=>?_
 refine L hs rfl rfl (aa hs (.inr rfl) rfl) fun a hs=>?_
 refine Le (ah (ah (ae ?_)))
 refine L hs rfl rfl (aa hs (.inr rfl) rfl) fun a hs=>?_
 have g0:=Ch.alloc (fun _=>False) w (.cells (madeCells [ao,ao,.bool false,.int .i64 0,.bool false].toArray (rs.len*5)) y.E)
 have hb0:=heap_alloc_new w (.cells (madeCells [ao,ao,.bool false,.int .i64 0,.bool false].toArray (rs.len*5)) y.E)
 refine Le (au (aW (fun m a w1=>∃i:Nat,i+m=rs.len∧SL 23 [(0,l),(3,.slice (some ⟨w.heap.size,0,none⟩) rs.len rs.len),(4,.int .i64 (i:Int))] a∧Ch (fun _=>False) w w1∧
   (i=0→w1=w.alloc (.cells (madeCells [ao,ao,.bool false,.int .i64 0,.bool false].toArray (rs.len*5)) y.E))∧(i=rs.len→uQ y D c w.heap.size w1 (.slice (some ⟨w.heap.size,0,none⟩) rs.len rs.len) rs)) rs.len ⟨0,by omega,hs.keep [0,3,4],g0,fun _=>rfl,fun h=>?_⟩ ?_))
 ·cases rs with
  |no=>exact⟨_,_,rfl⟩
  |one F g bx=>cases h
 rintro m a w1 ⟨i,him,hs,dm,hi0,hiL⟩
 refine ah (ah (ae ?_))
 refine L hs rfl rfl (aa hs (.inl rfl) rfl) fun a hs=>?_
 refine L hs rfl rfl (aa hs (.inl rfl) rfl) fun a hs=>?_
 refine L hs rfl rfl (aM hs rfl (by rw[←hlv];rfl) K2.lfU) fun a hs=>?_
 refine L hs rfl rfl (aG hs rfl rfl rfl rfl) fun a hs=>?_
 refine Le (ar (t:=decide ((i:Int)<(rs.len:Int))) (hs.ev rfl) (fun aF=>aw ?_) fun aF=>aN ?_)
 ·have aF:=of_decide_eq_true aF
  have hi:i=0:=by omega
  subst hi
  obtain rfl:=hi0 rfl
  cases rs with
  |no=>simp[RS.len]at aF
  |one F g bx=>
   obtain⟨bl,tt,rfl,hbl⟩:=hl
   obtain⟨hF,r,d,hr,hK,hp⟩:=hse
   have g1:=mq g0
   obtain⟨inf,hinf,_,_,_⟩:=K.eB.is
   refine ah (au (jy 7 K.mixed (by kernel_rfl) ?_))
   refine T hs rfl rfl (aa hs (.inl rfl) rfl) fun a hs=>?_
   refine T hs rfl rfl (aa hs (.inl rfl) rfl) fun a hs=>?_
   refine T hs rfl rfl (jV (i:=0) hs rfl rfl rfl K2.lfU K2.ft (by omega)) fun a hs=>?_
   refine T hs rfl rfl (ai hs rfl rfl K2.ft (g1.at hbl fun h=>h) (v:=clo F bx) rfl) fun a hs=>?_
   refine T hs rfl rfl (aa hs (.inl rfl) rfl) fun a hs=>?_
   refine T hs rfl rfl (aa hs (.inl rfl) rfl) fun a hs=>?_
   refine T hs rfl rfl (j5 (i:=0) hs rfl rfl rfl K2.leU hinf (by omega) (by simp[RS.len])) fun a hs=>?_
   rw[show 0+(0:Int).toNat*inf.size=0 by simp]at hs
   have gM:({w.alloc (.cells (madeCells [ao,ao,.bool false,.int .i64 0,.bool false].toArray ((RS.one F g bx).len*5)) y.E)with drawn:=(w.alloc (.cells (madeCells [ao,ao,.bool false,.int .i64 0,.bool false].toArray ((RS.one F g bx).len*5)) y.E)).drawn+1}:World).heap[w.heap.size]? =some (.cells (an ao ao 0 false false) y.E (0,0)):=by
    have e:madeCells [ao,ao,.bool false,.int .i64 0,.bool false].toArray ((RS.one F g bx).len*5)=an ao ao 0 false false:=by kernel_rfl
    rw[←e];exact hb0
   have hE:=mr (y:=y) gM
   have hzz:=hz.keep g1 fun _ _ h=>h
   have hdis:∀b,EB w.heap.size ao ao b→c b=none:=by
    rintro b (rfl|h|h)
    ·cases hc:c w.heap.size with
     |none=>rfl
     |some o=>exact absurd (hlb w.heap.size (by rw[hc];simp)) (by omega)
    ·simp[ao,Value.ownBlock]at h
    ·simp[ao,Value.ownBlock]at h
   have aC:aD P g=true:=by
    have:=hD g r hr
    unfold Fit at this
    split at this<;>exact this.1.ok
   have hC:=nS K (D:=D) (mark:=false) (room:=false) (wr:=wr) hD (fun h=>by cases h) d r.bp g r hr (Nat.le_refl _)
   have iA:=uP hF aC hC hE hzz hdis hp (bd0 hK)
   refine Te (Lc hs rfl rfl rfl rfl rfl hF.ok iA fun v w3 a hO hs=>?_)
   obtain⟨_,dK,bP,e',c',hP⟩:=hO
   obtain⟨hcc,hsee⟩:=hP.same rfl
   subst hcc
   have hq:=hP.quiet hzz
   have hw3:Ch (fun _=>False) w w3:=g1.trans' hq fun b hb h=>by
    rcases h with rfl|h|h
    ·omega
    ·simp[ao,Value.ownBlock]at h
    ·simp[ao,Value.ownBlock]at h
   obtain⟨b1,b2⟩:=hP.gr.small hK
   refine Le (ae ?_)
   refine L hs rfl rfl (aa hs (.inl rfl) rfl) fun a hs=>?_
   refine L hs rfl rfl (bJ hs rfl rfl rfl rfl) fun a hs=>?_
   refine L hs rfl rfl (aa hs (.inr rfl) rfl) fun a hs=>?_
   refine Le ⟨m - 1,by omega,1,by omega,hs.keep [0,3,4],hw3,fun h=>by omega,fun _=>⟨w.heap.size,dK,bP,e',rfl,hP.eye,hsee,b1,b2,fun b hb=>⟨hP.dis b hb,by
    rcases hP.new b hb with h|h
    ·rcases h with h|h|h
     ·omega
     ·simp[ao,Value.ownBlock]at h
     ·simp[ao,Value.ownBlock]at h
    ·exact Nat.le_trans g1.size h⟩⟩⟩
 ·have aF:=of_decide_eq_false aF
  have hk:=hiL (by omega)
  refine ah (ae ?_)
  refine L hs rfl rfl (aa hs (.inl rfl) rfl) fun a hs=>?_
  refine L hs rfl rfl (aa hs (.inr rfl) rfl) fun a hs=>?_
  exact Le (aP (cH hs rfl ⟨hk,dm⟩))
def kq(y:TY)(z:TZ)(same:FuncId):Code:=
 .seq (rg [p1 6 (.assign (.const (.bool false)))])
  (.seq (.seq (rg [p1 7 (.assign (ci 0))])
   (.block 0 (.loop (.seq (.seq (rg [p1 8 (.move (t 7)),p1 9 (.move (t 0)),pt 10 (eX (t 9) z.LE) y.I,p1 11 (.binOp .lss y.I (t 8) (t 10) y.I)]) (.cond (t 11) .skip (.exit 0)))
    (.seq (.block 1 (.seq (rd [q1 14 (.move (t 7)) [],q1 15 (.move (t 2)) [],q1 16 (.binOp .neq y.I (t 14) (t 15) y.I) [eD 0,eD 1],q1 17 (.move (t 16)) [eD 2],
      ⟨some 18,.move (t 0),0, "", #[⟨3,.guard⟩],some (3,true)⟩,⟨some 19,.move (t 7),0, "", #[⟨3,.guard⟩],some (3,true)⟩,⟨some 20,.indexAddr z.LE (t 18) (t 19),0, "", #[eD 4,eD 5,⟨3,.guard⟩],some (3,true)⟩,
      ⟨some 21,.load y.E (t 20),0, "", #[eD 6,⟨3,.guard⟩],some (3,true)⟩,⟨some 22,.move (t 1),0, "", #[⟨3,.guard⟩],some (3,true)⟩,⟨some 23,.move (t 7),0, "", #[⟨3,.guard⟩],some (3,true)⟩,
      ⟨some 24,.indexAddr z.LE (t 22) (t 23),0, "", #[eD 8,eD 9,⟨3,.guard⟩],some (3,true)⟩,⟨some 25,.load y.E (t 24),0, "", #[eD 10,⟨3,.guard⟩],some (3,true)⟩,
      ⟨some 26,.call ⟨.value (.func same), #[t 21,t 25], #[]⟩,0, "", #[eD 7,eD 11,eC 3,⟨3,.guard⟩],some (3,true)⟩,⟨some 27,.unOp .not y.B (t 26),0, "", #[eD 12,⟨3,.guard⟩],some (3,true)⟩,
      q1 28 (.pick (t 17) (t 27) (.const (.bool false))) [eD 3,eD 13]])
      (.cond (t 28) (jc false 6) .skip)))
     (rg [p1 12 (.move (t 7)),p1 13 (.binOp .add y.I (t 12) (ci 1) y.I),p1 7 (.assign (t 13))]))))))
   (jc true 6))
def zC(y:TY)(w:World)(v1 v2:Value)(k:Int)(m:Nat):Prop:=
 (m=0∧∃p c,v1= .slice p 0 c)∨(m=1∧∃b1,v1= .slice (some ⟨b1,0,none⟩) 1 1∧(k≠0→∃b2 vn vs fY cW e1 e2 a1 a2 a3 a4,v2= .slice (some ⟨b2,0,none⟩) 1 1∧bO y w b1 vn vs e1 a1 a2∧bO y w b2 fY cW e2 a3 a4∧e1.n=e2.n∧e1.s=e2.s∧
  e1.n.length≤3300000∧e1.s.length≤7000000000000))
theorem qK{P:Program}{y:TY}{z:TZ}(K:Kit P y)(K2:nk P y z){f same:FuncId}(hB:Body P f 29 [.tmp 6] (kq y z same))(hS:Body P same 59 [.tmp 4] (jW y)){w:World}{v1 v2:Value}{k:Int}{m:Nat}(hp:zC y w v1 v2 k m):
  Ret P f [v1,v2,.int .i64 k] w fun v w'=>v= .bool true∧Ch (fun _=>False) w w':=by
 obtain⟨p1',c1',hv1,hm1⟩:∃p c,v1= .slice p m c∧m≤1:=by
  rcases hp with⟨rfl,p,c,h⟩|⟨rfl,b1,h,_⟩
  ·exact⟨p,c,h,by omega⟩
  ·exact⟨_,_,h,by omega⟩
 refine aJ hB ?_
 have hs:=SL.init (n:=29) [v1,v2,.int .i64 k] rfl
 revert hs
 generalize({tmps:=_,defers:=[]}:Act)=a
 intro hs
 refine ah (ae ?_)
 refine L hs rfl rfl (aa hs (.inr rfl) rfl) fun a hs=>?_
 refine Le (ah (ah (ae ?_)))
 refine L hs rfl rfl (aa hs (.inr rfl) rfl) fun a hs=>?_
 refine Le (au (aW (fun q a w1=>∃i:Nat,i+q=m∧SL 29 [(0,v1),(1,v2),(2,.int .i64 k),(7,.int .i64 (i:Int))] a∧Ch (fun _=>False) w w1) m ⟨0,by omega,hs.keep [0,1,2,7],Ch.refl _ _⟩ ?_))
 rintro q a w1 ⟨i,hiq,hs,dm⟩
 refine ah (ah (ae ?_))
 refine L hs rfl rfl (aa hs (.inl rfl) rfl) fun a hs=>?_
 refine L hs rfl rfl (aa hs (.inl rfl) rfl) fun a hs=>?_
 refine L hs rfl rfl (aM hs rfl (by rw[←hv1];rfl) K2.leU) fun a hs=>?_
 refine L hs rfl rfl (aG hs rfl rfl rfl rfl) fun a hs=>?_
 refine Le (ar (t:=decide ((i:Int)<(m:Int))) (hs.ev rfl) (fun aF=>aw ?_) fun aF=>aN ?_)
 ·have aF:=of_decide_eq_true aF
  have hi:i=0:=by omega
  subst hi
  have hw2:=mq dm
  have next:∀(a:Act) (w3:World),SL 29 [(0,v1),(1,v2),(2,.int .i64 k),(7,.int .i64 ((0:Nat):Int))] a→Ch (fun _=>False) w w3→wpList P ([p1 12 (.move (t 7)),p1 13 (.binOp .add y.I (t 12) (ci 1) y.I),p1 7 (.assign (t 13))]:List Oper).toArray
    (fun e a' w'=>match e with| .normal=>∃m',m'<q∧∃i:Nat,i+m'=m∧SL 29 [(0,v1),(1,v2),(2,.int .i64 k),(7,.int .i64 (i:Int))] a'∧Ch (fun _=>False) w w'|_=>False) [p1 12 (.move (t 7)),p1 13 (.binOp .add y.I (t 12) (ci 1) y.I),p1 7 (.assign (t 13))] a w3:=by
   intro a w3 hs hw3
   refine L hs rfl rfl (aa hs (.inl rfl) rfl) fun a hs=>?_
   refine L hs rfl rfl (bJ hs rfl rfl rfl rfl) fun a hs=>?_
   refine L hs rfl rfl (aa hs (.inr rfl) rfl) fun a hs=>?_
   exact Le ⟨q - 1,by omega,1,by omega,hs.keep [0,1,2,7],hw3⟩
  rcases hp with⟨rfl,_⟩|⟨rfl,b1,rfl,hk⟩
  ·omega
  refine ah (au (ah (jy 12 K.mixed (by kernel_rfl) ?_)))
  refine T hs rfl rfl (aa hs (.inl rfl) rfl) fun a hs=>?_
  refine T hs rfl rfl (aa hs (.inl rfl) rfl) fun a hs=>?_
  refine T hs rfl rfl (aG hs rfl rfl rfl rfl) fun a hs=>?_
  by_cases hk0:k=0
  ·subst hk0
   refine T hs rfl rfl (aa hs (.inl rfl) (v:= .bool false) rfl) fun a hs=>?_
   refine Tu hs (by rw[wg hs rfl rfl rfl rfl];rfl) rfl fun a hs=>?_
   refine Tu hs (by rw[wg hs rfl rfl rfl rfl];rfl) rfl fun a hs=>?_
   refine Tu hs (by rw[wg hs rfl rfl rfl rfl];rfl) rfl fun a hs=>?_
   refine Tu hs (by rw[wg hs rfl rfl rfl rfl];rfl) rfl fun a hs=>?_
   refine Tu hs (by rw[wg hs rfl rfl rfl rfl];rfl) rfl fun a hs=>?_
   refine Tu hs (by rw[wg hs rfl rfl rfl rfl];rfl) rfl fun a hs=>?_
   refine Tu hs (by rw[wg hs rfl rfl rfl rfl];rfl) rfl fun a hs=>?_
   refine Tu hs (by rw[wg hs rfl rfl rfl rfl];rfl) rfl fun a hs=>?_
   refine Te ?_
   refine Lu hs (by rw[wg hs rfl rfl rfl rfl];rfl) rfl fun a hs=>?_
   refine Lu hs (by rw[wg hs rfl rfl rfl rfl];rfl) rfl fun a hs=>?_
   refine L hs rfl rfl (bM (b:=false) hs rfl rfl (fun h=>by cases h) (fun _=>rfl)) fun a hs=>?_
   refine Le (ar (t:=false) (hs.ev rfl) (fun h=>by cases h) fun _=>aw (ae ?_))
   refine L hs rfl rfl (aa hs (.inl rfl) rfl) fun a hs=>?_
   refine L hs rfl rfl (bJ hs rfl rfl rfl rfl) fun a hs=>?_
   refine L hs rfl rfl (aa hs (.inr rfl) rfl) fun a hs=>?_
   exact Le ⟨q - 1,by omega,1,by omega,hs.keep [0,1,2,7],hw2⟩
  ·obtain⟨b2,vn,vs,fY,cW,e1,e2,a1,a2,a3,a4,rfl,hE1,hE2,hn,hss,hl1,dQ⟩:=hk hk0
   have gY:(((0:Nat):Int) !=k)=true:=by simp;omega
   rw[gY]at hs
   have hE1':=hE1.keep hw2 fun _ _ h=>h
   have hE2':=hE2.keep hw2 fun _ _ h=>h
   obtain⟨t1,ht1⟩:=hE1'.cell
   obtain⟨t2,fD⟩:=hE2'.cell
   obtain⟨inf,hinf,_,_,_⟩:=K.eB.is
   refine T hs rfl rfl (aa hs (.inl rfl) (v:= .bool true) rfl) fun a hs=>?_
   refine T hs (by rw[wg hs rfl rfl rfl rfl];rfl) rfl (aa hs (.inl rfl) rfl) fun a hs=>?_
   refine T hs (by rw[wg hs rfl rfl rfl rfl];rfl) rfl (aa hs (.inl rfl) rfl) fun a hs=>?_
   refine T hs (by rw[wg hs rfl rfl rfl rfl];rfl) rfl (j5 (i:=0) hs rfl rfl rfl K2.leU hinf (by omega) (by simp)) fun a hs=>?_
   rw[show 0+(0:Int).toNat*inf.size=0 by simp]at hs
   refine T hs (by rw[wg hs rfl rfl rfl rfl];rfl) rfl (jn [vn,vs,.bool a1,.int .i64 e1.at',.bool a2] hs rfl rfl K.eB rfl ht1 (fun j v hj=>by rw[Nat.zero_add];simpa[an]using hj)) fun a hs=>?_
   refine T hs (by rw[wg hs rfl rfl rfl rfl];rfl) rfl (aa hs (.inl rfl) rfl) fun a hs=>?_
   refine T hs (by rw[wg hs rfl rfl rfl rfl];rfl) rfl (aa hs (.inl rfl) rfl) fun a hs=>?_
   refine T hs (by rw[wg hs rfl rfl rfl rfl];rfl) rfl (j5 (i:=0) hs rfl rfl rfl K2.leU hinf (by omega) (by simp)) fun a hs=>?_
   rw[show 0+(0:Int).toNat*inf.size=0 by simp]at hs
   refine T hs (by rw[wg hs rfl rfl rfl rfl];rfl) rfl (jn [fY,cW,.bool a3,.int .i64 e2.at',.bool a4] hs rfl rfl K.eB rfl fD (fun j v hj=>by rw[Nat.zero_add];simpa[an]using hj)) fun a hs=>?_
   have hl:=hE1'.lists
   have hl':=hE2'.lists
   rw[←hn, ←hss]at hl'
   have iA:=sk K hS (a1:=e1.at') (a2:=e2.at') (m1:=a1) (m2:=a3) (r1:=a2) (r2:=a4) hl hl' (by omega) (by omega)
   refine Te (Lc hs (by rw[wg hs rfl rfl rfl rfl];rfl) rfl rfl rfl rfl hS.ok iA fun v w3 a hO hs=>?_)
   obtain⟨rfl,a8⟩:=hO
   refine L hs (by rw[wg hs rfl rfl rfl rfl];rfl) rfl (jo hs rfl rfl) fun a hs=>?_
   refine L hs rfl rfl (bM (b:=true) hs rfl rfl (fun _=>rfl) (fun h=>by cases h)) fun a hs=>?_
   refine Le (ar (t:=false) (hs.ev rfl) (fun h=>by cases h) fun _=>aw (ae ?_))
   refine L hs rfl rfl (aa hs (.inl rfl) rfl) fun a hs=>?_
   refine L hs rfl rfl (bJ hs rfl rfl rfl rfl) fun a hs=>?_
   refine L hs rfl rfl (aa hs (.inr rfl) rfl) fun a hs=>?_
   exact Le ⟨q - 1,by omega,1,by omega,hs.keep [0,1,2,7],hw2.trans a8⟩
 ·exact kp (hs.keep []) rfl fun a' hs=>cH hs rfl ⟨rfl,dm⟩
end Go.TL.H
namespace Go.TL.H
open Go
abbrev NB:Nat→Prop:=fun _=>False
theorem Rep.xS{w w':World}{lo:Nat}{x:PV}{v:Value}(h:Rep w NB lo x v)(hk:∀b o,lo≤b→w.heap[b]? =some o→w'.heap[b]? =some o):Rep w' NB lo x v:=by
 generalize hbd:NB=bd at h
 induction h with
 |v x hx=>subst hbd;exact .v x hx
 |nil b c=>subst hbd;exact .nil b c
 |sl rows b off cap cs t fz sz f dS hb bh aV dZ hlen hc hr ih=>
  subst hbd
  exact .sl rows b off cap cs t fz sz f dS (hk b _ aV hb) bh aV dZ hlen hc fun i row j x h1 h2=>ih i row j x h1 h2
 |jv=>subst hbd;exact .jv
 |un x hx=>subst hbd;exact .un x hx
 |ls row rows b o cs t fz f hb bh aV hc hr ih=>subst hbd;exact .ls row rows b o cs t fz f (hk b _ aV hb) bh aV hc fun j x h1=>ih j x h1
 |jw a=>subst hbd;exact .jw a
 |mp a rows b es clock f hb bh aV hc hr ih=>subst hbd;exact .mp a rows b es clock f (hk b _ aV hb) bh aV hc fun i row j x h1 h2=>ih i row j x h1 h2
 |j2=>subst hbd;exact .j2
 |rm len rows b off cs t sz f dS hb bh aV hlen hc hr ih=>
  subst hbd
  exact .rm len rows b off cs t sz f dS (hk b _ aV hb) bh aV hlen hc fun i row j x h1 h2=>ih i row j x h1 h2
theorem Rep.ch{w w':World}{lo:Nat}{x:PV}{v:Value}(h:Rep w NB lo x v){S:Nat→Prop}(hc:Ch S w w')(hS:∀b,lo≤b→¬ S b):Rep w' NB lo x v:=Rep.xS h fun b _ hb hh=>hc.at hh (hS b hb)
theorem Rep.down{w:World}{lo fC:Nat}{x:PV}{v:Value}(h:Rep w NB lo x v)(hl:fC≤lo):Rep w NB fC x v:=h.mono hl fun _ _ h1 h2=>⟨h1,h2⟩
theorem nn{f:TypeId→List CK}{c:CK}:∀{l:List Field},c∈flat f l→∃x∈l,c∈f x.type
 | [],h=>by simp[flat]at h
 |x::xs,h=>by
  simp only[flat,List.mem_append]at h
  rcases h with h|h
  ·exact⟨x,by simp,h⟩
  ·obtain⟨y,h1,h2⟩:=nn h;exact⟨y,Cx _ h1,h2⟩
theorem mV{P:Program}:∀(n:Nat) (t:TypeId) (c:CK),c∈dC P n t→c≠ .iz∧c≠ .any
 |0,t,c,h=>by simp only[dC,List.mem_singleton]at h;subst h;simp
 |n+1,t,c,h=>by
  unfold dC at h
  split at h
  ·simp only[List.mem_singleton]at h;subst h;simp
  ·simp only[List.mem_singleton]at h;subst h;simp
  ·simp only[List.mem_singleton]at h;subst h;simp
  ·simp only[List.mem_singleton]at h;subst h;simp
  ·obtain⟨x,_,h2⟩:=nn h;exact mV n _ c h2
  ·simp only[List.mem_singleton]at h;subst h;simp
theorem gS{P:Program}{T:TypeId}{b:Bool}(h:fF P T=some b){j:Nat}{c:CK}(hc:(cks P T)[j]? =some c):c≠ .iz∧c≠ .any:=by
 have hm:=CE hc
 unfold cks at hm
 split at hm
 ·exact mV _ _ _ hm
 ·rename_i hu _;unfold fF at h;rw[hu]at h;cases h
 ·rename_i hu _;unfold fF at h;rw[hu]at h;cases h
structure Tp(P:Program)(T:TypeId)(ag:Bool)(n:Nat):Prop where
 is:∃i,P.info? T=some i∧fF P T=some ag∧i.size=n
 one:ag=false→n=1
def pk(ag:Bool)(vs:List Value):Value:=match ag with|true=> .agg vs.toArray|false=>vs.headD undef
theorem pB{v:Value}(h:v.oneCell'=true):v.cells= #[v]:=by cases v<;>first|rfl|simp[Value.oneCell']at h
theorem wA{ag:Bool}{vs:List Value}{n:Nat}(hl:vs.length=n)(h1:ag=false→n=1)(ho:∀u∈vs,u.oneCell'=true):(pk ag vs).cells.toList=vs:=by
 cases ag with
 |true=>simp[pk,Value.cells]
 |false=>
  have:=h1 rfl
  match vs,hl.trans this with
  | [v],_=>simp[pk,pB (ho v (by simp))]
section
variable {P:Program} {o:Oper} {n:Nat} {sl:aT} {a:Act} {w:World}
theorem bs{x:Operand}{T:TypeId}{ag:Bool}{m b o':Nat}{cs:Array Value}{bt:TypeId}{fz:Nat×Nat}(vs:List Value)(h:SL n sl a)(ho:o.op= .load T x)(e:ev sl x=some (Ptr b o'))(hT:Tp P T ag m)(hl:vs.length=m)(hb:w.heap[b]? =some (.cells cs bt fz))
  (hc:∀(j:Nat) v,vs[j]? =some v→cs[o'+j]? =some v):(execOp a.eval o).run P w= .ok (.value (pk ag vs)) w:=by
 obtain⟨i,hi,ha,hs⟩:=hT.is
 have:=eT (P:=P) (w:=w) (b:=b) (o:=o') (vs:=vs) ha hi (fun j u hj=>by rw[dF hb];exact hc j u hj) (by omega) (fun hh=>by rw[hl];exact hT.one hh)
 have e2:(Instr.loadAt T (Ptr b o')).run P w= .ok (pk ag vs) w:=by
  rw[this];cases ag<;>rfl
 simp[execOp,ho,h.ev e,e2]
theorem kX{x y:Operand}{T:TypeId}{ag:Bool}{m b o':Nat}{cs:Array Value}{bt:TypeId}(vs:List Value)(h:SL n sl a)(ho:o.op= .store T x y)(e:ev sl x=some (Ptr b o'))(ey:ev sl y=some (pk ag vs))(hT:Tp P T ag m)(hl:vs.length=m)
  (hv:∀u∈vs,u.oneCell'=true)(hb:w.heap[b]? =some (.cells cs bt (0,0)))(hc:o'+m≤cs.size):(execOp a.eval o).run P w= .ok .skip (w.setRow b (spl cs.toList o' vs).toArray):=by
 obtain⟨i,hi,ha,hs⟩:=hT.is
 have hpc:=wA hl hT.one hv
 have:=mT (P:=P) (off:=o') (v:=pk ag vs) hi (by rw[hpc];omega) hb (by rw[hpc];omega) (by rw[hpc];exact hv)
 rw[hpc]at this
 simp[execOp,ho,h.ev e,h.ev ey,this]
end
structure Cw(w:World)(lo:Nat)(row:List PV)(vs:List Value):Prop where
 len:vs.length=row.length
 rep:∀(j:Nat) (x:PV),row[j]? =some x→∃u,vs[j]? =some u∧Rep w NB lo x u
theorem Cw.one{w:World}{lo:Nat}{row:List PV}{vs:List Value}(h:Cw w lo row vs):∀u∈vs,u.oneCell'=true:=by
 intro u hu
 obtain⟨j,hj,rfl⟩:=List.mem_iff_getElem.1 hu
 obtain⟨u',h1,h2⟩:=h.rep j (row[j]'(by rw[←h.len];exact hj)) (by simp)
 simp[hj]at h1
 rw[h1];exact h2.one
theorem Cw.keep{w w':World}{lo:Nat}{row:List PV}{vs:List Value}(h:Cw w lo row vs)(hk:∀b o,lo≤b→w.heap[b]? =some o→w'.heap[b]? =some o):Cw w' lo row vs:=
 ⟨h.len,fun j x hj=>let ⟨u,h1,h2⟩:=h.rep j x hj;⟨u,h1,Rep.xS h2 hk⟩⟩
theorem Cw.ch{w w':World}{lo:Nat}{row:List PV}{vs:List Value}(h:Cw w lo row vs)(hc:Ch (fun _=>False) w w'):Cw w' lo row vs:=h.keep fun _ _ _ hh=>hc.at hh fun h=>h
structure El(P:Program)(e:TypeId)(sz:Nat)(zs:List Value):Prop where
 is:∃i z,P.info? e=some i∧i.size=sz∧i.zero=some z∧z.cells=zs.toArray∧i.bytes≤1024
 len:zs.length=sz
 pos:0<sz
 real:Nat.ble 1000000 e=false
def fk(y:TY)(L:TypeId):Code:=
 .seq (rg [p1 2 (.assign (.const (.slice none 0 0)))])
  (.seq (rg [p1 3 (.move (t 0)),pt 4 (eX (t 3) L) y.I,p1 5 (.binOp .add y.I (t 4) (ci 2) y.I),p1 6 (.makeSlice L (ci 0) (t 5)),p1 7 (.move (t 0)),pt 8 (ja (t 6) (t 7) L) L,p1 2 (.assign (t 8))]) .ret)
structure nV(w w':World)(e:TypeId)(sz:Nat)(zs:List Value)(rows:List (List PV))(v:Value)(cs:Array Value)(news:List Value):Prop where
 val:v= .slice (some ⟨w.heap.size,0,none⟩) rows.length (rows.length+2)
 heap:w'.heap[w.heap.size]? =some (.cells cs e (0,0))
 size:cs.size=(rows.length+2)*sz
 Bi:news.length=rows.length*sz
 rep:bE w NB 0 sz rows news
 old:∀j,j<rows.length*sz→cs[j]? =news[j]?
 zero:∀i j,rows.length≤i→i<rows.length+2→j<sz→cs[i*sz+j]? =zs[j]?
theorem pH{P:Program}{y:TY}{f:FuncId}{LT e:TypeId}{sz:Nat}{zs:List Value}(hB:Body P f 9 [.tmp 2] (fk y LT))(hL:P.underlying LT=some (.slice e))(hE:El P e sz zs){w:World}{v:Value}{rows:List (List PV)}(hv:Rep w NB 0 (.sl rows) v)
  (hlen:∀(i:Nat) (row:List PV),rows[i]? =some row→row.length=sz)(hn:rows.length≤ew):Ret P f [v] w fun v' w'=>Ch (fun _=>False) w w'∧∃cs news,nV w w' e sz zs rows v' cs news:=by
 obtain⟨inf,z,hi,db,hz,hzc,hby⟩:=hE.is
 have jQ:=hE.pos
 unfold ew at hn
 have hsr:=tz hv hlen jQ
 obtain⟨pv,cv,hvs⟩:∃pv cv,v= .slice pv rows.length cv:=by
  rcases hsr.out with⟨rfl,b,c,h⟩|⟨ad,c,news,h,_⟩
  ·exact⟨b,c,h⟩
  ·exact⟨_,c,h⟩
 refine aJ hB ?_
 have hs:=SL.init (n:=9) [v] rfl
 revert hs
 generalize({tmps:=_,defers:=[]}:Act)=a
 intro hs
 refine ah (ae ?_)
 refine L hs rfl rfl (aa hs (.inr rfl) rfl) fun a hs=>?_
 refine Le (ah (ae ?_))
 refine L hs rfl rfl (aa hs (.inl rfl) rfl) fun a hs=>?_
 refine L hs rfl rfl (aM hs rfl (by rw[←hvs];rfl) hL) fun a hs=>?_
 refine L hs rfl rfl (bJ hs rfl rfl rfl rfl) fun a hs=>?_
 rw[dc (n:=(rows.length:Int)+2) (by omega) (by omega)]at hs
 have hby2:(inf.bytes:Int)*((rows.length:Int)+2)≤281474976710656:=by
  have h1:inf.bytes*(rows.length+2)≤1024*(2097152+2):=Nat.mul_le_mul hby (by omega)
  have h2:((inf.bytes*(rows.length+2):Nat):Int)≤1024*(2097152+2):=by omega
  rw[Int.natCast_mul]at h2;simp at h2;omega
 have hmk:=run_make w LT e inf z hL hi hz .i64 .i64 0 ((rows.length:Int)+2) (by omega) (by omega) hby2 (by omega)
 have e1:((rows.length:Int)+2).toNat=rows.length+2:=by omega
 rw[e1,db]at hmk
 have hmk':∀a:Act,SL 9 [(5,.int .i64 ((rows.length:Int)+2))] a→(execOp a.eval (p1 6 (.makeSlice LT (ci 0) (t 5)))).run P w= .ok (.value (.slice (some ⟨w.heap.size,0,none⟩) 0 (rows.length+2))) (w.alloc (.cells (madeCells z.cells ((rows.length+2)*sz)) e)):=by
  intro a hs
  have h5:a.eval (t 5)= .int .i64 ((rows.length:Int)+2):=hs.ev rfl
  have h0:a.eval (ci 0)= .int .i64 0:=rfl
  simp[execOp,h5,h0,hmk]
 refine L hs rfl rfl (hmk' _ (hs.keep [5])) fun a hs=>?_
 refine L hs rfl rfl (aa hs (.inl rfl) rfl) fun a hs=>?_
 have g0:=Ch.alloc (fun _=>False) w (.cells (madeCells z.cells ((rows.length+2)*sz)) e)
 have hb0:=heap_alloc_new w (.cells (madeCells z.cells ((rows.length+2)*sz)) e)
 have hzero:∀i j,i<rows.length+2→j<sz→(madeCells z.cells ((rows.length+2)*sz))[i*sz+j]? =zs[j]? :=by
  intro i j hi hj
  have aF:i*sz+j<(rows.length+2)*sz:=by
   have:(i+1)*sz≤(rows.length+2)*sz:=Nat.mul_le_mul_right _ hi
   rw[Nat.add_mul,Nat.one_mul]at this;omega
  rw[qj _ _ _ aF,hzc]
  have hzl:=hE.len
  simp only[List.size_toArray,hzl]
  rw[Nat.mul_comm i sz,Nat.mul_add_mod,Nat.mod_eq_of_lt hj]
  simp[hzl,hj]
 have last:∀(a:Act) (w1:World) (v':Value) (cs:Array Value) (news:List Value),SL 9 [(8,v')] a→Ch (fun _=>False) w w1→nV w w1 e sz zs rows v' cs news→
   wpList P ([p1 3 (.move (t 0)),pt 4 (eX (t 3) LT) y.I,p1 5 (.binOp .add y.I (t 4) (ci 2) y.I),p1 6 (.makeSlice LT (ci 0) (t 5)),p1 7 (.move (t 0)),pt 8 (ja (t 6) (t 7) LT) LT,p1 2 (.assign (t 8))]:List Oper).toArray
    (fun e_1 a w_1=>match e_1 with| .normal=>NW P .ret (fin P [.tmp 2] fun v' w'=>Ch (fun _=>False) w w'∧∃cs news,nV w w' e sz zs rows v' cs news) a w_1|e_2=>fin P [.tmp 2] (fun v' w'=>Ch (fun _=>False) w w'∧∃cs news,nV w w' e sz zs rows v' cs news) e_2 a w_1) [p1 2 (.assign (t 8))] a w1:=by
  intro a w1 v' cs news hs dm hC
  refine L hs rfl rfl (aa hs (.inr rfl) rfl) fun a hs=>?_
  exact Le (aP (cH hs rfl ⟨dm,cs,news,hC⟩))
 have cf:∀a:Act,SL 9 [(6,.slice (some ⟨w.heap.size,0,none⟩) 0 (rows.length+2)),(7,v)] a→∀r w2,(Builtin.append_ #[LT,LT] LT #[.slice (some ⟨w.heap.size,0,none⟩) 0 (rows.length+2),v]).run P (w.alloc (.cells (madeCells z.cells ((rows.length+2)*sz)) e))= .ok r w2→
   (execOp a.eval (pt 8 (ja (t 6) (t 7) LT) LT)).run P (w.alloc (.cells (madeCells z.cells ((rows.length+2)*sz)) e))= .ok (.value r) w2:=by
  intro a hs r w2 hr
  have h6:=hs.ev (x:=t 6) rfl
  have h7:=hs.ev (x:=t 7) rfl
  unfold execOp
  simp only[resolve,invoke,builtin,Sem.run_bind,Sem.run_pure,Result.andThen_ok,List.map_toArray,List.map_cons,List.map_nil,h6,h7,hr]
 rcases hsr.out with⟨rfl,b,c,rfl⟩|⟨ad,c,news,rfl,hnl,hnc,hn1,hrr⟩
 ·have hr:=nM (P:=P) (w:=w.alloc (.cells (madeCells z.cells ((0+2)*sz)) e)) LT LT e inf hL hi w.heap.size 0 (0+2) b c (by omega)
  refine L hs rfl rfl (cf _ (hs.keep [6,7]) _ _ hr) fun a hs=>?_
  refine last a _ _ _ [] (hs.keep [8]) g0 ⟨rfl,hb0,size_madeCells _ _,by simp,⟨fun _ _=>undef,by simp,by simp,by simp⟩,fun j hj=>by simp at hj,fun i j _ hi2 hj=>hzero i j hi2 hj⟩
 ·have hr:=run_append_room (P:=P) (w:=w.alloc (.cells (madeCells z.cells ((rows.length+2)*sz)) e)) LT LT e inf hL hi w.heap.size 0 (rows.length+2) _ hb0 ad rows.length c news (by rw[hnl,db]) (fun j u hj=>by
   have:=hnc j u hj
   have aF:ad.block<w.heap.size:=by
    have e:(ad.add j).block=ad.block:=by unfold Addr.add;split<;>rfl
    unfold World.cell? at this
    rw[e]at this
    cases hh:w.heap[ad.block]? with
    |none=>rw[hh]at this;cases this
    |some oo=>exact aq hh
   rw[World.cell?_of_block (w:=w)]
   ·exact this
   ·have e:(ad.add j).block=ad.block:=by unfold Addr.add;split<;>rfl
    rw[e];exact heap_alloc_old w _ _ aF) hn1 (by omega) (by rw[size_madeCells,hnl];simp;exact Nat.mul_le_mul_right _ (by omega))
  refine L hs rfl rfl (cf _ (hs.keep [6,7]) _ _ hr) fun a hs=>?_
  have hsp:((madeCells z.cells ((rows.length+2)*sz)).toList.take (0*inf.size)++news++(madeCells z.cells ((rows.length+2)*sz)).toList.drop (0*inf.size+news.length)).toArray=(spl (madeCells z.cells ((rows.length+2)*sz)).toList 0 news).toArray:=by simp[spl]
  have dx:0+news.length≤(madeCells z.cells ((rows.length+2)*sz)).toList.length:=by rw[hnl];simp[size_madeCells];exact Nat.mul_le_mul_right _ (by omega)
  have fZ:=mg (madeCells z.cells ((rows.length+2)*sz)).toList 0 news dx
  have g1:=Ch.setRow (w.alloc (.cells (madeCells z.cells ((rows.length+2)*sz)) e)) w.heap.size ((madeCells z.cells ((rows.length+2)*sz)).toList.take (0*inf.size)++news++(madeCells z.cells ((rows.length+2)*sz)).toList.drop (0*inf.size+news.length)).toArray
  refine last a _ _ _ news (hs.keep [8]) (g0.trans' g1 fun b hb h=>by omega) ⟨by simp,setRow_heap _ _ _ _ _ _ hb0,?_,hnl,hrr,?_,?_⟩
  ·rw[hsp];simp only[List.size_toArray];rw[jj _ _ _ dx];simp[size_madeCells]
  ·intro j hj
   rw[hsp]
   have:=fZ j
   simp only[List.getElem?_toArray]
   rw[this,if_pos (by omega)];simp
  ·intro i j h1 h2 h3
   rw[hsp]
   simp only[List.getElem?_toArray]
   have hge:rows.length*sz≤i*sz:=Nat.mul_le_mul_right _ h1
   rw[fZ,if_neg (by omega)]
   have:=hzero i j h2 h3
   simpa using this
end Go.TL.H
namespace Go.TL.H
open Go
def jF(P:Program)(f:FuncId)(T:TypeId)(ag:Bool)(N:Nat):Prop:=
 ∀(w:World) (row:List PV) (vs:List Value),Cw w 0 row vs→Ty P T row→rz row≤N→
   Ret P f [pk ag vs] w fun v' w'=>Ch (fun _=>False) w w'∧∃eJ bP,v'=pk ag bP∧Cw w' w.heap.size eJ bP∧TyR P T eJ∧cL eJ=row
def ZOk(P:Program)(e:TypeId)(zs:List Value):Prop:=
 zs.length=(cks P e).length∧∀(j:Nat) (ck:CK) (u:Value),(cks P e)[j]? =some ck→zs[j]? =some u→WR P ck (zc true u)∧u.oneCell'=true
theorem uR{P:Program}{w':World}{b lo n sz:Nat}{cs:Array Value}{e:TypeId}{zs:List Value}{rows rowsP:List (List PV)}(hb:w'.heap[b]? =some (.cells cs e (0,0)))(aV:lo≤b)(hlen:rowsP.length=n)(hrl:rows.length=n)(hn:n≤ew)(hZ:ZOk P e zs)(db:(cks P e).length=sz)
  (hP:∀(i:Nat) (row:List PV),rowsP[i]? =some row→TyR P e row∧rows[i]? =some (cL row)∧∀(j:Nat) (x:PV),row[j]? =some x→∃u,cs[i*sz+j]? =some u∧Rep w' NB lo x u)
  (hz:∀i j,n≤i→i<n+2→j<sz→cs[i*sz+j]? =zs[j]?):
  ∃lD,Rep w' NB lo (.rm n lD) (.slice (some ⟨b,0,none⟩) n (n+2))∧WR P (.sl e) (.rm n lD)∧dn n lD=rows:=by
 have hrowlen:∀(i:Nat) (row:List PV),(rowsP++ [zs.map (zc true),zs.map (zc true)])[i]? =some row→(i<n∧rowsP[i]? =some row)∨(n≤i∧i<n+2∧row=zs.map (zc true)):=by
  intro i row hi
  rw[List.getElem?_append,hlen]at hi
  split at hi
  ·exact .inl ⟨by assumption,hi⟩
  ·rename_i hni
   right
   have h2:i - n<2:=by have:=(CA hi).1;simpa using this
   refine⟨by omega,by omega,?_⟩
   have:i - n=0∨i - n=1:=by omega
   rcases this with h|h<;>(rw[h]at hi;simp at hi;exact hi.symm)
 have hzr:TyR P e (zs.map (zc true)):=by
  unfold TyR
  rw[dt]
  refine⟨by simp[hZ.1],fun j ck x hc hx=>?_⟩
  rw[List.getElem?_map]at hx
  cases hu:zs[j]? with
  |none=>simp[hu]at hx
  |some u=>simp[hu]at hx;subst hx;exact(hZ.2 j ck u hc hu).1
 have hTy:∀(i:Nat) (row:List PV),(rowsP++ [zs.map (zc true),zs.map (zc true)])[i]? =some row→TyR P e row:=by
  intro i row hi
  rcases hrowlen i row hi with⟨_,h⟩|⟨_,_,rfl⟩
  ·exact(hP i row h).1
  ·exact hzr
 have hl:∀(i:Nat) (row:List PV),(rowsP++ [zs.map (zc true),zs.map (zc true)])[i]? =some row→row.length=sz:=by
  intro i row hi
  have:=hTy i row hi
  unfold TyR at this
  rw[dt]at this
  rw[this.1,db]
 have gI:∀(i:Nat) (row:List PV) (j:Nat) (x:PV),(rowsP++ [zs.map (zc true),zs.map (zc true)])[i]? =some row→row[j]? =some x→∃u,cs[i*sz+j]? =some u∧Rep w' NB lo x u:=by
  intro i row j x hi hj
  rcases hrowlen i row hi with⟨_,h⟩|⟨h1,h2,rfl⟩
  ·exact(hP i row h).2.2 j x hj
  ·have cd:j<sz:=by
    have:=(CA hj).1
    simp at this;rw[←db, ←hZ.1];exact this
   rw[hz i j h1 h2 cd]
   rw[List.getElem?_map]at hj
   cases hu:zs[j]? with
   |none=>simp[hu]at hj
   |some u=>
    simp[hu]at hj;subst hj
    have aX:∃ck,(cks P e)[j]? =some ck:=⟨(cks P e)[j]'(by omega),by simp[db,cd]⟩
    obtain⟨ck,aX⟩:=aX
    exact⟨u,rfl,zl (hZ.2 j ck u aX hu).2⟩
 refine⟨rowsP++ [zs.map (zc true),zs.map (zc true)],?_,?_,?_⟩
 ·have:=Rep.rm (w:=w') (bad:=NB) (lo:=lo) n (rowsP++ [zs.map (zc true),zs.map (zc true)]) b 0 cs e sz (fun i j=>(cs[i*sz+j]?).getD undef) (by simp[hlen]) hb (fun h=>h) aV hl
   (fun i row j x hi hj=>by obtain⟨u,h1,_⟩:=gI i row j x hi hj;rw[Nat.zero_add,h1];rfl) (fun i row j x hi hj=>by obtain⟨u,h1,h2⟩:=gI i row j x hi hj;simp only[h1,Option.getD_some];exact h2)
  have e:(rowsP++ [zs.map (zc true),zs.map (zc true)]).length=n+2:=by simp[hlen]
  rw[e]at this;exact this
 ·refine .rm e n _ (by simp[hlen]) hn (by simp[hlen]) (fun row hr=>?_) fun row hr j ck x hc hx=>?_
  ·obtain⟨i,hi⟩:=List.getElem?_of_mem hr
   rw[hl i row hi,db]
  ·obtain⟨i,hi⟩:=List.getElem?_of_mem hr
   have:=hTy i row hi
   unfold TyR at this
   rw[dt]at this
   exact this.2 j ck x hc hx
 ·apply List.ext_getElem?
  intro i
  rw[jm]
  split
  ·rename_i hi
   rw[List.getElem?_append,if_pos (by omega)]
   have dk:rowsP[i]? =some (rowsP[i]'(by omega)):=by simp[hlen,hi]
   rw[dk,Option.map_some,(hP i _ dk).2.1]
  ·rename_i hi
   rw[List.getElem?_eq_none (by omega)]
theorem qL{_P:Program}{_cs:List CK}{row:List PV}(h:∀(j:Nat) (x:PV),row[j]? =some x→∃v,x= .v v):cL row=row:=by
 apply List.ext_getElem?
 intro j
 rw[eO]
 cases hj:row[j]? with
 |none=>rfl
 |some x=>obtain⟨v,rfl⟩:=h j x hj;rfl
theorem zD{P:Program}{y:TY}{f:FuncId}{LT e:TypeId}{sz:Nat}{zs:List Value}(hB:Body P f 9 [.tmp 2] (fk y LT))(hL:P.underlying LT=some (.slice e))(hE:El P e sz zs)(hZ:ZOk P e zs)(db:(cks P e).length=sz)(hcL:cks P LT=[.sl e])(hsc:de (cks P e)=true)(N:Nat):
  jF P f LT false N:=by
 intro w row vs hc bL _
 have hty':=bL.to hcL
 obtain⟨x,xs,rfl,hx,hxs⟩:=kP hty'
 obtain rfl:=mh hxs
 obtain⟨rows,rfl,hT⟩:=ql hx
 obtain⟨u,hu,hr⟩:=hc.rep 0 _ rfl
 have hv:vs=[u]:=by
  have:=hc.len
  match vs,this,hu with
  | [v],_,hu=>simp at hu;subst hu;rfl
 subst hv
 have hlen:∀(i:Nat) (row:List PV),rows[i]? =some row→row.length=sz:=fun i row hi=>hT.2.len db row (CE hi)
 refine(pH hB hL hE hr hlen (hT.real hE.real)).mono ?_
 rintro v' w' ⟨a8,cs,news,hC⟩
 refine⟨a8,?_⟩
 obtain⟨g,g1,g2,g3⟩:=hC.rep
 have hscal:∀(i:Nat) (row:List PV),rows[i]? =some row→∀(j:Nat) (x:PV),row[j]? =some x→∃v,x= .v v:=by
  intro i row hi j x hj
  have bL:=hT.2 row (CE hi)
  unfold Ty at bL
  rw[aI]at bL
  have cd:j<(cks P e).length:=by rw[←bL.1];exact(CA hj).1
  exact(pD (gk hsc _ (List.getElem_mem cd)) (bL.2 j _ x (by simp[cd]) hj)).1
 obtain⟨lD,h1,h2,h3⟩:=uR (P:=P) (b:=w.heap.size) (lo:=w.heap.size) (rowsP:=rows) hC.heap (Nat.le_refl _) rfl rfl (hT.real hE.real) hZ db (fun i row hi=>by
  refine⟨(hT.2 row (CE hi)).room hsc,?_,fun j x hj=>?_⟩
  ·rw[qL (_P:=P) (_cs:=[]) (hscal i row hi)];exact hi
  ·have cd:j<sz:=by rw[←hlen i row hi];exact(CA hj).1
   have fh:i<rows.length:=(CA hi).1
   have aF:i*sz+j<rows.length*sz:=by
    have:(i+1)*sz≤rows.length*sz:=Nat.mul_le_mul_right _ fh
    rw[Nat.add_mul,Nat.one_mul]at this;omega
   obtain⟨v,rfl⟩:=hscal i row hi j x hj
   have hr:=g3 i row j _ hi hj
   have:=ji hr
   refine⟨g i j,by rw[hC.old _ aF];exact g2 i row j _ hi hj,?_⟩
   rw[this];cases hr with|v _ h=>exact .v _ h) hC.zero
 refine⟨[.rm rows.length lD],[v'],rfl,⟨rfl,fun j x hj=>?_⟩,?_,?_⟩
 ·cases j with
  |zero=>simp at hj;subst hj;exact⟨v',rfl,by rw[hC.val];exact h1⟩
  |succ j=>simp at hj
 ·exact TyR.of hcL ⟨h2,trivial⟩
 ·simp only[cL,PV.er,h3]
def nW(y:TY)(L e:TypeId)(cp one:FuncId):Code:=
 .seq (rg [p1 2 (.assign (.const (.slice none 0 0)))])
  (.seq (rg [p1 4 (.move (t 0)),p1 5 (.call ⟨.value (.func cp), #[t 4], #[]⟩),p1 0 (.assign (t 5))])
   (.seq (.seq (rg [p1 3 (.assign (ci 0))])
    (.block 0 (.loop (.seq (.seq (rg [p1 6 (.move (t 3)),p1 7 (.move (t 0)),pt 8 (eX (t 7) L) y.I,p1 9 (.binOp .lss y.I (t 6) (t 8) y.I)]) (.cond (t 9) .skip (.exit 0)))
     (.seq (.block 1 (rg [p1 12 (.move (t 0)),p1 13 (.move (t 3)),p1 14 (.move (t 0)),p1 15 (.move (t 3)),p1 16 (.indexAddr L (t 14) (t 15)),p1 17 (.load e (t 16)),p1 18 (.call ⟨.value (.func one), #[t 17], #[]⟩),p1 19 (.indexAddr L (t 12) (t 13)),p0 (.store e (t 19) (t 18))]))
      (rg [p1 10 (.move (t 3)),p1 11 (.binOp .add y.I (t 10) (ci 1) y.I),p1 3 (.assign (t 11))]))))))
    (.seq (rg [p1 20 (.move (t 0)),p1 2 (.assign (t 20))]) .ret)))
theorem zE{P:Program}{y:TY}{f cp one:FuncId}{LT e:TypeId}{sz N:Nat}{ag:Bool}{zs:List Value}(hB:Body P f 21 [.tmp 2] (nW y LT e cp one))(hB2:Body P cp 9 [.tmp 2] (fk y LT))(hL:P.underlying LT=some (.slice e))(hE:El P e sz zs)(hZ:ZOk P e zs)
  (db:(cks P e).length=sz)(hcL:cks P LT=[.sl e])(hTp:Tp P e ag sz)(aC:aD P one=true)(hone:∀M,M<N→jF P one e ag M):jF P f LT false N:=by
 intro w row vs hc bL hN
 have hty':=bL.to hcL
 obtain⟨x,xs,rfl,hx,hxs⟩:=kP hty'
 obtain rfl:=mh hxs
 obtain⟨rows,rfl,hT⟩:=ql hx
 obtain⟨u,hu,hr⟩:=hc.rep 0 _ rfl
 have hv:vs=[u]:=by
  have:=hc.len
  match vs,this,hu with
  | [v],_,hu=>simp at hu;subst hu;rfl
 subst hv
 have hlen:∀(i:Nat) (row:List PV),rows[i]? =some row→row.length=sz:=fun i row hi=>hT.2.len db row (CE hi)
 have hml:=hT.1
 rw[j4 hE.real]at hml
 obtain⟨inf,z,hi,hisz,_⟩:=hE.is
 refine aJ hB ?_
 have hs:=SL.init (n:=21) [pk false [u]] rfl
 revert hs
 generalize({tmps:=_,defers:=[]}:Act)=a
 intro hs
 refine ah (ae ?_)
 refine L hs rfl rfl (aa hs (.inr rfl) rfl) fun a hs=>?_
 refine Le (ah (ae ?_))
 refine L hs rfl rfl (aa hs (.inl rfl) rfl) fun a hs=>?_
 refine Lc hs rfl rfl rfl rfl rfl hB2.ok (pH hB2 hL hE hr hlen (hT.real hE.real)) fun v' w0 a hO hs=>?_
 obtain⟨hch0,cs0,news,hC⟩:=hO
 obtain⟨g,g1,g2,g3⟩:=hC.rep
 refine L hs rfl rfl (aa hs (.inr rfl) rfl) fun a hs=>?_
 refine Le (ah (ah (ae ?_)))
 refine L hs rfl rfl (aa hs (.inr rfl) rfl) fun a hs=>?_
 refine Le (au (aW (fun m a w1=>∃(i:Nat) (cs:Array Value) (rowsP:List (List PV)),SL 21 [(0,v'),(3,.int .i64 (i:Int))] a∧i+m=rows.length∧Ch (fun _=>False) w w1∧w1.heap[w.heap.size]? =some (.cells cs e (0,0))∧cs.size=(rows.length+2)*sz∧rowsP.length=i∧
  (∀(k:Nat) (row:List PV),rowsP[k]? =some row→TyR P e row∧rows[k]? =some (cL row)∧∀(j:Nat) (x:PV),row[j]? =some x→∃u,cs[k*sz+j]? =some u∧Rep w1 NB (w.heap.size+1) x u)∧
  (∀j,i*sz≤j→j<rows.length*sz→cs[j]? =news[j]?)∧(∀k j,rows.length≤k→k<rows.length+2→j<sz→cs[k*sz+j]? =zs[j]?)) rows.length
  ⟨0,cs0,[],hs.keep [0,3],by omega,hch0,hC.heap,hC.size,rfl,fun k row h=>by simp at h,fun j _ hj=>hC.old j hj,hC.zero⟩ ?_))
 rintro m a w1 ⟨i,cs,rowsP,hs,him,dm,hb,dR,hPl,hP,hold,hzero⟩
 refine ah (ah (ae ?_))
 refine L hs rfl rfl (aa hs (.inl rfl) rfl) fun a hs=>?_
 refine L hs rfl rfl (aa hs (.inl rfl) rfl) fun a hs=>?_
 refine L hs rfl rfl (aM hs rfl (by rw[←hC.val];rfl) hL) fun a hs=>?_
 refine L hs rfl rfl (aG hs rfl rfl rfl rfl) fun a hs=>?_
 refine Le (ar (t:=decide ((i:Int)<(rows.length:Int))) (hs.ev rfl) (fun aF=>aw ?_) fun aF=>aN ?_)
 ·have aF:=of_decide_eq_true aF
  have fh:i<rows.length:=by omega
  have dk:rows[i]? =some rows[i]:=by simp
  have hrl:=hlen i _ dk
  have hnext:(i+1)*sz≤rows.length*sz:=Nat.mul_le_mul_right _ fh
  rw[Nat.add_mul,Nat.one_mul]at hnext
  have hcw:Cw w1 0 rows[i] ((news.drop (i*sz)).take sz):=by
   refine⟨by simp[hC.Bi];omega,fun j x hj=>?_⟩
   have cd:j<sz:=by rw[←hrl];exact(CA hj).1
   refine⟨g i j,by rw[List.getElem?_take,if_pos cd,List.getElem?_drop];exact g2 i _ j x dk hj,Rep.ch (g3 i _ j x dk hj) dm fun _ _ h=>h⟩
  have hrz:rz rows[i]<N:=by
   have h1:=wm (List.getElem_mem fh)
   simp only[dG,AK,fc]at hN
   omega
  refine ah (au (ae ?_))
  refine L hs rfl rfl (aa hs (.inl rfl) rfl) fun a hs=>?_
  refine L hs rfl rfl (aa hs (.inl rfl) rfl) fun a hs=>?_
  refine L hs rfl rfl (aa hs (.inl rfl) rfl) fun a hs=>?_
  refine L hs rfl rfl (aa hs (.inl rfl) rfl) fun a hs=>?_
  have hix:0+((i:Int)).toNat*inf.size=i*sz:=by rw[hisz];simp
  refine L hs rfl rfl (j5 (b:=w.heap.size) (o':=0) hs rfl (by rw[←hC.val];rfl) rfl hL hi (by omega) (by omega)) fun a hs=>?_
  rw[hix]at hs
  refine L hs rfl rfl (bs ((news.drop (i*sz)).take sz) hs rfl rfl hTp (by rw[hcw.len,hrl]) hb (fun j u hj=>by
   rw[List.getElem?_take]at hj
   split at hj
   ·rename_i cd
    rw[List.getElem?_drop]at hj
    rw[hold _ (by omega) (by omega)];exact hj
   ·cases hj)) fun a hs=>?_
  refine Lc hs rfl rfl rfl rfl rfl aC (hone _ hrz w1 rows[i] _ hcw (hT.2 _ (List.getElem_mem fh)) (Nat.le_refl _)) fun v2 w2 a hO hs=>?_
  obtain⟨fq,row2,cW,rfl,cj,gd,her2⟩:=hO
  have dQ:cW.length=sz:=by
   rw[cj.len]
   unfold TyR at gd
   rw[dt]at gd
   rw[gd.1,db]
  refine L hs rfl rfl (j5 (b:=w.heap.size) (o':=0) hs rfl (by rw[←hC.val];rfl) rfl hL hi (by omega) (by omega)) fun a hs=>?_
  rw[hix]at hs
  have cF:=fq.at hb fun h=>h
  have dx:i*sz+cW.length≤cs.toList.length:=by
   simp only[Array.length_toList,dR,dQ]
   have:rows.length*sz≤(rows.length+2)*sz:=Nat.mul_le_mul_right _ (by omega)
   omega
  refine Ls hs rfl rfl (kX cW hs rfl rfl rfl hTp dQ cj.one cF (by rw[←Array.length_toList];have:=dx;rw[dQ]at this;exact this)) fun hs=>?_
  have fZ:=mg cs.toList (i*sz) cW dx
  have ga:=Ch.setRow w2 w.heap.size (spl cs.toList (i*sz) cW).toArray
  have hlt1:=aq hb
  refine Le (ae ?_)
  refine L hs rfl rfl (aa hs (.inl rfl) rfl) fun a hs=>?_
  refine L hs rfl rfl (bJ hs rfl rfl rfl rfl) fun a hs=>?_
  refine L hs rfl rfl (aa hs (.inr rfl) rfl) fun a hs=>?_
  have hw:IntKind.wrap .i64 ((i:Int)+1)=((i+1:Nat):Int):=by rw[dc (by omega) (by omega)];omega
  have fe:=hs.keep [0,3]
  rw[hw]at fe
  have keep:∀(x:PV) (u:Value),Rep w2 NB (w.heap.size+1) x u→Rep (w2.setRow w.heap.size (spl cs.toList (i*sz) cW).toArray) NB (w.heap.size+1) x u:=fun x u h=>Rep.ch h ga fun b hb h=>by omega
  refine Le ⟨m - 1,by omega,i+1,(spl cs.toList (i*sz) cW).toArray,rowsP++ [row2],fe,by omega,(dm.trans fq).trans' ga fun b hb h=>by omega,setRow_heap _ _ _ _ _ _ cF,by simp only[List.size_toArray];rw[jj _ _ _ dx];simpa using dR,by simp[hPl],?_,?_,?_⟩
  ·intro k row hk
   rw[List.getElem?_append,hPl]at hk
   split at hk
   ·rename_i hki
    obtain⟨q1,q2,q3⟩:=hP k row hk
    refine⟨q1,q2,fun j x hj=>?_⟩
    obtain⟨u,r1,r2⟩:=q3 j x hj
    have cd:j<sz:=by
     unfold TyR at q1
     rw[dt]at q1
     rw[←db, ←q1.1];exact(CA hj).1
    have hle:(k+1)*sz≤i*sz:=Nat.mul_le_mul_right _ hki
    rw[Nat.add_mul,Nat.one_mul]at hle
    refine⟨u,?_,keep x u (Rep.ch r2 fq fun _ _ h=>h)⟩
    simp only[List.getElem?_toArray]
    rw[fZ,if_neg (by omega)];simpa using r1
   ·rename_i hki
    have hk0:k - i=0:=by have:=(CA hk).1;simp at this;omega
    rw[hk0]at hk;simp at hk;subst hk
    obtain rfl:k=i:=by omega
    refine⟨gd,by rw[her2];exact dk,fun j x hj=>?_⟩
    obtain⟨u,r1,r2⟩:=cj.rep j x hj
    have cd:j<cW.length:=(CA r1).1
    refine⟨u,?_,keep x u (Rep.down r2 (by omega))⟩
    simp only[List.getElem?_toArray]
    rw[fZ,if_pos (by omega),Nat.add_sub_cancel_left];exact r1
  ·intro j h1 h2
   rw[Nat.add_mul,Nat.one_mul]at h1
   simp only[List.getElem?_toArray]
   rw[fZ,if_neg (by omega)]
   have:=hold j (by omega) h2
   simpa using this
  ·intro k j h1 h2 h3
   have hge:rows.length*sz≤k*sz:=Nat.mul_le_mul_right _ h1
   simp only[List.getElem?_toArray]
   rw[fZ,if_neg (by omega)]
   have:=hzero k j h1 h2 h3
   simpa using this
 ·have aF:=of_decide_eq_false aF
  have hin:i=rows.length:=by omega
  subst hin
  obtain⟨lD,h1,h2,h3⟩:=uR (P:=P) (b:=w.heap.size) (lo:=w.heap.size) (rowsP:=rowsP) hb (Nat.le_refl _) hPl rfl (hT.real hE.real) hZ db (fun k row hk=>by
   obtain⟨q1,q2,q3⟩:=hP k row hk
   exact⟨q1,q2,fun j x hj=>let ⟨u,r1,r2⟩:=q3 j x hj;⟨u,r1,Rep.down r2 (by omega)⟩⟩) hzero
  refine ah (ae ?_)
  refine L hs rfl rfl (aa hs (.inl rfl) rfl) fun a hs=>?_
  refine L hs rfl rfl (aa hs (.inr rfl) rfl) fun a hs=>?_
  refine Le (aP (cH hs rfl ⟨dm,[.rm rows.length lD],[v'],rfl,⟨rfl,fun j x hj=>?_⟩,TyR.of hcL ⟨h2,trivial⟩,by simp only[cL,PV.er,h3]⟩))
  cases j with
  |zero=>simp at hj;subst hj;exact⟨v',rfl,by rw[hC.val];exact h1⟩
  |succ j=>simp at hj
end Go.TL.H
