/- str: whole. -/
import Derived.Test.YtbjmbhgbalmoaaaW09
namespace Go.TL.H
open Go
def tF(y:TY):List Oper:=
 [q1 26 (.move (t 1)) [],q1 27 (.nilCheck (t 26)) [eD 0],q1 28 (.load y.S (t 27)) [eD 1],q1 29 (.move (t 4)) [],q1 30 (.binOp .rem y.I (t 29) (ci 26) y.I) [eD 3],q1 31 (.binOp .add y.I (ci 97) (t 30) y.I) [eD 4],
  q1 32 (.convert y.I y.BY (t 31)) [eD 5],q1 33 (.buildSlice y.BL 1 #[(0,t 32)]) [eD 6],q1 34 (.convert y.BL y.S (t 33)) [eD 7],q1 35 (.binOp .add y.S (t 28) (t 34) y.S) [eD 2,eD 8],
  q1 36 (.nilCheck (t 26)) [eD 0,eP 0,eP 1,eP 2,eP 3,eP 4,eP 5,eP 6,eP 7,eP 8,eP 9],q0 (.store y.S (t 36) (t 35)) [eD 10,eD 9,eP 0,eP 1,eP 2,eP 3,eP 4,eP 5,eP 6,eP 7,eP 8,eP 9]]
def tG(y:TY):Code:=
 .seq (.seq (rg [p1 5 (.move (t 0)),p1 6 (.nilCheck (t 5)),p1 7 (.fieldAddr y.E (t 6) 2),p1 8 (.load y.B (t 7))])
  (.cond (t 8) (.seq
   (rg [p1 9 (.move (t 0)),p1 10 (.nilCheck (t 9)),p1 11 (.fieldAddr y.E (t 10) 3),p1 12 (.load y.I (t 11)),p1 13 (.binOp .add y.I (t 12) (ci 1) y.I),p1 14 (.nilCheck (t 9)),p1 15 (.fieldAddr y.E (t 14) 3),p0 (.store y.I (t 15) (t 13))])
   (.seq (rg [p1 16 (.move (t 1)),p1 17 (.nilCheck (t 16)),p0 (.store y.S (t 17) (.const (.string ⟨#[63]⟩)))])
    (.seq (rg [p1 18 (.move (t 0)),p1 19 (.nilCheck (t 18)),p1 20 (.fieldAddr y.E (t 19) 3),p1 21 (.load y.I (t 20)),p1 4 (.assign (t 21))])
     (.block 0 (.loop (.seq (.seq (rg [p1 22 (.move (t 4)),p1 23 (.binOp .gtr y.I (t 22) (ci 0) y.I)]) (.cond (t 23) .skip (.exit 0)))
      (.seq (.block 1 (rd (tF y))) (rg [p1 24 (.move (t 4)),p1 25 (.binOp .quo y.I (t 24) (ci 26) y.I),p1 4 (.assign (t 25))])))))))) .skip))
  (rd (oN y y.S))
theorem wv{P:Program}{y:TY}(K:Kit P y){a:Act}{w:World}{p0:Value}{pb po:Nat}{cs:Array Value}{bt:TypeId}{x:ByteArray}{n:Int}{Q:Exit→Act→World→Prop}
  (eI:SL 49 [(0,p0),(1,Ptr pb po),(4,.int .i64 n)] a)(eu:w.heap[pb]? =some (.cells cs bt (0,0)))(ea:cs[po]? =some (.string x))(hx:x.size≤1000)
  (hQ:∀c a w,Q (.panic c) a w→False)
  (k:∀a' w1 u,SL 49 [(0,p0),(1,Ptr pb po),(4,.int .i64 n)] a'→Ch (fun _=>False) w w1→u.size=1→Q .normal a' (w1.setRow pb (cs.setIfInBounds po (.string (x++u))))):NW P (rd (tF y)) Q a w:=by
 refine eW 12 rfl K.mixed ?_
 have aF:=(Array.getElem?_eq_some_iff.1 ea).1
 have last:∀(w1:World) (a:Act) (listed:Array Bool) (u:ByteArray),Ch (fun _=>False) w w1→u.size=1→
   listed= #[true,true,true,true,true,true,true,true,true,false,false,false]→
   SL 49 [(0,p0),(1,Ptr pb po),(4,.int .i64 n),(26,Ptr pb po),(28,.string x),(34,.string u)] a→wpAny P .any (tF y).toArray Q 3 listed a w1:=by
  rintro w1 a listed u h1 hu rfl hs
  refine Y1 9 (by kernel_rfl) (aj hs rfl rfl rfl (AN hs rfl rfl rfl (by omega)) fun a hs=>?_)
  refine Y1 10 (by kernel_rfl) (aj hs rfl rfl rfl (ab hs rfl rfl) fun a hs=>?_)
  refine Y1 11 (by kernel_rfl) (eQ hs rfl rfl rfl (fJ hs rfl rfl rfl K.s rfl rfl (h1.at eu fun h=>h) aF (by simp)) fun hs=>?_)
  exact Ye (by kernel_rfl) (k _ _ u (hs.keep [0,1,4]) h1 hu)
 refine Y (i:=0) eI rfl rfl rfl (by kernel_rfl) (by kernel_rfl) (by kernel_rfl) hQ (fun w=>aa eI (.inl rfl) rfl) fun a hs=>?_
 refine Y (i:=1) hs rfl rfl rfl (by kernel_rfl) (by kernel_rfl) (by kernel_rfl) hQ (fun w=>ab hs rfl rfl) fun a hs=>?_
 refine Y (i:=3) hs rfl rfl rfl (by kernel_rfl) (by kernel_rfl) (by kernel_rfl) hQ (fun w=>aa hs (.inl rfl) rfl) fun a hs=>?_
 refine Y (i:=4) hs rfl rfl rfl (by kernel_rfl) (by kernel_rfl) (by kernel_rfl) hQ (fun w=>AM hs rfl rfl rfl (by decide)) fun a hs=>?_
 refine Y (i:=5) hs rfl rfl rfl (by kernel_rfl) (by kernel_rfl) (by kernel_rfl) hQ (fun w=>bJ hs rfl rfl rfl rfl) fun a hs=>?_
 refine Y (i:=6) hs rfl rfl rfl (by kernel_rfl) (by kernel_rfl) (by kernel_rfl) hQ (fun w=>uK hs rfl rfl ⟨_,K.iU⟩ K.byU) fun a hs=>?_
 generalize IntKind.wrap .u8 (IntKind.wrap .i64 (97+n.tmod 26))=m at*
 have key:∀(w0:World),w0.heap=w.heap→w0.os=w.os→w0.tape=w.tape→w0.output=w.output→Ch (fun _=>False) w (w0.alloc (.cells #[.int .u8 m] y.BY))∧(w0.alloc (.cells #[.int .u8 m] y.BY)).heap[w.heap.size]? =some (.cells #[.int .u8 m] y.BY (0,0)):=by
  intro w0 e1 e2 e3 e4
  have h1:=Ch.alloc (fun _=>False) w0 (.cells #[.int .u8 m] y.BY)
  exact⟨⟨h1.os.trans e2,h1.tape.trans e3,h1.output.trans e4,by rw[←e1];exact h1.size,fun b hb hn=>by rw[h1.keep b (by rw[e1];exact hb) hn,e1]⟩,by rw[←e1];exact heap_alloc_new w0 _⟩
 obtain⟨g1,g2⟩:=key {w with drawn:=w.drawn+1} rfl rfl rfl rfl
 have hu1:(ByteArray.empty.push (UInt8.ofNat m.toNat)).size=1:=rfl
 refine Y2 2 7 (by kernel_rfl) (aj hs rfl rfl rfl (ai hs rfl rfl K.s (w:={w with drawn:=w.drawn+1}) eu ea) fun a hs=>?_) (aj hs rfl rfl rfl (dW hs rfl rfl K.blU K.by' rfl) fun a hs=>?_)
 ·refine Y1 7 (by kernel_rfl) (aj hs rfl rfl rfl (dW hs rfl rfl K.blU K.by' rfl) fun a hs=>?_)
  refine Y1 8 (by kernel_rfl) (aj hs rfl rfl rfl (oL hs rfl rfl K.blU K.sU K.byU g2) fun a hs=>?_)
  exact last _ _ _ _ g1 hu1 (by kernel_rfl) (hs.keep [0,1,4,26,28,34])
 ·refine Y2 2 8 (by kernel_rfl) (aj hs rfl rfl rfl (ai hs rfl rfl K.s (g1.at eu fun h=>h) ea) fun a hs=>?_) (aj hs rfl rfl rfl (oL hs rfl rfl K.blU K.sU K.byU g2) fun a hs=>?_)
  ·refine Y1 8 (by kernel_rfl) (aj hs rfl rfl rfl (oL hs rfl rfl K.blU K.sU K.byU g2) fun a hs=>?_)
   exact last _ _ _ _ g1 hu1 (by kernel_rfl) (hs.keep [0,1,4,26,28,34])
  ·refine Y1 2 (by kernel_rfl) (aj hs rfl rfl rfl (ai hs rfl rfl K.s (g1.at eu fun h=>h) ea) fun a hs=>?_)
   exact last _ _ _ _ g1 hu1 (by kernel_rfl) (hs.keep [0,1,4,26,28,34])
theorem yx{n:Int}{m:Nat}(h0:0<n)(h:n<2 ^ m):∃k,m=k+1∧n.tdiv 26<2 ^ k∧0≤n.tdiv 26:=by
 cases m with
 |zero=>simp at h;omega
 |succ k=>
  refine⟨k,rfl,?_,?_⟩
  ·rw[Int.tdiv_eq_ediv_of_nonneg (by omega)]
   rw[Int.pow_succ]at h
   omega
  ·rw[Int.tdiv_eq_ediv_of_nonneg (by omega)];omega
theorem zA{P:Program}{y:TY}(K:Kit P y){f:FuncId}(hB:Body P f 49 [] (tG y)){mark room wr:Bool}{w:World}{d be pb po:Nat}{vn vs:Value}{e:Eye}{c:aK}
  (hE:bO y w be vn vs e mark room)(hz:Zn c w)(hd:∀b,EB be vn vs b→c b=none)(hp:Pl P wr room c d pb po .str)(hmw:mark=true→wr=true)(hb:Bd 1 e.n.length e.s.length):
  Ret P f [Ptr be 0,Ptr pb po] w (Out y mark room 1 false (fun a b=>∃x,pl c pb po=some (.string x)∧b={a with s:=a.s++ [x]}) w be vn vs e c):=by
 refine aJ hB ?_
 have hs:=SL.init (n:=49) [Ptr be 0,Ptr pb po] rfl
 revert hs
 generalize({tmps:=_,defers:=[]}:Act)=a
 intro hs
 obtain⟨tt,ht⟩:=hE.cell
 obtain⟨cs,bt,fz,v,eu,ea,hv,dZ,_⟩:=hp
 obtain⟨x,rfl⟩:∃x,v= .string x:=by cases hv with|str _ x=>exact⟨x,rfl⟩
 have aF:=(Array.getElem?_eq_some_iff.1 ea).1
 refine ah (ah (ae ?_))
 refine L hs rfl rfl (aa hs (.inl rfl) rfl) fun a hs=>?_
 refine L hs rfl rfl (ab hs rfl rfl) fun a hs=>?_
 refine L hs rfl rfl (ak hs rfl rfl K.e2) fun a hs=>?_
 refine L hs rfl rfl (ai hs rfl rfl K.b ht (v:= .bool mark) rfl) fun a hs=>?_
 refine Le (ar (t:=mark) (hs.ev rfl) (fun hm=>?_) fun hm=>?_)
 ·subst hm
  obtain rfl:=dZ (hmw rfl)
  refine ah (ae ?_)
  refine L hs rfl rfl (aa hs (.inl rfl) rfl) fun a hs=>?_
  refine L hs rfl rfl (ab hs rfl rfl) fun a hs=>?_
  refine L hs rfl rfl (ak hs rfl rfl K.e3) fun a hs=>?_
  refine L hs rfl rfl (ai hs rfl rfl K.i ht (v:= .int .i64 e.at') rfl) fun a hs=>?_
  refine L hs rfl rfl (bJ hs rfl rfl rfl rfl) fun a hs=>?_
  refine L hs rfl rfl (ab hs rfl rfl) fun a hs=>?_
  refine L hs rfl rfl (ak hs rfl rfl K.e3) fun a hs=>?_
  refine Ls hs rfl rfl (fJ hs rfl rfl rfl K.i rfl rfl ht (by simp[an]) (by simp)) fun hs=>?_
  have q1:=uO (x:=IntKind.wrap .i64 (e.at'+1)) hE hz hd rfl
  have hrange:=nO (e.at'+1)
  generalize IntKind.wrap .i64 (e.at'+1)=n0 at*
  refine Le (ah (ae ?_))
  refine L hs rfl rfl (aa hs (.inl rfl) rfl) fun a hs=>?_
  refine L hs rfl rfl (ab hs rfl rfl) fun a hs=>?_
  refine Ls hs rfl rfl (fJ hs rfl rfl rfl K.s rfl rfl (q1.zn pb _ eu) aF (by simp)) fun hs=>?_
  have q2:=q1.trans (S:=fun _ _=>True) (nP (Sr:=fun _ _=>True) (v:= .string ⟨#[63]⟩) q1.eye q1.zn q1.dis eu ea (.inr (.inr (.inr ⟨x,_,rfl,rfl,by decide⟩))) (fun h=>by cases h)) fun h=>(by cases h)
  obtain⟨tt1,ht1⟩:=q2.eye.cell
  have hpb2:stZ c pb po (.string ⟨#[63]⟩) pb=some (.cells (cs.setIfInBounds po (.string ⟨#[63]⟩)) bt (0,0)):=by simp[stZ,eu]
  refine Le (ah (ae ?_))
  refine L hs rfl rfl (aa hs (.inl rfl) rfl) fun a hs=>?_
  refine L hs rfl rfl (ab hs rfl rfl) fun a hs=>?_
  refine L hs rfl rfl (ak hs rfl rfl K.e3) fun a hs=>?_
  refine L hs rfl rfl (ai hs rfl rfl K.i ht1 (v:= .int .i64 n0) rfl) fun a hs=>?_
  refine L hs rfl rfl (aa hs (.inr rfl) rfl) fun a hs=>?_
  refine Le (au (aW (fun m a w1=>∃n s cs1 c1,SL 49 [(0,Ptr be 0),(1,Ptr pb po),(4,.int .i64 n)] a∧n<2 ^ m∧ -9223372036854775808≤n∧n≤9223372036854775807∧s.size+m≤64∧c1 pb=some (.cells cs1 bt (0,0))∧cs1[po]? =some (.string s)∧
   bD y true room 0 false (fun _ _=>True) w be vn vs e c w1 vn vs {e with at':=n0} c1) 63 ?_ ?_))
  ·refine⟨n0,⟨#[63]⟩,_,_,hs.keep [0,1,4],by omega,by omega,by omega,by decide,hpb2,by simp[aF],q2⟩
  ·rintro m a w1 ⟨n,s,cs1,c1,hs,hn,hr1,dE,db,hc1,hcs1,hP⟩
   have hlt1:=(Array.getElem?_eq_some_iff.1 hcs1).1
   refine ah (ah (ae ?_))
   refine L hs rfl rfl (aa hs (.inl rfl) rfl) fun a hs=>?_
   refine L hs rfl rfl (aG hs rfl rfl rfl rfl) fun a hs=>?_
   refine Le (ar (t:=decide (n>0)) (hs.ev rfl) (fun hm=>aw ?_) fun hm=>aN ?_)
   ·have hm:=of_decide_eq_true hm
    obtain⟨m',rfl,hh1,hh2⟩:=yx hm hn
    refine ah (au (wv K (hs.keep [0,1,4]) (hP.zn pb _ hc1) hcs1 (by omega) (fun _ _ _ h=>h) fun a w2 u hs a8 hu=>?_))
    have hE2:=hP.eye.keep a8 fun _ _ h=>h
    have hz2:=hP.zn.keep a8 fun _ _ h=>h
    have q3:=(nP (Sr:=fun _ _=>True) (v:= .string (s++u)) hE2 hz2 hP.dis hc1 hcs1 (.inr (.inr (.inr ⟨s,_,rfl,rfl,by rw[ByteArray.size_append,hu];unfold bZ;omega⟩))) (fun h=>by cases h)).pre a8
    have q4:=hP.trans (S:=fun _ _=>True) q3 fun h=>(by cases h)
    refine ae ?_
    refine L hs rfl rfl (aa hs (.inl rfl) rfl) fun a hs=>?_
    refine L hs rfl rfl (xQ hs rfl rfl rfl (by decide)) fun a hs=>?_
    refine L hs rfl rfl (aa hs (.inr rfl) rfl) fun a hs=>?_
    have hle:n.tdiv 26≤n:=by rw[Int.tdiv_eq_ediv_of_nonneg (by omega)];omega
    have hwr:IntKind.wrap .i64 (n.tdiv 26)=n.tdiv 26:=dc (by omega) (by omega)
    refine Le ⟨m',Nat.lt_succ_self _,n.tdiv 26,s++u,_,_,by have:=hs.keep [0,1,4];rw[hwr]at this;exact this,hh1,by omega,by omega,by rw[ByteArray.size_append,hu];omega,by simp only[stZ,if_true,hc1];rfl,by simp[hlt1],q4⟩
   ·refine nR K (hs.keep [0,1]) hP.eye hP.zn hP.dis K.s hc1 hcs1 hb (fun _ _ _ h=>h) fun a w' v' hs hQ=>?_
    exact kT hs ⟨rfl,_,_,_,_,(hP.trans (S:=fun _ _=>True) hQ fun h=>(by cases h)).S fun h=>(by cases h)⟩
 ·subst hm
  refine aw (nR K (hs.keep [0,1]) hE hz hd K.s eu ea hb (fun _ _ _ h=>h) fun a w' v' hs hP=>?_)
  exact kT hs ⟨rfl,_,_,_,_,hP.S fun _ h=>⟨x,by simp only[pl,eu];exact ea,h⟩⟩
end Go.TL.H
namespace Go.TL.H
open Go
inductive Ds where
 |num(T:TypeId)
 |yes
 |str
 |st(T:TypeId)(parts:List (Nat×Nat×FuncId))
 |via(L:TypeId)(al one:FuncId)(e:TypeId)(sz:Nat)
structure Row where
 ds:Ds
 ck:List CK
 hn:Bool
 bp:Nat
abbrev cT:=List (FuncId×Row)
def tH(T:TypeId)(k i:Nat)(g:FuncId):Code:=
 rg [p1 k (.move (t 0)),p1 (k+1) (.move (t 1)),p1 (k+2) (.nilCheck (t (k+1))),p1 (k+3) (.fieldAddr T (t (k+2)) i),p1 (k+4) (.call ⟨.value (.func g), #[t k,t (k+3)], #[]⟩)]
def stC(T:TypeId)(k:Nat):List (Nat×Nat×FuncId)→Code
 | []=> .skip
 | [(i,_,g)]=>tH T k i g
 |(i,_,g)::p::l=> .seq (tH T k i g) (stC T (k+5) (p::l))
def oO(L:TypeId)(al one:FuncId):Code:=
 rg [p1 4 (.move (t 0)),p1 5 (.move (t 1)),p1 6 (.nilCheck (t 5)),p1 7 (.load L (t 6)),p1 8 (.call ⟨.value (.func al), #[t 4,t 7,.func one], #[]⟩)]
abbrev pg(d:Nat)(p:Op)(ty:TypeId)(j:Nat)(b:Bool):Oper:=⟨some d,p,ty, "", #[],some (j,b)⟩
def sj(y:TY)(L:TypeId):List Oper:=
 [p1 26 (.move (t 6)),p1 27 (.move (t 1)),pt 28 (eX (t 27) L) y.I,p1 29 (.binOp .lss y.I (t 26) (t 28) y.I),p1 30 (.move (t 29)),pg 31 (.move (t 0)) 0 4 true,pg 32 (.nilCheck (t 31)) 0 4 true,pg 33 (.fieldAddr y.E (t 32) 0) 0 4 true,
  pg 34 (.load y.NL (t 33)) 0 4 true,pg 35 (eX (t 34) y.NL) y.I 4 true,pg 36 (.binOp .lss y.I (t 35) (ci 200000) y.I) 0 4 true,p1 37 (.pick (t 30) (t 36) (.const (.bool false)))]
def nh(y:TY)(L:TypeId):Code:=
 .seq (rg [p1 7 (.move (t 0)),p1 8 (.move (t 0)),p1 9 (.nilCheck (t 8)),p1 10 (.fieldAddr y.E (t 9) 0),p1 11 (.load y.NL (t 10)),p1 12 (.move (t 1)),pt 13 (eX (t 12) L) y.I,p1 14 (.buildSlice y.NL 1 #[(0,t 13)]),pt 15 (ja (t 11) (t 14) y.NL) y.NL,
   p1 16 (.nilCheck (t 7)),p1 17 (.fieldAddr y.E (t 16) 0),p0 (.store y.NL (t 17) (t 15))])
  (.seq (.seq (rg [p1 18 (.move (t 0)),p1 19 (.nilCheck (t 18)),p1 20 (.fieldAddr y.E (t 19) 4),p1 21 (.load y.B (t 20))])
    (.cond (t 21) (rg [p1 22 (.move (t 1)),p1 23 (.move (t 1)),pt 24 (.call ⟨.builtin .cap, #[t 23], #[L]⟩) y.I,p1 25 (.slice L (t 22) none (some (t 24)) none),p1 1 (.assign (t 25))]) .skip))
   (.seq (rg [p1 6 (.assign (ci 0))])
    (.block 0 (.loop (.seq (.seq (rg (sj y L)) (.cond (t 37) .skip (.exit 0)))
     (.seq (.block 1 (rg [p1 40 (.move (t 2)),p1 41 (.move (t 0)),p1 42 (.move (t 1)),p1 43 (.move (t 6)),p1 44 (.indexAddr L (t 42) (t 43)),p1 45 (.call ⟨.value (t 40), #[t 41,t 44], #[]⟩)]))
      (rg [p1 38 (.move (t 6)),p1 39 (.binOp .add y.I (t 38) (ci 1) y.I),p1 6 (.assign (t 39))])))))))
inductive Tsk where
 |fn(f:FuncId)(b o:Nat)
 |parts(l:List (Nat×Nat×FuncId))(b o:Nat)
 |iter(one:FuncId)(sz:Nat)(base:Option Addr)(i m:Nat)
inductive See(D:cT)(room:Bool)(c:aK):Tsk→Eye→Eye→Prop
 |num (f:FuncId) (b o:Nat) (e:Eye) (r:Row) (T:TypeId) (x:Int) (hD:lk D f=some r) (hr:r.ds= .num T) (hl:pl c b o=some (.int .i64 x)):See D room c (.fn f b o) e {e with n:=e.n++ [x]}
 |yes (f:FuncId) (b o:Nat) (e:Eye) (r:Row) (x:Bool) (hD:lk D f=some r) (hr:r.ds= .yes) (hl:pl c b o=some (.bool x)):See D room c (.fn f b o) e {e with n:=e.n++ [qG x]}
 |str (f:FuncId) (b o:Nat) (e:Eye) (r:Row) (x:ByteArray) (hD:lk D f=some r) (hr:r.ds= .str) (hl:pl c b o=some (.string x)):See D room c (.fn f b o) e {e with s:=e.s++ [x]}
 |st (f:FuncId) (b o:Nat) (e e':Eye) (r:Row) (T:TypeId) (l:List (Nat×Nat×FuncId)) (hD:lk D f=some r) (hr:r.ds= .st T l) (h:See D room c (.parts l b o) e e'):See D room c (.fn f b o) e e'
 |nil (b o:Nat) (e:Eye):See D room c (.parts [] b o) e e
 |cons (b o:Nat) (e e1 e2:Eye) (i off:Nat) (g:FuncId) (l:List (Nat×Nat×FuncId)) (h1:See D room c (.fn g b (o+off)) e e1) (h2:See D room c (.parts l b o) e1 e2):See D room c (.parts ((i,off,g)::l) b o) e e2
 |via (f:FuncId) (b o:Nat) (e e':Eye) (r:Row) (L:TypeId) (al one:FuncId) (te:TypeId) (sz:Nat) (a:Option Addr) (len cap:Nat) (hD:lk D f=some r) (hr:r.ds= .via L al one te sz) (hl:pl c b o=some (.slice a len cap))
   (h:See D room c (.iter one sz a 0 (if room then cap else len)) {e with n:=e.n++ [(len:Int)]} e'):See D room c (.fn f b o) e e'
 |stop (one:FuncId) (sz:Nat) (a:Option Addr) (i m:Nat) (e:Eye) (h:¬ (i<m∧e.n.length<200000)):See D room c (.iter one sz a i m) e e
 |step (one:FuncId) (sz b o i m:Nat) (e e1 e2:Eye) (hi:i<m) (hn:e.n.length<200000) (h1:See D room c (.fn one b (o+i*sz)) e e1) (h2:See D room c (.iter one sz (some ⟨b,o,none⟩) (i+1) m) e1 e2):
   See D room c (.iter one sz (some ⟨b,o,none⟩) i m) e e2
theorem See.det{D:cT}{room:Bool}{c:aK}{k:Tsk}{e e1:Eye}(h:See D room c k e e1):∀{e2:Eye},See D room c k e e2→e1=e2:=by
 induction h with
 |num f b o e r T x hD hr hl=>intro e2 k2;cases k2<;>simp_all
 |yes f b o e r x hD hr hl=>intro e2 k2;cases k2<;>simp_all
 |str f b o e r x hD hr hl=>intro e2 k2;cases k2<;>simp_all
 |st f b o e e' r T l hD hr h ih=>
  intro e2 k2
  cases k2 with
  |st _ _ _ _ _ r2 T2 l2 hD2 dE h2=>
   have:r=r2:=by rw[hD]at hD2;simpa using hD2
   subst this
   rw[hr]at dE;simp only[Ds.st.injEq]at dE
   obtain⟨rfl,rfl⟩:=dE
   exact ih h2
  |_=>simp_all
 |nil b o e=>intro e2 k2;cases k2;rfl
 |cons b o e e1 e2 i off g l h1 h2 ih1 ih2=>
  intro e3 k2
  cases k2 with
  |cons _ _ _ e1' _ _ _ _ _ k1 k2=>obtain rfl:=ih1 k1;exact ih2 k2
 |via f b o e e' r L al one te sz a len cap hD hr hl h ih=>
  intro e2 k2
  cases k2 with
  |via _ _ _ _ _ r2 L2 al2 one2 te2 sz2 a2 len2 dT hD2 dE dQ h2=>
   have:r=r2:=by rw[hD]at hD2;simpa using hD2
   subst this
   rw[hr]at dE;simp only[Ds.via.injEq]at dE
   obtain⟨rfl,rfl,rfl,rfl,rfl⟩:=dE
   rw[hl]at dQ;simp only[Ct,Value.slice.injEq]at dQ
   obtain⟨rfl,rfl,rfl⟩:=dQ
   exact ih h2
  |_=>simp_all
 |stop one sz a i m e h=>
  intro e2 k2
  cases k2 with
  |stop=>rfl
  |step=>exact absurd ⟨by assumption,by assumption⟩ h
 |step one sz b o i m e e1 e2 hi hn h1 h2 ih1 ih2=>
  intro e3 k2
  cases k2 with
  |stop _ _ _ _ _ _ h=>exact absurd ⟨hi,hn⟩ h
  |step _ _ _ _ _ _ _ e1' _ _ _ k1 k2=>obtain rfl:=ih1 k1;exact ih2 k2
def mo(P:Program)(D:cT)(T:TypeId)(ck:List CK)(bp:Nat):List (Nat×Nat×FuncId)→Nat→Bool→Prop
 | [],K,hn=>K=0∧hn=false
 |(i,off,g)::l,K,hn=>∃rg sz K' hn',lk D g=some rg∧rg.bp<bp∧aO P T i=some (off,sz)∧(∀(j:Nat) (k:CK),rg.ck[j]? =some k→ck[off+j]? =some k)∧K=rg.ck.length+K'∧hn=(rg.hn||hn')∧mo P D T ck bp l K' hn'
def Fit(P:Program)(y:TY)(D:cT)(f:FuncId)(r:Row):Prop:=
 match r.ds with
 | .num T=>Body P f 33 [] (tC y T)∧(∃z,One P T z)∧r.ck=[.int .i64]∧r.hn=true
 | .yes=>Body P f 28 [] (zy y)∧r.ck=[.bool]∧r.hn=true
 | .str=>Body P f 49 [] (tG y)∧r.ck=[.str]∧r.hn=false
 | .st T parts=>Body P f (4+5*parts.length) [] (stC T 4 parts)∧mo P D T r.ck r.bp parts r.ck.length r.hn
 | .via L al one e sz=>Body P f 9 [] (oO L al one)∧Body P al 46 [] (nh y L)∧P.underlying L=some (.slice e)∧(∃inf,P.info? e=some inf∧inf.size=sz)∧One P L ao∧r.ck=[.sl e]∧r.hn=true∧
   aD P one=true∧∃r1,lk D one=some r1∧r1.ck=cks P e∧r1.ck.length=sz∧sz≤16∧(r1.hn=false→sz=1)
def iL(P:Program)(y:TY)(D:cT):Prop:=∀f r,lk D f=some r→Fit P y D f r
def qH(P:Program)(y:TY)(D:cT)(mark room wr:Bool)(d:Nat)(f:FuncId)(r:Row):Prop:=
 ∀(w:World) (be pb po:Nat) (vn vs:Value) (e:Eye) (c:aK),bO y w be vn vs e mark room→Zn c w→(∀b,EB be vn vs b→c b=none)→
   (∀(j:Nat) (k:CK),r.ck[j]? =some k→Pl P wr room c d pb (po+j) k)→Bd r.ck.length e.n.length e.s.length→
   Ret P f [Ptr be 0,Ptr pb po] w (Out y mark room r.ck.length r.hn (fun a b=>See D room c (.fn f pb po) a b) w be vn vs e c)
theorem bD.Bg{y:TY}{mark room:Bool}{K K':Nat}{h h':Bool}{S1:Eye→Eye→Prop}{w:World}{be:Nat}{vn vs:Value}{e:Eye}{c:aK}{w1:World}{gZ vs1:Value}{e1:Eye}{c1:aK}
  (a:bD y mark room K h S1 w be vn vs e c w1 gZ vs1 e1 c1)(g:Gr K' h' e.n.length e.s.length e1.n.length e1.s.length):bD y mark room K' h' S1 w be vn vs e c w1 gZ vs1 e1 c1:=
 ⟨a.eye,a.zn,a.dis,a.keq,a.same,a.ch,a.new,g⟩
section
variable {P:Program} {y:TY} {D:cT} {mark room wr:Bool} {d:Nat}
theorem qI{n:Nat}{T:TypeId}{k i off sz:Nat}{g:FuncId}{a:Act}{w:World}{be pb po:Nat}{sl:aT}{Q:Exit→Act→World→Prop}{R:Value→World→Prop}(hs:SL n sl a)(h0:lk sl 0=some (Ptr be 0))(h1:lk sl 1=some (Ptr pb po))
  (hk:4≤k)(hn:k+5≤n)(hf:aO P T i=some (off,sz))(aC:aD P g=true)(hr:Ret P g [Ptr be 0,Ptr pb (po+off)] w R)
  (kk:∀v w' a',R v w'→SL n [(0,Ptr be 0),(1,Ptr pb po)] a'→Q .normal a' w'):NW P (tH T k i g) Q a w:=by
 have hd:∀j,j<5→dok n (some (k+j))=true:=fun j hj=>by simp only[dok];exact Nat.ble_eq_true_of_le (by omega)
 refine ae ?_
 refine L hs rfl (hd 0 (by omega)) (aa hs (.inl rfl) h0) fun a hs=>?_
 refine L hs rfl (hd 1 (by omega)) (aa hs (.inl rfl) (v:=Ptr pb po) (by simp only[ev,bz];rw[av _ _ _ _ (by omega)];exact h1)) fun a hs=>?_
 refine L hs rfl (hd 2 (by omega)) (ab hs rfl (aE _ _ _)) fun a hs=>?_
 refine L hs rfl (hd 3 (by omega)) (ak hs rfl (aE _ _ _) hf) fun a hs=>?_
 refine Lc hs rfl (hd 4 (by omega)) rfl rfl (vs:=[Ptr be 0,Ptr pb (po+off)]) ?_ aC hr fun v w' a hR hs=>?_
 ·simp only[evs,ev,bz]
  rw[aE,av _ _ _ _ (by omega),av _ _ _ _ (by omega),av _ _ _ _ (by omega),aE]
 ·refine Le (kk v w' a hR ⟨hs.size,hs.defers,?_⟩)
  intro t x ht
  refine hs.az t x ?_
  simp only[lk]at ht
  cases hb0:Nat.beq 0 t with
  |true=>
   have:=Cv hb0;subst this
   simp only at ht
   simp only[bz]
   rw[av _ _ _ _ (by omega),av _ _ _ _ (by omega),av _ _ _ _ (by omega),av _ _ _ _ (by omega),av _ _ _ _ (by omega),h0];exact ht
  |false=>
   simp only[hb0]at ht
   cases cq:Nat.beq 1 t with
   |true=>
    have:=Cv cq;subst this
    simp only at ht
    simp only[bz]
    rw[av _ _ _ _ (by omega),av _ _ _ _ (by omega),av _ _ _ _ (by omega),av _ _ _ _ (by omega),av _ _ _ _ (by omega),h1];exact ht
   |false=>simp[cq]at ht
theorem kU{T:TypeId}{ck:List CK}{bp:Nat}(hD:iL P y D)(ih:∀g rg,lk D g=some rg→rg.bp<bp→qH P y D mark room wr d g rg){be pb po n:Nat}:
  ∀(l:List (Nat×Nat×FuncId)) (k K:Nat) (hn:Bool),mo P D T ck bp l K hn→∀(a:Act) (w:World) (vn vs:Value) (e:Eye) (c:aK) (sl:aT) (Q:Exit→Act→World→Prop),bO y w be vn vs e mark room→Zn c w→(∀b,EB be vn vs b→c b=none)→
    (∀(j:Nat) (k:CK),ck[j]? =some k→Pl P wr room c d pb (po+j) k)→Bd K e.n.length e.s.length→SL n sl a→lk sl 0=some (Ptr be 0)→lk sl 1=some (Ptr pb po)→4≤k→k+5*l.length≤n→
    (∀a' w' dK bP e' c' sl',SL n sl' a'→bD y mark room K hn (fun a b=>See D room c (.parts l pb po) a b) w be vn vs e c w' dK bP e' c'→Q .normal a' w')→NW P (stC T k l) Q a w
 | [],k,K,hn,hp,a,w,vn,vs,e,c,sl,Q,hE,hz,hd,dL,hb,hs,h0,h1,hk,hkn,kk=>by
  obtain⟨rfl,rfl⟩:=hp
  exact aw (kk _ _ _ _ _ _ _ hs (bD.refl hE hz hd fun _=> .nil _ _ _))
 | [(i,off,g)],k,K,hn,hp,a,w,vn,vs,e,c,sl,Q,hE,hz,hd,dL,hb,hs,h0,h1,hk,hkn,kk=>by
  obtain⟨rg,sz,K',hn',hg,hrk,hf,aX,rfl,rfl,rfl,rfl⟩:=hp
  have hr:=ih g rg hg hrk w be pb (po+off) vn vs e c hE hz hd (fun j k hj=>by have:=dL (off+j) k (aX j k hj);rwa[←Nat.add_assoc]at this) hb
  have aC:aD P g=true:=by
   have:=hD g rg hg
   unfold Fit at this
   split at this<;>exact this.1.ok
  refine qI hs h0 h1 hk (by simpa using hkn) hf aC hr fun v w' a' hR fe=>?_
  obtain⟨_,dK,bP,e',c',hP⟩:=hR
  refine kk a' w' dK bP e' c' _ fe ?_
  have:=hP.S (S:=fun a b=>See D room c (.parts [(i,off,g)] pb po) a b) fun _ h=> .cons _ _ _ _ _ _ _ _ _ h (.nil _ _ _)
  simpa using this
 |(i,off,g)::p::l,k,K,hn,hp,a,w,vn,vs,e,c,sl,Q,hE,hz,hd,dL,hb,hs,h0,h1,hk,hkn,kk=>by
   obtain⟨rg,sz,K',hn',hg,hrk,hf,aX,rfl,rfl,hrest⟩:=hp
   have hr:=ih g rg hg hrk w be pb (po+off) vn vs e c hE hz hd (fun j k hj=>by have:=dL (off+j) k (aX j k hj);rwa[←Nat.add_assoc]at this) (hb.le (by omega))
   have aC:aD P g=true:=by
    have:=hD g rg hg
    unfold Fit at this
    split at this<;>exact this.1.ok
   simp only[List.length_cons]at hkn
   refine ah (qI hs h0 h1 hk (by omega) hf aC hr fun v w' a' hR fe=>?_)
   obtain⟨_,dK,bP,e',c',hP⟩:=hR
   refine kU hD ih (p::l) (k+5) K' hn' hrest a' w' dK bP e' c' _ Q hP.eye hP.zn hP.dis (fun j k hj=>(dL j k hj).keq hP.keq) (hb.step hP.gr (Nat.le_refl _)) fe rfl rfl (by omega) (by simp only[List.length_cons];omega) ?_
   intro a2 w2 fY cW e2 c2 sl2 ef hP2
   refine kk a2 w2 fY cW e2 c2 sl2 ef (hP.trans hP2 fun hm h1 h2=>?_)
   have:=(hP.same hm).1
   subst this
   exact .cons _ _ _ _ _ _ _ _ _ h1 h2
end
end Go.TL.H
namespace Go.TL.H
open Go
theorem zB{P:Program}{y:TY}(K:Kit P y){D:cT}{mark room wr:Bool}{d:Nat}{al one:FuncId}{LT e:TypeId}{inf:TypeInfo}{sz:Nat}{r1:Row}(hB:Body P al 46 [] (nh y LT))(hL:P.underlying LT=some (.slice e))(hi:P.info? e=some inf)(db:inf.size=sz)
  (aC:aD P one=true){a0:Option Addr}{len cap M:Nat}(hC:0<M→qH P y D mark room wr d one r1)(h16:r1.ck.length≤16)(h1n:r1.hn=false→r1.ck.length=1)(hM:M=if room then cap else len)(hml:M≤2097154)
  {w:World}{be:Nat}{vn vs:Value}{ey:Eye}{c:aK}(hE:bO y w be vn vs ey mark room)(hz:Zn c w)(hd:∀b,EB be vn vs b→c b=none)
  (dL:((room=true→a0=none)∧M=0)∨∃b o,a0=some ⟨b,o,none⟩∧∀i,i<M→∀(j:Nat) (k:CK),r1.ck[j]? =some k→Pl P wr room c d b (o+i*sz+j) k)(hb:Bd 1 ey.n.length ey.s.length):
  Ret P al [Ptr be 0,.slice a0 len cap,.func (.func one) #[] #[]] w (Out y mark room 1 true (fun a b=>See D room c (.iter one sz a0 0 M) {a with n:=a.n++ [(len:Int)]} b) w be vn vs ey c):=by
 refine aJ hB ?_
 have hs:=SL.init (n:=46) [Ptr be 0,.slice a0 len cap,.func (.func one) #[] #[]] rfl
 revert hs
 generalize({tmps:=_,defers:=[]}:Act)=a
 intro hs
 obtain⟨tt,ht⟩:=hE.cell
 refine ah (ae ?_)
 refine L hs rfl rfl (aa hs (.inl rfl) rfl) fun a hs=>?_
 refine L hs rfl rfl (aa hs (.inl rfl) rfl) fun a hs=>?_
 refine L hs rfl rfl (ab hs rfl rfl) fun a hs=>?_
 refine L hs rfl rfl (ak hs rfl rfl K.e0) fun a hs=>?_
 refine L hs rfl rfl (ai hs rfl rfl K.nl ht (v:=vn) rfl) fun a hs=>?_
 refine L hs rfl rfl (aa hs (.inl rfl) rfl) fun a hs=>?_
 refine L hs rfl rfl (aM hs rfl rfl hL) fun a hs=>?_
 refine L hs rfl rfl (dW hs rfl rfl K.nlU K.i rfl) fun a hs=>?_
 have a8:=Ch.alloc (fun _=>False) w (.cells #[.int .i64 (len:Int)] y.I)
 have hphi:=hb.phi
 have hphl:=lP ey.n.length
 obtain⟨v',w2,hr,ho,fq,hv'⟩:=qm (o:=pt 15 (ja (t 11) (t 14) y.NL) y.NL) hs rfl rfl rfl K.nlU K.i (a8.ownsRow hE.n fun _ _ h=>h) (heap_alloc_new _ _) rfl K.i16 (by omega)
 obtain⟨⟨t2,fD⟩,j3⟩:=qF hE hz hd a8 ho fq hv'
 refine L hs rfl rfl hr fun a hs=>?_
 refine L hs rfl rfl (ab hs rfl rfl) fun a hs=>?_
 refine L hs rfl rfl (ak hs rfl rfl K.e0) fun a hs=>?_
 refine Ls hs rfl rfl (fJ hs rfl rfl rfl K.nl (by rcases ho.2 with⟨rfl,_⟩|⟨g,cap,cur,rfl,_⟩<;>rfl) (by rcases ho.2 with⟨rfl,_⟩|⟨g,cap,cur,rfl,_⟩<;>rfl) fD (by simp[an]) (by simp)) fun hs=>?_
 obtain⟨tt1,ht1⟩:=j3.eye.cell
 refine Le (ah (ah (ae ?_)))
 refine L hs rfl rfl (aa hs (.inl rfl) rfl) fun a hs=>?_
 refine L hs rfl rfl (ab hs rfl rfl) fun a hs=>?_
 refine L hs rfl rfl (ak hs rfl rfl K.e4) fun a hs=>?_
 refine L hs rfl rfl (ai hs rfl rfl K.b ht1 (v:= .bool room) rfl) fun a hs=>?_
 have rest:∀a,SL 46 [(0,Ptr be 0),(1,.slice a0 M cap),(2,.func (.func one) #[] #[])] a→NW P
   (.seq (rg [p1 6 (.assign (ci 0))])
    (.block 0 (.loop (.seq (.seq (rg (sj y LT)) (.cond (t 37) .skip (.exit 0)))
     (.seq (.block 1 (rg [p1 40 (.move (t 2)),p1 41 (.move (t 0)),p1 42 (.move (t 1)),p1 43 (.move (t 6)),p1 44 (.indexAddr LT (t 42) (t 43)),p1 45 (.call ⟨.value (t 40), #[t 41,t 44], #[]⟩)]))
      (rg [p1 38 (.move (t 6)),p1 39 (.binOp .add y.I (t 38) (ci 1) y.I),p1 6 (.assign (t 39))]))))))
   (fin P [] (Out y mark room 1 true (fun a b=>See D room c (.iter one sz a0 0 M) {a with n:=a.n++ [(len:Int)]} b) w be vn vs ey c)) a (w2.setRow be (an v' vs ey.at' mark room)):=by
  intro a hs
  refine ah (ae ?_)
  refine L hs rfl rfl (aa hs (.inr rfl) rfl) fun a hs=>?_
  refine Le (au (aW (fun m a w1=>∃(i:Nat) (gZ vs1:Value) (e1:Eye) (c1:aK) (K1:Nat) (h1:Bool),SL 46 [(0,Ptr be 0),(1,.slice a0 M cap),(2,.func (.func one) #[] #[]),(6,.int .i64 (i:Int))] a∧i+m=M∧
   bD y mark room K1 h1 (fun a b=>∀z,See D room c (.iter one sz a0 i M) b z→See D room c (.iter one sz a0 0 M) {a with n:=a.n++ [(len:Int)]} z) w be vn vs ey c w1 gZ vs1 e1 c1∧
   Rd (ey.n.length+1) ey.s.length e1.n.length e1.s.length i) M ?_ ?_))
  ·refine⟨0,_,_,_,_,_,_,hs.keep [0,1,2,6],by omega,j3.S fun _ h z hz=>(by rw[h]at hz;exact hz),?_⟩
   simp only[List.length_append,List.length_cons,List.length_nil]
   exact .zero _ _
  ·rintro m a w1 ⟨i,gZ,vs1,e1,c1,K1,h1,hs,him,hP,hR⟩
   obtain⟨tt2,fD⟩:=hP.eye.cell
   refine ah (ah (ae ?_))
   refine L hs rfl rfl (aa hs (.inl rfl) rfl) fun a hs=>?_
   refine L hs rfl rfl (aa hs (.inl rfl) rfl) fun a hs=>?_
   refine L hs rfl rfl (aM hs rfl rfl hL) fun a hs=>?_
   refine L hs rfl rfl (aG hs rfl rfl rfl rfl) fun a hs=>?_
   refine L hs rfl rfl (aa hs (.inl rfl) rfl) fun a hs=>?_
   have stop:∀a,SL 46 [(0,Ptr be 0)] a→¬ (i<M∧e1.n.length<200000)→fin P [] (Out y mark room 1 true (fun a b=>See D room c (.iter one sz a0 0 M) {a with n:=a.n++ [(len:Int)]} b) w be vn vs ey c) .normal a w1:=by
    intro a hs hno
    refine kT hs ⟨rfl,_,_,_,_,(hP.S fun _ h=>h _ (.stop _ _ _ _ _ _ hno)).Bg (hR.all (by omega))⟩
   by_cases hiM:i<M
   ·have hdec:decide ((i:Int)<(M:Int))=true:=decide_eq_true (by omega)
    rw[hdec]at hs
    refine L hs (by rw[wg hs rfl rfl rfl rfl];rfl) rfl (aa hs (.inl rfl) rfl) fun a hs=>?_
    refine L hs (by rw[wg hs rfl rfl rfl rfl];rfl) rfl (ab hs rfl rfl) fun a hs=>?_
    refine L hs (by rw[wg hs rfl rfl rfl rfl];rfl) rfl (ak hs rfl rfl K.e0) fun a hs=>?_
    refine L hs (by rw[wg hs rfl rfl rfl rfl];rfl) rfl (ai hs rfl rfl K.nl fD (v:=gZ) rfl) fun a hs=>?_
    obtain⟨pv,cv,hvn⟩:∃pv cv,gZ= .slice pv e1.n.length cv:=by
     rcases hP.eye.n.2 with⟨h1,h2⟩|⟨g,cap,cur,h1,_⟩
     ·exact⟨none,0,by rw[h1,h2]⟩
     ·exact⟨_,_,h1⟩
    refine L hs (by rw[wg hs rfl rfl rfl rfl];rfl) rfl (aM hs rfl (by rw[←hvn];rfl) K.nlU) fun a hs=>?_
    refine L hs (by rw[wg hs rfl rfl rfl rfl];rfl) rfl (aG hs rfl rfl rfl rfl) fun a hs=>?_
    refine L hs rfl rfl (bM (b:=true) hs rfl rfl (fun _=>rfl) (fun h=>by cases h)) fun a hs=>?_
    refine Le (ar (t:=decide ((e1.n.length:Int)<200000)) (hs.ev rfl) (fun aF=>aw ?_) fun aF=>aN ?_)
    ·have aF:=of_decide_eq_true aF
     have hlt':e1.n.length<200000:=by omega
     rcases dL with⟨_,h0⟩|⟨b,o,rfl,dL⟩
     ·omega
     refine ah (au (ae ?_))
     refine L hs rfl rfl (aa hs (.inl rfl) rfl) fun a hs=>?_
     refine L hs rfl rfl (aa hs (.inl rfl) rfl) fun a hs=>?_
     refine L hs rfl rfl (aa hs (.inl rfl) rfl) fun a hs=>?_
     refine L hs rfl rfl (aa hs (.inl rfl) rfl) fun a hs=>?_
     refine L hs rfl rfl (j5 hs rfl rfl rfl hL hi (by omega) (by omega)) fun a hs=>?_
     have hix:o+((i:Int)).toNat*inf.size=o+i*sz:=by rw[db];simp
     rw[hix]at hs
     have iA:=hC (by omega) w1 be b (o+i*sz) gZ vs1 e1 c1 hP.eye hP.zn hP.dis (fun j k hj=>(dL i hiM j k hj).keq hP.keq) (hR.bd (_m:=0) (by omega) hb hlt' h16)
     refine Lc hs rfl rfl rfl rfl rfl aC iA fun v w3 a hO hs=>?_
     obtain⟨_,fY,cW,e2,c2,hP2⟩:=hO
     refine Le (ae ?_)
     refine L hs rfl rfl (aa hs (.inl rfl) rfl) fun a hs=>?_
     refine L hs rfl rfl (bJ hs rfl rfl rfl rfl) fun a hs=>?_
     refine L hs rfl rfl (aa hs (.inr rfl) rfl) fun a hs=>?_
     have hw:IntKind.wrap .i64 ((i:Int)+1)=((i+1:Nat):Int):=by rw[dc (by omega) (by omega)];omega
     have fe:=hs.keep [0,1,2,6]
     rw[hw]at fe
     refine Le ⟨m - 1,by omega,i+1,fY,cW,e2,c2,_,_,fe,by omega,hP.trans hP2 fun hm h1 h2 z hz=>?_,hR.next hP2.gr hlt' h16 h1n⟩
     have hcc:=(hP.same hm).1
     subst hcc
     exact h1 z (.step _ _ _ _ _ _ _ _ _ hiM hlt' h2 hz)
    ·have aF:=of_decide_eq_false aF
     exact stop _ (hs.keep [0]) (by omega)
   ·have hdec:decide ((i:Int)<(M:Int))=false:=decide_eq_false (by omega)
    rw[hdec]at hs
    refine Lu hs (by rw[wg hs rfl rfl rfl rfl];rfl) rfl fun a hs=>?_
    refine Lu hs (by rw[wg hs rfl rfl rfl rfl];rfl) rfl fun a hs=>?_
    refine Lu hs (by rw[wg hs rfl rfl rfl rfl];rfl) rfl fun a hs=>?_
    refine Lu hs (by rw[wg hs rfl rfl rfl rfl];rfl) rfl fun a hs=>?_
    refine Lu hs (by rw[wg hs rfl rfl rfl rfl];rfl) rfl fun a hs=>?_
    refine Lu hs (by rw[wg hs rfl rfl rfl rfl];rfl) rfl fun a hs=>?_
    refine L hs rfl rfl (bM (b:=false) hs rfl rfl (fun h=>by cases h) (fun _=>rfl)) fun a hs=>?_
    refine Le (ar (t:=false) (hs.ev rfl) (fun h=>by cases h) fun _=>aN ?_)
    exact stop _ (hs.keep [0]) (by omega)
 refine Le (ar (t:=room) (hs.ev rfl) (fun hr=>ae ?_) fun hr=>aw ?_)
 ·refine L hs rfl rfl (aa hs (.inl rfl) rfl) fun a hs=>?_
  refine L hs rfl rfl (aa hs (.inl rfl) rfl) fun a hs=>?_
  refine L hs rfl rfl (AO hs rfl rfl hL) fun a hs=>?_
  refine L hs rfl rfl (zv hs rfl rfl rfl hL hi fun p hp=>by
   rcases dL with⟨h0,_⟩|⟨b,o,h0,_⟩
   ·rw[h0 hr]at hp;cases hp
   ·rw[h0]at hp;cases hp;exact⟨b,o,rfl⟩) fun a hs=>?_
  refine L hs rfl rfl (aa hs (.inr rfl) rfl) fun a hs=>?_
  refine Le (rest _ ?_)
  rw[hM,hr];exact hs.keep [0,1,2]
 ·refine rest _ ?_
  rw[hM,hr];exact hs.keep [0,1,2]
theorem nS{P:Program}{y:TY}(K:Kit P y){D:cT}{mark room wr:Bool}(hD:iL P y D)(hmw:mark=true→wr=true):
  ∀(d rk:Nat) (f:FuncId) (r:Row),lk D f=some r→r.bp≤rk→qH P y D mark room wr d f r:=by
 intro d
 induction d using Nat.strongRecOn with
 |_ d ihd=>
  intro rk
  induction rk using Nat.strongRecOn with
  |_ rk ihr=>
   intro f r hf hrk w be pb po vn vs e c hE hz hd dL hb
   have dx:=hD f r hf
   unfold Fit at dx
   split at dx
   ·rename_i T hds
    obtain⟨h1,⟨z,h2⟩,h3,h4⟩:=dx
    rw[h3,h4]
    rw[h3]at hb
    refine(zx K h1 h2 hE hz hd (by have:=dL 0 (.int .i64) (by rw[h3];rfl);simpa using this) hmw hb).mono ?_
    rintro v w' ⟨hv,dK,bP,e',c',hP⟩
    exact⟨hv,dK,bP,e',c',hP.S fun _ ⟨x,hx,he⟩=>by rw[he];exact .num _ _ _ _ r T x hf hds hx⟩
   ·rename_i hds
    obtain⟨h1,h3,h4⟩:=dx
    rw[h3,h4]
    rw[h3]at hb
    refine(zz K h1 hE hz hd (by have:=dL 0 .bool (by rw[h3];rfl);simpa using this) hb).mono ?_
    rintro v w' ⟨hv,dK,bP,e',c',hP⟩
    exact⟨hv,dK,bP,e',c',hP.S fun _ ⟨x,hx,he⟩=>by rw[he];exact .yes _ _ _ _ r x hf hds hx⟩
   ·rename_i hds
    obtain⟨h1,h3,h4⟩:=dx
    rw[h3,h4]
    rw[h3]at hb
    refine(zA K h1 hE hz hd (by have:=dL 0 .str (by rw[h3];rfl);simpa using this) hmw hb).mono ?_
    rintro v w' ⟨hv,dK,bP,e',c',hP⟩
    exact⟨hv,dK,bP,e',c',hP.S fun _ ⟨x,hx,he⟩=>by rw[he];exact .str _ _ _ _ r x hf hds hx⟩
   ·rename_i T parts hds
    obtain⟨h1,h2⟩:=dx
    refine aJ h1 ?_
    have hs:=SL.init (n:=4+5*parts.length) [Ptr be 0,Ptr pb po] (Nat.ble_eq_true_of_le (by simp;omega))
    refine kU hD (fun g rg hg aF=>ihr rg.bp (by omega) g rg hg (Nat.le_refl _)) parts 4 _ _ h2 _ w vn vs e c _ _ hE hz hd dL hb hs rfl rfl (Nat.le_refl _) (Nat.le_refl _) ?_
    intro a' w' dK bP e' c' sl' fe hP
    exact kT fe ⟨rfl,dK,bP,e',c',hP.S fun _ h=> .st _ _ _ _ _ r T parts hf hds h⟩
   ·rename_i LT al one te sz hds
    obtain⟨h1,h2,hL,⟨inf,hi,db⟩,hLn,h3,h4,aC,r1,hr1,aX,hlen,h16,h1n⟩:=dx
    rw[h3,h4]
    rw[h3]at hb
    obtain⟨cs,bt,fz,v,eu,ea,hv,dZ,_⟩:=dL 0 (.sl te) (by rw[h3];rfl)
    rw[Nat.add_zero]at ea
    have hcase:∃a0 len cap d',v= .slice a0 len cap∧(if room then cap else len)≤2097154∧(0<(if room then cap else len)→qH P y D mark room wr d' one r1)∧
      (((room=true→a0=none)∧(if room then cap else len)=0)∨∃b o,a0=some ⟨b,o,none⟩∧∀i,i<(if room then cap else len)→∀(j:Nat) (k:CK),r1.ck[j]? =some k→Pl P wr room c d' b (o+i*sz+j) k):=by
     cases hv with
     |nil _ _ b0 cap0 h0=>
      have hz0:(if room=true then cap0 else 0)=0:=by
       cases room with
       |true=>rw[(h0 rfl).2];rfl
       |false=>rfl
      exact⟨b0,0,cap0,d,rfl,by rw[hz0];omega,fun h=>by rw[hz0]at h;omega,.inl ⟨fun h=>(h0 h).1,hz0⟩⟩
     |sl d' _ b o len cap cs2 t2 fz2 g cF hf2 hle hl hm hc hbl hw=>
      refine⟨some ⟨b,o,none⟩,len,cap,d',rfl,?_,fun _=>ihd d' (Nat.lt_succ_self _) _ one r1 hr1 (Nat.le_refl _),.inr ⟨b,o,rfl,?_⟩⟩
      ·unfold ew at hl
       cases room with
       |true=>have:=hm rfl;simp;omega
       |false=>simp;omega
      ·intro i hi2 j k hj
       rw[aX]at hj
       have dQ:(cks P te).length=sz:=by rw[←aX];exact hlen
       refine⟨cs2,t2,fz2,g i j,cF,?_,hw i hi2 j k hj,hf2,fun hk=>?_⟩
       ·have:=hc i hi2 j k hj;rwa[dQ]at this
       ·subst hk;have:=hbl i hi2 j hj;rwa[dQ]at this
    obtain⟨a0,len,cap,d',rfl,hml,hC,hel⟩:=hcase
    refine aJ h1 ?_
    have hs:=SL.init (n:=9) [Ptr be 0,Ptr pb po] rfl
    revert hs
    generalize({tmps:=_,defers:=[]}:Act)=a
    intro hs
    refine ae ?_
    refine L hs rfl rfl (aa hs (.inl rfl) rfl) fun a hs=>?_
    refine L hs rfl rfl (aa hs (.inl rfl) rfl) fun a hs=>?_
    refine L hs rfl rfl (ab hs rfl rfl) fun a hs=>?_
    refine L hs rfl rfl (ai hs rfl rfl hLn (hz pb _ eu) ea) fun a hs=>?_
    have iA:=zB K h2 hL hi db aC hC (by omega) (fun h=>by rw[hlen];exact h1n h) rfl hml hE hz hd hel hb
    refine Lc hs rfl rfl rfl rfl rfl h2.ok iA fun v w3 a hO hs=>?_
    obtain⟨_,dK,bP,e',c',hP⟩:=hO
    exact Le (kT hs ⟨rfl,dK,bP,e',c',hP.S fun _ h=> .via _ _ _ _ _ r LT al one te sz a0 len cap hf hds (by simp only[pl,eu];exact ea) h⟩)
end Go.TL.H
namespace Go.TL.H
open Go
structure kV(y:TY)(w:World)(vn vs:Value)(n:List Int)(s:List ByteArray):Prop where
 n:w.ownsRow 0 y.I 1 vn n.length (n.map (Value.int .i64))
 s:w.ownsRow 0 y.S 1 vs s.length (s.map Value.string)
theorem kV.keep{y:TY}{w w':World}{vn vs:Value}{n:List Int}{s:List ByteArray}(h:kV y w vn vs n s)(hc:Ch (fun _=>False) w w'):kV y w' vn vs n s:=
 ⟨hc.ownsRow h.n fun _ _ h=>h,hc.ownsRow h.s fun _ _ h=>h⟩
theorem bO.lists{y:TY}{w:World}{be:Nat}{vn vs:Value}{e:Eye}{m r:Bool}(h:bO y w be vn vs e m r):kV y w vn vs e.n e.s:=⟨h.n,h.s⟩
theorem gR{w:World}{T n:Nat}{v:Value}{xs:List Value}(h:w.ownsRow 0 T 1 v n xs):∃p c,v= .slice p n c:=by
 rcases h.2 with⟨h1,h2⟩|⟨g,cap,cur,h1,_⟩
 ·exact⟨none,0,by rw[h1,h2]⟩
 ·exact⟨_,_,h1⟩
theorem ko{w:World}{T n i:Nat}{v:Value}{xs:List Value}(h:w.ownsRow 0 T 1 v n xs)(hi:i<n):∃g cap cur,v= .slice (some ⟨g,0,none⟩) n cap∧w.heap[g]? =some (.cells cur T (0,0))∧cur[i]? =xs[i]? :=by
 rcases h.2 with⟨_,h2⟩|⟨g,cap,cur,h1,_,h3,_,_,_,h4⟩
 ·omega
 ·refine⟨g,cap,cur,h1,h3,?_⟩
  rw[←h4]
  rw[List.getElem?_take,if_pos (by omega)]
  simp
theorem jV{P:Program}{o:Oper}{n:Nat}{sl:aT}{a:Act}{w:World}{x ix:Operand}{LT e:TypeId}{z:Value}{g m c i:Nat}(h:SL n sl a)(ho:o.op= .indexAddr LT x ix)(ex:ev sl x=some (.slice (some ⟨g,0,none⟩) m c))(ei:ev sl ix=some (.int .i64 (i:Int)))
  (ht:P.underlying LT=some (.slice e))(hT:One P e z)(h1:i<m):(execOp a.eval o).run P w= .ok (.value (Ptr g i)) w:=by
 obtain⟨inf,hi,_,db,_⟩:=hT.is
 have:=j5 (P:=P) (w:=w) h ho ex ei ht hi (by omega) (by omega)
 rw[this,db]
 simp
theorem mq{w w1:World}(h:Ch (fun _=>False) w w1):Ch (fun _=>False) w {w1 with drawn:=w1.drawn+1}:=h.trans (Ch.drew _ _)
def jc(b:Bool)(k:Nat):Code:= .seq (rg [p1 k (.assign (.const (.bool b)))]) .ret
theorem kp{P:Program}{n k:Nat}{sl:aT}{a:Act}{w:World}{b:Bool}{Q:Exit→Act→World→Prop}(hs:SL n sl a)(hk:dok n (some k)=true)(kk:∀a',SL n [(k,.bool b)] a'→Q .ret a' w):NW P (jc b k) Q a w:=by
 refine ah (ae ?_)
 refine L hs rfl hk (aa hs (.inr rfl) rfl) fun a hs=>Le (aP (kk _ ⟨hs.size,hs.defers,fun t v ht=>?_⟩))
 refine hs.az t v ?_
 simp only[lk]at ht ⊢
 simp only[bz,lk]
 cases hb:Nat.beq k t with
 |true=>simp only[hb]at ht;exact ht
 |false=>simp[hb]at ht
theorem cH{P:Program}{n k:Nat}{sl:aT}{a:Act}{w:World}{v:Value}{R:Value→World→Prop}(h:SL n sl a)(hv:lk sl k=some v)(hR:R v w):fin P [.tmp k] R .ret a w:=
 ⟨h.defers,v,⟨[v],by simp[gh,h.az k v hv],rfl⟩,hR⟩
def wx(y:TY):List Oper:=
 [p1 7 (.fieldAddr y.E (t 2) 0),p1 8 (.load y.NL (t 7)),pt 9 (eX (t 8) y.NL) y.I,p1 10 (.fieldAddr y.E (t 3) 0),p1 11 (.load y.NL (t 10)),pt 12 (eX (t 11) y.NL) y.I,p1 13 (.binOp .neq y.I (t 9) (t 12) y.I),p1 14 (.move (t 13)),
  pg 15 (.fieldAddr y.E (t 2) 1) 0 7 false,pg 16 (.load y.SS (t 15)) 0 7 false,pg 17 (eX (t 16) y.SS) y.I 7 false,pg 18 (.fieldAddr y.E (t 3) 1) 0 7 false,pg 19 (.load y.SS (t 18)) 0 7 false,pg 20 (eX (t 19) y.SS) y.I 7 false,
  pg 21 (.binOp .neq y.I (t 17) (t 20) y.I) 0 7 false,p1 22 (.pick (t 14) (.const (.bool true)) (t 21))]
def kW(y:TY)(i k f:Nat)(LT T:TypeId)(id:Nat):Code:=
 .seq (rg [p1 i (.assign (ci 0))])
  (.block id (.loop (.seq (.seq (rg [p1 k (.move (t i)),p1 (k+1) (.fieldAddr y.E (t 2) f),p1 (k+2) (.load LT (t (k+1))),pt (k+3) (eX (t (k+2)) LT) y.I,p1 (k+4) (.binOp .lss y.I (t k) (t (k+3)) y.I)]) (.cond (t (k+4)) .skip (.exit id)))
   (.seq (.block (id+1) (.seq (rd [q1 (k+7) (.fieldAddr y.E (t 2) f) [],q1 (k+8) (.load LT (t (k+7))) [eD 0],q1 (k+9) (.move (t i)) [],q1 (k+10) (.indexAddr LT (t (k+8)) (t (k+9))) [eD 1,eD 2],q1 (k+11) (.load T (t (k+10))) [eD 3],
     q1 (k+12) (.fieldAddr y.E (t 3) f) [],q1 (k+13) (.load LT (t (k+12))) [eD 5],q1 (k+14) (.move (t i)) [],q1 (k+15) (.indexAddr LT (t (k+13)) (t (k+14))) [eD 6,eD 7],q1 (k+16) (.load T (t (k+15))) [eD 8],q1 (k+17) (.binOp .neq T (t (k+11)) (t (k+16)) T) [eD 4,eD 9]])
     (.cond (t (k+17)) (jc false 4) .skip)))
    (rg [p1 (k+5) (.move (t i)),p1 (k+6) (.binOp .add y.I (t (k+5)) (ci 1) y.I),p1 i (.assign (t (k+6)))])))))
def jW(y:TY):Code:=
 .seq (rg [p1 2 (.box y.E (t 0)),p1 3 (.box y.E (t 1)),p1 4 (.assign (.const (.bool false)))])
  (.seq (.seq (rg (wx y)) (.cond (t 22) (jc false 4) .skip))
   (.seq (kW y 5 23 0 y.NL y.I 0) (.seq (kW y 6 41 1 y.SS y.S 2) (jc true 4))))
theorem mU{P:Program}{y:TY}(K:Kit P y){i k f:Nat}{LT TT:TypeId}{id:Nat}{z:Value}{w0:World}{b1 b2 len:Nat}{c1 c2:Array Value}{t1 t2:TypeId}{v1 v2:Value}{xs:List Value}
  (hik:(i=5∧k=23∧f=0∧id=0)∨(i=6∧k=41∧f=1∧id=2))(hf:aO P y.E f=some (f,1))(hLT:P.underlying LT=some (.slice TT))(hL1:One P LT ao)(hT:One P TT z)(hlen:len≤4611686018427387904)
  (cq:w0.heap[b1]? =some (.cells c1 t1 (0,0)))(cF:w0.heap[b2]? =some (.cells c2 t2 (0,0)))(hc1:c1[f]? =some v1)(hc2:c2[f]? =some v2)(ho1:w0.ownsRow 0 TT 1 v1 len xs)(ho2:w0.ownsRow 0 TT 1 v2 len xs)
  (heq:∀(w:World) (a:Act) (o:Oper) (sl:aT) (x y':Operand) (v:Value),SL 59 sl a→o.op= .binOp .neq TT x y' TT→ev sl x=some v→ev sl y'=some v→v∈xs→(execOp a.eval o).run P w= .ok (.value (.bool false)) w)
  {Q:Exit→Act→World→Prop}{a:Act}{w:World}(hs:SL 59 [(2,Ptr b1 0),(3,Ptr b2 0)] a)(hw:Ch (fun _=>False) w0 w)
  (kk:∀a' w',SL 59 [(2,Ptr b1 0),(3,Ptr b2 0)] a'→Ch (fun _=>False) w0 w'→Q .normal a' w'):NW P (kW y i k f LT TT id) Q a w:=by
 have main:∀(i k id:Nat),(i=5∧k=23∧id=0)∨(i=6∧k=41∧id=2)→NW P (kW y i k f LT TT id) Q a w:=by
  intro i k id hik
  rcases hik with⟨rfl,rfl,rfl⟩|⟨rfl,rfl,rfl⟩
  all_goals
   refine ah (ae ?_)
   refine L hs rfl rfl (aa hs (.inr rfl) rfl) fun a hs=>?_
  ·refine Le (au (aW (fun m a w1=>∃(j:Nat),SL 59 [(2,Ptr b1 0),(3,Ptr b2 0),(5,.int .i64 (j:Int))] a∧j+m=len∧Ch (fun _=>False) w0 w1) len ⟨0,hs.keep [2,3,5],by omega,hw⟩ ?_))
   rintro m a w1 ⟨j,hs,hj,dm⟩
   obtain⟨p,c,hv⟩:=gR ho1
   refine ah (ah (ae ?_))
   refine L hs rfl rfl (aa hs (.inl rfl) rfl) fun a hs=>?_
   refine L hs rfl rfl (ak hs rfl rfl hf) fun a hs=>?_
   refine L hs rfl rfl (ai hs rfl rfl hL1 (dm.at cq fun h=>h) (by rw[Nat.zero_add];exact hc1)) fun a hs=>?_
   refine L hs rfl rfl (aM hs rfl (by rw[←hv];rfl) hLT) fun a hs=>?_
   refine L hs rfl rfl (aG hs rfl rfl rfl rfl) fun a hs=>?_
   refine Le (ar (t:=decide ((j:Int)<(len:Int))) (hs.ev rfl) (fun aF=>aw ?_) fun aF=>aN ?_)
   ·have aF:=of_decide_eq_true aF
    have cd:j<len:=by omega
    obtain⟨g1,cap1,cur1,e1,h1,q1⟩:=ko ho1 cd
    obtain⟨g2,dT,cur2,e2,h2,q2⟩:=ko ho2 cd
    have hxl:xs.length=len:=by have:=ho1.1;omega
    have hx:xs[j]? =some xs[j]:=by simp
    have hw2:=mq dm
    refine ah (au (ah (jE K.mixed (by kernel_rfl) ?_)))
    refine T hs rfl rfl (ak hs rfl rfl hf) fun a hs=>?_
    refine T hs rfl rfl (ai hs rfl rfl hL1 (hw2.at cq fun h=>h) (by rw[Nat.zero_add];exact hc1)) fun a hs=>?_
    refine T hs rfl rfl (aa hs (.inl rfl) rfl) fun a hs=>?_
    refine T hs rfl rfl (jV hs rfl (by rw[←e1];rfl) rfl hLT hT cd) fun a hs=>?_
    refine T hs rfl rfl (ai hs rfl rfl hT (hw2.at h1 fun h=>h) (q1.trans hx)) fun a hs=>?_
    refine T hs rfl rfl (ak hs rfl rfl hf) fun a hs=>?_
    refine T hs rfl rfl (ai hs rfl rfl hL1 (hw2.at cF fun h=>h) (by rw[Nat.zero_add];exact hc2)) fun a hs=>?_
    refine T hs rfl rfl (aa hs (.inl rfl) rfl) fun a hs=>?_
    refine T hs rfl rfl (jV hs rfl (by rw[←e2];rfl) rfl hLT hT cd) fun a hs=>?_
    refine T hs rfl rfl (ai hs rfl rfl hT (hw2.at h2 fun h=>h) (q2.trans hx)) fun a hs=>?_
    refine T hs rfl rfl (heq _ _ _ _ _ _ _ hs rfl rfl rfl (List.getElem_mem _)) fun a hs=>?_
    refine Te (ar (t:=false) (hs.ev rfl) (fun h=>by cases h) fun _=>aw (ae ?_))
    refine L hs rfl rfl (aa hs (.inl rfl) rfl) fun a hs=>?_
    refine L hs rfl rfl (bJ hs rfl rfl rfl rfl) fun a hs=>?_
    refine L hs rfl rfl (aa hs (.inr rfl) rfl) fun a hs=>?_
    have hwj:IntKind.wrap .i64 ((j:Int)+1)=((j+1:Nat):Int):=by rw[dc (by omega) (by omega)];omega
    have fe:=hs.keep [2,3,5]
    rw[hwj]at fe
    exact Le ⟨m - 1,by omega,j+1,fe,by omega,hw2⟩
   ·exact kk _ _ (hs.keep [2,3]) dm
  ·refine Le (au (aW (fun m a w1=>∃(j:Nat),SL 59 [(2,Ptr b1 0),(3,Ptr b2 0),(6,.int .i64 (j:Int))] a∧j+m=len∧Ch (fun _=>False) w0 w1) len ⟨0,hs.keep [2,3,6],by omega,hw⟩ ?_))
   rintro m a w1 ⟨j,hs,hj,dm⟩
   obtain⟨p,c,hv⟩:=gR ho1
   refine ah (ah (ae ?_))
   refine L hs rfl rfl (aa hs (.inl rfl) rfl) fun a hs=>?_
   refine L hs rfl rfl (ak hs rfl rfl hf) fun a hs=>?_
   refine L hs rfl rfl (ai hs rfl rfl hL1 (dm.at cq fun h=>h) (by rw[Nat.zero_add];exact hc1)) fun a hs=>?_
   refine L hs rfl rfl (aM hs rfl (by rw[←hv];rfl) hLT) fun a hs=>?_
   refine L hs rfl rfl (aG hs rfl rfl rfl rfl) fun a hs=>?_
   refine Le (ar (t:=decide ((j:Int)<(len:Int))) (hs.ev rfl) (fun aF=>aw ?_) fun aF=>aN ?_)
   ·have aF:=of_decide_eq_true aF
    have cd:j<len:=by omega
    obtain⟨g1,cap1,cur1,e1,h1,q1⟩:=ko ho1 cd
    obtain⟨g2,dT,cur2,e2,h2,q2⟩:=ko ho2 cd
    have hxl:xs.length=len:=by have:=ho1.1;omega
    have hx:xs[j]? =some xs[j]:=by simp
    have hw2:=mq dm
    refine ah (au (ah (jE K.mixed (by kernel_rfl) ?_)))
    refine T hs rfl rfl (ak hs rfl rfl hf) fun a hs=>?_
    refine T hs rfl rfl (ai hs rfl rfl hL1 (hw2.at cq fun h=>h) (by rw[Nat.zero_add];exact hc1)) fun a hs=>?_
    refine T hs rfl rfl (aa hs (.inl rfl) rfl) fun a hs=>?_
    refine T hs rfl rfl (jV hs rfl (by rw[←e1];rfl) rfl hLT hT cd) fun a hs=>?_
    refine T hs rfl rfl (ai hs rfl rfl hT (hw2.at h1 fun h=>h) (q1.trans hx)) fun a hs=>?_
    refine T hs rfl rfl (ak hs rfl rfl hf) fun a hs=>?_
    refine T hs rfl rfl (ai hs rfl rfl hL1 (hw2.at cF fun h=>h) (by rw[Nat.zero_add];exact hc2)) fun a hs=>?_
    refine T hs rfl rfl (aa hs (.inl rfl) rfl) fun a hs=>?_
    refine T hs rfl rfl (jV hs rfl (by rw[←e2];rfl) rfl hLT hT cd) fun a hs=>?_
    refine T hs rfl rfl (ai hs rfl rfl hT (hw2.at h2 fun h=>h) (q2.trans hx)) fun a hs=>?_
    refine T hs rfl rfl (heq _ _ _ _ _ _ _ hs rfl rfl rfl (List.getElem_mem _)) fun a hs=>?_
    refine Te (ar (t:=false) (hs.ev rfl) (fun h=>by cases h) fun _=>aw (ae ?_))
    refine L hs rfl rfl (aa hs (.inl rfl) rfl) fun a hs=>?_
    refine L hs rfl rfl (bJ hs rfl rfl rfl rfl) fun a hs=>?_
    refine L hs rfl rfl (aa hs (.inr rfl) rfl) fun a hs=>?_
    have hwj:IntKind.wrap .i64 ((j:Int)+1)=((j+1:Nat):Int):=by rw[dc (by omega) (by omega)];omega
    have fe:=hs.keep [2,3,6]
    rw[hwj]at fe
    exact Le ⟨m - 1,by omega,j+1,fe,by omega,hw2⟩
   ·exact kk _ _ (hs.keep [2,3]) dm
 rcases hik with⟨rfl,rfl,_,rfl⟩|⟨rfl,rfl,_,rfl⟩
 ·exact main _ _ _ (.inl ⟨rfl,rfl,rfl⟩)
 ·exact main _ _ _ (.inr ⟨rfl,rfl,rfl⟩)
theorem sk{P:Program}{y:TY}(K:Kit P y){f:FuncId}(hB:Body P f 59 [.tmp 4] (jW y)){w:World}{vn vs fY cW:Value}{a1 a2:Int}{m1 m2 r1 r2:Bool}{n:List Int}{s:List ByteArray}(h1:kV y w vn vs n s)(h2:kV y w fY cW n s)
  (hn:n.length≤4611686018427387904)(eI:s.length≤4611686018427387904):
  Ret P f [.agg (an vn vs a1 m1 r1),.agg (an fY cW a2 m2 r2)] w fun v w'=>v= .bool true∧Ch (fun _=>False) w w':=by
 refine aJ hB ?_
 have hs:=SL.init (n:=59) [.agg (an vn vs a1 m1 r1),.agg (an fY cW a2 m2 r2)] rfl
 revert hs
 generalize({tmps:=_,defers:=[]}:Act)=a
 intro hs
 refine ah (ae ?_)
 refine L hs rfl rfl (bC hs rfl rfl) fun a hs=>?_
 refine L hs rfl rfl (bC hs rfl rfl) fun a hs=>?_
 refine L hs rfl rfl (aa hs (.inr rfl) rfl) fun a hs=>?_
 have g1:=Ch.alloc (fun _=>False) w (.cells (an vn vs a1 m1 r1) y.E)
 have g2:=Ch.alloc (fun _=>False) (w.alloc (.cells (an vn vs a1 m1 r1) y.E)) (.cells (an fY cW a2 m2 r2) y.E)
 have cq:=g2.at (heap_alloc_new w (.cells (an vn vs a1 m1 r1) y.E)) (fun h=>h)
 have cF:=heap_alloc_new (w.alloc (.cells (an vn vs a1 m1 r1) y.E)) (.cells (an fY cW a2 m2 r2) y.E)
 have g:=g1.trans g2
 have k1:=h1.keep g
 have k2:=h2.keep g
 obtain⟨p1,c1,e1⟩:=gR k1.n
 obtain⟨p2,c2,e2⟩:=gR k2.n
 obtain⟨p3,c3,e3⟩:=gR k1.s
 obtain⟨p4,c4,e4⟩:=gR k2.s
 refine Le (ah (ah (ae ?_)))
 refine L hs rfl rfl (ak hs rfl rfl K.e0) fun a hs=>?_
 refine L hs rfl rfl (ai hs rfl rfl K.nl cq (v:=vn) rfl) fun a hs=>?_
 refine L hs rfl rfl (aM hs rfl (by rw[←e1];rfl) K.nlU) fun a hs=>?_
 refine L hs rfl rfl (ak hs rfl rfl K.e0) fun a hs=>?_
 refine L hs rfl rfl (ai hs rfl rfl K.nl cF (v:=fY) rfl) fun a hs=>?_
 refine L hs rfl rfl (aM hs rfl (by rw[←e2];rfl) K.nlU) fun a hs=>?_
 refine L hs rfl rfl (aG hs rfl rfl rfl rfl) fun a hs=>?_
 rw[show((n.length:Int) !=(n.length:Int))=false by simp]at hs
 refine L hs rfl rfl (aa hs (.inl rfl) rfl) fun a hs=>?_
 refine L hs (by rw[wg hs rfl rfl rfl rfl];rfl) rfl (ak hs rfl rfl K.e1) fun a hs=>?_
 refine L hs (by rw[wg hs rfl rfl rfl rfl];rfl) rfl (ai hs rfl rfl K.ss cq (v:=vs) rfl) fun a hs=>?_
 refine L hs (by rw[wg hs rfl rfl rfl rfl];rfl) rfl (aM hs rfl (by rw[←e3];rfl) K.ssU) fun a hs=>?_
 refine L hs (by rw[wg hs rfl rfl rfl rfl];rfl) rfl (ak hs rfl rfl K.e1) fun a hs=>?_
 refine L hs (by rw[wg hs rfl rfl rfl rfl];rfl) rfl (ai hs rfl rfl K.ss cF (v:=cW) rfl) fun a hs=>?_
 refine L hs (by rw[wg hs rfl rfl rfl rfl];rfl) rfl (aM hs rfl (by rw[←e4];rfl) K.ssU) fun a hs=>?_
 refine L hs (by rw[wg hs rfl rfl rfl rfl];rfl) rfl (aG hs rfl rfl rfl rfl) fun a hs=>?_
 rw[show((s.length:Int) !=(s.length:Int))=false by simp]at hs
 refine L hs rfl rfl (bM (b:=false) hs rfl rfl (fun h=>by cases h) (fun _=>rfl)) fun a hs=>?_
 refine Le (ar (t:=false) (hs.ev rfl) (fun h=>by cases h) fun _=>aw (ah ?_))
 refine mU K (.inl ⟨rfl,rfl,rfl,rfl⟩) K.e0 K.nlU K.nl K.i hn cq cF rfl rfl k1.n k2.n ?_ (hs.keep [2,3]) (Ch.refl _ _) fun a w1 hs dm=>?_
 ·intro w a o sl x y' v hs ho ex ey hm
  obtain⟨i,_,rfl⟩:=List.mem_map.1 hm
  have:=aG (P:=P) (w:=w) (r:=false) hs ho ex ey (by simp[wh])
  exact this
 refine ah (mU K (.inr ⟨rfl,rfl,rfl,rfl⟩) K.e1 K.ssU K.ss K.s eI cq cF rfl rfl k1.s k2.s ?_ (hs.keep [2,3]) dm fun a w2 hs hw2=>?_)
 ·intro w a o sl x y' v hs ho ex ey hm
  obtain⟨i,_,rfl⟩:=List.mem_map.1 hm
  have:=qE (P:=P) (w:=w) (c:=false) hs ho ex ey (by simp[tA])
  exact this
 exact kp hs rfl fun a' hs=>cH hs rfl ⟨rfl,g.trans hw2⟩
def nT(y:TY):Code:=
 .seq (rg [p1 1 (.box y.E (t 0)),p1 2 (.assign (.const (.bool false)))])
  (.seq (rg [p1 3 (.assign (ci 0))])
   (.seq (.seq (rg [p1 4 (.assign (ci 0))])
    (.block 0 (.loop (.seq (.seq (rg [p1 5 (.move (t 4)),p1 6 (.fieldAddr y.E (t 1) 1),p1 7 (.load y.SS (t 6)),pt 8 (eX (t 7) y.SS) y.I,p1 9 (.binOp .lss y.I (t 5) (t 8) y.I)]) (.cond (t 9) .skip (.exit 0)))
     (.seq (.block 1 (.seq (rg [p1 12 (.move (t 3)),p1 13 (.fieldAddr y.E (t 1) 1),p1 14 (.load y.SS (t 13)),p1 15 (.move (t 4)),p1 16 (.indexAddr y.SS (t 14) (t 15)),p1 17 (.load y.S (t 16)),pt 18 (eX (t 17) y.S) y.I,
       pt 19 (.call ⟨.builtin .min, #[t 18,ci 3000], #[y.I,y.I]⟩) y.I,p1 20 (.binOp .add y.I (t 12) (t 19) y.I),p1 3 (.assign (t 20))])
       (.seq (rg [p1 21 (.move (t 3)),p1 22 (.binOp .gtr y.I (t 21) (ci 2000) y.I)]) (.cond (t 22) (jc true 2) .skip))))
      (rg [p1 10 (.move (t 4)),p1 11 (.binOp .add y.I (t 10) (ci 1) y.I),p1 4 (.assign (t 11))]))))))
    (.seq (rg [p1 23 (.fieldAddr y.E (t 1) 0),p1 24 (.load y.NL (t 23)),pt 25 (eX (t 24) y.NL) y.I,p1 26 (.binOp .gtr y.I (t 25) (ci 2000) y.I),p1 2 (.assign (t 26))]) .ret)))
theorem wy{P:Program}{y:TY}(K:Kit P y){f:FuncId}(hB:Body P f 27 [.tmp 2] (nT y)){w:World}{vn vs:Value}{a1:Int}{m1 r1:Bool}{n:List Int}{s:List ByteArray}(h1:kV y w vn vs n s)(eI:s.length≤4611686018427387904):
  Ret P f [.agg (an vn vs a1 m1 r1)] w fun v w'=>(∃b:Bool,v= .bool b∧(b=false→n.length≤2000))∧Ch (fun _=>False) w w':=by
 refine aJ hB ?_
 have hs:=SL.init (n:=27) [.agg (an vn vs a1 m1 r1)] rfl
 revert hs
 generalize({tmps:=_,defers:=[]}:Act)=a
 intro hs
 refine ah (ae ?_)
 refine L hs rfl rfl (bC hs rfl rfl) fun a hs=>?_
 refine L hs rfl rfl (aa hs (.inr rfl) rfl) fun a hs=>?_
 have g:=Ch.alloc (fun _=>False) w (.cells (an vn vs a1 m1 r1) y.E)
 have cq:=heap_alloc_new w (.cells (an vn vs a1 m1 r1) y.E)
 have k1:=h1.keep g
 obtain⟨q1,c1,e1⟩:=gR k1.n
 obtain⟨q3,c3,e3⟩:=gR k1.s
 refine Le (ah (ae ?_))
 refine L hs rfl rfl (aa hs (.inr rfl) rfl) fun a hs=>?_
 refine Le (ah (ah (ae ?_)))
 refine L hs rfl rfl (aa hs (.inr rfl) rfl) fun a hs=>?_
 refine Le (au (aW (fun m a w1=>∃(j:Nat) (q:Int),SL 27 [(1,Ptr w.heap.size 0),(3,.int .i64 q),(4,.int .i64 (j:Int))] a∧j+m=s.length∧0≤q∧q≤2000∧Ch (fun _=>False) (w.alloc (.cells (an vn vs a1 m1 r1) y.E)) w1) s.length
  ⟨0,0,hs.keep [1,3,4],by omega,by omega,by omega,Ch.refl _ _⟩ ?_))
 rintro m a w1 ⟨j,q,hs,hj,hq0,hq1,dm⟩
 refine ah (ah (ae ?_))
 refine L hs rfl rfl (aa hs (.inl rfl) rfl) fun a hs=>?_
 refine L hs rfl rfl (ak hs rfl rfl K.e1) fun a hs=>?_
 refine L hs rfl rfl (ai hs rfl rfl K.ss (dm.at cq fun h=>h) (v:=vs) rfl) fun a hs=>?_
 refine L hs rfl rfl (aM hs rfl (by rw[←e3];rfl) K.ssU) fun a hs=>?_
 refine L hs rfl rfl (aG hs rfl rfl rfl rfl) fun a hs=>?_
 refine Le (ar (t:=decide ((j:Int)<(s.length:Int))) (hs.ev rfl) (fun aF=>aw ?_) fun aF=>aN ?_)
 ·have aF:=of_decide_eq_true aF
  have cd:j<s.length:=by omega
  obtain⟨g1,cap1,cur1,ee,hh,hc⟩:=ko k1.s cd
  have hx:cur1[j]? =some (.string s[j]):=by rw[hc];simp
  refine ah (au (ah (ae ?_)))
  refine L hs rfl rfl (aa hs (.inl rfl) rfl) fun a hs=>?_
  refine L hs rfl rfl (ak hs rfl rfl K.e1) fun a hs=>?_
  refine L hs rfl rfl (ai hs rfl rfl K.ss (dm.at cq fun h=>h) (v:=vs) rfl) fun a hs=>?_
  refine L hs rfl rfl (aa hs (.inl rfl) rfl) fun a hs=>?_
  refine L hs rfl rfl (jV hs rfl (by rw[←ee];rfl) rfl K.ssU K.s cd) fun a hs=>?_
  refine L hs rfl rfl (ai hs rfl rfl K.s (dm.at hh fun h=>h) hx) fun a hs=>?_
  refine L hs rfl rfl (uL hs rfl rfl K.sU) fun a hs=>?_
  refine L hs rfl rfl (xR hs rfl rfl rfl) fun a hs=>?_
  have hmin:0≤(if(3000:Int)<(s[j].size:Int)then(3000:Int)else(s[j].size:Int))∧(if(3000:Int)<(s[j].size:Int)then(3000:Int)else(s[j].size:Int))≤3000:=by split<;>omega
  generalize(if(3000:Int)<(s[j].size:Int)then(3000:Int)else(s[j].size:Int))=u at*
  refine L hs rfl rfl (bJ hs rfl rfl rfl rfl) fun a hs=>?_
  rw[dc (n:=q+u) (by omega) (by omega)]at hs
  refine L hs rfl rfl (aa hs (.inr rfl) rfl) fun a hs=>?_
  refine Le (ah (ae ?_))
  refine L hs rfl rfl (aa hs (.inl rfl) rfl) fun a hs=>?_
  refine L hs rfl rfl (aG hs rfl rfl rfl rfl) fun a hs=>?_
  refine Le (ar (t:=decide (q+u>2000)) (hs.ev rfl) (fun hg=>?_) fun hg=>aw (ae ?_))
  ·exact kp (hs.keep []) rfl fun a' hs=>cH hs rfl ⟨⟨true,rfl,fun h=>by cases h⟩,g.trans dm⟩
  ·have hg:=of_decide_eq_false hg
   refine L hs rfl rfl (aa hs (.inl rfl) rfl) fun a hs=>?_
   refine L hs rfl rfl (bJ hs rfl rfl rfl rfl) fun a hs=>?_
   refine L hs rfl rfl (aa hs (.inr rfl) rfl) fun a hs=>?_
   have hwj:IntKind.wrap .i64 ((j:Int)+1)=((j+1:Nat):Int):=by rw[dc (by omega) (by omega)];omega
   have fe:=hs.keep [1,3,4]
   rw[hwj]at fe
   exact Le ⟨m - 1,by omega,j+1,q+u,fe,by omega,by omega,by omega,dm⟩
 ·refine ah (ae ?_)
  refine L hs rfl rfl (ak hs rfl rfl K.e0) fun a hs=>?_
  refine L hs rfl rfl (ai hs rfl rfl K.nl (dm.at cq fun h=>h) (v:=vn) rfl) fun a hs=>?_
  refine L hs rfl rfl (aM hs rfl (by rw[←e1];rfl) K.nlU) fun a hs=>?_
  refine L hs rfl rfl (aG hs rfl rfl rfl rfl) fun a hs=>?_
  refine L hs rfl rfl (aa hs (.inr rfl) rfl) fun a hs=>?_
  refine Le (aP (cH (hs.keep [2]) rfl ⟨⟨_,rfl,fun h=>?_⟩,g.trans dm⟩))
  have:=of_decide_eq_false h
  omega
end Go.TL.H
