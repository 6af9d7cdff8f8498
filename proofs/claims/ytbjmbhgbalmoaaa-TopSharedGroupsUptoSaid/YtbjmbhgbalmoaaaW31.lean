/- A map made of a list, gone through from the back by a range over a function. -/
import Derived.Test.YtbjmbhgbalmoaaaW30
import Derived.RangeFuncSeq
namespace Go.TL.H
open Go
theorem qb{P:Program}{Q:Exit→Act→World→Prop}{K:Act→World→Prop}{o:Oper}{a:Act}{w:World}{f:Operand}{args:Array Operand}{ts:Array TypeId}{l:Nat}{vs:Array Value}{R:Ending→World→Prop}(ho:o.op= .call ⟨.value f,args,ts⟩)
  (hf:a.eval f= .func (.yield l) #[] #[])(ha:args.map a.eval=vs)(hy:YieldAt (FW none) 0 P l vs w R)(hR:∀e w',R e w'→e= .returned (.bool true))(k:∀w',R (.returned (.bool true)) w'→K (a.put o.dst (.bool true)) w'):o.wpIn (FW none) 0 P a w K Q:=by
 obtain⟨fn,tmps,assign,body,h1,h2⟩:=hy
 have cf:(execOp a.eval o).run P w= .ok (.round l fn tmps assign body) w:=by
  unfold execOp
  simp only[ho,resolve,hf,Deferred.ofValue,pure_bind,invoke,ha]
  simpa using h1
 refine⟨fun _ _=>trivial,?_⟩
 rw[Oper.semAt_eq _ _ _ (by simp[ho]),cf]
 refine⟨fun h=>(by simp[Fence.wide]at h),RoundIn.mono h2 fun e w' hr=>?_⟩
 obtain rfl:=hR e w' hr
 exact k w' hr
def um(LC bk1:Nat):Code:=(.seq (.region 0 ([⟨(some 1),.box LC (.tmp 0),0, "", #[],none⟩,⟨(some 2),.assign (.const .nilFunc),0, "", #[],none⟩]:List Oper).toArray false) (.seq (.region 0 ([⟨(some 3),.makeFunc (.func bk1) #[] #[(.tmp 1)],0, "", #[],none⟩,⟨(some 2),.assign (.tmp 3),0, "", #[],none⟩]:List Oper).toArray false) .ret))
def vO(I LC CO B:Nat):Code:=(.seq (.region 0 ([⟨(some 4),.load LC (.tmp 1),0, "", #[],none⟩,⟨(some 5),.call ⟨(.builtin .len), #[(.tmp 4)], #[LC]⟩,I, "", #[],none⟩,⟨(some 6),.binOp .sub I (.tmp 5) (.const (.int .i64 1)) I,0, "", #[],none⟩,⟨(some 3),.assign (.tmp 6),0, "", #[],none⟩]:List Oper).toArray false) (.block 0 (.loop (.seq (.seq (.region 0 ([⟨(some 7),.move (.tmp 3),0, "", #[],none⟩,⟨(some 8),.binOp .geq I (.tmp 7) (.const (.int .i64 0)) I,0, "", #[],none⟩]:List Oper).toArray false) (.cond (.tmp 8) .skip (.exit 0))) (.seq (.block 1 (.seq (.region 0 ([⟨(some 11),.move (.tmp 0),0, "", #[],none⟩,⟨(some 12),.move (.tmp 3),0, "", #[],none⟩,⟨(some 13),.load LC (.tmp 1),0, "", #[],none⟩,⟨(some 14),.move (.tmp 3),0, "", #[],none⟩,⟨(some 15),.indexAddr LC (.tmp 13) (.tmp 14),0, "", #[],none⟩,⟨(some 16),.load CO (.tmp 15),0, "", #[],none⟩,⟨(some 17),.call ⟨(.value (.tmp 11)), #[(.tmp 12),(.tmp 16)], #[]⟩,0, "", #[],none⟩,⟨(some 18),.unOp .not B (.tmp 17),0, "", #[],none⟩]:List Oper).toArray false) (.cond (.tmp 18) .ret .skip))) (.region 0 ([⟨(some 9),.move (.tmp 3),0, "", #[],none⟩,⟨(some 10),.binOp .sub I (.tmp 9) (.const (.int .i64 1)) I,0, "", #[],none⟩,⟨(some 3),.assign (.tmp 10),0, "", #[],none⟩]:List Oper).toArray false))))))
theorem rJ{P:Program}{f LC bk1:Nat}(hB:Body P f 4 [.tmp 2] (um LC bk1))(p:Option Addr)(m c:Nat)(w:World):
  Ret P f [.slice p m c] w fun v w'=>v= .func (.func bk1) #[] #[Ptr w.heap.size 0]∧w'=w.alloc (.cells #[.slice p m c] LC):=by
 refine aJ hB ?_
 have h0:=SL.init (n:=4) [.slice p m c] rfl
 revert h0
 generalize({tmps:=_,defers:=[]}:Act)=a
 intro h0
 refine ah (ae ?_)
 refine L h0 rfl rfl (bC h0 rfl rfl) fun a h0=>?_
 refine L h0 rfl rfl (aa h0 (.inr rfl) rfl) fun a h0=>?_
 refine Le (ah (ae ?_))
 refine L h0 rfl rfl (uM h0 rfl rfl rfl) fun a h0=>?_
 refine L h0 rfl rfl (aa h0 (.inr rfl) rfl) fun a h0=>?_
 exact Le (aP (cH h0 rfl ⟨rfl,rfl⟩))
theorem vP{P:Program}{f I LC CO B:Nat}(hB:Body P f 19 [] (vO I LC CO B))(hL:Tp P LC false 1)(hU:P.underlying LC=some (.slice CO)){inf:TypeInfo}(hi:P.info? CO=some inf)(hs:inf.size=4)(hC:Tp P CO true 4)
  {l Bs len cap:Nat}{p:Option Addr}{vs:Nat→List Value}(hvl:∀i,(vs i).length=4)(hlen:len≤1099511627776)(J:Nat→World→Prop)
  (e7:∀k W,J k W→(∃bt,W.heap[Bs]? =some (.cells #[.slice p len cap] bt (0,0)))∧∀i,i<len→∃b off cs bt fz,p=some ⟨b,off,none⟩∧W.heap[b]? =some (.cells cs bt fz)∧∀(j:Nat) u,(vs i)[j]? =some u→cs[off+i*4+j]? =some u)
  (hy:∀k W,k<len→J k W→YieldAt (FW none) 0 P l #[.int .i64 ((len - 1 - k:Nat):Int),.agg (vs (len - 1 - k)).toArray] W fun e W'=>e= .returned (.bool true)∧J (k+1) W'){W:World}(h0:J 0 W):
  Ret P f [.func (.yield l) #[] #[],Ptr Bs 0] W fun _ W'=>J len W':=by
 refine aJ hB ?_
 have h1:=SL.init (n:=19) [.func (.yield l) #[] #[],Ptr Bs 0] rfl
 revert h1
 generalize({tmps:=_,defers:=[]}:Act)=a
 intro h1
 obtain⟨⟨bt,m1⟩,_⟩:=e7 0 W h0
 refine ah (ae ?_)
 refine L h1 rfl rfl (bs [.slice p len cap] h1 rfl rfl hL rfl m1 nD) fun a h1=>?_
 refine L h1 rfl rfl (aM h1 rfl rfl hU) fun a h1=>?_
 refine L h1 rfl rfl (bJ h1 rfl rfl rfl rfl) fun a h1=>?_
 rw[dc (by omega) (by omega)]at h1
 refine L h1 rfl rfl (aa h1 (.inr rfl) rfl) fun a h1=>?_
 refine Le (au (aW (fun m a w1=>m≤len∧SL 19 [(0,.func (.yield l) #[] #[]),(1,Ptr Bs 0),(3,.int .i64 ((m:Int) - 1))] a∧J (len - m) w1) len ⟨Nat.le_refl _,h1.keep [0,1,3],by rw[Nat.sub_self];exact h0⟩ ?_))
 rintro m a w1 ⟨hm,k1,hJ⟩
 refine ah (ah (ae ?_))
 refine L k1 rfl rfl (aa k1 (.inl rfl) rfl) fun a k1=>?_
 cases m with
 |zero=>
  refine L k1 rfl rfl (aG (r:=false) k1 rfl rfl rfl (by show some _=some _;congr 1)) fun a k1=>?_
  refine Le (ar (t:=false) (k1.ev rfl) (fun h=>by cases h) fun _=>aN ⟨k1.defers,.tuple #[],⟨[],by simp,rfl⟩,by simpa using hJ⟩)
 |succ m=>
  refine L k1 rfl rfl (aG (r:=true) k1 rfl rfl rfl (by show some _=some _;congr 1;simp)) fun a k1=>?_
  refine Le (ar (t:=true) (k1.ev rfl) (fun _=>aw ?_) fun h=>by cases h)
  obtain⟨⟨bt,m1⟩,m2⟩:=e7 _ w1 hJ
  obtain⟨b,off,cs,bt2,fz,rfl,m3,m4⟩:=m2 m (by omega)
  refine ah (au (ah (yk (iW ?_))))
  refine LI k1 rfl (by simp) rfl (aa k1 (.inl rfl) rfl) fun a k1=>?_
  refine LI k1 rfl (by simp) rfl (aa k1 (.inl rfl) rfl) fun a k1=>?_
  refine LI k1 rfl (by simp) rfl (bs [.slice (some ⟨b,off,none⟩) len cap] k1 rfl rfl hL rfl m1 nD) fun a k1=>?_
  refine LI k1 rfl (by simp) rfl (aa k1 (.inl rfl) rfl) fun a k1=>?_
  refine LI k1 rfl (by simp) rfl (j5 k1 rfl rfl rfl hU hi (by omega) (by omega)) fun a k1=>?_
  rw[hs,show(((m+1:Nat):Int) - 1).toNat=m by omega]at k1
  refine LI k1 rfl (by simp) rfl (bs (vs m) k1 rfl rfl hC (hvl m) m3 m4) fun a k1=>?_
  have hyy:=hy (len - (m+1)) w1 (by omega) hJ
  rw[show len - 1 - (len - (m+1))=m by omega]at hyy
  refine mf rfl (qb rfl (k1.ev rfl) (by
   have e1:a.eval (.tmp 12)= .int .i64 ((m:Nat):Int):=by
    have:=k1.ev (x:= .tmp 12) (v:= .int .i64 (((m+1:Nat):Int) - 1)) rfl
    rw[this];congr 1;omega
   have e2:a.eval (.tmp 16)= .agg (vs m).toArray:=k1.ev rfl
   simp[e1,e2]) hyy (fun e w' h=>h.1) fun w2 hR=>?_)
  have k1:=k1.put (dst:=some 17) rfl (.bool true)
  refine LI k1 rfl (by simp) rfl (jo k1 rfl rfl) fun a k1=>?_
  refine wpListIn_nil (ar (t:=false) (k1.ev rfl) (fun h=>by cases h) fun _=>aw ?_)
  refine ae ?_
  refine L k1 rfl rfl (aa k1 (.inl rfl) rfl) fun a k1=>?_
  refine L k1 rfl rfl (bJ k1 rfl rfl rfl rfl) fun a k1=>?_
  rw[dc (by omega) (by omega)]at k1
  refine L k1 rfl rfl (aa k1 (.inr rfl) rfl) fun a k1=>?_
  refine Le ⟨m,by omega,by omega,?_,by have:=hR.2;rw[show len - (m+1)+1=len - m by omega]at this;exact this⟩
  have:=k1.keep [0,1,3]
  rw[show(((m+1:Nat):Int) - 1 - 1)=(m:Int) - 1 by omega]at this
  exact this
def Ak(CO:Nat):Code:= .region 0 ([⟨(some 5),.alloc CO,0, "", #[],none⟩,⟨none,.store CO (.tmp 5) (.tmp 13),0, "", #[],none⟩]:List Oper).toArray false
def fN(CK MC PC CO ST:Nat):List Oper:=[⟨(some 14),.load PC (.tmp 3),0, "", #[],none⟩,⟨(some 15),.nilCheck (.tmp 14),0, "", #[eD 0],none⟩,⟨(some 16),.fieldAddr CK (.tmp 15) 0,0, "", #[eD 1],none⟩,⟨(some 17),.load MC (.tmp 16),0, "", #[eD 2],none⟩,⟨(some 18),.fieldAddr CO (.tmp 5) 0,0, "", #[],none⟩,⟨(some 19),.load ST (.tmp 18),0, "", #[eD 4],none⟩,⟨(some 20),.load CO (.tmp 5),0, "", #[],none⟩,
 ⟨none,.mapUpdate MC (.tmp 17) (.tmp 19) (.tmp 20),0, "", #[eD 3,eD 5,eD 6,eP 0,eP 1,eP 2,eP 3,eP 4,eP 5,eP 6],none⟩]
def ofC(PG CK MC PC LC bk:Nat)(A B:Code):Code:=(.seq (.region 0 ([⟨(some 1),.box PG (.tmp 0),0, "", #[],none⟩,⟨(some 2),.assign (.const (.pointer none)),0, "", #[],none⟩]:List Oper).toArray false) (.seq (.region 0 ([⟨(some 6),.makeMap MC none,0, "", #[],none⟩,⟨(some 7),.build CK #[(0,(.tmp 6))],0, "", #[],none⟩,⟨(some 8),.box CK (.tmp 7),0, "", #[],none⟩,⟨(some 3),.alloc PC,0, "", #[],none⟩,⟨none,.store PC (.tmp 3) (.tmp 8),0, "", #[],none⟩]:List Oper).toArray false) (.seq (.seq (.region 0 ([⟨(some 9),.fieldAddr PG (.tmp 1) 0,0, "", #[],none⟩,⟨(some 10),.load LC (.tmp 9),0, "", #[],none⟩,⟨(some 11),.call ⟨(.value (.func bk)), #[(.tmp 10)], #[]⟩,0, "", #[],none⟩]:List Oper).toArray false) (.block 0 (.rangeFunc (.tmp 11) #[12,13] A B))) (.seq (.region 0 ([⟨(some 21),.load PC (.tmp 3),0, "", #[],none⟩,⟨(some 2),.assign (.tmp 21),0, "", #[],none⟩]:List Oper).toArray false) .ret))))
def kb(P:Program)(f:FuncId):Code×Code:=match(P.funcs[f]?).bind (·.body)with
 |some c=>(match norm c with| .seq _ (.seq _ (.seq (.seq _ (.block _ (.rangeFunc _ _ A B))) _))=>(A,B)|_=>(.skip,.skip))
 |none=>(.skip,.skip)
structure OfH(P:Program)(PG CK MC PC LC CO ST bk bk1:Nat)(inf:TypeInfo):Prop where
 mixed:P.follows .mixedOrders=true
 pc:Tp P PC false 1
 mc:Tp P MC false 1
 st:Tp P ST false 1
 co:Tp P CO true 4
 lc:Tp P LC false 1
 ck0:aO P CK 0=some (0,1)
 co0:aO P CO 0=some (0,1)
 pg0:aO P PG 0=some (0,1)
 mcU:P.underlying MC=some (.map ST CO)
 stU:P.underlying ST=some .string
 coE:El P CO 4 [.string ⟨#[]⟩,.int .i64 0,.string ⟨#[]⟩,.int .i64 0]
 pcE:El P PC 1 [.pointer none]
 built:∀b,P.built CK [(0,.map (some b))]=some #[.map (some b),.int .i64 0]
 bk:aD P bk=true
 bk1:aD P bk1=true
 lcU:P.underlying LC=some (.slice CO)
 coI:P.info? CO=some inf
 coS:inf.size=4
section
variable {P:Program} {PG CK MC PC LC CO ST bk bk1:Nat} {inf:TypeInfo}
theorem Al(H:OfH P PG CK MC PC LC CO ST bk bk1 inf){r:Option Nat}{Q:Exit→Act→World→Prop}{a:Act}{w:World}{b3 b5 b8 bm:Nat}{t3 t5 t8:TypeId}{es:Array MapEntry}{cl:Nat}{s:ByteArray}{xs:List Value}(ha:a.tmps.size=22)(hd:a.defers=[])(h3:a.tmps.getD 3 undef=Ptr b3 0)(h5:a.tmps.getD 5 undef=Ptr b5 0)(hxs:xs.length=3)
  (m3:w.heap[b3]? =some (.cells #[Ptr b8 0] t3 (0,0)))(m8:w.heap[b8]? =some (.cells #[.map (some bm),.int .i64 0] t8 (0,0)))(mm:w.heap[bm]? =some (.map es cl))(m5:w.heap[b5]? =some (.cells (.string s::xs).toArray t5 (0,0)))(hks:∀x∈es.toList,MapKept.IsKey .string x.key)
  (hQ:∀a w' fi iD,a.defers=[]→Ch (· =bm) w w'→w'.heap[bm]? =some (.map fi iD)→((fi=es.push {key:= .string s,val:= .agg (.string s::xs).toArray,born:=cl}∧iD=cl+1)∨∃(j:Nat) (e:MapEntry),es[j]? =some e∧fi=(es.modify j fun e=>{e with key:= .string s,val:= .agg (.string s::xs).toArray})∧iD=cl)→Q .normal a w'):
  NI r P (.block 1 (.region 0 (fN CK MC PC CO ST).toArray true)) Q a w:=by
 refine rG (yY 8 rfl H.mixed ?_)
 have g0:Ch (· =bm) w {w with drawn:=w.drawn+1}:=Ch.drew _ w
 have e3:=g0.at m3
 have n3:b3≠bm:=fun e=>by subst e;rw[m3]at mm;cases mm
 have n8:b8≠bm:=fun e=>by subst e;rw[m8]at mm;cases mm
 have n5:b5≠bm:=fun e=>by subst e;rw[m5]at mm;cases mm
 replace m3:({w with drawn:=w.drawn+1}:World).heap[b3]? =_:=m3
 replace m8:({w with drawn:=w.drawn+1}:World).heap[b8]? =_:=m8
 replace mm:({w with drawn:=w.drawn+1}:World).heap[bm]? =_:=mm
 replace m5:({w with drawn:=w.drawn+1}:World).heap[b5]? =_:=m5
 generalize({w with drawn:=w.drawn+1}:World)=w1 at g0 m3 m8 mm m5 ⊢
 let vals:Nat→Value:=fun j=>[Ptr b8 0,Ptr b8 0,Ptr b8 0,.map (some bm),Ptr b5 0,.string s,.agg (.string s::xs).toArray].getD j undef
 let I:Array Bool→Act→World→Prop:=fun listed a w'=>(a.tmps.size=22∧a.defers=[]∧a.tmps.getD 3 undef=Ptr b3 0∧a.tmps.getD 5 undef=Ptr b5 0∧∀j,j<7→listed.getD j false=true→a.tmps.getD (14+j) undef=vals j)∧(listed.getD 7 false=false→w'=w1)∧
  (listed.getD 7 false=true→(∀j,j<7→listed.getD j false=true)∧∃fi iD,Ch (· =bm) w1 w'∧w'.heap[bm]? =some (.map fi iD)∧((fi=es.push {key:= .string s,val:= .agg (.string s::xs).toArray,born:=cl}∧iD=cl+1)∨∃(j:Nat) (e:MapEntry),es[j]? =some e∧fi=(es.modify j fun e=>{e with key:= .string s,val:= .agg (.string s::xs).toArray})∧iD=cl))
 refine yZ (I:=I) ?_ ?_ ?_ 8 _ _ _ (by simp[fN]) (by simp[eH]) ?_
 ·intro i o ho e he
  have hi:i<8:=by have:=(Array.getElem?_eq_some_iff.1 ho).1;simpa[fN]using this
  have:i=0∨i=1∨i=2∨i=3∨i=4∨i=5∨i=6∨i=7:=by omega
  rcases this with rfl|rfl|rfl|rfl|rfl|rfl|rfl|rfl<;>(simp[fN]at ho;subst ho;simp at he)
  all_goals (first|(subst he;decide)|(rcases he with rfl|rfl|rfl|rfl|rfl|rfl|rfl|rfl|rfl|rfl<;>decide))
 ·intro listed a w' i hls ⟨⟨ha,hd,h3,h5,hj⟩,hw,hw7⟩ hi
  obtain⟨cA,o,ho,hdep⟩:=mem_ready.1 hi
  have hi8:i<8:=by have:=(Array.getElem?_eq_some_iff.1 ho).1;simpa[fN]using this
  have fh:i<listed.size:=by rw[hls];simpa[fN]using hi8
  have hl1:listed.getD i false=false:=by
   simp only[Array.getD,fh,dif_pos]at cA ⊢;exact cA
  have old:∀j,j≠i→(listed.setIfInBounds i true).getD j false=listed.getD j false:=fun j hj=>getD_set_ne false (Ne.symm hj)
  have h7f:listed.getD 7 false=false:=by
   cases h7:listed.getD 7 false with
   |false=>rfl
   |true=>
    have:i=7∨i<7:=by omega
    rcases this with rfl|hi7
    ·rw[hl1]at h7;cases h7
    ·have:=(hw7 h7).1 i hi7
     rw[hl1]at this;cases this
  have stp:∀j,i=j→j<7→o.guard=none→kK o=false→o.dst=some (14+j)→(execOp a.eval o).run P w1= .ok (.value (vals j)) w1→wpOpIn (FW r) 0 P (fN CK MC PC CO ST).toArray Q i (I (listed.setIfInBounds i true)) a w':=by
   intro j hij hj7 hg hnd hdst cf
   have h7:=h7f
   subst hij
   obtain rfl:=hw h7
   have hz:14+i<a.tmps.size:=by omega
   refine xp ho hg hnd cf ?_
   rw[hdst]
   refine⟨⟨by simp[Act.put,ha],hd,by rw[gv hz,if_neg (by omega)];exact h3,by rw[gv hz,if_neg (by omega)];exact h5,fun k hk hl=>?_⟩,fun _=>rfl,fun h=>by rw[old 7 (by omega),h7]at h;cases h⟩
   rw[gv hz]
   rcases vM hl with rfl|hl
   ·rw[if_pos rfl]
   ·split
    ·rename_i e;have:k=i:=by omega
     subst this;rfl
    ·exact hj k hk hl
  have hb:∀(n:Nat),n<7→(∃e∈o.after,Region.binds .any e=true∧e.on=n)→a.tmps.getD (14+n) undef=vals n:=fun n hn ⟨e,he,h1,h2⟩=>hj n hn (by rw[←h2];exact hdep e he h1)
  have eI:SL 22 [(3,Ptr b3 0),(5,Ptr b5 0)] a:=⟨ha,hd,fun t v h=>by
   simp only[lk]at h
   split at h
   ·rename_i e;cases h;rw[←Cv e];exact h3
   ·split at h
    ·rename_i e;cases h;rw[←Cv e];exact h5
    ·cases h⟩
  have one:∀t v,a.tmps.getD t undef=v→SL 22 [(t,v)] a:=fun t v h=>⟨ha,hd,fun t' v' h'=>by
   simp only[lk]at h'
   split at h'
   ·rename_i e;cases h';rw[←Cv e];exact h
   ·cases h'⟩
  have:i=0∨i=1∨i=2∨i=3∨i=4∨i=5∨i=6∨i=7:=by omega
  rcases this with rfl|rfl|rfl|rfl|rfl|rfl|rfl|rfl<;>(simp[fN]at ho;subst ho)
  ·exact stp 0 rfl (by omega) rfl rfl rfl (bs [Ptr b8 0] eI rfl rfl H.pc rfl m3 nD)
  ·exact stp 1 rfl (by omega) rfl rfl rfl (ab (one 14 _ (hb 0 (by omega) ⟨_,by simp;rfl,rfl,rfl⟩)) rfl rfl)
  ·exact stp 2 rfl (by omega) rfl rfl rfl (ak (one 15 _ (hb 1 (by omega) ⟨_,by simp;rfl,rfl,rfl⟩)) rfl rfl H.ck0)
  ·exact stp 3 rfl (by omega) rfl rfl rfl (bs [.map (some bm)] (one 16 _ (hb 2 (by omega) ⟨_,by simp;rfl,rfl,rfl⟩)) rfl rfl H.mc rfl m8 nD)
  ·exact stp 4 rfl (by omega) rfl rfl rfl (ak eI rfl rfl H.co0)
  ·exact stp 5 rfl (by omega) rfl rfl rfl (bs [.string s] (one 18 _ (hb 4 (by omega) ⟨_,by simp;rfl,rfl,rfl⟩)) rfl rfl H.st rfl m5 nD)
  ·exact stp 6 rfl (by omega) rfl rfl rfl (bs (.string s::xs) eI rfl rfl H.co (by simp[hxs]) m5 (fun j u h=>by simpa using h))
  ·obtain rfl:=hw h7f
   have v17:=hb 3 (by omega) ⟨eD 3,by simp,rfl,rfl⟩
   have v19:=hb 5 (by omega) ⟨eD 5,by simp,rfl,rfl⟩
   have v20:=hb 6 (by omega) ⟨eD 6,by simp,rfl,rfl⟩
   obtain⟨fi,iD,cf,hes⟩:=lK (P:=P) (w:=w') (v:= .agg (.string s::xs).toArray) (s:=s) H.mcU H.stU mm hks
   obtain⟨g1,g2⟩:=fm (w:=w') (b:=bm) (o:= .map fi iD) (aq mm)
   have ho':(fN CK MC PC CO ST).toArray[7]? =some ⟨none,.mapUpdate MC (.tmp 17) (.tmp 19) (.tmp 20),0, "", #[eD 3,eD 5,eD 6,eP 0,eP 1,eP 2,eP 3,eP 4,eP 5,eP 6],none⟩:=rfl
   refine vL (w':={w' with heap:=w'.heap.setIfInBounds bm (.map fi iD)}) ho' rfl rfl rfl (by
    simp only[execOp,show a.eval (.tmp 17)= .map (some bm)from v17,show a.eval (.tmp 19)= .string s from v19,show a.eval (.tmp 20)= .agg (.string s::xs).toArray from v20]
    simp only[Sem.run_bind,cf,Result.andThen_ok,Sem.run_pure]) ?_
   have all:∀j,j<7→listed.getD j false=true:=by
    intro j hj
    have:j=0∨j=1∨j=2∨j=3∨j=4∨j=5∨j=6:=by omega
    rcases this with rfl|rfl|rfl|rfl|rfl|rfl|rfl
    ·exact hdep (eP 0) (by simp) rfl
    ·exact hdep (eP 1) (by simp) rfl
    ·exact hdep (eP 2) (by simp) rfl
    ·exact hdep (eP 3) (by simp) rfl
    ·exact hdep (eP 4) (by simp) rfl
    ·exact hdep (eP 5) (by simp) rfl
    ·exact hdep (eP 6) (by simp) rfl
   refine⟨⟨ha,hd,h3,h5,fun j hj7 hl=>hj j hj7 (by rw[old j (by omega)]at hl;exact hl)⟩,fun h=>?_,fun _=>⟨fun j hj7=>by rw[old j (by omega)];exact all j hj7,fi,iD,g1,g2,hes⟩⟩
   have:(listed.setIfInBounds 7 true).getD 7 false=true:=by simp[Array.getD,fh]
   rw[this]at h;cases h
 ·intro listed a w' hall ⟨⟨ha,hd,_⟩,_,h7⟩
  obtain⟨_,fi,iD,k1,k2,k3⟩:=h7 (hall 7 (by simp[fN]))
  exact hQ a w' fi iD hd (g0.trans k1) k2 k3
 ·refine⟨⟨ha,hd,h3,h5,fun j hj hl=>?_⟩,fun _=>rfl,fun hl=>?_⟩
  all_goals (rw[getD_replicate_false]at hl;cases hl)
theorem L1{ops:Array Oper}{Q:Exit→Act→World→Prop}{rest:List Oper}{o:Oper}{a:Act}{w w':World}{v:Value}(hg:o.guard=none)(hr:(execOp a.eval o).run P w= .ok (.value v) w')(k:wpList P ops Q rest (a.put o.dst v) w'):wpList P ops Q (o::rest) a w:=by
 unfold wpList
 rw[if_pos (by unfold Region.wanted;rw[hg])]
 refine .inl ?_
 unfold Oper.wp
 rw[hr]
 exact k
theorem rK{g:Operand}{ps:Array Tmp}{A B:Code}{Q:Exit→Act→World→Prop}{a:Act}{w:World}{lb:List Value}{R:World→Prop}(hg:a.eval g= .func (.func bk1) #[] lb.toArray)(aC:aD P bk1=true)
  (iA:∀fn,∃rec:Loop,rec={state:= .ready,pending:=none,fn,tmps:=a.tmps,params:=ps,assign:=A,body:=B,defers:=w.heap.size}∧Ret P bk1 (.func (.yield (w.heap.size+1)) #[] #[]::lb) ((w.alloc (.deferred (some []))).alloc (.loop rec)) fun _ w'=>R w'∧w'.heap[w.heap.size+1]? =some (.loop rec))
  (hQ:∀w' rec,R w'→w'.heap[w.heap.size+1]? =some (.loop rec)→Q .normal {a with defers:={target:= .collected w.heap.size,args:= #[]}::a.defers} (w'.putObj (w.heap.size+1) (.loop {rec with state:= .exhausted}))):NW P (.rangeFunc g ps A B) Q a w:=by
 intro c hc
 cases c<;>simp only[norm,reduceCtorEq,Code.rangeFunc.injEq]at hc
 obtain⟨rfl,rfl,rfl,rfl⟩:=hc
 refine wpIn_wide.1 (wpIn_rangeFunc (n:=0) fun fn _=>?_)
 obtain⟨rec,e9,jg⟩:=iA fn
 obtain⟨W1,hW1⟩:∃W1,W1=(w.alloc (.deferred (some []))).alloc (.loop rec):=⟨_,rfl⟩
 rw[←hW1]at jg
 refine⟨w.heap.size+1,[{target:= .collected w.heap.size,args:= #[]}],W1,{target:= .fn (.func bk1) lb.toArray,args:= #[.func (.yield (w.heap.size+1)) #[] #[]]},W1,bk1,(.func (.yield (w.heap.size+1)) #[] #[]::lb).toArray,W1,by rw[hW1,e9];exact run_enterLoop_outer _ _ _ _ _,?_,fun _ _=>trivial,?_,fun h=>(by simp[Fence.wide]at h),?_⟩
 ·simp only[resolve,hg,Deferred.ofValue];simp[Act.eval]
 ·simp only[invoke]
  have e: #[Value.func (.yield (w.heap.size+1)) #[] #[]]++lb.toArray=(.func (.yield (w.heap.size+1)) #[] #[]::lb).toArray:=by apply Array.ext';simp
  rw[e];exact jC aC
 ·refine callsIn_wide.2 (Calls.mono jg ?_)
  rintro e w' ⟨v,rfl,hR,hl⟩
  have hpe:rec.pending=none:=by rw[e9]
  refine⟨none,w'.putObj (w.heap.size+1) (.loop {rec with state:= .exhausted}),?_,hQ w' _ hR hl⟩
  have:=run_endLoop (P:=P) hl (by simp[e9])
  rw[this,hpe]
theorem rL{f I B:Nat}(H:OfH P PG CK MC PC LC CO ST bk bk1 inf)(hB:Body P f 22 [.tmp 2] (ofC PG CK MC PC LC bk (kb P f).1 (kb P f).2))(hA:norm (kb P f).1=Ak CO)(hBd:norm (kb P f).2= .block 1 (.region 0 (fN CK MC PC CO ST).toArray true))(hb0:Body P bk 4 [.tmp 2] (um LC bk1))(cq:Body P bk1 19 [] (vO I LC CO B))
  {p:Option Addr}{len cap:Nat}{v2:Value}{vs:Nat→List Value}{Qe:Value→List Value→Prop}(hlen:len≤1099511627776)(_hv2:v2.oneCell'=true)(hvs:∀i,∃s xs,vs i= .string s::xs∧xs.length=3∧(∀u∈xs,u.oneCell'=true)∧(i<len→Qe (.string s) xs)){w:World}
  (e7:∀i,i<len→∃b off cs bt fz,p=some ⟨b,off,none⟩∧w.heap[b]? =some (.cells cs bt fz)∧∀(j:Nat) u,(vs i)[j]? =some u→cs[off+i*4+j]? =some u):
  Ret P f [.agg #[.slice p len cap,v2]] w fun v w'=>∃bb bm es cl,v=Ptr bb 0∧Ch (fun _=>False) w w'∧w.heap.size≤bb∧w.heap.size≤bm∧w'.heap[bb]? =some (.cells #[.map (some bm),.int .i64 0] CK (0,0))∧w'.heap[bm]? =some (.map es cl)∧es.size≤len∧
   (∀(i:Nat) (e:MapEntry),es[i]? =some e→∃s xs,Qe (.string s) xs∧e.key= .string s∧e.val= .agg (.string s::xs).toArray)∧∀x∈es.toList,x.born<cl:=by
 unfold Ret
 obtain⟨fn,c,hf,hbd,hc,hn,hres⟩:=hB.is
 refine callsIn_wide.1 (callsIn_of_wp_marks (F:=Fence.wide) (n:=0) hf hbd trivial (wpIn_wide.2 ?_))
 rw[hn]
 refine(?_:NW P (ofC PG CK MC PC LC bk (kb P f).1 (kb P f).2) _ {tmps:=[.agg #[.slice p len cap,v2]].toArray++Array.replicate (22 - 1) undef,defers:=[]} w) c hc
 have h0:=SL.init (n:=22) [.agg #[.slice p len cap,v2]] rfl
 revert h0
 generalize({tmps:=[Value.agg #[.slice p len cap,v2]].toArray++Array.replicate (22 - 1) undef,defers:=[]}:Act)=a
 intro h0
 refine ah (ae ?_)
 refine L h0 rfl rfl (bC h0 rfl rfl) fun a h0=>?_
 have hcells:(Value.agg #[.slice p len cap,v2]).cells= #[.slice p len cap,v2]:=rfl
 rw[hcells]
 have g1:=Ch.alloc (fun _=>False) w (.cells #[.slice p len cap,v2] PG)
 have e1:=heap_alloc_new w (.cells #[.slice p len cap,v2] PG)
 generalize w.alloc (.cells #[.slice p len cap,v2] PG)=w1 at g1 e1 ⊢
 refine L h0 rfl rfl (aa h0 (.inr rfl) rfl) fun a h0=>?_
 refine Le (ah (ae ?_))
 refine L (v:= .map (some w1.heap.size)) (w':=w1.alloc (.map #[] 0)) h0 rfl rfl (by simp[execOp,Instr.makeMap]) fun a h0=>?_
 have g2:=Ch.alloc (fun _=>False) w1 (.map #[] 0)
 have e2:=heap_alloc_new w1 (.map #[] 0)
 have f1:=g2.at e1 fun h=>h
 have z1:=g1.size
 generalize hbm:w1.heap.size=bm at h0 e2 z1
 generalize w1.alloc (.map #[] 0)=w2 at g2 e2 f1 ⊢
 refine L h0 rfl rfl (aQ [(0,.map (some bm))] rfl (by simp[show a.eval (.tmp 6)= .map (some bm)from h0.ev rfl]) (H.built bm)) fun a h0=>?_
 refine L h0 rfl rfl (bC h0 rfl rfl) fun a h0=>?_
 rw[show(Value.agg #[.map (some bm),.int .i64 0]).cells= #[.map (some bm),.int .i64 0]from rfl]
 have g3:=Ch.alloc (fun _=>False) w2 (.cells #[.map (some bm),.int .i64 0] CK)
 have e3:=heap_alloc_new w2 (.cells #[.map (some bm),.int .i64 0] CK)
 have f2:=g3.at f1 fun h=>h
 have f3:=g3.at e2 fun h=>h
 have z2:=g2.size
 have t1:=aq e2
 generalize hb8:w2.heap.size=b8 at h0 e3 z2 t1
 generalize w2.alloc (.cells #[.map (some bm),.int .i64 0] CK)=w3 at g3 e3 f2 f3 ⊢
 refine L h0 rfl rfl (bX rfl H.pcE) fun a h0=>?_
 refine Ls h0 rfl rfl (kX [Ptr b8 0] h0 rfl rfl rfl H.pc rfl (by simp[Value.oneCell']) (heap_alloc_new _ _) (by simp)) fun h0=>?_
 obtain⟨g4,e4⟩:=sW (T:=PC) (zs:=[.pointer none]) (us:=[Ptr b8 0]) w3 rfl
 have f4:=g4.at f2 fun h=>h
 have f5:=g4.at f3 fun h=>h
 have f6:=g4.at e3 fun h=>h
 have z3:=g3.size
 have t2:=aq e3
 generalize hb3:w3.heap.size=b3 at h0 e4 g4 f4 f5 f6 z3 t2
 generalize(World.setRow _ b3 _)=w4 at g4 e4 f4 f5 f6 ⊢
 refine Le (ah (ah (ae ?_)))
 refine L h0 rfl rfl (ak h0 rfl rfl H.pg0) fun a h0=>?_
 refine L h0 rfl rfl (bs [.slice p len cap] h0 rfl rfl H.lc rfl f4 nD) fun a h0=>?_
 refine Lc h0 rfl rfl rfl rfl rfl H.bk (rJ hb0 p len cap w4) fun v w5 a hR h0=>?_
 obtain⟨rfl,rfl⟩:=hR
 have g5:=Ch.alloc (fun _=>False) w4 (.cells #[.slice p len cap] LC)
 have e5:=heap_alloc_new w4 (.cells #[.slice p len cap] LC)
 have f7:=g5.at f5 fun h=>h
 have f8:=g5.at f6 fun h=>h
 have f9:=g5.at e4 fun h=>h
 have z4:=g4.size
 have t3:=aq e4
 generalize hb6:w4.heap.size=b6 at h0 e5 z4 t3
 generalize w4.alloc (.cells #[.slice p len cap] LC)=w5 at g5 e5 f7 f8 f9 ⊢
 have z5:=g5.size
 have g6:=(((g1.trans g2).trans g3).trans g4).trans g5
 have l6:b6<w5.heap.size:=aq e5
 have l8:b8<w5.heap.size:=aq f8
 have l3:b3<w5.heap.size:=aq f9
 have lm:bm<w5.heap.size:=aq f7
 let EOK:Array MapEntry→Nat→Prop:=fun es cl=>(∀(i:Nat) (e:MapEntry),es[i]? =some e→∃s xs,Qe (.string s) xs∧e.key= .string s∧e.val= .agg (.string s::xs).toArray)∧∀x∈es.toList,x.born<cl
 refine Le (au (rK (bk1:=bk1) (lb:=[Ptr b6 0]) (R:=fun W=>Ch (fun c=>c=bm∨c=w5.heap.size+1) w5 W∧W.heap[w5.heap.size]? =some (.deferred (some []))∧∃es cl,W.heap[bm]? =some (.map es cl)∧es.size≤len∧EOK es cl) (h0.ev rfl) H.bk1 (fun fn'=>⟨_,rfl,?_⟩) (fun w6 rec hR hl=>?_)))
 ·-- the rounds
  generalize e9:({state:= .ready,pending:=none,fn:=fn',tmps:=a.tmps,params:= #[12,13],assign:=(kb P f).1,body:=(kb P f).2,defers:=w5.heap.size}:Loop)=rec
  have k1:=Ch.alloc (fun _=>False) w5 (.deferred (some []))
  have d1:=heap_alloc_new w5 (.deferred (some []))
  have y1:(w5.alloc (.deferred (some []))).heap.size=w5.heap.size+1:=by simp
  generalize w5.alloc (.deferred (some []))=w6 at k1 d1 y1 ⊢
  have k2:=Ch.alloc (fun _=>False) w6 (.loop rec)
  have d2:=heap_alloc_new w6 (.loop rec)
  rw[y1]at d2
  have d3:=k2.at d1 fun h=>h
  have k3:=k1.trans k2
  have m0:=k3.at f7 fun h=>h
  have m6:=k3.at e5 fun h=>h
  have m8:=k3.at f8 fun h=>h
  have m3:=k3.at f9 fun h=>h
  generalize w6.alloc (.loop rec)=w7 at k2 k3 d2 d3 m0 m6 m8 m3 ⊢
  have hvl:∀i,(vs i).length=4:=fun i=>by obtain⟨s,xs,h1,h2,_,_⟩:=hvs i;rw[h1];simp[h2]
  have hcons:∀i,i<len→∃b off cs bt fz,b<w.heap.size∧p=some ⟨b,off,none⟩∧w7.heap[b]? =some (.cells cs bt fz)∧∀(j:Nat) u,(vs i)[j]? =some u→cs[off+i*4+j]? =some u:=fun i hi=>by
   obtain⟨b,off,cs,bt,fz,q1,q2,q3⟩:=e7 i hi
   exact⟨b,off,cs,bt,fz,aq q2,q1,(g6.trans k3).at q2 fun h=>h,q3⟩
  refine(vP cq H.lc H.lcU H.coI H.coS H.co (l:=w5.heap.size+1) (Bs:=b6) (p:=p) (len:=len) (cap:=cap) (vs:=vs) hvl hlen
   (fun k W=>W.heap[w5.heap.size+1]? =some (.loop rec)∧Ch (fun c=>c=bm∨c=w5.heap.size+1) w7 W∧∃es cl,W.heap[bm]? =some (.map es cl)∧es.size≤k∧EOK es cl) ?_ ?_ ⟨d2,Ch.refl _ _, #[],0,m0,Nat.le_refl _,fun i e h=>by simp at h,by simp⟩).mono ?_
  ·rintro k W ⟨_,q2,_⟩
   refine⟨⟨LC,q2.at m6 (by rintro(h|h)<;>omega)⟩,fun i hi=>?_⟩
   obtain⟨b,off,cs,bt,fz,r0,r1,r2,r3⟩:=hcons i hi
   exact⟨b,off,cs,bt,fz,r1,q2.at r2 (by rintro(h|h)<;>omega),r3⟩
  ·rintro k W hk ⟨q1,q2,es,cl,q3,q4,q5⟩
   obtain⟨s,xs,v1,v3,v5,v4⟩:=hvs (len - 1 - k)
   rw[v1]
   refine⟨_,_,_,_,run_yield q1 (by simp[←e9]),roundIn_of_wpIn trivial ?_⟩
   have ra:rec.assign=(kb P f).1:=by rw[←e9]
   have rb:rec.body=(kb P f).2:=by rw[←e9]
   have rt:(rec.params.zip #[Value.int .i64 ((len - 1 - k:Nat):Int),.agg (.string s::xs).toArray]).foldl (fun tmps x=>tmps.setIfInBounds x.1 x.2) rec.tmps=(a.tmps.setIfInBounds 12 (.int .i64 ((len - 1 - k:Nat):Int))).setIfInBounds 13 (.agg (.string s::xs).toArray):=by
    rw[←e9]
    show Array.foldl _ a.tmps (#[12,13].zip _)=_
    rw[show(#[12,13]:Array Nat).zip #[Value.int .i64 ((len - 1 - k:Nat):Int),.agg (.string s::xs).toArray]= #[(12,.int .i64 ((len - 1 - k:Nat):Int)),(13,.agg (.string s::xs).toArray)] by apply Array.ext';simp]
    simp
   have rs:rec.state= .ready:=by rw[←e9]
   have eI:SL 22 [(3,Ptr b3 0),(13,.agg (.string s::xs).toArray)] {tmps:=(a.tmps.setIfInBounds 12 (.int .i64 ((len - 1 - k:Nat):Int))).setIfInBounds 13 (.agg (.string s::xs).toArray),defers:=[]}:=by
    have c1:SL 22 [(3,Ptr b3 0)] a:=h0.keep [3]
    have c2:=(c1.put (dst:=some 12) rfl (.int .i64 ((len - 1 - k:Nat):Int))).put (dst:=some 13) rfl (.agg (.string s::xs).toArray)
    have c3:=c2.keep [3,13]
    exact⟨c3.size,rfl,c3.az⟩
   rw[ra,rb,rt]
   generalize({tmps:=(a.tmps.setIfInBounds 12 (.int .i64 ((len - 1 - k:Nat):Int))).setIfInBounds 13 (.agg (.string s::xs).toArray),defers:=[]}:Act)=a1 at eI ⊢
   have hasg:∀Q:Exit→Act→World→Prop,(∀a2 W2 b5,SL 22 [(3,Ptr b3 0),(5,Ptr b5 0)] a2→Ch (fun _=>False) W W2→W.heap.size≤b5→W2.heap[b5]? =some (.cells (.string s::xs).toArray CO (0,0))→Q .normal a2 W2)→NI (some (w5.heap.size+1)) P (Ak CO) Q a1 W:=by
    intro Q hQ
    refine iW ?_
    refine LI eI rfl (by simp) rfl (bX rfl H.coE) fun a2 eI=>?_
    have hone:∀u∈(Value.string s::xs),u.oneCell'=true:=fun u hu=>by rcases CD hu with rfl|hu;exact rfl;exact v5 u hu
    refine mf rfl (nE (by simp) rfl (kX (ag:=true) (.string s::xs) eI rfl rfl rfl H.co (by simp[v3]) hone (heap_alloc_new _ _) (by simp)) ?_)
    obtain⟨n1,n2⟩:=sW (T:=CO) (zs:=[.string ⟨#[]⟩,.int .i64 0,.string ⟨#[]⟩,.int .i64 0]) (us:= .string s::xs) W (by simp[v3])
    exact wpListIn_nil (hQ _ _ W.heap.size (eI.keep [3,5]) n1 (Nat.le_refl _) n2)
   refine hasg _ (fun a2 W2 b5 ef n1 n2 n3=>?_) _ hA
   have lw:=g6.size
   have k4:=k3.size
   have lb:w5.heap.size+1<W.heap.size:=aq q1
   have l1:=n1.at q1 fun h=>h
   refine⟨_,run_beginRound l1 rs,?_⟩
   obtain⟨u1,u2⟩:=fm (w:=W2) (b:=w5.heap.size+1) (o:= .loop {rec with state:= .busy}) (aq l1)
   change Ch _ W2 (W2.putObj (w5.heap.size+1) (.loop {rec with state:= .busy}))at u1
   change (W2.putObj (w5.heap.size+1) (.loop {rec with state:= .busy})).heap[_]? =_ at u2
   generalize W2.putObj (w5.heap.size+1) (.loop {rec with state:= .busy})=W4 at u1 u2 ⊢
   have o0:=(u1.at (n1.at q3 fun h=>h) (by omega))
   have o5:=(u1.at n3 (by omega))
   have o8:=(u1.at (n1.at (q2.at m8 (by rintro(h|h)<;>omega)) fun h=>h) (by omega))
   have o3:=(u1.at (n1.at (q2.at m3 (by rintro(h|h)<;>omega)) fun h=>h) (by omega))
   refine Al H ef.size ef.defers (ef.az 3 _ rfl) (ef.az 5 _ rfl) v3 o3 o8 o0 o5 (fun x hx=>?_) (fun a3 W5 fi iD hd5 y1 y2 y3=>?_) _ hBd
   ·obtain⟨j,hj⟩:=List.getElem?_of_mem hx
    obtain⟨s',xs',_,e1,_⟩:=q5.1 j x (by simpa using hj)
    rw[e1];trivial
   ·have y4:=y1.at u2 (by omega)
    have hen:=run_endRound (P:=P) none y4
    obtain⟨x1,x2⟩:=fm (w:=W5) (b:=w5.heap.size+1) (o:= .loop {{rec with state:= .busy}with state:= .ready,pending:=none}) (aq y4)
    have hrec':({{rec with state:= .busy}with state:= .ready,pending:=none}:Loop)=rec:=by rw[←e9]
    rw[hrec']at x1 x2
    have hfin:(W5.putObj (w5.heap.size+1) (.loop {{rec with state:= .busy}with state:=if(none:Option Code).isNone then .ready else .done,pending:=none}))={W5 with heap:=W5.heap.setIfInBounds (w5.heap.size+1) (.loop rec)}:=by
     rw[←e9];rfl
    rw[hfin]at hen
    refine⟨_,_,hen,rfl,x2,?_,fi,iD,x1.at y2 (by omega),?_,?_⟩
    ·exact(((q2.trans' n1 fun c hc h=>h.elim).trans' u1 (fun c hc h=> .inr h)).trans' y1 (fun c hc h=> .inl h)).trans' x1 (fun c hc h=> .inr h)
    ·rcases y3 with⟨rfl,_⟩|⟨j,e,_,rfl,_⟩<;>simp<;>omega
    ·refine⟨fun i e he=>?_,fun x hx=>?_⟩
     ·rcases y3 with⟨rfl,_⟩|⟨j,e',_,rfl,_⟩
      ·rw[Array.getElem?_push]at he
       split at he
       ·cases he;exact⟨s,xs,v4 (by omega),rfl,rfl⟩
       ·exact q5.1 i e he
      ·rw[Array.getElem?_modify]at he
       split at he
       ·obtain⟨e1,_,rfl⟩:=Option.map_eq_some_iff.1 he;exact⟨s,xs,v4 (by omega),rfl,rfl⟩
       ·exact q5.1 i e he
     ·rcases y3 with⟨rfl,rfl⟩|⟨j,e',_,rfl,rfl⟩
      ·simp only[Array.toList_push,List.mem_append,List.mem_singleton]at hx
       rcases hx with hx|rfl
       ·exact Nat.lt_succ_of_lt (q5.2 x hx)
       ·exact Nat.lt_succ_self _
      ·obtain⟨i,hi⟩:=List.getElem?_of_mem hx
       rw[Array.getElem?_toList,Array.getElem?_modify]at hi
       split at hi
       ·obtain⟨e1,he,rfl⟩:=Option.map_eq_some_iff.1 hi
        exact q5.2 e1 (by rw[←Array.getElem?_toList]at he;exact CE he)
       ·exact q5.2 x (by rw[←Array.getElem?_toList]at hi;exact CE hi)
  ·rintro v W ⟨q1,q2,es,cl,q3,q4,q5⟩
   exact⟨⟨(k3.mono (fun _ _ h=>h.elim)).trans' q2 (fun c hc h=>h),q2.at d3 (by rintro(h|h)<;>omega),es,cl,q3,q4,q5⟩,q1⟩
 ·-- behind them
  obtain⟨q1,q2,es,cl,q3,q4,q5⟩:=hR
  obtain⟨u1,u2⟩:=fm (w:=w6) (b:=w5.heap.size+1) (o:= .loop {rec with state:= .exhausted}) (aq hl)
  change Ch _ w6 (w6.putObj (w5.heap.size+1) (.loop {rec with state:= .exhausted}))at u1
  have q6:=q1.trans' u1 (fun c hc h=> .inr h)
  have o3:=q6.at f9 (by rintro(h|h)<;>omega)
  have o8:=q6.at f8 (by rintro(h|h)<;>omega)
  have om:=u1.at q3 (by omega)
  have od:=u1.at q2 (by omega)
  have q7:Ch (fun c=>c=bm∨c=w5.heap.size+1) w5 (w6.putObj (w5.heap.size+1) (.loop {rec with state:= .exhausted})):=q6
  generalize w6.putObj (w5.heap.size+1) (.loop {rec with state:= .exhausted})=w8 at o3 o8 om od q7 ⊢
  refine ah (ae ?_)
  refine L1 (a:={a with defers:=_}) rfl (bs (a:=a) [Ptr b8 0] h0 rfl rfl H.pc rfl o3 nD) ?_
  have h1:=h0.put (dst:=some 21) rfl (pk false [Ptr b8 0])
  refine L1 (v:=Ptr b8 0) (w':=w8) rfl (aa (a:=a.put (some 21) (pk false [Ptr b8 0])) h1 (.inr rfl) rfl) ?_
  have h2:=h1.put (dst:=some 2) rfl (Ptr b8 0)
  refine Le (aP ?_)
  obtain⟨x1,_⟩:=fm (w:=w8) (b:=w5.heap.size) (o:= .deferred none) (aq od)
  change Ch _ w8 (w8.putObj w5.heap.size (.deferred none))at x1
  have e2:((a.put (some 21) (pk false [Ptr b8 0])).put (some 2) (Ptr b8 0)).tmps.getD 2 undef=Ptr b8 0:=h2.az 2 _ rfl
  have hres':(results fn ((a.put (some 21) (pk false [Ptr b8 0])).put (some 2) (Ptr b8 0)).tmps).run P (w8.putObj w5.heap.size (.deferred none))= .ok (Ptr b8 0) (w8.putObj w5.heap.size (.deferred none)):=
   jl ⟨[Ptr b8 0],by rw[hres];simp only[List.mapM_cons,List.mapM_nil,gh,e2];simp,rfl⟩
  have y1:=g6.trans' (S':=fun c=>c=bm∨c=w5.heap.size+1∨c=w5.heap.size) ((q7.mono fun c _ h=>h.elim .inl fun h=> .inr (.inl h)).trans' x1 fun c _ h=> .inr (.inr h)) (fun c hc h=>by have:=g6.size;have:=g1.size;rcases h with h|h|h<;>omega)
  refine⟨by simp,.inl ⟨w5.heap.size,w8.putObj w5.heap.size (.deferred none),rfl,run_takeDeferred od,?_⟩⟩
  show LeavesInM _ _ _ _ _ _ a.defers _ _
  rw[h0.defers]
  exact⟨_,hres',_,rfl,b8,bm,es,cl,rfl,y1,by have:=g1.size;omega,by have:=g1.size;omega,x1.at o8 (by omega),x1.at om (by omega),q4,q5⟩
end
end Go.TL.H
