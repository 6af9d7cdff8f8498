/- A small symbolic machine over the operations of the program: pure data, objects of one's own, and what one operation makes of them. -/
import Derived.Calls
import Derived.Laws.Cells
import Derived.Laws.AppendOwn
import Derived.Laws.Tables
namespace Go
theorem Ct{α:Type}{a b:α}:(some a=some b)=(a=b):=Option.some.injEq a b
theorem Cu{α β:Type}{a c:α}{b d:β}:((a,b)=(c,d))=(a=c∧b=d):=Prod.mk.injEq a b c d
theorem Cv{a b:Nat}(h:Nat.beq a b=true):a=b:=Nat.eq_of_beq_eq_true h
theorem Cx{α:Type}(y:α){a:α}{l:List α}(h:a∈l):a∈y::l:=List.mem_cons_of_mem y h
theorem Cy{α:Type}{a:α}{l:List α}:a∈a::l:=List.mem_cons_self ..
theorem Cz{a b:Nat}(h:Nat.ble a b=true):a≤b:=Nat.le_of_ble_eq_true h
theorem CA{α:Type}{l:List α}{i:Nat}{a:α}(h:l[i]?=some a):∃h:i<l.length,l[i]=a:=List.getElem?_eq_some_iff.1 h
theorem CB{α:Type}{a:α}{s t:List α}(h:a∈s∨a∈t):a∈s++t:=List.mem_append.2 h
theorem CC{α:Type}{a:α}{s t:List α}(h:a∈s++t):a∈s∨a∈t:=List.mem_append.1 h
theorem CD{α:Type}{a b:α}{l:List α}(h:a∈b::l):a=b∨a∈l:=List.mem_cons.1 h
theorem CE{α:Type}{l:List α}{i:Nat}{a:α}(h:l[i]?=some a):a∈l:=List.mem_of_getElem? h
end Go
namespace Go.TL
inductive PV where
 |v(x:Value)
 |sl(rows:List (List PV))
 |rm(len:Nat)(rows:List (List PV))
 |ls(rows:List (List PV))
 |un
 |mp(a:Option Nat)(rows:List (List PV))
 deriving Inhabited
inductive SV where
 |u
 |p(x:PV)(fr:Bool)
 |ptr(k off:Nat)
 |vec(k:Nat)
 |aY(k sz i off:Nat)
 |pd(row:List PV)(off:Nat)(fr:Bool)
 |pc(rows:List (List PV))(fr:Bool)
 |agg(xs:List SV)
 |bB(xs:List SV)
 |ref(k:Nat)
 |fn(f:Fn)(first aL:List SV)
 |bH(t:TypeId)(x:SV)
 deriving Inhabited
inductive OV where
 |box(t:TypeId)(cells:List SV)
 |vec(t:TypeId)(sz:Nat)(rows:List (List PV))(fr:Bool)
 |mp(a:Option Nat)(rows:List (List PV))(fr:Bool)
 |it(a:Option Nat)(rows:List (List PV))(fr:Bool)(n:Nat)(on:Bool)
instance:Inhabited OV:=⟨.box 0 []⟩
abbrev Tab:=List (Nat×OV)
structure St where
 az:List (Nat×SV)
 tab:Tab
 deriving Inhabited
def lk{α:Type}:List (Nat×α)→Nat→Option α
 | [],_=>none
 |(k,x)::r,n=>match Nat.beq k n with
   |true=>some x
   |false=>lk r n
def rm{α:Type}:List (Nat×α)→Nat→List (Nat×α)
 | [],_=>[]
 |(k,x)::r,n=>match Nat.beq k n with
   |true=>rm r n
   |false=>(k,x)::rm r n
theorem nJ{α:Type}(l:List (Nat×α))(n:Nat):lk (rm l n) n=none:=by
 induction l with
 |nil=>rfl
 |cons h t ih=>
  obtain⟨k,x⟩:=h
  simp only[rm]
  cases hb:Nat.beq k n with
  |true=>exact ih
  |false=>simp only[lk,hb];exact ih
theorem dH{α:Type}(l:List (Nat×α))(n m:Nat)(h:m≠n):lk (rm l n) m=lk l m:=by
 induction l with
 |nil=>rfl
 |cons hd t ih=>
  obtain⟨k,x⟩:=hd
  simp only[rm]
  cases hb:Nat.beq k n with
  |true=>
   have hk:k=n:=Cv hb
   have:Nat.beq k m=false:=by
    cases hq:Nat.beq k m with
    |false=>rfl
    |true=>exact absurd ((Cv hq).symm.trans hk) h
   simp only[lk,this];exact ih
  |false=>
   simp only[lk]
   cases Nat.beq k m<;>first|rfl|exact ih
theorem aE{α:Type}(l:List (Nat×α))(n:Nat)(x:α):lk ((n,x)::l) n=some x:=by
 simp[lk,Nat.beq_refl]
theorem av{α:Type}(l:List (Nat×α))(n m:Nat)(x:α)(h:m≠n):lk ((n,x)::l) m=lk l m:=by
 have:Nat.beq n m=false:=by
  cases hq:Nat.beq n m with
  |false=>rfl
  |true=>exact absurd (Cv hq).symm h
 simp[lk,this]
structure Env where
 val:Nat→Option Value
 own:Nat→Option Nat
 ext:Nat→Prop
def jB(a:Option Nat)(e:MapEntry):Option (List Value):=
 match a,e.val with
 |none,v=>some [e.key,v]
 |some n,.agg cs=>match decide (cs.size=n)with
  |true=>some (e.key::cs.toList)
  |false=>none
 |some _,_=>none
def zj(a:Option Nat)(rows:List (List PV))(es:Array MapEntry)(clock:Nat)(f:Nat→Nat→Value):Prop:=
 es.size=rows.length∧(∀(i:Nat) (row:List PV) (e:MapEntry),rows[i]? =some row→es[i]? =some e→∃vs,jB a e=some vs∧∀(j:Nat) (x:PV),row[j]? =some x→vs[j]? =some (f i j))∧∀e∈es.toList,e.born<clock
inductive Rep(w:World)(bad:Nat→Prop)(lo:Nat):PV→Value→Prop
 |v (x:Value) (h:x.oneCell'=true):Rep w bad lo (.v x) x
 |nil (b:Option Addr) (c:Nat):Rep w bad lo (.sl []) (.slice b 0 c)
 |sl (rows:List (List PV)) (b off cap:Nat) (cs:Array Value) (t:TypeId) (fz:Nat×Nat) (sz:Nat) (f:Nat→Nat→Value)
   (dS:rows.length≤cap) (hb:w.heap[b]? =some (.cells cs t fz)) (bh:¬ bad b) (aV:lo≤b) (dZ:0<lo→fz=(0,0))
   (hlen:∀(i:Nat) (row:List PV),rows[i]? =some row→row.length=sz)
   (hc:∀(i:Nat) (row:List PV) (j:Nat) (x:PV),rows[i]? =some row→row[j]? =some x→cs[off+i*sz+j]? =some (f i j))
   (hr:∀(i:Nat) (row:List PV) (j:Nat) (x:PV),rows[i]? =some row→row[j]? =some x→Rep w bad lo x (f i j)):
   Rep w bad lo (.sl rows) (.slice (some ⟨b,off,none⟩) rows.length cap)
 |j2:Rep w bad lo (.rm 0 []) (.slice none 0 0)
 |rm (len:Nat) (rows:List (List PV)) (b off:Nat) (cs:Array Value) (t:TypeId) (sz:Nat) (f:Nat→Nat→Value)
   (dS:len≤rows.length) (hb:w.heap[b]? =some (.cells cs t (0,0))) (bh:¬ bad b) (aV:lo≤b)
   (hlen:∀(i:Nat) (row:List PV),rows[i]? =some row→row.length=sz)
   (hc:∀(i:Nat) (row:List PV) (j:Nat) (x:PV),rows[i]? =some row→row[j]? =some x→cs[off+i*sz+j]? =some (f i j))
   (hr:∀(i:Nat) (row:List PV) (j:Nat) (x:PV),rows[i]? =some row→row[j]? =some x→Rep w bad lo x (f i j)):
   Rep w bad lo (.rm len rows) (.slice (some ⟨b,off,none⟩) len rows.length)
 |jv:Rep w bad lo (.ls []) (.pointer none)
 |un (x:Value) (h:x.oneCell'=true):Rep w bad lo .un x
 |ls (row:List PV) (rows:List (List PV)) (b o:Nat) (cs:Array Value) (t:TypeId) (fz:Nat×Nat) (f:Nat→Value)
   (hb:w.heap[b]? =some (.cells cs t fz)) (bh:¬ bad b) (aV:lo≤b)
   (hc:∀(j:Nat) (x:PV),(row++ [.ls rows])[j]? =some x→cs[o+j]? =some (f j))
   (hr:∀(j:Nat) (x:PV),(row++ [.ls rows])[j]? =some x→Rep w bad lo x (f j)):Rep w bad lo (.ls (row::rows)) (.pointer (some ⟨b,o,none⟩))
 |jw (a:Option Nat):Rep w bad lo (.mp a []) (.map none)
 |mp (a:Option Nat) (rows:List (List PV)) (b:Nat) (es:Array MapEntry) (clock:Nat) (f:Nat→Nat→Value) (hb:w.heap[b]? =some (.map es clock)) (bh:¬ bad b) (aV:lo≤b)
   (hc:zj a rows es clock f) (hr:∀(i:Nat) (row:List PV) (j:Nat) (x:PV),rows[i]? =some row→row[j]? =some x→Rep w bad lo x (f i j)):Rep w bad lo (.mp a rows) (.map (some b))
def Env.bad(E:Env)(b:Nat):Prop:=E.own b≠none∨E.ext b
def nK(w:World)(bad:Nat→Prop)(lo:Nat)(row:List PV)(b o:Nat):Prop:=
 ∃(cs:Array Value) (t:TypeId) (fz:Nat×Nat) (f:Nat→Value),w.heap[b]? =some (.cells cs t fz)∧¬ bad b∧lo≤b∧
   (∀(j:Nat) (x:PV),row[j]? =some x→cs[o+j]? =some (f j))∧(∀(j:Nat) (x:PV),row[j]? =some x→Rep w bad lo x (f j))
def flo(lo:Nat):Bool→Nat
 |true=>lo
 |false=>0
mutual
def VR(w:World)(E:Env)(lo:Nat):SV→Value→Prop
 | .u,_=>True
 | .p x fr,v=>Rep w E.bad (flo lo fr) x v
 | .ptr k off,v=>∃b,E.val k=some (.pointer (some ⟨b,0,none⟩))∧v= .pointer (some ⟨b,off,none⟩)
 | .vec k,v=>E.val k=some v∧∃a n c,v= .slice a n c
 | .aY k sz i off,v=>∃b n c,E.val k=some (.slice (some ⟨b,0,none⟩) n c)∧v= .pointer (some ⟨b,i*sz+off,none⟩)
 | .pd row off fr,v=>∃b o,v= .pointer (some ⟨b,o+off,none⟩)∧nK w E.bad (flo lo fr) row b o
 | .pc rows fr,v=>∃a,v= .slice a rows.length rows.length∧Rep w E.bad (flo lo fr) (.sl rows) v
 | .agg xs,v=>∃vs:List Value,v= .agg vs.toArray∧VRs w E lo xs vs
 | .bB xs,v=>∃vs:List Value,v= .tuple vs.toArray∧VRs w E lo xs vs
 | .ref k,v=>E.val k=some v∧v.oneCell'=true
 | .fn f first aL,v=>∃vs ws:List Value,v= .func f vs.toArray ws.toArray∧VRs w E lo first vs∧VRs w E lo aL ws
 | .bH t x,v=>∃y,v= .iface t y∧VR w E lo x y
def VRs(w:World)(E:Env)(lo:Nat):List SV→List Value→Prop
 | [],[]=>True
 |x::xs,v::vs=>VR w E lo x v∧VRs w E lo xs vs
 |_,_=>False
end
def bE(w:World)(bad:Nat→Prop)(lo:Nat)(sz:Nat)(rows:List (List PV))(xs:List Value):Prop:=
 ∃f:Nat→Nat→Value,(∀(i:Nat) (row:List PV),rows[i]? =some row→row.length=sz)∧
  (∀(i:Nat) (row:List PV) (j:Nat) (x:PV),rows[i]? =some row→row[j]? =some x→xs[i*sz+j]? =some (f i j))∧
  (∀(i:Nat) (row:List PV) (j:Nat) (x:PV),rows[i]? =some row→row[j]? =some x→Rep w bad lo x (f i j))
def dV(w:World)(bad:Nat→Prop)(lo:Nat)(a:Option Nat)(rows:List (List PV))(es:Array MapEntry)(clock:Nat):Prop:=
 ∃f:Nat→Nat→Value,zj a rows es clock f∧∀(i:Nat) (row:List PV) (j:Nat) (x:PV),rows[i]? =some row→row[j]? =some x→Rep w bad lo x (f i j)
def qk(w:World)(bad:Nat→Prop)(lo:Nat)(a:Option Nat)(rows:List (List PV))(n:Nat)(on:Bool)(o:Obj):Prop:=
 ∃mp since seen last,o= .mapIter mp since seen last∧Rep w bad lo (.mp a rows) (.map mp)∧(mp=none→on=false)∧
  ∀m,mp=some m→∃es clock,w.heap[m]? =some (.map es clock)∧¬ bad m∧since=clock∧last=clock∧(es.filter fun e=> !seen.contains e.born).size≤n∧
   (on=true→∃s,seen.back? =some s∧∃e∈es.toList,e.born=s)
def OR(w:World)(E:Env)(lo:Nat)(k:Nat):OV→Prop
 | .box t cells=>∃b vs,E.val k=some (.pointer (some ⟨b,0,none⟩))∧E.own b=some k∧
   w.heap[b]? =some (.cells (List.toArray vs) t (0,0))∧VRs w E lo cells vs
 | .vec t sz rows fr=>∃v xs,E.val k=some v∧0<sz∧w.ownsRow 0 t sz v rows.length xs∧(∀g,v.ownBlock=some g→E.own g=some k)∧
   bE w E.bad (flo lo fr) sz rows xs
 | .mp a rows fr=>∃b es clock,E.val k=some (.map (some b))∧E.own b=some k∧w.heap[b]? =some (.map es clock)∧dV w E.bad (flo lo fr) a rows es clock
 | .it a rows fr n on=>∃b o,E.val k=some (.pointer (some ⟨b,0,none⟩))∧E.own b=some k∧w.heap[b]? =some o∧qk w E.bad (flo lo fr) a rows n on o
structure b9(w:World)(E:Env)(lo:Nat)(T:Tab):Prop where
 obj:∀k ov,lk T k=some ov→OR w E lo k ov
 dead:∀k,lk T k=none→E.val k=none
 own:∀b k,E.own b=some k→b<w.heap.size∧lo≤b∧lk T k≠none
 ext:∀b,E.ext b→b<w.heap.size∧E.own b=none
structure Fr(w:World)(E:Env)(w':World)(E':Env):Prop where
 os:w'.os=w.os
 tape:w'.tape=w.tape
 output:w'.output=w.output
 size:w.heap.size≤w'.heap.size
 keep:∀b,b<w.heap.size→E.own b=none→w'.heap[b]? =w.heap[b]? ∧E'.own b=none
 ext:E'.ext=E.ext
def xN(P:Program)(lo:Nat)(w:World):Prop:=
 ∀g,P.globalNamed "internal/strconv.uint64pow10" =some g→g<lo∧∃cs t fz,w.heap[g]? =some (.cells cs t fz)∧cs=((List.range 20).map fun i=>Value.int .u64 (10 ^ i)).toArray
structure kL(P:Program)(lo:Nat)(w:World)(E:Env):Prop where
 le:lo≤w.heap.size
 laid:xN P lo w
 own:∀b,b<lo→E.own b=none
theorem kL.fr{P:Program}{lo:Nat}{w w':World}{E E':Env}(h:kL P lo w E)(k:Fr w E w' E'):kL P lo w' E':=
 ⟨Nat.le_trans h.le k.size,fun g hg=>by
  obtain⟨h1,cs,t,fz,h2,h3⟩:=h.laid g hg
  exact⟨h1,cs,t,fz,by rw[(k.keep g (Nat.lt_of_lt_of_le h1 h.le) (h.own g h1)).1];exact h2,h3⟩,fun b hb=>(k.keep b (Nat.lt_of_lt_of_le hb h.le) (h.own b hb)).2⟩
structure Ctx where
 P:Program
 lo:Nat
 w0:World
 E0:Env
 n:Nat
structure uA(C:Ctx)(E:Env)(σ:St)(a:Act)(w:World):Prop where
 size:a.tmps.size=C.n
 defers:a.defers=[]
 az:∀t sv,lk σ.az t=some sv→VR w E C.lo sv (a.tmps.getD t undef)
 tab:b9 w E C.lo σ.tab
 fr:Fr C.w0 C.E0 w E
 lo:kL C.P C.lo C.w0 C.E0
 ids:∀k,C.E0.val k≠none→C.n≤k
 Be:∀k x,C.E0.val k=some x→E.val k=some x∨E.val k=none
def Holds(C:Ctx)(σ:St)(a:Act)(w:World):Prop:=∃E,uA C E σ a w
theorem Fr.refl(w:World)(E:Env):Fr w E w E:=⟨rfl,rfl,rfl,Nat.le_refl _,fun _ _ h=>⟨rfl,h⟩,rfl⟩
theorem Fr.trans{w w1 w2:World}{E E1 E2:Env}(h:Fr w E w1 E1)(k:Fr w1 E1 w2 E2):Fr w E w2 E2:=
 ⟨k.os.trans h.os,k.tape.trans h.tape,k.output.trans h.output,Nat.le_trans h.size k.size,fun b hb ho=>
  have h1:=h.keep b hb ho
  have h2:=k.keep b (Nat.lt_of_lt_of_le hb h.size) h1.2
  ⟨h2.1.trans h1.1,h2.2⟩,k.ext.trans h.ext⟩
theorem aq{w:World}{b:Nat}{o:Obj}(h:w.heap[b]? =some o):b<w.heap.size:=(Array.getElem?_eq_some_iff.1 h).1
theorem yr{E:Env}{b:Nat}(h:¬ E.bad b):E.own b=none∧¬ E.ext b:=by
 unfold Env.bad at h
 refine⟨?_,fun hx=>h (.inr hx)⟩
 cases hb:E.own b with
 |none=>rfl
 |some k=>exact absurd (.inl (by rw[hb];simp)) h
theorem rU{E:Env}{b:Nat}(h:E.own b=none)(hx:¬ E.ext b):¬ E.bad b:=by
 intro hb;rcases hb with hb|hb
 ·exact hb h
 ·exact hx hb
theorem Rep.mono{w w':World}{bad iw:Nat→Prop}{lo fC:Nat}(hl:fC≤lo)
  (h:∀b o,w.heap[b]? =some o→¬ bad b→w'.heap[b]? =some o∧¬ iw b){x:PV}{v:Value}(r:Rep w bad lo x v):Rep w' iw fC x v:=by
 induction r with
 |v x hx=>exact .v x hx
 |nil b c=>exact .nil b c
 |sl rows b off cap cs t fz sz f dS hb bh aV dZ hlen hc hr ih=>
  exact .sl rows b off cap cs t fz sz f dS (h b _ hb bh).1 (h b _ hb bh).2 (Nat.le_trans hl aV) (fun h0=>dZ (Nat.lt_of_lt_of_le h0 hl)) hlen hc ih
 |j2=>exact .j2
 |rm len rows b off cs t sz f dS hb bh aV hlen hc hr ih=>
  exact .rm len rows b off cs t sz f dS (h b _ hb bh).1 (h b _ hb bh).2 (Nat.le_trans hl aV) hlen hc ih
 |jv=>exact .jv
 |un x hx=>exact .un x hx
 |ls row rows b o cs t fz f hb bh aV hc hr ih=>exact .ls row rows b o cs t fz f (h b _ hb bh).1 (h b _ hb bh).2 (Nat.le_trans hl aV) hc ih
 |jw a=>exact .jw a
 |mp a rows b es clock f hb bh aV hc hr ih=>exact .mp a rows b es clock f (h b _ hb bh).1 (h b _ hb bh).2 (Nat.le_trans hl aV) hc ih
theorem nK.mono{w w':World}{bad iw:Nat→Prop}{lo fC:Nat}(hl:fC≤lo)
  (h:∀b o,w.heap[b]? =some o→¬ bad b→w'.heap[b]? =some o∧¬ iw b){row:List PV}{b o:Nat}(r:nK w bad lo row b o):nK w' iw fC row b o:=by
 obtain⟨cs,t,fz,f,hb,bh,aV,hc,hr⟩:=r
 exact⟨cs,t,fz,f,(h b _ hb bh).1,(h b _ hb bh).2,Nat.le_trans hl aV,hc,fun j x hx=>(hr j x hx).mono hl h⟩
theorem dV.mono{w w':World}{bad iw:Nat→Prop}{lo fC:Nat}(hl:fC≤lo){a:Option Nat}{rows:List (List PV)}{es:Array MapEntry}{clock:Nat}
  (h:∀b o,w.heap[b]? =some o→¬ bad b→w'.heap[b]? =some o∧¬ iw b)(r:dV w bad lo a rows es clock):dV w' iw fC a rows es clock:=by
 obtain⟨f,h1,h2⟩:=r
 exact⟨f,h1,fun i row j x hi hj=>(h2 i row j x hi hj).mono hl h⟩
theorem qk.mono{w w':World}{bad iw:Nat→Prop}{lo fC:Nat}(hl:fC≤lo){a:Option Nat}{rows:List (List PV)}{n:Nat}{on:Bool}{o:Obj}
  (h:∀b o,w.heap[b]? =some o→¬ bad b→w'.heap[b]? =some o∧¬ iw b)(r:qk w bad lo a rows n on o):qk w' iw fC a rows n on o:=by
 obtain⟨mp,since,seen,last,h1,h2,h3,h4⟩:=r
 refine⟨mp,since,seen,last,h1,h2.mono hl h,h3,fun m hm=>?_⟩
 obtain⟨es,cl,e1,e2,e3⟩:=h4 m hm
 exact⟨es,cl,(h m _ e1 e2).1,(h m _ e1 e2).2,e3⟩
theorem bE.mono{w w':World}{bad iw:Nat→Prop}{lo fC:Nat}(hl:fC≤lo){sz:Nat}{rows:List (List PV)}{xs:List Value}
  (h:∀b o,w.heap[b]? =some o→¬ bad b→w'.heap[b]? =some o∧¬ iw b)(r:bE w bad lo sz rows xs):bE w' iw fC sz rows xs:=by
 obtain⟨f,h1,h2,h3⟩:=r
 exact⟨f,h1,h2,fun i row j x hi hj=>(h3 i row j x hi hj).mono hl h⟩
structure hY(w:World)(E:Env)(w':World)(E':Env):Prop where
 keep:∀b,b<w.heap.size→E.own b=none→w'.heap[b]? =w.heap[b]? ∧E'.own b=none
 ext:E'.ext=E.ext
theorem hY.rep{w w':World}{E E':Env}(h:hY w E w' E'):∀b o,w.heap[b]? =some o→¬ E.bad b→w'.heap[b]? =some o∧¬ E'.bad b:=by
 intro b o hb bh
 have hn:=yr bh
 have:=h.keep b (aq hb) hn.1
 exact⟨by rw[this.1];exact hb,rU this.2 (by rw[h.ext];exact hn.2)⟩
theorem Fr.keeps{w w':World}{E E':Env}(h:Fr w E w' E'):hY w E w' E':=⟨h.keep,h.ext⟩
def tv(w:World)(E:Env)(w':World)(E':Env):Prop:=∀b o,w.heap[b]? =some o→¬ E.bad b→w'.heap[b]? =some o∧¬ E'.bad b
mutual
theorem VR.fR{w w':World}{E E':Env}{lo:Nat}(hk:tv w E w' E')(hv:∀k x,E.val k=some x→E'.val k=some x):
  ∀(sv:SV) (v:Value),VR w E lo sv v→VR w' E' lo sv v
 | .u,_,_=>by simp[VR]
 | .p x fr,v,h=>by simp only[VR]at h ⊢;exact h.mono (Nat.le_refl _) hk
 | .ptr k off,v,h=>by simp only[VR]at h ⊢;obtain⟨b,h1,h2⟩:=h;exact⟨b,hv _ _ h1,h2⟩
 | .vec k,v,h=>by simp only[VR]at h ⊢;exact⟨hv _ _ h.1,h.2⟩
 | .aY k sz i off,v,h=>by simp only[VR]at h ⊢;obtain⟨b,n,c,h1,h2⟩:=h;exact⟨b,n,c,hv _ _ h1,h2⟩
 | .pd row off fr,v,h=>by simp only[VR]at h ⊢;obtain⟨b,o,h1,h2⟩:=h;exact⟨b,o,h1,h2.mono (Nat.le_refl _) hk⟩
 | .pc rows fr,v,h=>by simp only[VR]at h ⊢;obtain⟨a,h1,h2⟩:=h;exact⟨a,h1,h2.mono (Nat.le_refl _) hk⟩
 | .agg xs,v,h=>by simp only[VR]at h ⊢;obtain⟨vs,h1,h2⟩:=h;exact⟨vs,h1,VRs.fR hk hv xs vs h2⟩
 | .bB xs,v,h=>by simp only[VR]at h ⊢;obtain⟨vs,h1,h2⟩:=h;exact⟨vs,h1,VRs.fR hk hv xs vs h2⟩
 | .ref k,v,h=>by simp only[VR]at h ⊢;exact⟨hv _ _ h.1,h.2⟩
 | .fn f first aL,v,h=>by simp only[VR]at h ⊢;obtain⟨vs,ws,h1,h2,h3⟩:=h;exact⟨vs,ws,h1,VRs.fR hk hv first vs h2,VRs.fR hk hv aL ws h3⟩
 | .bH t x,v,h=>by simp only[VR]at h ⊢;obtain⟨y,h1,h2⟩:=h;exact⟨y,h1,VR.fR hk hv x y h2⟩
theorem VRs.fR{w w':World}{E E':Env}{lo:Nat}(hk:tv w E w' E')(hv:∀k x,E.val k=some x→E'.val k=some x):
  ∀(xs:List SV) (vs:List Value),VRs w E lo xs vs→VRs w' E' lo xs vs
 | [],[],_=>by simp[VRs]
 |x::xs,v::vs,h=>by simp only[VRs]at h ⊢;exact⟨VR.fR hk hv x v h.1,VRs.fR hk hv xs vs h.2⟩
 | [],_::_,h=>by simp[VRs]at h
 |_::_,[],h=>by simp[VRs]at h
end
theorem VR.mono{w w':World}{E E':Env}{lo:Nat}(hk:hY w E w' E')(hv:∀k x,E.val k=some x→E'.val k=some x)(sv:SV)(v:Value)(h:VR w E lo sv v):VR w' E' lo sv v:=
 VR.fR hk.rep hv sv v h
theorem VRs.mono{w w':World}{E E':Env}{lo:Nat}(hk:hY w E w' E')(hv:∀k x,E.val k=some x→E'.val k=some x)(xs:List SV)(vs:List Value)(h:VRs w E lo xs vs):VRs w' E' lo xs vs:=
 VRs.fR hk.rep hv xs vs h
end Go.TL
namespace Go.TL
mutual
def SV.fz(k:Nat)(vc:SV)(pd:Nat→SV):SV→SV
 | .vec j=>match Nat.beq j k with|true=>vc|false=> .vec j
 | .ptr j off=>match Nat.beq j k with|true=>pd off|false=> .ptr j off
 | .aY j sz i off=>match Nat.beq j k with|true=> .u|false=> .aY j sz i off
 | .ref j=>match Nat.beq j k with|true=>vc|false=> .ref j
 | .agg xs=> .agg (fzs k vc pd xs)
 | .bB xs=> .bB (fzs k vc pd xs)
 | .fn f first aL=> .fn f (fzs k vc pd first) (fzs k vc pd aL)
 | .bH t x=> .bH t (SV.fz k vc pd x)
 | .u=> .u
 | .p x fr=> .p x fr
 | .pd row off fr=> .pd row off fr
 | .pc rows fr=> .pc rows fr
def fzs(k:Nat)(vc:SV)(pd:Nat→SV):List SV→List SV
 | []=>[]
 |x::xs=>SV.fz k vc pd x::fzs k vc pd xs
end
def gO(k:Nat)(vc:SV)(pd:Nat→SV):List (Nat×SV)→List (Nat×SV)
 | []=>[]
 |(t,x)::r=>(t,SV.fz k vc pd x)::gO k vc pd r
def OV.fz(k:Nat)(vc:SV)(pd:Nat→SV):OV→OV
 | .box t cells=> .box t (fzs k vc pd cells)
 |o=>o
def ia(k:Nat)(vc:SV)(pd:Nat→SV):Tab→Tab
 | []=>[]
 |(t,x)::r=>(t,OV.fz k vc pd x)::ia k vc pd r
def St.fz(k:Nat)(vc:SV)(pd:Nat→SV)(σ:St):St:=⟨gO k vc pd σ.az,ia k vc pd (rm σ.tab k)⟩
def St.kill(k:Nat)(σ:St):St:=St.fz k .u (fun _=> .u) σ
def Env.drop(E:Env)(k:Nat):Env:=⟨fun j=>if j=k then none else E.val j,fun b=>if E.own b=some k then none else E.own b,E.ext⟩
theorem na(k:Nat)(vc:SV)(pd:Nat→SV)(l:Tab)(t:Nat):lk (ia k vc pd l) t=(lk l t).map (OV.fz k vc pd):=by
 induction l with
 |nil=>rfl
 |cons h r ih=>obtain⟨j,x⟩:=h;simp only[ia,lk];cases Nat.beq j t<;>simp[ih]
theorem beq_true{a b:Nat}(h:Nat.beq a b=true):a=b:=Cv h
theorem beq_false{a b:Nat}(h:Nat.beq a b=false):a≠b:=fun e=>by subst e;rw[Nat.beq_refl]at h;cases h
def But(k:Nat)(E E':Env):Prop:=∀j x,j≠k→E.val j=some x→E'.val j=some x
mutual
theorem VR.fz{w w':World}{E E':Env}{lo k:Nat}{vc:SV}{pd:Nat→SV}(hk:hY w E w' E')(hv:But k E E')
  (hvc:∀v,E.val k=some v→VR w' E' lo vc v)(hpd:∀off v,VR w E lo (.ptr k off) v→VR w' E' lo (pd off) v):
  ∀(sv:SV) (v:Value),VR w E lo sv v→VR w' E' lo (SV.fz k vc pd sv) v
 | .u,_,_=>by simp[SV.fz,VR]
 | .p x fr,v,h=>by simp only[SV.fz,VR]at h ⊢;exact h.mono (Nat.le_refl _) hk.rep
 | .ptr j off,v,h=>by
  simp only[SV.fz]
  cases hb:Nat.beq j k with
  |true=>have:=beq_true hb;subst this;exact hpd off v h
  |false=>simp only[VR]at h ⊢;obtain⟨b,h1,h2⟩:=h;exact⟨b,hv _ _ (beq_false hb) h1,h2⟩
 | .vec j,v,h=>by
  simp only[SV.fz]
  cases hb:Nat.beq j k with
  |true=>have:=beq_true hb;subst this;simp only[VR]at h;exact hvc v h.1
  |false=>simp only[VR]at h ⊢;exact⟨hv _ _ (beq_false hb) h.1,h.2⟩
 | .aY j sz i off,v,h=>by
  simp only[SV.fz]
  cases hb:Nat.beq j k with
  |true=>simp[VR]
  |false=>simp only[VR]at h ⊢;obtain⟨b,n,c,h1,h2⟩:=h;exact⟨b,n,c,hv _ _ (beq_false hb) h1,h2⟩
 | .pd row off fr,v,h=>by simp only[SV.fz,VR]at h ⊢;obtain⟨b,o,h1,h2⟩:=h;exact⟨b,o,h1,h2.mono (Nat.le_refl _) hk.rep⟩
 | .pc rows fr,v,h=>by simp only[SV.fz,VR]at h ⊢;obtain⟨a,h1,h2⟩:=h;exact⟨a,h1,h2.mono (Nat.le_refl _) hk.rep⟩
 | .agg xs,v,h=>by simp only[SV.fz,VR]at h ⊢;obtain⟨vs,h1,h2⟩:=h;exact⟨vs,h1,VRs.fz hk hv hvc hpd xs vs h2⟩
 | .bB xs,v,h=>by simp only[SV.fz,VR]at h ⊢;obtain⟨vs,h1,h2⟩:=h;exact⟨vs,h1,VRs.fz hk hv hvc hpd xs vs h2⟩
 | .ref j,v,h=>by
  simp only[SV.fz]
  cases hb:Nat.beq j k with
  |true=>have:=beq_true hb;subst this;simp only[VR]at h;exact hvc v h.1
  |false=>simp only[VR]at h ⊢;exact⟨hv _ _ (beq_false hb) h.1,h.2⟩
 | .fn f first aL,v,h=>by
  simp only[SV.fz,VR]at h ⊢
  obtain⟨vs,ws,h1,h2,h3⟩:=h
  exact⟨vs,ws,h1,VRs.fz hk hv hvc hpd first vs h2,VRs.fz hk hv hvc hpd aL ws h3⟩
 | .bH t x,v,h=>by simp only[SV.fz,VR]at h ⊢;obtain⟨y,h1,h2⟩:=h;exact⟨y,h1,VR.fz hk hv hvc hpd x y h2⟩
theorem VRs.fz{w w':World}{E E':Env}{lo k:Nat}{vc:SV}{pd:Nat→SV}(hk:hY w E w' E')(hv:But k E E')
  (hvc:∀v,E.val k=some v→VR w' E' lo vc v)(hpd:∀off v,VR w E lo (.ptr k off) v→VR w' E' lo (pd off) v):
  ∀(xs:List SV) (vs:List Value),VRs w E lo xs vs→VRs w' E' lo (fzs k vc pd xs) vs
 | [],[],_=>by simp[fzs,VRs]
 |x::xs,v::vs,h=>by simp only[fzs,VRs]at h ⊢;exact⟨VR.fz hk hv hvc hpd x v h.1,VRs.fz hk hv hvc hpd xs vs h.2⟩
 | [],_::_,h=>by simp[VRs]at h
 |_::_,[],h=>by simp[VRs]at h
end
theorem OR.fz{w w':World}{E E':Env}{lo k j:Nat}{vc:SV}{pd:Nat→SV}(gX:j≠k)(hk:hY w E w' E')(hv:But k E E')
  (hvc:∀v,E.val k=some v→VR w' E' lo vc v)(hpd:∀off v,VR w E lo (.ptr k off) v→VR w' E' lo (pd off) v)
  (bI:∀b,E'.own b=some j ↔ E.own b=some j)(iy:∀b,E.own b=some j→w'.heap[b]? =w.heap[b]?){ov:OV}(h:OR w E lo j ov):
  OR w' E' lo j (OV.fz k vc pd ov):=by
 cases ov with
 |box t cells=>
  obtain⟨b,vs,h1,h2,h3,h4⟩:=h
  exact⟨b,vs,hv _ _ gX h1,(bI b).2 h2,by rw[iy b h2];exact h3,VRs.fz hk hv hvc hpd _ _ h4⟩
 |vec t sz rows fr=>
  obtain⟨v,xs,h1,h2,h3,h4,h5⟩:=h
  refine⟨v,xs,hv _ _ gX h1,h2,?_,fun g hg=>(bI g).2 (h4 g hg),h5.mono (Nat.le_refl _) hk.rep⟩
  refine⟨h3.1,?_⟩
  rcases h3.2 with hn|⟨g,cap,cur,hv',hb,hg,r⟩
  ·exact .inl hn
  ·exact .inr ⟨g,cap,cur,hv',hb,by rw[iy g (h4 g (by rw[hv'];rfl))];exact hg,r⟩
 |mp a rows fr=>
  obtain⟨b,es,cl,h1,h2,h3,h4⟩:=h
  exact⟨b,es,cl,hv _ _ gX h1,(bI b).2 h2,by rw[iy b h2];exact h3,h4.mono (Nat.le_refl _) hk.rep⟩
 |it a rows fr n on=>
  obtain⟨b,o,h1,h2,h3,h4⟩:=h
  exact⟨b,o,hv _ _ gX h1,(bI b).2 h2,by rw[iy b h2];exact h3,h4.mono (Nat.le_refl _) hk.rep⟩
def St.nL:List Nat→St→St
 | [],σ=>σ
 |k::ks,σ=>St.nL ks (σ.kill k)
def Bb:SV→Option (PV×Bool)
 | .p (.v (.slice none 0 0)) _=>some (.sl [],true)
 | .p (.v x) _=>some (.v x,true)
 | .p (.sl rows) fr=>some (.sl rows,fr)
 | .p (.rm len rows) fr=>some (.rm len rows,fr)
 | .p (.ls rows) fr=>some (.ls rows,fr)
 | .p .un _=>some (.un,true)
 | .fn _ _ _=>some (.un,true)
 | .p (.mp a rows) fr=>some (.mp a rows,fr)
 | .pc rows fr=>some (.sl rows,fr)
 |_=>none
def xO:List SV→Option (List PV×Bool)
 | []=>some ([],true)
 |x::xs=>match Bb x,xO xs with
  |some (y,f),some (ys,fs)=>some (y::ys,f && fs)
  |_,_=>none
def St.r7(k:Nat)(σ:St):Option St:=
 match lk σ.tab k with
 |some (.vec _ _ rows fr)=>some (St.fz k (.p (.sl rows) fr) (fun _=> .u) σ)
 |some (.mp a rows fr)=>some (St.fz k (.p (.mp a rows) fr) (fun _=> .u) σ)
 |some (.box _ cells)=>match xO cells with
  |some (row,fr)=>some (St.fz k .u (fun off=> .pd row off fr) σ)
  |none=>none
 |_=>none
end Go.TL
namespace Go.TL
section
variable {w:World} {E:Env} {lo:Nat}
theorem r8:VRs w E lo [] []:=by simp[VRs]
theorem dI{x:SV}{xs:List SV}{v:Value}{vs:List Value}(h:VR w E lo x v)(k:VRs w E lo xs vs):VRs w E lo (x::xs) (v::vs):=by
 simp only[VRs];exact⟨h,k⟩
theorem bj{x:SV}{xs:List SV}{v:Value}{vs:List Value}:VRs w E lo (x::xs) (v::vs) ↔ VR w E lo x v∧VRs w E lo xs vs:=by
 simp only[VRs]
end
def SV.one:SV→Bool
 | .u| .agg _| .bB _=>false
 |_=>true
theorem Rep.one{w:World}{bad:Nat→Prop}{lo:Nat}{x:PV}{v:Value}(h:Rep w bad lo x v):v.oneCell'=true:=by
 cases h<;>first|assumption|rfl
theorem pB{v:Value}(h:v.oneCell'=true):v.cells= #[v]:=by
 cases v<;>first|rfl|(simp[Value.oneCell']at h)
def cellsOf:SV→Option (List SV)
 | .agg xs=>some xs
 | .bB _=>none
 | .u=>none
 |x=>some [x]
def spl{α:Type}(cs:List α)(off:Nat)(new:List α):List α:=cs.take off++(new++cs.drop (off+new.length))
def St.put(σ:St)(dst:Option Nat)(sv:SV):St:=
 match dst with
 |some d=>⟨(d,sv)::σ.az,σ.tab⟩
 |none=>σ
def St.get(σ:St)(t:Nat):SV:=match lk σ.az t with|some x=>x|none=> .u
def ev(σ:St):Operand→SV
 | .tmp t=>σ.get t
 | .const v=>match v.oneCell' with|true=> .p (.v v) true|false=> .u
 | .func f=> .fn (.func f) [] []
 | .global _=> .u
theorem Bc{w:World}{E:Env}{lo:Nat}{v:Value}(fr:Bool)(h:v.oneCell'=true):VR w E lo (.p (.v v) fr) v:=by simp only[VR];exact .v v h
theorem OR.fR{w w':World}{E E':Env}{lo j:Nat}(hk:tv w E w' E')(hv:∀k x,E.val k=some x→E'.val k=some x)
  (bI:∀b,E'.own b=some j ↔ E.own b=some j)(iy:∀b,E.own b=some j→w'.heap[b]? =w.heap[b]?){ov:OV}(h:OR w E lo j ov):OR w' E' lo j ov:=by
 cases ov with
 |box t cells=>
  obtain⟨b,vs,h1,h2,h3,h4⟩:=h
  exact⟨b,vs,hv _ _ h1,(bI b).2 h2,by rw[iy b h2];exact h3,VRs.fR hk hv _ _ h4⟩
 |vec t sz rows fr=>
  obtain⟨v,xs,h1,h2,h3,h4,h5⟩:=h
  refine⟨v,xs,hv _ _ h1,h2,?_,fun g hg=>(bI g).2 (h4 g hg),h5.mono (Nat.le_refl _) hk⟩
  refine⟨h3.1,?_⟩
  rcases h3.2 with hn|⟨g,cap,cur,hv',hb,hg,r⟩
  ·exact .inl hn
  ·exact .inr ⟨g,cap,cur,hv',hb,by rw[iy g (h4 g (by rw[hv'];rfl))];exact hg,r⟩
 |mp a rows fr=>
  obtain⟨b,es,cl,h1,h2,h3,h4⟩:=h
  exact⟨b,es,cl,hv _ _ h1,(bI b).2 h2,by rw[iy b h2];exact h3,h4.mono (Nat.le_refl _) hk⟩
 |it a rows fr n on=>
  obtain⟨b,o,h1,h2,h3,h4⟩:=h
  exact⟨b,o,hv _ _ h1,(bI b).2 h2,by rw[iy b h2];exact h3,h4.mono (Nat.le_refl _) hk⟩
theorem OR.mono{w w':World}{E E':Env}{lo j:Nat}(hk:hY w E w' E')(hv:∀k x,E.val k=some x→E'.val k=some x)
  (bI:∀b,E'.own b=some j ↔ E.own b=some j)(iy:∀b,E.own b=some j→w'.heap[b]? =w.heap[b]?){ov:OV}(h:OR w E lo j ov):OR w' E' lo j ov:=OR.fR hk.rep hv bI iy h
theorem b9.same{w w':World}{E:Env}{lo:Nat}{T:Tab}(h:b9 w E lo T)(hs:w.heap.size≤w'.heap.size)(hb:∀b,b<w.heap.size→w'.heap[b]? =w.heap[b]?):b9 w' E lo T:=
 ⟨fun k ov hl=>OR.mono ⟨fun b aF ho=>⟨hb b aF,ho⟩,rfl⟩ (fun _ _ h=>h) (fun _=>Iff.rfl) (fun b ho=>hb b (h.own b k ho).1) (h.obj k ov hl),h.dead,
  fun b k ho=>⟨Nat.lt_of_lt_of_le (h.own b k ho).1 hs,(h.own b k ho).2⟩,fun b hx=>⟨Nat.lt_of_lt_of_le (h.ext b hx).1 hs,(h.ext b hx).2⟩⟩
def Env.add(E:Env)(d:Nat)(x:Value)(b:Nat):Env:=⟨fun j=>if j=d then some x else E.val j,fun c=>if c=b then some d else E.own c,E.ext⟩
theorem b9.add{w w':World}{E:Env}{lo d b0:Nat}{x:Value}{T:Tab}{ov:OV}(h:b9 w E lo T)(hd:lk T d=none)(_hs:w.heap.size≤w'.heap.size)
  (hb:∀b,b<w.heap.size→w'.heap[b]? =w.heap[b]?)(h0:w.heap.size≤b0)(h0':b0<w'.heap.size)(aV:lo≤w.heap.size)(hor:OR w' (E.add d x b0) lo d ov):
  b9 w' (E.add d x b0) lo ((d,ov)::T):=by
 have gY:∀b k,E.own b=some k→b≠b0:=fun b k ho=>by have:=(h.own b k ho).1;omega
 refine⟨?_,?_,?_,?_⟩
 ·intro k o hl
  by_cases he:k=d
  ·subst he;rw[aE]at hl;cases hl;exact hor
  ·rw[av _ _ _ _ he]at hl
   refine OR.mono (E:=E) (E':=E.add d x b0) ⟨fun b aF ho=>⟨hb b aF,?_⟩,rfl⟩ (fun j y hj=>?_) (fun b=>?_) (fun b ho=>hb b (h.own b k ho).1) (h.obj k o hl)
   ·simp only[Env.add];rw[if_neg (by omega)];exact ho
   ·simp only[Env.add];rw[if_neg (fun e=>by subst e;rw[h.dead j hd]at hj;cases hj)];exact hj
   ·simp only[Env.add]
    by_cases hbb:b=b0
    ·subst hbb;simp only[if_true]
     exact⟨fun e=>by simp at e;exact absurd e.symm he,fun e=>absurd rfl (gY b k e)⟩
    ·rw[if_neg hbb]
 ·intro k hl
  have he:k≠d:=fun e=>by subst e;rw[aE]at hl;cases hl
  rw[av _ _ _ _ he]at hl
  simp only[Env.add];rw[if_neg he];exact h.dead k hl
 ·intro b k ho
  simp only[Env.add]at ho
  by_cases hbb:b=b0
  ·subst hbb;simp at ho;subst ho;exact⟨h0',by omega,by rw[aE];simp⟩
  ·rw[if_neg hbb]at ho
   have:=h.own b k ho
   refine⟨by omega,this.2.1,?_⟩
   by_cases he:k=d
   ·subst he;rw[aE];simp
   ·rw[av _ _ _ _ he];exact this.2.2
 ·intro b hx
  have:=h.ext b hx
  refine⟨by omega,?_⟩
  simp only[Env.add];rw[if_neg (by omega)];exact this.2
theorem Fr.add{w w':World}{E:Env}{d b0:Nat}{x:Value}(ho:w'.os=w.os)(ht:w'.tape=w.tape)(hu:w'.output=w.output)(hs:w.heap.size≤w'.heap.size)
  (hb:∀b,b<w.heap.size→w'.heap[b]? =w.heap[b]?)(h0:w.heap.size≤b0):Fr w E w' (E.add d x b0):=
 ⟨ho,ht,hu,hs,fun b aF hn=>⟨hb b aF,by simp only[Env.add];rw[if_neg (by omega)];exact hn⟩,rfl⟩
theorem b9.set{w w':World}{E:Env}{lo k:Nat}{T:Tab}{ov:OV}(h:b9 w E lo T)(hk:lk T k≠none)(hs:w'.heap.size=w.heap.size)
  (hb:∀b,E.own b≠some k→w'.heap[b]? =w.heap[b]?)(hor:OR w' E lo k ov):b9 w' E lo ((k,ov)::rm T k):=by
 refine⟨?_,?_,?_,fun b hx=>⟨by have:=(h.ext b hx).1;omega,(h.ext b hx).2⟩⟩
 ·intro j o hl
  by_cases he:j=k
  ·subst he;rw[aE]at hl;cases hl;exact hor
  ·rw[av _ _ _ _ he,dH _ _ _ he]at hl
   exact OR.mono ⟨fun b _ ho=>⟨hb b (by rw[ho];simp),ho⟩,rfl⟩ (fun _ _ h=>h) (fun _=>Iff.rfl) (fun b ho=>hb b (by rw[ho];simp[he])) (h.obj j o hl)
 ·intro j hl
  have he:j≠k:=fun e=>by subst e;rw[aE]at hl;cases hl
  rw[av _ _ _ _ he,dH _ _ _ he]at hl
  exact h.dead j hl
 ·intro b j ho
  have:=h.own b j ho
  refine⟨by omega,this.2.1,?_⟩
  by_cases he:j=k
  ·subst he;rw[aE];simp
  ·rw[av _ _ _ _ he,dH _ _ _ he];exact this.2.2
theorem Fr.set{w w':World}{E:Env}{k:Nat}(ho:w'.os=w.os)(ht:w'.tape=w.tape)(hu:w'.output=w.output)(hs:w'.heap.size=w.heap.size)
  (hb:∀b,E.own b≠some k→w'.heap[b]? =w.heap[b]?):Fr w E w' E:=
 ⟨ho,ht,hu,by omega,fun b _ hn=>⟨hb b (by rw[hn];simp),hn⟩,rfl⟩
end Go.TL
