/- A small symbolic machine over the operations of the program: pure data, objects of one's own, and what one operation makes of them. -/
import Derived.Calls
import Derived.Laws.Cells
import Derived.Laws.AppendOwn
import Derived.Laws.Tables
namespace Go
theorem ZS{α:Type}{a b:α}:(some a=some b)=(a=b):=Option.some.injEq a b
theorem ZT{α β:Type}{a c:α}{b d:β}:((a,b)=(c,d))=(a=c∧b=d):=Prod.mk.injEq a b c d
theorem ZU{a b:Nat}(h:Nat.beq a b=true):a=b:=Nat.eq_of_beq_eq_true h
theorem ZV{α:Type}(y:α){a:α}{l:List α}(h:a∈l):a∈y::l:=List.mem_cons_of_mem y h
theorem ZW{α:Type}{a:α}{l:List α}:a∈a::l:=List.mem_cons_self ..
theorem ZX{a b:Nat}(h:Nat.ble a b=true):a≤b:=Nat.le_of_ble_eq_true h
theorem ZY{α:Type}{l:List α}{i:Nat}{a:α}(h:l[i]?=some a):∃h:i<l.length,l[i]=a:=List.getElem?_eq_some_iff.1 h
theorem ZZ{α:Type}{a:α}{s t:List α}(h:a∈s∨a∈t):a∈s++t:=List.mem_append.2 h
theorem Z0{α:Type}{a:α}{s t:List α}(h:a∈s++t):a∈s∨a∈t:=List.mem_append.1 h
theorem Z1{α:Type}{a b:α}{l:List α}(h:a∈b::l):a=b∨a∈l:=List.mem_cons.1 h
theorem Z2{α:Type}{l:List α}{i:Nat}{a:α}(h:l[i]?=some a):a∈l:=List.mem_of_getElem? h
end Go
namespace Go.TL
inductive PV where
 |v(x:Value)
 |sl(rows:List (List PV))
 |rm(len:Nat)(rows:List (List PV))
 |ls(rows:List (List PV))
 |un
 |mp(a:Option Nat)(rows:List (List PV))
 deriving Inhabited
inductive SV where
 |u
 |p(x:PV)(fr:Bool)
 |ptr(k off:Nat)
 |vec(k:Nat)
 |bn(k sz i off:Nat)
 |pd(row:List PV)(off:Nat)(fr:Bool)
 |pc(rows:List (List PV))(fr:Bool)
 |agg(xs:List SV)
 |bL(xs:List SV)
 |ref(k:Nat)
 |fn(f:Fn)(first aQ:List SV)
 |cL(t:TypeId)(x:SV)
 deriving Inhabited
inductive OV where
 |box(t:TypeId)(cells:List SV)
 |vec(t:TypeId)(sz:Nat)(rows:List (List PV))(fr:Bool)
 |mp(a:Option Nat)(rows:List (List PV))(fr:Bool)
 |it(a:Option Nat)(rows:List (List PV))(fr:Bool)(n:Nat)(on:Bool)
instance:Inhabited OV:=⟨.box 0 []⟩
abbrev Tab:=List (Nat×OV)
structure St where
 ah:List (Nat×SV)
 tab:Tab
 deriving Inhabited
def lk{α:Type}:List (Nat×α)→Nat→Option α
 | [],_=>none
 |(k,x)::r,n=>match Nat.beq k n with
   |true=>some x
   |false=>lk r n
def rm{α:Type}:List (Nat×α)→Nat→List (Nat×α)
 | [],_=>[]
 |(k,x)::r,n=>match Nat.beq k n with
   |true=>rm r n
   |false=>(k,x)::rm r n
theorem lp{α:Type}(l:List (Nat×α))(n:Nat):lk (rm l n) n=none:=by
 induction l with
 |nil=>rfl
 |cons h t ih=>
  obtain⟨k,x⟩:=h
  simp only[rm]
  cases hb:Nat.beq k n with
  |true=>exact ih
  |false=>simp only[lk,hb];exact ih
theorem cM{α:Type}(l:List (Nat×α))(n m:Nat)(h:m≠n):lk (rm l n) m=lk l m:=by
 induction l with
 |nil=>rfl
 |cons hd t ih=>
  obtain⟨k,x⟩:=hd
  simp only[rm]
  cases hb:Nat.beq k n with
  |true=>
   have hk:k=n:=ZU hb
   have:Nat.beq k m=false:=by
    cases hq:Nat.beq k m with
    |false=>rfl
    |true=>exact absurd ((ZU hq).symm.trans hk) h
   simp only[lk,this];exact ih
  |false=>
   simp only[lk]
   cases Nat.beq k m<;>first|rfl|exact ih
theorem aB{α:Type}(l:List (Nat×α))(n:Nat)(x:α):lk ((n,x)::l) n=some x:=by
 simp[lk,Nat.beq_refl]
theorem aw{α:Type}(l:List (Nat×α))(n m:Nat)(x:α)(h:m≠n):lk ((n,x)::l) m=lk l m:=by
 have:Nat.beq n m=false:=by
  cases hq:Nat.beq n m with
  |false=>rfl
  |true=>exact absurd (ZU hq).symm h
 simp[lk,this]
structure Env where
 val:Nat→Option Value
 own:Nat→Option Nat
 ext:Nat→Prop
def ez(a:Option Nat)(e:MapEntry):Option (List Value):=
 match a,e.val with
 |none,v=>some [e.key,v]
 |some n,.agg cs=>match decide (cs.size=n)with
  |true=>some (e.key::cs.toList)
  |false=>none
 |some _,_=>none
def U2(a:Option Nat)(rows:List (List PV))(es:Array MapEntry)(clock:Nat)(f:Nat→Nat→Value):Prop:=
 es.size=rows.length∧(∀(i:Nat) (row:List PV) (e:MapEntry),rows[i]? =some row→es[i]? =some e→∃vs,ez a e=some vs∧∀(j:Nat) (x:PV),row[j]? =some x→vs[j]? =some (f i j))∧∀e∈es.toList,e.born<clock
inductive Rep(w:World)(bad:Nat→Prop)(lo:Nat):PV→Value→Prop
 |v (x:Value) (h:x.oneCell'=true):Rep w bad lo (.v x) x
 |nil (b:Option Addr) (c:Nat):Rep w bad lo (.sl []) (.slice b 0 c)
 |sl (rows:List (List PV)) (b off cap:Nat) (cs:Array Value) (t:TypeId) (fz:Nat×Nat) (sz:Nat) (f:Nat→Nat→Value)
   (eR:rows.length≤cap) (hb:w.heap[b]? =some (.cells cs t fz)) (bY:¬ bad b) (aR:lo≤b) (gz:0<lo→fz=(0,0))
   (hlen:∀(i:Nat) (row:List PV),rows[i]? =some row→row.length=sz)
   (hc:∀(i:Nat) (row:List PV) (j:Nat) (x:PV),rows[i]? =some row→row[j]? =some x→cs[off+i*sz+j]? =some (f i j))
   (hr:∀(i:Nat) (row:List PV) (j:Nat) (x:PV),rows[i]? =some row→row[j]? =some x→Rep w bad lo x (f i j)):
   Rep w bad lo (.sl rows) (.slice (some ⟨b,off,none⟩) rows.length cap)
 |tH:Rep w bad lo (.rm 0 []) (.slice none 0 0)
 |rm (len:Nat) (rows:List (List PV)) (b off:Nat) (cs:Array Value) (t:TypeId) (sz:Nat) (f:Nat→Nat→Value)
   (eR:len≤rows.length) (hb:w.heap[b]? =some (.cells cs t (0,0))) (bY:¬ bad b) (aR:lo≤b)
   (hlen:∀(i:Nat) (row:List PV),rows[i]? =some row→row.length=sz)
   (hc:∀(i:Nat) (row:List PV) (j:Nat) (x:PV),rows[i]? =some row→row[j]? =some x→cs[off+i*sz+j]? =some (f i j))
   (hr:∀(i:Nat) (row:List PV) (j:Nat) (x:PV),rows[i]? =some row→row[j]? =some x→Rep w bad lo x (f i j)):
   Rep w bad lo (.rm len rows) (.slice (some ⟨b,off,none⟩) len rows.length)
 |pN:Rep w bad lo (.ls []) (.pointer none)
 |un (x:Value) (h:x.oneCell'=true):Rep w bad lo .un x
 |ls (row:List PV) (rows:List (List PV)) (b o:Nat) (cs:Array Value) (t:TypeId) (fz:Nat×Nat) (f:Nat→Value)
   (hb:w.heap[b]? =some (.cells cs t fz)) (bY:¬ bad b) (aR:lo≤b)
   (hc:∀(j:Nat) (x:PV),(row++ [.ls rows])[j]? =some x→cs[o+j]? =some (f j))
   (hr:∀(j:Nat) (x:PV),(row++ [.ls rows])[j]? =some x→Rep w bad lo x (f j)):Rep w bad lo (.ls (row::rows)) (.pointer (some ⟨b,o,none⟩))
 |lD (a:Option Nat):Rep w bad lo (.mp a []) (.map none)
 |mp (a:Option Nat) (rows:List (List PV)) (b:Nat) (es:Array MapEntry) (clock:Nat) (f:Nat→Nat→Value) (hb:w.heap[b]? =some (.map es clock)) (bY:¬ bad b) (aR:lo≤b)
   (hc:U2 a rows es clock f) (hr:∀(i:Nat) (row:List PV) (j:Nat) (x:PV),rows[i]? =some row→row[j]? =some x→Rep w bad lo x (f i j)):Rep w bad lo (.mp a rows) (.map (some b))
def Env.bad(E:Env)(b:Nat):Prop:=E.own b≠none∨E.ext b
def yK(w:World)(bad:Nat→Prop)(lo:Nat)(row:List PV)(b o:Nat):Prop:=
 ∃(cs:Array Value) (t:TypeId) (fz:Nat×Nat) (f:Nat→Value),w.heap[b]? =some (.cells cs t fz)∧¬ bad b∧lo≤b∧
   (∀(j:Nat) (x:PV),row[j]? =some x→cs[o+j]? =some (f j))∧(∀(j:Nat) (x:PV),row[j]? =some x→Rep w bad lo x (f j))
def flo(lo:Nat):Bool→Nat
 |true=>lo
 |false=>0
mutual
def VR(w:World)(E:Env)(lo:Nat):SV→Value→Prop
 | .u,_=>True
 | .p x fr,v=>Rep w E.bad (flo lo fr) x v
 | .ptr k off,v=>∃b,E.val k=some (.pointer (some ⟨b,0,none⟩))∧v= .pointer (some ⟨b,off,none⟩)
 | .vec k,v=>E.val k=some v∧∃a n c,v= .slice a n c
 | .bn k sz i off,v=>∃b n c,E.val k=some (.slice (some ⟨b,0,none⟩) n c)∧v= .pointer (some ⟨b,i*sz+off,none⟩)
 | .pd row off fr,v=>∃b o,v= .pointer (some ⟨b,o+off,none⟩)∧yK w E.bad (flo lo fr) row b o
 | .pc rows fr,v=>∃a,v= .slice a rows.length rows.length∧Rep w E.bad (flo lo fr) (.sl rows) v
 | .agg xs,v=>∃vs:List Value,v= .agg vs.toArray∧VRs w E lo xs vs
 | .bL xs,v=>∃vs:List Value,v= .tuple vs.toArray∧VRs w E lo xs vs
 | .ref k,v=>E.val k=some v∧v.oneCell'=true
 | .fn f first aQ,v=>∃vs ws:List Value,v= .func f vs.toArray ws.toArray∧VRs w E lo first vs∧VRs w E lo aQ ws
 | .cL t x,v=>∃y,v= .iface t y∧VR w E lo x y
def VRs(w:World)(E:Env)(lo:Nat):List SV→List Value→Prop
 | [],[]=>True
 |x::xs,v::vs=>VR w E lo x v∧VRs w E lo xs vs
 |_,_=>False
end
def de(w:World)(bad:Nat→Prop)(lo:Nat)(sz:Nat)(rows:List (List PV))(xs:List Value):Prop:=
 ∃f:Nat→Nat→Value,(∀(i:Nat) (row:List PV),rows[i]? =some row→row.length=sz)∧
  (∀(i:Nat) (row:List PV) (j:Nat) (x:PV),rows[i]? =some row→row[j]? =some x→xs[i*sz+j]? =some (f i j))∧
  (∀(i:Nat) (row:List PV) (j:Nat) (x:PV),rows[i]? =some row→row[j]? =some x→Rep w bad lo x (f i j))
def dF(w:World)(bad:Nat→Prop)(lo:Nat)(a:Option Nat)(rows:List (List PV))(es:Array MapEntry)(clock:Nat):Prop:=
 ∃f:Nat→Nat→Value,U2 a rows es clock f∧∀(i:Nat) (row:List PV) (j:Nat) (x:PV),rows[i]? =some row→row[j]? =some x→Rep w bad lo x (f i j)
def yL(w:World)(bad:Nat→Prop)(lo:Nat)(a:Option Nat)(rows:List (List PV))(n:Nat)(on:Bool)(o:Obj):Prop:=
 ∃mp since seen last,o= .mapIter mp since seen last∧Rep w bad lo (.mp a rows) (.map mp)∧(mp=none→on=false)∧
  ∀m,mp=some m→∃es clock,w.heap[m]? =some (.map es clock)∧¬ bad m∧since=clock∧last=clock∧(es.filter fun e=> !seen.contains e.born).size≤n∧
   (on=true→∃s,seen.back? =some s∧∃e∈es.toList,e.born=s)
def OR(w:World)(E:Env)(lo:Nat)(k:Nat):OV→Prop
 | .box t cells=>∃b vs,E.val k=some (.pointer (some ⟨b,0,none⟩))∧E.own b=some k∧
   w.heap[b]? =some (.cells (List.toArray vs) t (0,0))∧VRs w E lo cells vs
 | .vec t sz rows fr=>∃v xs,E.val k=some v∧0<sz∧w.ownsRow 0 t sz v rows.length xs∧(∀g,v.ownBlock=some g→E.own g=some k)∧
   de w E.bad (flo lo fr) sz rows xs
 | .mp a rows fr=>∃b es clock,E.val k=some (.map (some b))∧E.own b=some k∧w.heap[b]? =some (.map es clock)∧dF w E.bad (flo lo fr) a rows es clock
 | .it a rows fr n on=>∃b o,E.val k=some (.pointer (some ⟨b,0,none⟩))∧E.own b=some k∧w.heap[b]? =some o∧yL w E.bad (flo lo fr) a rows n on o
structure bV(w:World)(E:Env)(lo:Nat)(T:Tab):Prop where
 obj:∀k ov,lk T k=some ov→OR w E lo k ov
 dead:∀k,lk T k=none→E.val k=none
 own:∀b k,E.own b=some k→b<w.heap.size∧lo≤b∧lk T k≠none
 ext:∀b,E.ext b→b<w.heap.size∧E.own b=none
structure Fr(w:World)(E:Env)(w':World)(E':Env):Prop where
 os:w'.os=w.os
 tape:w'.tape=w.tape
 output:w'.output=w.output
 size:w.heap.size≤w'.heap.size
 keep:∀b,b<w.heap.size→E.own b=none→w'.heap[b]? =w.heap[b]? ∧E'.own b=none
 ext:E'.ext=E.ext
def KH(P:Program)(lo:Nat)(w:World):Prop:=
 ∀g,P.globalNamed "internal/strconv.uint64pow10" =some g→g<lo∧∃cs t fz,w.heap[g]? =some (.cells cs t fz)∧cs=((List.range 20).map fun i=>Value.int .u64 (10 ^ i)).toArray
structure tL(P:Program)(lo:Nat)(w:World)(E:Env):Prop where
 le:lo≤w.heap.size
 laid:KH P lo w
 own:∀b,b<lo→E.own b=none
theorem tL.fr{P:Program}{lo:Nat}{w w':World}{E E':Env}(h:tL P lo w E)(k:Fr w E w' E'):tL P lo w' E':=
 ⟨Nat.le_trans h.le k.size,fun g hg=>by
  obtain⟨h1,cs,t,fz,h2,h3⟩:=h.laid g hg
  exact⟨h1,cs,t,fz,by rw[(k.keep g (Nat.lt_of_lt_of_le h1 h.le) (h.own g h1)).1];exact h2,h3⟩,fun b hb=>(k.keep b (Nat.lt_of_lt_of_le hb h.le) (h.own b hb)).2⟩
structure Ctx where
 P:Program
 lo:Nat
 w0:World
 E0:Env
 n:Nat
structure aC(C:Ctx)(E:Env)(σ:St)(a:Act)(w:World):Prop where
 size:a.tmps.size=C.n
 defers:a.defers=[]
 ah:∀t sv,lk σ.ah t=some sv→VR w E C.lo sv (a.tmps.getD t undef)
 tab:bV w E C.lo σ.tab
 fr:Fr C.w0 C.E0 w E
 lo:tL C.P C.lo C.w0 C.E0
 ids:∀k,C.E0.val k≠none→C.n≤k
 lL:∀k x,C.E0.val k=some x→E.val k=some x∨E.val k=none
def Holds(C:Ctx)(σ:St)(a:Act)(w:World):Prop:=∃E,aC C E σ a w
theorem Fr.refl(w:World)(E:Env):Fr w E w E:=⟨rfl,rfl,rfl,Nat.le_refl _,fun _ _ h=>⟨rfl,h⟩,rfl⟩
theorem Fr.trans{w w1 w2:World}{E E1 E2:Env}(h:Fr w E w1 E1)(k:Fr w1 E1 w2 E2):Fr w E w2 E2:=
 ⟨k.os.trans h.os,k.tape.trans h.tape,k.output.trans h.output,Nat.le_trans h.size k.size,fun b hb ho=>
  have h1:=h.keep b hb ho
  have h2:=k.keep b (Nat.lt_of_lt_of_le hb h.size) h1.2
  ⟨h2.1.trans h1.1,h2.2⟩,k.ext.trans h.ext⟩
theorem an{w:World}{b:Nat}{o:Obj}(h:w.heap[b]? =some o):b<w.heap.size:=(Array.getElem?_eq_some_iff.1 h).1
theorem yM{E:Env}{b:Nat}(h:¬ E.bad b):E.own b=none∧¬ E.ext b:=by
 unfold Env.bad at h
 refine⟨?_,fun hx=>h (.inr hx)⟩
 cases hb:E.own b with
 |none=>rfl
 |some k=>exact absurd (.inl (by rw[hb];simp)) h
theorem lU{E:Env}{b:Nat}(h:E.own b=none)(hx:¬ E.ext b):¬ E.bad b:=by
 intro hb;rcases hb with hb|hb
 ·exact hb h
 ·exact hx hb
theorem Rep.mono{w w':World}{bad oe:Nat→Prop}{lo jb:Nat}(hl:jb≤lo)
  (h:∀b o,w.heap[b]? =some o→¬ bad b→w'.heap[b]? =some o∧¬ oe b){x:PV}{v:Value}(r:Rep w bad lo x v):Rep w' oe jb x v:=by
 induction r with
 |v x hx=>exact .v x hx
 |nil b c=>exact .nil b c
 |sl rows b off cap cs t fz sz f eR hb bY aR gz hlen hc hr ih=>
  exact .sl rows b off cap cs t fz sz f eR (h b _ hb bY).1 (h b _ hb bY).2 (Nat.le_trans hl aR) (fun h0=>gz (Nat.lt_of_lt_of_le h0 hl)) hlen hc ih
 |tH=>exact .tH
 |rm len rows b off cs t sz f eR hb bY aR hlen hc hr ih=>
  exact .rm len rows b off cs t sz f eR (h b _ hb bY).1 (h b _ hb bY).2 (Nat.le_trans hl aR) hlen hc ih
 |pN=>exact .pN
 |un x hx=>exact .un x hx
 |ls row rows b o cs t fz f hb bY aR hc hr ih=>exact .ls row rows b o cs t fz f (h b _ hb bY).1 (h b _ hb bY).2 (Nat.le_trans hl aR) hc ih
 |lD a=>exact .lD a
 |mp a rows b es clock f hb bY aR hc hr ih=>exact .mp a rows b es clock f (h b _ hb bY).1 (h b _ hb bY).2 (Nat.le_trans hl aR) hc ih
theorem yK.mono{w w':World}{bad oe:Nat→Prop}{lo jb:Nat}(hl:jb≤lo)
  (h:∀b o,w.heap[b]? =some o→¬ bad b→w'.heap[b]? =some o∧¬ oe b){row:List PV}{b o:Nat}(r:yK w bad lo row b o):yK w' oe jb row b o:=by
 obtain⟨cs,t,fz,f,hb,bY,aR,hc,hr⟩:=r
 exact⟨cs,t,fz,f,(h b _ hb bY).1,(h b _ hb bY).2,Nat.le_trans hl aR,hc,fun j x hx=>(hr j x hx).mono hl h⟩
theorem dF.mono{w w':World}{bad oe:Nat→Prop}{lo jb:Nat}(hl:jb≤lo){a:Option Nat}{rows:List (List PV)}{es:Array MapEntry}{clock:Nat}
  (h:∀b o,w.heap[b]? =some o→¬ bad b→w'.heap[b]? =some o∧¬ oe b)(r:dF w bad lo a rows es clock):dF w' oe jb a rows es clock:=by
 obtain⟨f,h1,h2⟩:=r
 exact⟨f,h1,fun i row j x hi hj=>(h2 i row j x hi hj).mono hl h⟩
theorem yL.mono{w w':World}{bad oe:Nat→Prop}{lo jb:Nat}(hl:jb≤lo){a:Option Nat}{rows:List (List PV)}{n:Nat}{on:Bool}{o:Obj}
  (h:∀b o,w.heap[b]? =some o→¬ bad b→w'.heap[b]? =some o∧¬ oe b)(r:yL w bad lo a rows n on o):yL w' oe jb a rows n on o:=by
 obtain⟨mp,since,seen,last,h1,h2,h3,h4⟩:=r
 refine⟨mp,since,seen,last,h1,h2.mono hl h,h3,fun m hm=>?_⟩
 obtain⟨es,cl,e1,e2,e3⟩:=h4 m hm
 exact⟨es,cl,(h m _ e1 e2).1,(h m _ e1 e2).2,e3⟩
theorem de.mono{w w':World}{bad oe:Nat→Prop}{lo jb:Nat}(hl:jb≤lo){sz:Nat}{rows:List (List PV)}{xs:List Value}
  (h:∀b o,w.heap[b]? =some o→¬ bad b→w'.heap[b]? =some o∧¬ oe b)(r:de w bad lo sz rows xs):de w' oe jb sz rows xs:=by
 obtain⟨f,h1,h2,h3⟩:=r
 exact⟨f,h1,h2,fun i row j x hi hj=>(h3 i row j x hi hj).mono hl h⟩
structure eL(w:World)(E:Env)(w':World)(E':Env):Prop where
 keep:∀b,b<w.heap.size→E.own b=none→w'.heap[b]? =w.heap[b]? ∧E'.own b=none
 ext:E'.ext=E.ext
theorem eL.rep{w w':World}{E E':Env}(h:eL w E w' E'):∀b o,w.heap[b]? =some o→¬ E.bad b→w'.heap[b]? =some o∧¬ E'.bad b:=by
 intro b o hb bY
 have hn:=yM bY
 have:=h.keep b (an hb) hn.1
 exact⟨by rw[this.1];exact hb,lU this.2 (by rw[h.ext];exact hn.2)⟩
theorem Fr.keeps{w w':World}{E E':Env}(h:Fr w E w' E'):eL w E w' E':=⟨h.keep,h.ext⟩
def FR(w:World)(E:Env)(w':World)(E':Env):Prop:=∀b o,w.heap[b]? =some o→¬ E.bad b→w'.heap[b]? =some o∧¬ E'.bad b
mutual
theorem VR.jA{w w':World}{E E':Env}{lo:Nat}(hk:FR w E w' E')(hv:∀k x,E.val k=some x→E'.val k=some x):
  ∀(sv:SV) (v:Value),VR w E lo sv v→VR w' E' lo sv v
 | .u,_,_=>by simp[VR]
 | .p x fr,v,h=>by simp only[VR]at h ⊢;exact h.mono (Nat.le_refl _) hk
 | .ptr k off,v,h=>by simp only[VR]at h ⊢;obtain⟨b,h1,h2⟩:=h;exact⟨b,hv _ _ h1,h2⟩
 | .vec k,v,h=>by simp only[VR]at h ⊢;exact⟨hv _ _ h.1,h.2⟩
 | .bn k sz i off,v,h=>by simp only[VR]at h ⊢;obtain⟨b,n,c,h1,h2⟩:=h;exact⟨b,n,c,hv _ _ h1,h2⟩
 | .pd row off fr,v,h=>by simp only[VR]at h ⊢;obtain⟨b,o,h1,h2⟩:=h;exact⟨b,o,h1,h2.mono (Nat.le_refl _) hk⟩
 | .pc rows fr,v,h=>by simp only[VR]at h ⊢;obtain⟨a,h1,h2⟩:=h;exact⟨a,h1,h2.mono (Nat.le_refl _) hk⟩
 | .agg xs,v,h=>by simp only[VR]at h ⊢;obtain⟨vs,h1,h2⟩:=h;exact⟨vs,h1,VRs.jA hk hv xs vs h2⟩
 | .bL xs,v,h=>by simp only[VR]at h ⊢;obtain⟨vs,h1,h2⟩:=h;exact⟨vs,h1,VRs.jA hk hv xs vs h2⟩
 | .ref k,v,h=>by simp only[VR]at h ⊢;exact⟨hv _ _ h.1,h.2⟩
 | .fn f first aQ,v,h=>by simp only[VR]at h ⊢;obtain⟨vs,ws,h1,h2,h3⟩:=h;exact⟨vs,ws,h1,VRs.jA hk hv first vs h2,VRs.jA hk hv aQ ws h3⟩
 | .cL t x,v,h=>by simp only[VR]at h ⊢;obtain⟨y,h1,h2⟩:=h;exact⟨y,h1,VR.jA hk hv x y h2⟩
theorem VRs.jA{w w':World}{E E':Env}{lo:Nat}(hk:FR w E w' E')(hv:∀k x,E.val k=some x→E'.val k=some x):
  ∀(xs:List SV) (vs:List Value),VRs w E lo xs vs→VRs w' E' lo xs vs
 | [],[],_=>by simp[VRs]
 |x::xs,v::vs,h=>by simp only[VRs]at h ⊢;exact⟨VR.jA hk hv x v h.1,VRs.jA hk hv xs vs h.2⟩
 | [],_::_,h=>by simp[VRs]at h
 |_::_,[],h=>by simp[VRs]at h
end
theorem VR.mono{w w':World}{E E':Env}{lo:Nat}(hk:eL w E w' E')(hv:∀k x,E.val k=some x→E'.val k=some x)(sv:SV)(v:Value)(h:VR w E lo sv v):VR w' E' lo sv v:=
 VR.jA hk.rep hv sv v h
theorem VRs.mono{w w':World}{E E':Env}{lo:Nat}(hk:eL w E w' E')(hv:∀k x,E.val k=some x→E'.val k=some x)(xs:List SV)(vs:List Value)(h:VRs w E lo xs vs):VRs w' E' lo xs vs:=
 VRs.jA hk.rep hv xs vs h
end Go.TL
namespace Go.TL
mutual
def SV.fz(k:Nat)(vc:SV)(pd:Nat→SV):SV→SV
 | .vec j=>match Nat.beq j k with|true=>vc|false=> .vec j
 | .ptr j off=>match Nat.beq j k with|true=>pd off|false=> .ptr j off
 | .bn j sz i off=>match Nat.beq j k with|true=> .u|false=> .bn j sz i off
 | .ref j=>match Nat.beq j k with|true=>vc|false=> .ref j
 | .agg xs=> .agg (fzs k vc pd xs)
 | .bL xs=> .bL (fzs k vc pd xs)
 | .fn f first aQ=> .fn f (fzs k vc pd first) (fzs k vc pd aQ)
 | .cL t x=> .cL t (SV.fz k vc pd x)
 | .u=> .u
 | .p x fr=> .p x fr
 | .pd row off fr=> .pd row off fr
 | .pc rows fr=> .pc rows fr
def fzs(k:Nat)(vc:SV)(pd:Nat→SV):List SV→List SV
 | []=>[]
 |x::xs=>SV.fz k vc pd x::fzs k vc pd xs
end
def gP(k:Nat)(vc:SV)(pd:Nat→SV):List (Nat×SV)→List (Nat×SV)
 | []=>[]
 |(t,x)::r=>(t,SV.fz k vc pd x)::gP k vc pd r
def OV.fz(k:Nat)(vc:SV)(pd:Nat→SV):OV→OV
 | .box t cells=> .box t (fzs k vc pd cells)
 |o=>o
def nK(k:Nat)(vc:SV)(pd:Nat→SV):Tab→Tab
 | []=>[]
 |(t,x)::r=>(t,OV.fz k vc pd x)::nK k vc pd r
def St.fz(k:Nat)(vc:SV)(pd:Nat→SV)(σ:St):St:=⟨gP k vc pd σ.ah,nK k vc pd (rm σ.tab k)⟩
def St.kill(k:Nat)(σ:St):St:=St.fz k .u (fun _=> .u) σ
def Env.drop(E:Env)(k:Nat):Env:=⟨fun j=>if j=k then none else E.val j,fun b=>if E.own b=some k then none else E.own b,E.ext⟩
theorem vv(k:Nat)(vc:SV)(pd:Nat→SV)(l:List (Nat×SV))(t:Nat):lk (gP k vc pd l) t=(lk l t).map (SV.fz k vc pd):=by
 induction l with
 |nil=>rfl
 |cons h r ih=>obtain⟨j,x⟩:=h;simp only[gP,lk];cases Nat.beq j t<;>simp[ih]
theorem jB(k:Nat)(vc:SV)(pd:Nat→SV)(l:Tab)(t:Nat):lk (nK k vc pd l) t=(lk l t).map (OV.fz k vc pd):=by
 induction l with
 |nil=>rfl
 |cons h r ih=>obtain⟨j,x⟩:=h;simp only[nK,lk];cases Nat.beq j t<;>simp[ih]
theorem Env.qx(w:World)(E:Env)(k:Nat):eL w E w (E.drop k):=⟨fun b _ h=>⟨rfl,by simp[Env.drop,h]⟩,rfl⟩
theorem beq_true{a b:Nat}(h:Nat.beq a b=true):a=b:=ZU h
theorem beq_false{a b:Nat}(h:Nat.beq a b=false):a≠b:=fun e=>by subst e;rw[Nat.beq_refl]at h;cases h
def But(k:Nat)(E E':Env):Prop:=∀j x,j≠k→E.val j=some x→E'.val j=some x
mutual
theorem VR.fz{w w':World}{E E':Env}{lo k:Nat}{vc:SV}{pd:Nat→SV}(hk:eL w E w' E')(hv:But k E E')
  (cU:∀v,E.val k=some v→VR w' E' lo vc v)(hpd:∀off v,VR w E lo (.ptr k off) v→VR w' E' lo (pd off) v):
  ∀(sv:SV) (v:Value),VR w E lo sv v→VR w' E' lo (SV.fz k vc pd sv) v
 | .u,_,_=>by simp[SV.fz,VR]
 | .p x fr,v,h=>by simp only[SV.fz,VR]at h ⊢;exact h.mono (Nat.le_refl _) hk.rep
 | .ptr j off,v,h=>by
  simp only[SV.fz]
  cases hb:Nat.beq j k with
  |true=>have:=beq_true hb;subst this;exact hpd off v h
  |false=>simp only[VR]at h ⊢;obtain⟨b,h1,h2⟩:=h;exact⟨b,hv _ _ (beq_false hb) h1,h2⟩
 | .vec j,v,h=>by
  simp only[SV.fz]
  cases hb:Nat.beq j k with
  |true=>have:=beq_true hb;subst this;simp only[VR]at h;exact cU v h.1
  |false=>simp only[VR]at h ⊢;exact⟨hv _ _ (beq_false hb) h.1,h.2⟩
 | .bn j sz i off,v,h=>by
  simp only[SV.fz]
  cases hb:Nat.beq j k with
  |true=>simp[VR]
  |false=>simp only[VR]at h ⊢;obtain⟨b,n,c,h1,h2⟩:=h;exact⟨b,n,c,hv _ _ (beq_false hb) h1,h2⟩
 | .pd row off fr,v,h=>by simp only[SV.fz,VR]at h ⊢;obtain⟨b,o,h1,h2⟩:=h;exact⟨b,o,h1,h2.mono (Nat.le_refl _) hk.rep⟩
 | .pc rows fr,v,h=>by simp only[SV.fz,VR]at h ⊢;obtain⟨a,h1,h2⟩:=h;exact⟨a,h1,h2.mono (Nat.le_refl _) hk.rep⟩
 | .agg xs,v,h=>by simp only[SV.fz,VR]at h ⊢;obtain⟨vs,h1,h2⟩:=h;exact⟨vs,h1,VRs.fz hk hv cU hpd xs vs h2⟩
 | .bL xs,v,h=>by simp only[SV.fz,VR]at h ⊢;obtain⟨vs,h1,h2⟩:=h;exact⟨vs,h1,VRs.fz hk hv cU hpd xs vs h2⟩
 | .ref j,v,h=>by
  simp only[SV.fz]
  cases hb:Nat.beq j k with
  |true=>have:=beq_true hb;subst this;simp only[VR]at h;exact cU v h.1
  |false=>simp only[VR]at h ⊢;exact⟨hv _ _ (beq_false hb) h.1,h.2⟩
 | .fn f first aQ,v,h=>by
  simp only[SV.fz,VR]at h ⊢
  obtain⟨vs,ws,h1,h2,h3⟩:=h
  exact⟨vs,ws,h1,VRs.fz hk hv cU hpd first vs h2,VRs.fz hk hv cU hpd aQ ws h3⟩
 | .cL t x,v,h=>by simp only[SV.fz,VR]at h ⊢;obtain⟨y,h1,h2⟩:=h;exact⟨y,h1,VR.fz hk hv cU hpd x y h2⟩
theorem VRs.fz{w w':World}{E E':Env}{lo k:Nat}{vc:SV}{pd:Nat→SV}(hk:eL w E w' E')(hv:But k E E')
  (cU:∀v,E.val k=some v→VR w' E' lo vc v)(hpd:∀off v,VR w E lo (.ptr k off) v→VR w' E' lo (pd off) v):
  ∀(xs:List SV) (vs:List Value),VRs w E lo xs vs→VRs w' E' lo (fzs k vc pd xs) vs
 | [],[],_=>by simp[fzs,VRs]
 |x::xs,v::vs,h=>by simp only[fzs,VRs]at h ⊢;exact⟨VR.fz hk hv cU hpd x v h.1,VRs.fz hk hv cU hpd xs vs h.2⟩
 | [],_::_,h=>by simp[VRs]at h
 |_::_,[],h=>by simp[VRs]at h
end
theorem OR.fz{w w':World}{E E':Env}{lo k j:Nat}{vc:SV}{pd:Nat→SV}(eI:j≠k)(hk:eL w E w' E')(hv:But k E E')
  (cU:∀v,E.val k=some v→VR w' E' lo vc v)(hpd:∀off v,VR w E lo (.ptr k off) v→VR w' E' lo (pd off) v)
  (cD:∀b,E'.own b=some j ↔ E.own b=some j)(og:∀b,E.own b=some j→w'.heap[b]? =w.heap[b]?){ov:OV}(h:OR w E lo j ov):
  OR w' E' lo j (OV.fz k vc pd ov):=by
 cases ov with
 |box t cells=>
  obtain⟨b,vs,h1,h2,h3,h4⟩:=h
  exact⟨b,vs,hv _ _ eI h1,(cD b).2 h2,by rw[og b h2];exact h3,VRs.fz hk hv cU hpd _ _ h4⟩
 |vec t sz rows fr=>
  obtain⟨v,xs,h1,h2,h3,h4,h5⟩:=h
  refine⟨v,xs,hv _ _ eI h1,h2,?_,fun g hg=>(cD g).2 (h4 g hg),h5.mono (Nat.le_refl _) hk.rep⟩
  refine⟨h3.1,?_⟩
  rcases h3.2 with hn|⟨g,cap,cur,lH,hb,hg,r⟩
  ·exact .inl hn
  ·exact .inr ⟨g,cap,cur,lH,hb,by rw[og g (h4 g (by rw[lH];rfl))];exact hg,r⟩
 |mp a rows fr=>
  obtain⟨b,es,cl,h1,h2,h3,h4⟩:=h
  exact⟨b,es,cl,hv _ _ eI h1,(cD b).2 h2,by rw[og b h2];exact h3,h4.mono (Nat.le_refl _) hk.rep⟩
 |it a rows fr n on=>
  obtain⟨b,o,h1,h2,h3,h4⟩:=h
  exact⟨b,o,hv _ _ eI h1,(cD b).2 h2,by rw[og b h2];exact h3,h4.mono (Nat.le_refl _) hk.rep⟩
theorem St.vw{C:Ctx}{σ:St}{a:Act}{w:World}{E:Env}{k:Nat}{vc:SV}{pd:Nat→SV}(h:aC C E σ a w)
  (cU:∀v,E.val k=some v→VR w (E.drop k) C.lo vc v)(hpd:∀off v,VR w E C.lo (.ptr k off) v→VR w (E.drop k) C.lo (pd off) v):
  aC C (E.drop k) (St.fz k vc pd σ) a w:=by
 have hk:=Env.qx w E k
 have hv:But k E (E.drop k):=fun j x hj hx=>by simp[Env.drop,hj,hx]
 have howned:∀j,j≠k→∀b,(E.drop k).own b=some j ↔ E.own b=some j:=by
  intro j hj b
  simp only[Env.drop]
  split
  ·rename_i hb
   constructor
   ·intro h;cases h
   ·intro h;rw[hb]at h;exact absurd (Option.some.inj h).symm hj
  ·exact Iff.rfl
 refine⟨h.size,h.defers,?_,⟨?_,?_,?_,?_⟩,⟨h.fr.os,h.fr.tape,h.fr.output,h.fr.size,?_,h.fr.ext⟩,h.lo,h.ids,?_⟩
 ·intro t sv hl
  simp only[St.fz,vv]at hl
  cases hq:lk σ.ah t with
  |none=>simp[hq]at hl
  |some s=>
   simp[hq]at hl;subst hl
   exact VR.fz hk hv cU hpd s _ (h.ah t s hq)
 ·intro j ov hl
  simp only[St.fz,jB]at hl
  by_cases hj:j=k
  ·subst hj;rw[lp]at hl;simp at hl
  ·rw[cM _ _ _ hj]at hl
   cases hq:lk σ.tab j with
   |none=>simp[hq]at hl
   |some o=>
    simp[hq]at hl;subst hl
    exact OR.fz hj hk hv cU hpd (howned j hj) (fun _ _=>rfl) (h.tab.obj j o hq)
 ·intro j hl
  simp only[St.fz,jB]at hl
  by_cases hj:j=k
  ·subst hj;simp[Env.drop]
  ·rw[cM _ _ _ hj]at hl
   have:=h.tab.dead j (by simpa using hl)
   simp[Env.drop,hj,this]
 ·intro b j hb
  have eI:j≠k:=by
   intro e;subst e
   simp only[Env.drop]at hb
   split at hb
   ·cases hb
   ·rename_i gl;exact gl hb
  have:=h.tab.own b j ((howned j eI b).1 hb)
  refine⟨this.1,this.2.1,?_⟩
  simp only[St.fz,jB,cM _ _ _ eI]
  simpa using this.2.2
 ·intro b hb
  have:=h.tab.ext b hb
  exact⟨this.1,by simp[Env.drop,this.2]⟩
 ·intro b hb ho
  have:=h.fr.keep b hb ho
  exact⟨this.1,by simp[Env.drop,this.2]⟩
 ·intro j x hj
  by_cases he:j=k
  ·exact .inr (by simp[Env.drop,he])
  ·rcases h.lL j x hj with h1|h1
   ·exact .inl (by simp[Env.drop,he,h1])
   ·exact .inr (by simp[Env.drop,he,h1])
theorem KI{C:Ctx}{σ:St}{a:Act}{w:World}(k:Nat)(h:Holds C σ a w):Holds C (σ.kill k) a w:=by
 obtain⟨E,h⟩:=h
 exact⟨E.drop k,St.vw h (fun _ _=>by simp[VR]) (fun _ _ _=>by simp[VR])⟩
def St.eM:List Nat→St→St
 | [],σ=>σ
 |k::ks,σ=>St.eM ks (σ.kill k)
theorem zY{C:Ctx}{a:Act}{w:World}:∀(ks:List Nat) (σ:St),Holds C σ a w→Holds C (σ.eM ks) a w
 | [],_,h=>h
 |k::ks,σ,h=>zY ks (σ.kill k) (KI k h)
def xk:SV→Option (PV×Bool)
 | .p (.v (.slice none 0 0)) _=>some (.sl [],true)
 | .p (.v x) _=>some (.v x,true)
 | .p (.sl rows) fr=>some (.sl rows,fr)
 | .p (.rm len rows) fr=>some (.rm len rows,fr)
 | .p (.ls rows) fr=>some (.ls rows,fr)
 | .p .un _=>some (.un,true)
 | .fn _ _ _=>some (.un,true)
 | .p (.mp a rows) fr=>some (.mp a rows,fr)
 | .pc rows fr=>some (.sl rows,fr)
 |_=>none
def lq:List SV→Option (List PV×Bool)
 | []=>some ([],true)
 |x::xs=>match xk x,lq xs with
  |some (y,f),some (ys,fs)=>some (y::ys,f && fs)
  |_,_=>none
theorem jg(lo:Nat)(a b:Bool):flo lo (a && b)≤flo lo a∧flo lo (a && b)≤flo lo b:=by cases a<;>cases b<;>simp[flo]
theorem Bt(lo:Nat)(a:Bool):flo lo a≤lo:=by cases a<;>simp[flo]
theorem Gt{w:World}{E:Env}{lo:Nat}{sv:SV}{x:PV}{fr:Bool}(h:xk sv=some (x,fr)){v:Value}(hv:VR w E lo sv v):Rep w E.bad (flo lo fr) x v:=by
 unfold xk at h
 split at h<;>first|(cases h;done)|(simp only[ZS,ZT]at h;obtain⟨rfl,rfl⟩:=h;simp only[VR]at hv)
 ·cases hv with|v _ hx=>exact .nil none 0
 ·cases hv with|v _ hx=>exact .v _ hx
 ·exact hv
 ·exact hv
 ·exact hv
 ·cases hv with|un _ hx=>exact .un _ hx
 ·obtain⟨_,_,rfl,_⟩:=hv;exact .un _ rfl
 ·exact hv
 ·obtain⟨_,_,hv⟩:=hv;exact hv
theorem mW{w:World}{E:Env}{lo:Nat}:∀(svs:List SV) (xs:List PV) (fr:Bool) (_:lq svs=some (xs,fr)) (vs:List Value) (_:VRs w E lo svs vs),
  svs.length=xs.length∧vs.length=xs.length∧∃f:Nat→Value,(∀(j:Nat) (x:PV),xs[j]? =some x→vs[j]? =some (f j))∧∀(j:Nat) (x:PV),xs[j]? =some x→Rep w E.bad (flo lo fr) x (f j)
 | [],xs,fr,h,vs,hv=>by
  simp[lq]at h;obtain⟨rfl,rfl⟩:=h
  cases vs with
  |nil=>exact⟨rfl,rfl,fun _=>undef,by simp,by simp⟩
  |cons _ _=>simp[VRs]at hv
 |s::ss,xs,fr,h,vs,hv=>by
  cases vs with
  |nil=>simp[VRs]at hv
  |cons v vs=>
   have lH:VR w E lo s v∧VRs w E lo ss vs:=by simpa only[VRs]using hv
   obtain⟨hv1,hv2⟩:=lH
   simp only[lq]at h
   cases h1:xk s with
   |none=>simp[h1]at h
   |some yf=>
    cases h2:lq ss with
    |none=>simp[h1,h2]at h
    |some ysf=>
     obtain⟨y,f1⟩:=yf;obtain⟨ys,f2⟩:=ysf
     simp only[h1,h2,ZS,ZT]at h
     obtain⟨rfl,rfl⟩:=h
     obtain⟨e1,e2,g,g1,g2⟩:=mW ss ys f2 h2 vs hv2
     have r1:=Gt h1 hv1
     refine⟨by simp[e1],by simp[e2],fun j=>match j with|0=>v|j+1=>g j,?_,?_⟩
     ·intro j x hx
      cases j with
      |zero=>rfl
      |succ j=>exact g1 j x (by simpa using hx)
     ·intro j x hx
      cases j with
      |zero=>
       simp at hx;subst hx
       exact r1.mono (jg lo f1 f2).1 (fun b o hb bY=>⟨hb,bY⟩)
      |succ j=>exact(g2 j x (by simpa using hx)).mono (jg lo f1 f2).2 (fun b o hb bY=>⟨hb,bY⟩)
def St.jh(k:Nat)(σ:St):Option St:=
 match lk σ.tab k with
 |some (.vec _ _ rows fr)=>some (St.fz k (.p (.sl rows) fr) (fun _=> .u) σ)
 |some (.mp a rows fr)=>some (St.fz k (.p (.mp a rows) fr) (fun _=> .u) σ)
 |some (.box _ cells)=>match lq cells with
  |some (row,fr)=>some (St.fz k .u (fun off=> .pd row off fr) σ)
  |none=>none
 |_=>none
def St.freeze:List Nat→St→Option St
 | [],σ=>some σ
 |k::ks,σ=>match σ.jh k with
  |some σ'=>σ'.freeze ks
  |none=>none
theorem SP{w:World}{E E':Env}{lo k:Nat}{t:TypeId}{sz:Nat}{rows:List (List PV)}{fr:Bool}(dL:OR w E lo k (.vec t sz rows fr))
  (hk:eL w E w E')(wU:∀b,E.own b=some k→E'.own b=none)(aR:∀b,E.own b=some k→lo≤b)(hext:∀b,E.own b=some k→¬ E'.ext b)
  {v:Value}(hv:E.val k=some v):Rep w E'.bad (flo lo fr) (.sl rows) v:=by
 obtain⟨v',xs,h1,h2,h3,h4,f,f1,f2,f3⟩:=dL
 rw[hv]at h1;cases h1
 rcases h3.2 with⟨rfl,hn⟩|⟨g,cap,cur,rfl,hb,hg,hle,hcm,bf,htk⟩
 ·have:rows=[]:=List.eq_nil_of_length_eq_zero hn
  subst this
  exact .nil _ _
 ·have ho:=h4 g rfl
  refine .sl rows g 0 cap cur t (0,0) sz f hle hg (lU (wU g ho) (hext g ho)) (Nat.le_trans (Bt _ _) (aR g ho)) (fun _=>rfl) f1 ?_ ?_
  ·intro i row j x hi hj
   have:=f2 i row j x hi hj
   rw[←htk,List.getElem?_take]at this
   split at this
   ·simpa using this
   ·cases this
  ·intro i row j x hi hj
   exact(f3 i row j x hi hj).mono (Nat.le_refl _) hk.rep
theorem SQ{w:World}{E E':Env}{lo k:Nat}{a:Option Nat}{rows:List (List PV)}{fr:Bool}(dL:OR w E lo k (.mp a rows fr))
  (hk:eL w E w E')(wU:∀b,E.own b=some k→E'.own b=none)(aR:∀b,E.own b=some k→lo≤b)(hext:∀b,E.own b=some k→¬ E'.ext b)
  {v:Value}(hv:E.val k=some v):Rep w E'.bad (flo lo fr) (.mp a rows) v:=by
 obtain⟨b,es,cl,h1,h2,h3,f,h4,h6⟩:=dL
 rw[hv]at h1;cases h1
 exact .mp a rows b es cl f h3 (lU (wU b h2) (hext b h2)) (Nat.le_trans (Bt _ _) (aR b h2)) h4 fun i row j x hi hj=>(h6 i row j x hi hj).mono (Nat.le_refl _) hk.rep
theorem FE{C:Ctx}{σ σ':St}{a:Act}{w:World}{k:Nat}(h:Holds C σ a w)(hf:σ.jh k=some σ'):Holds C σ' a w:=by
 obtain⟨E,h⟩:=h
 unfold St.jh at hf
 cases hq:lk σ.tab k with
 |none=>simp[hq]at hf
 |some ov=>
  have dL:=h.tab.obj k ov hq
  have wU:∀b,E.own b=some k→(E.drop k).own b=none:=fun b hb=>by simp[Env.drop,hb]
  have hext:∀b,E.own b=some k→¬ (E.drop k).ext b:=fun b hb hx=>by have:=(h.tab.ext b hx).2;rw[hb]at this;cases this
  cases ov with
  |mp a rows fr=>
   simp only[hq,ZS]at hf;subst hf
   refine⟨E.drop k,St.vw h ?_ (fun _ _ _=>by simp[VR])⟩
   intro v hv
   have:=SQ dL (Env.qx w E k) wU (fun b hb=>(h.tab.own b k hb).2.1) hext hv
   simpa only[VR]using this
  |it a rows fr n on=>simp[hq]at hf
  |vec t sz rows fr=>
   simp only[hq,ZS]at hf;subst hf
   refine⟨E.drop k,St.vw h ?_ (fun _ _ _=>by simp[VR])⟩
   intro v hv
   have:=SP dL (Env.qx w E k) wU (fun b hb=>(h.tab.own b k hb).2.1) hext hv
   simpa only[VR]using this
  |box t cells=>
   simp only[hq]at hf
   cases hp:lq cells with
   |none=>simp[hp]at hf
   |some rf=>
    obtain⟨row,fr⟩:=rf
    simp only[hp,ZS]at hf;subst hf
    refine⟨E.drop k,St.vw h (fun _ _=>by simp[VR]) ?_⟩
    intro off v hv
    obtain⟨b,vs,h1,h2,h3,h4⟩:=dL
    simp only[VR]at hv
    obtain⟨b',e1,e2⟩:=hv
    rw[h1]at e1;simp at e1;subst e1
    obtain⟨_,l2,f,f1,f2⟩:=mW cells row fr hp vs h4
    simp only[VR]
    refine⟨b,0,by simpa using e2,_,_,_,f,h3,lU (wU b h2) (hext b h2),Nat.le_trans (Bt _ _) (h.tab.own b k h2).2.1,?_,?_⟩
    ·intro j x hx;simpa using f1 j x hx
    ·intro j x hx;exact(f2 j x hx).mono (Nat.le_refl _) (Env.qx w E k).rep
theorem xl{C:Ctx}{a:Act}{w:World}:∀(ks:List Nat) (σ σ':St),Holds C σ a w→σ.freeze ks=some σ'→Holds C σ' a w
 | [],σ,σ',h,hf=>by simp[St.freeze]at hf;subst hf;exact h
 |k::ks,σ,σ',h,hf=>by
  simp only[St.freeze]at hf
  cases hq:σ.jh k with
  |none=>simp[hq]at hf
  |some s=>simp only[hq]at hf;exact xl ks s σ' (FE h hq) hf
end Go.TL
namespace Go.TL
section
variable {w:World} {E:Env} {lo:Nat}
theorem df:VRs w E lo [] []:=by simp[VRs]
theorem bu{x:SV}{xs:List SV}{v:Value}{vs:List Value}(h:VR w E lo x v)(k:VRs w E lo xs vs):VRs w E lo (x::xs) (v::vs):=by
 simp only[VRs];exact⟨h,k⟩
theorem aH{x:SV}{xs:List SV}{v:Value}{vs:List Value}:VRs w E lo (x::xs) (v::vs) ↔ VR w E lo x v∧VRs w E lo xs vs:=by
 simp only[VRs]
theorem cX:∀{xs:List SV} {vs:List Value},VRs w E lo xs vs→xs.length=vs.length
 | [],[],_=>rfl
 |x::xs,v::vs,h=>by have:=cX (aH.1 h).2;simp[this]
 | [],_::_,h=>by simp[VRs]at h
 |_::_,[],h=>by simp[VRs]at h
theorem jC:∀{xs ys:List SV} {vs us:List Value},VRs w E lo xs vs→VRs w E lo ys us→VRs w E lo (xs++ys) (vs++us)
 | [],_,[],_,_,k=>k
 |x::xs,_,v::vs,_,h,k=>bu (aH.1 h).1 (jC (aH.1 h).2 k)
 | [],_,_::_,_,h,_=>by simp[VRs]at h
 |_::_,_,[],_,h,_=>by simp[VRs]at h
theorem oD:∀{xs:List SV} {vs:List Value} (n:Nat),VRs w E lo xs vs→VRs w E lo (xs.take n) (vs.take n)
 | [],[],n,_=>by simp[df]
 |x::xs,v::vs,0,_=>by simp[df]
 |x::xs,v::vs,n+1,h=>by simp only[List.take_succ_cons];exact bu (aH.1 h).1 (oD n (aH.1 h).2)
 | [],_::_,_,h=>by simp[VRs]at h
 |_::_,[],_,h=>by simp[VRs]at h
theorem oE:∀{xs:List SV} {vs:List Value} (n:Nat),VRs w E lo xs vs→VRs w E lo (xs.drop n) (vs.drop n)
 | [],[],n,_=>by simp[df]
 |x::xs,v::vs,0,h=>by simpa using h
 |x::xs,v::vs,n+1,h=>by simp only[List.drop_succ_cons];exact oE n (aH.1 h).2
 | [],_::_,_,h=>by simp[VRs]at h
 |_::_,[],_,h=>by simp[VRs]at h
theorem mX:∀{xs:List SV} {vs:List Value} {n:Nat} {x:SV},VRs w E lo xs vs→xs[n]? =some x→∃v,vs[n]? =some v∧VR w E lo x v
 | [],_,n,x,_,hx=>by simp at hx
 |y::xs,v::vs,0,x,h,hx=>by simp at hx;subst hx;exact⟨v,rfl,(aH.1 h).1⟩
 |y::xs,v::vs,n+1,x,h,hx=>by simpa using mX (aH.1 h).2 (by simpa using hx)
 |_::_,[],_,_,h,_=>by simp[VRs]at h
end
def SV.one:SV→Bool
 | .u| .agg _| .bL _=>false
 |_=>true
theorem Rep.one{w:World}{bad:Nat→Prop}{lo:Nat}{x:PV}{v:Value}(h:Rep w bad lo x v):v.oneCell'=true:=by
 cases h<;>first|assumption|rfl
theorem Nk{w:World}{E:Env}{lo:Nat}{sv:SV}{v:Value}(h1:sv.one=true)(h:VR w E lo sv v):v.oneCell'=true:=by
 cases sv<;>simp only[SV.one,Bool.false_eq_true]at h1<;>simp only[VR]at h
 ·exact h.one
 ·obtain⟨b,_,rfl⟩:=h;rfl
 ·obtain⟨_,a,n,c,rfl⟩:=h;rfl
 ·obtain⟨b,n,c,_,rfl⟩:=h;rfl
 ·obtain⟨b,o,rfl,_⟩:=h;rfl
 ·obtain⟨a,rfl,_⟩:=h;rfl
 ·exact h.2
 ·obtain⟨vs,ws,rfl,_⟩:=h;rfl
 ·obtain⟨y,rfl,_⟩:=h;rfl
theorem xm{v:Value}(h:v.oneCell'=true):v.cells= #[v]:=by
 cases v<;>first|rfl|(simp[Value.oneCell']at h)
def Ax:List SV→Bool
 | []=>true
 |x::xs=>match x.one with|true=>Ax xs|false=>false
theorem Gu{w:World}{E:Env}{lo:Nat}:∀{xs:List SV} {vs:List Value},Ax xs=true→VRs w E lo xs vs→∀v∈vs,v.oneCell'=true
 | [],[],_,_,v,hv=>by simp at hv
 |x::xs,v::vs,h1,h,u,hu=>by
  simp only[Ax]at h1
  cases hx:x.one with
  |false=>simp[hx]at h1
  |true=>
   simp only[hx]at h1
   rcases Z1 hu with rfl|hu
   ·exact Nk hx (aH.1 h).1
   ·exact Gu h1 (aH.1 h).2 u hu
 | [],_::_,_,h,_,_=>by simp[VRs]at h
 |_::_,[],_,h,_,_=>by simp[VRs]at h
def cellsOf:SV→Option (List SV)
 | .agg xs=>some xs
 | .bL _=>none
 | .u=>none
 |x=>some [x]
theorem tM{w:World}{E:Env}{lo:Nat}{sv:SV}{xs:List SV}{v:Value}(h:cellsOf sv=some xs)(hv:VR w E lo sv v):VRs w E lo xs v.cells.toList:=by
 cases sv with
 |agg ys=>
  simp only[cellsOf,ZS]at h;subst h
  simp only[VR]at hv;obtain⟨vs,rfl,hv⟩:=hv
  simpa[Value.cells]using hv
 |bL ys=>simp[cellsOf]at h
 |u=>simp[cellsOf]at h
 |_=>
  simp only[cellsOf,ZS]at h;subst h
  rw[xm (Nk rfl hv)]
  exact bu hv df
def spl{α:Type}(cs:List α)(off:Nat)(new:List α):List α:=cs.take off++(new++cs.drop (off+new.length))
theorem JA{w:World}{E:Env}{lo:Nat}{cs new:List SV}{vs us:List Value}(off:Nat)(h:VRs w E lo cs vs)(k:VRs w E lo new us):VRs w E lo (spl cs off new) (spl vs off us):=by
 unfold spl
 rw[cX k]
 exact jC (oD off h) (jC k (oE _ h))
def St.put(σ:St)(dst:Option Nat)(sv:SV):St:=
 match dst with
 |some d=>⟨(d,sv)::σ.ah,σ.tab⟩
 |none=>σ
def St.get(σ:St)(t:Nat):SV:=match lk σ.ah t with|some x=>x|none=> .u
def ev(σ:St):Operand→SV
 | .tmp t=>σ.get t
 | .const v=>match v.oneCell' with|true=> .p (.v v) true|false=> .u
 | .func f=> .fn (.func f) [] []
 | .global _=> .u
theorem dR{w:World}{E:Env}{lo:Nat}{v:Value}(fr:Bool)(h:v.oneCell'=true):VR w E lo (.p (.v v) fr) v:=by simp only[VR];exact .v v h
theorem bO{C:Ctx}{E:Env}{σ:St}{a:Act}{w:World}(h:aC C E σ a w)(x:Operand):VR w E C.lo (ev σ x) (a.eval x):=by
 cases x with
 |tmp t=>
  simp only[ev,St.get,Act.eval]
  cases hq:lk σ.ah t with
  |none=>simp[VR]
  |some sv=>exact h.ah t sv hq
 |const v=>
  simp only[ev,Act.eval]
  cases hq:v.oneCell' with
  |false=>simp[VR]
  |true=>exact dR true hq
 |global g=>simp[ev,VR]
 |func f=>simp only[ev,Act.eval,VR];exact⟨[],[],rfl,df,df⟩
theorem aC.upd{C:Ctx}{E E':Env}{σ:St}{a:Act}{w w':World}{T':Tab}{sv:SV}{v:Value}(h:aC C E σ a w)(c8:Fr w E w' E')
  (dB:∀k x,E.val k=some x→E'.val k=some x)(fy:∀k,C.n≤k→E.val k=none→E'.val k=none)(ht:bV w' E' C.lo T')(dst:Option Nat)(hd:∀d,dst=some d→d<C.n)(jW:∀d,dst=some d→VR w' E' C.lo sv v):
  aC C E' ((⟨σ.ah,T'⟩:St).put dst sv) (a.put dst v) w':=by
 have tI:∀k x,C.E0.val k=some x→E'.val k=some x∨E'.val k=none:=by
  intro k x hk
  rcases h.lL k x hk with h1|h1
  ·exact .inl (dB k x h1)
  ·exact .inr (fy k (h.ids k (by rw[hk];simp)) h1)
 cases dst with
 |none=>exact⟨h.size,h.defers,fun t s hl=>VR.mono c8.keeps dB s _ (h.ah t s hl),ht,h.fr.trans c8,h.lo,h.ids,tI⟩
 |some d=>
  refine⟨by simp[Act.put,h.size],h.defers,?_,ht,h.fr.trans c8,h.lo,h.ids,tI⟩
  intro t s hl
  simp only[St.put]at hl
  by_cases he:t=d
  ·subst he
   rw[aB]at hl;cases hl
   have:t<a.tmps.size:=by rw[h.size];exact hd t rfl
   simp only[Act.put,Array.getD_eq_getD_getElem?,Array.getElem?_setIfInBounds,if_true,this]
   exact jW t rfl
  ·rw[aw _ _ _ _ he]at hl
   have:=VR.mono c8.keeps dB s _ (h.ah t s hl)
   simpa[Act.put,Array.getElem?_setIfInBounds,Ne.symm he]using this
theorem aC.Yy{C:Ctx}{E E':Env}{σ:St}{a:Act}{w w':World}{T':Tab}{sv:SV}{v:Value}{k:Nat}(h:aC C E σ a w)(c8:Fr w E w' E')
  (dB:But k E E')(fy:∀j,C.n≤j→(E.val j=none∨j=k)→E'.val j=none)(ht:bV w' E' C.lo T')(dst:Option Nat)(hd:∀d,dst=some d→d<C.n)(jW:∀d,dst=some d→VR w' E' C.lo sv v):
  aC C E' ((⟨gP k .u (fun _=> .u) σ.ah,T'⟩:St).put dst sv) (a.put dst v) w':=by
 have yJ:∀t s,lk (gP k .u (fun _=> .u) σ.ah) t=some s→VR w' E' C.lo s (a.tmps.getD t undef):=by
  intro t s hl
  rw[vv]at hl
  cases hq:lk σ.ah t with
  |none=>simp[hq]at hl
  |some s0=>
   simp[hq]at hl;subst hl
   exact VR.fz c8.keeps dB (fun _ _=>by simp[VR]) (fun _ _ _=>by simp[VR]) s0 _ (h.ah t s0 hq)
 have tI:∀j x,C.E0.val j=some x→E'.val j=some x∨E'.val j=none:=by
  intro j x hj
  have hid:=h.ids j (by rw[hj];simp)
  by_cases he:j=k
  ·exact .inr (fy j hid (.inr he))
  ·rcases h.lL j x hj with h1|h1
   ·exact .inl (dB j x he h1)
   ·exact .inr (fy j hid (.inl h1))
 cases dst with
 |none=>exact⟨h.size,h.defers,yJ,ht,h.fr.trans c8,h.lo,h.ids,tI⟩
 |some d=>
  refine⟨by simp[Act.put,h.size],h.defers,?_,ht,h.fr.trans c8,h.lo,h.ids,tI⟩
  intro t s hl
  simp only[St.put]at hl
  by_cases he:t=d
  ·subst he
   rw[aB]at hl;cases hl
   have:t<a.tmps.size:=by rw[h.size];exact hd t rfl
   simp only[Act.put,Array.getD_eq_getD_getElem?,Array.getElem?_setIfInBounds,if_true,this]
   exact jW t rfl
  ·rw[aw _ _ _ _ he]at hl
   simpa[Act.put,Array.getElem?_setIfInBounds,Ne.symm he]using yJ t s hl
theorem OR.jA{w w':World}{E E':Env}{lo j:Nat}(hk:FR w E w' E')(hv:∀k x,E.val k=some x→E'.val k=some x)
  (cD:∀b,E'.own b=some j ↔ E.own b=some j)(og:∀b,E.own b=some j→w'.heap[b]? =w.heap[b]?){ov:OV}(h:OR w E lo j ov):OR w' E' lo j ov:=by
 cases ov with
 |box t cells=>
  obtain⟨b,vs,h1,h2,h3,h4⟩:=h
  exact⟨b,vs,hv _ _ h1,(cD b).2 h2,by rw[og b h2];exact h3,VRs.jA hk hv _ _ h4⟩
 |vec t sz rows fr=>
  obtain⟨v,xs,h1,h2,h3,h4,h5⟩:=h
  refine⟨v,xs,hv _ _ h1,h2,?_,fun g hg=>(cD g).2 (h4 g hg),h5.mono (Nat.le_refl _) hk⟩
  refine⟨h3.1,?_⟩
  rcases h3.2 with hn|⟨g,cap,cur,lH,hb,hg,r⟩
  ·exact .inl hn
  ·exact .inr ⟨g,cap,cur,lH,hb,by rw[og g (h4 g (by rw[lH];rfl))];exact hg,r⟩
 |mp a rows fr=>
  obtain⟨b,es,cl,h1,h2,h3,h4⟩:=h
  exact⟨b,es,cl,hv _ _ h1,(cD b).2 h2,by rw[og b h2];exact h3,h4.mono (Nat.le_refl _) hk⟩
 |it a rows fr n on=>
  obtain⟨b,o,h1,h2,h3,h4⟩:=h
  exact⟨b,o,hv _ _ h1,(cD b).2 h2,by rw[og b h2];exact h3,h4.mono (Nat.le_refl _) hk⟩
theorem OR.mono{w w':World}{E E':Env}{lo j:Nat}(hk:eL w E w' E')(hv:∀k x,E.val k=some x→E'.val k=some x)
  (cD:∀b,E'.own b=some j ↔ E.own b=some j)(og:∀b,E.own b=some j→w'.heap[b]? =w.heap[b]?){ov:OV}(h:OR w E lo j ov):OR w' E' lo j ov:=OR.jA hk.rep hv cD og h
theorem bV.same{w w':World}{E:Env}{lo:Nat}{T:Tab}(h:bV w E lo T)(hs:w.heap.size≤w'.heap.size)(hb:∀b,b<w.heap.size→w'.heap[b]? =w.heap[b]?):bV w' E lo T:=
 ⟨fun k ov hl=>OR.mono ⟨fun b av ho=>⟨hb b av,ho⟩,rfl⟩ (fun _ _ h=>h) (fun _=>Iff.rfl) (fun b ho=>hb b (h.own b k ho).1) (h.obj k ov hl),h.dead,
  fun b k ho=>⟨Nat.lt_of_lt_of_le (h.own b k ho).1 hs,(h.own b k ho).2⟩,fun b hx=>⟨Nat.lt_of_lt_of_le (h.ext b hx).1 hs,(h.ext b hx).2⟩⟩
def Env.add(E:Env)(d:Nat)(x:Value)(b:Nat):Env:=⟨fun j=>if j=d then some x else E.val j,fun c=>if c=b then some d else E.own c,E.ext⟩
theorem bV.add{w w':World}{E:Env}{lo d b0:Nat}{x:Value}{T:Tab}{ov:OV}(h:bV w E lo T)(hd:lk T d=none)(_hs:w.heap.size≤w'.heap.size)
  (hb:∀b,b<w.heap.size→w'.heap[b]? =w.heap[b]?)(h0:w.heap.size≤b0)(h0':b0<w'.heap.size)(aR:lo≤w.heap.size)(dL:OR w' (E.add d x b0) lo d ov):
  bV w' (E.add d x b0) lo ((d,ov)::T):=by
 have gl:∀b k,E.own b=some k→b≠b0:=fun b k ho=>by have:=(h.own b k ho).1;omega
 refine⟨?_,?_,?_,?_⟩
 ·intro k o hl
  by_cases he:k=d
  ·subst he;rw[aB]at hl;cases hl;exact dL
  ·rw[aw _ _ _ _ he]at hl
   refine OR.mono (E:=E) (E':=E.add d x b0) ⟨fun b av ho=>⟨hb b av,?_⟩,rfl⟩ (fun j y hj=>?_) (fun b=>?_) (fun b ho=>hb b (h.own b k ho).1) (h.obj k o hl)
   ·simp only[Env.add];rw[if_neg (by omega)];exact ho
   ·simp only[Env.add];rw[if_neg (fun e=>by subst e;rw[h.dead j hd]at hj;cases hj)];exact hj
   ·simp only[Env.add]
    by_cases hbb:b=b0
    ·subst hbb;simp only[if_true]
     exact⟨fun e=>by simp at e;exact absurd e.symm he,fun e=>absurd rfl (gl b k e)⟩
    ·rw[if_neg hbb]
 ·intro k hl
  have he:k≠d:=fun e=>by subst e;rw[aB]at hl;cases hl
  rw[aw _ _ _ _ he]at hl
  simp only[Env.add];rw[if_neg he];exact h.dead k hl
 ·intro b k ho
  simp only[Env.add]at ho
  by_cases hbb:b=b0
  ·subst hbb;simp at ho;subst ho;exact⟨h0',by omega,by rw[aB];simp⟩
  ·rw[if_neg hbb]at ho
   have:=h.own b k ho
   refine⟨by omega,this.2.1,?_⟩
   by_cases he:k=d
   ·subst he;rw[aB];simp
   ·rw[aw _ _ _ _ he];exact this.2.2
 ·intro b hx
  have:=h.ext b hx
  refine⟨by omega,?_⟩
  simp only[Env.add];rw[if_neg (by omega)];exact this.2
theorem Fr.add{w w':World}{E:Env}{d b0:Nat}{x:Value}(ho:w'.os=w.os)(ht:w'.tape=w.tape)(hu:w'.output=w.output)(hs:w.heap.size≤w'.heap.size)
  (hb:∀b,b<w.heap.size→w'.heap[b]? =w.heap[b]?)(h0:w.heap.size≤b0):Fr w E w' (E.add d x b0):=
 ⟨ho,ht,hu,hs,fun b av hn=>⟨hb b av,by simp only[Env.add];rw[if_neg (by omega)];exact hn⟩,rfl⟩
theorem Env.ua{w:World}{E:Env}{lo d b0:Nat}{x:Value}{T:Tab}(h:bV w E lo T)(hd:lk T d=none):∀k y,E.val k=some y→(E.add d x b0).val k=some y:=by
 intro k y hk
 simp only[Env.add];rw[if_neg (fun e=>by subst e;rw[h.dead k hd]at hk;cases hk)];exact hk
theorem bV.set{w w':World}{E:Env}{lo k:Nat}{T:Tab}{ov:OV}(h:bV w E lo T)(hk:lk T k≠none)(hs:w'.heap.size=w.heap.size)
  (hb:∀b,E.own b≠some k→w'.heap[b]? =w.heap[b]?)(dL:OR w' E lo k ov):bV w' E lo ((k,ov)::rm T k):=by
 refine⟨?_,?_,?_,fun b hx=>⟨by have:=(h.ext b hx).1;omega,(h.ext b hx).2⟩⟩
 ·intro j o hl
  by_cases he:j=k
  ·subst he;rw[aB]at hl;cases hl;exact dL
  ·rw[aw _ _ _ _ he,cM _ _ _ he]at hl
   exact OR.mono ⟨fun b _ ho=>⟨hb b (by rw[ho];simp),ho⟩,rfl⟩ (fun _ _ h=>h) (fun _=>Iff.rfl) (fun b ho=>hb b (by rw[ho];simp[he])) (h.obj j o hl)
 ·intro j hl
  have he:j≠k:=fun e=>by subst e;rw[aB]at hl;cases hl
  rw[aw _ _ _ _ he,cM _ _ _ he]at hl
  exact h.dead j hl
 ·intro b j ho
  have:=h.own b j ho
  refine⟨by omega,this.2.1,?_⟩
  by_cases he:j=k
  ·subst he;rw[aB];simp
  ·rw[aw _ _ _ _ he,cM _ _ _ he];exact this.2.2
theorem Fr.set{w w':World}{E:Env}{k:Nat}(ho:w'.os=w.os)(ht:w'.tape=w.tape)(hu:w'.output=w.output)(hs:w'.heap.size=w.heap.size)
  (hb:∀b,E.own b≠some k→w'.heap[b]? =w.heap[b]?):Fr w E w' E:=
 ⟨ho,ht,hu,by omega,fun b _ hn=>⟨hb b (by rw[hn];simp),hn⟩,rfl⟩
end Go.TL
