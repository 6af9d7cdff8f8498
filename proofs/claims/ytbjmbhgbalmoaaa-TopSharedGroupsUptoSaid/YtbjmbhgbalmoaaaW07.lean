/- Data that are of a type of the program, cell by cell, of bounded length. -/
import Derived.Test.YtbjmbhgbalmoaaaW06
import Derived.Orders
namespace Go.TL
inductive CK where
 |int(k:IntKind)
 |bool
 |str
 |iz
 |any
 |sl(e:TypeId)
 |other
 deriving DecidableEq
def ew:Nat:=2097152
def bZ:Nat:=1073741824
def kl:Nat:=64
def fH(e:TypeId):Nat:=match Nat.ble 1000000 e with|true=>1073741824|false=>2097152
theorem gQ(e:TypeId):2097152≤fH e:=by unfold fH;split<;>decide
theorem uE(e:TypeId):fH e≤1073741824:=by unfold fH;split<;>decide
theorem rV{e:TypeId}(h:1000000≤e):fH e=1073741824:=by unfold fH;rw[Nat.ble_eq_true_of_le h]
theorem j4{e:TypeId}(h:Nat.ble 1000000 e=false):fH e=2097152:=by unfold fH;rw[h]
def flat(f:TypeId→List CK):List Field→List CK
 | []=>[]
 |x::xs=>f x.type++flat f xs
def dC(P:Program):Nat→TypeId→List CK
 |0,_=>[.other]
 |n+1,t=>match P.underlying t with
  |some (.int k)=>[.int k]
  |some .bool=>[.bool]
  |some .string=>[.str]
  |some (.slice e)=>[.sl e]
  |some (.struct fs)=>flat (dC P n) fs.toList
  |_=>[.other]
def kn:List CK→List CK
 | .other::_=>[]
 |c::r=>c::kn r
 | []=>[]
def wk:List CK→List CK
 | .other::r=> .any::wk r
 |c::r=>c::wk r
 | []=>[]
def cks(P:Program)(t:TypeId):List CK:=
 match P.underlying t,Nat.ble 2000000 t with
 |some _,_=>dC P 8 t
 |none,false=> .str::(match dC P 8 (t - 1000000)with| [.str]=>[.iz]|cs=>wk cs)
 |none,true=>match Nat.ble 3000000 t with|true=>dC P 8 (t - 3000000)|false=>kn (dC P 8 (t - 2000000)).dropLast
inductive WT(P:Program):CK→PV→Prop
 |int (k:IntKind) (n:Int) (h1:k.min≤n) (h2:n≤k.max):WT P (.int k) (.v (.int k n))
 |bool (x:Bool):WT P .bool (.v (.bool x))
 |str (x:ByteArray) (h:x.size≤bZ):WT P .str (.v (.string x))
 |iz (x:ByteArray) (h:x.size≤kl):WT P .iz (.v (.string x))
 |any:WT P .any .un
 |sl (e:TypeId) (rows:List (List PV)) (h:rows.length≤fH e) (hl:∀row∈rows,row.length=(cks P e).length)
   (hw:∀(row:List PV),row∈rows→∀(j:Nat) (ck:CK) (x:PV),(cks P e)[j]? =some ck→row[j]? =some x→WT P ck x):WT P (.sl e) (.sl rows)
def WTs(P:Program):List CK→List PV→Prop
 | [],[]=>True
 |c::cs,x::xs=>WT P c x∧WTs P cs xs
 |_,_=>False
theorem aI{P:Program}:∀(cs:List CK) (xs:List PV),WTs P cs xs ↔ xs.length=cs.length∧∀(j:Nat) (ck:CK) (x:PV),cs[j]? =some ck→xs[j]? =some x→WT P ck x
 | [],[]=>by simp[WTs]
 |c::cs,x::xs=>by
  simp only[WTs]
  rw[aI cs xs]
  constructor
  ·rintro⟨h1,h2,h3⟩
   refine⟨by simp[h2],?_⟩
   intro j ck y hc hy
   cases j with
   |zero=>simp at hc hy;subst hc;subst hy;exact h1
   |succ j=>exact h3 j ck y (by simpa using hc) (by simpa using hy)
  ·rintro⟨h1,h2⟩
   exact⟨h2 0 c x rfl rfl,by simpa using h1,fun j ck y hc hy=>h2 (j+1) ck y (by simpa using hc) (by simpa using hy)⟩
 | [],_::_=>by simp[WTs]
 |_::_,[]=>by simp[WTs]
def Ty(P:Program)(t:TypeId)(row:List PV):Prop:=WTs P (cks P t) row
def cB(P:Program)(e:TypeId)(rows:List (List PV)):Prop:=∀row∈rows,Ty P e row
def bA(P:Program)(e:TypeId)(rows:List (List PV)):Prop:=rows.length≤fH e∧cB P e rows
theorem ql{P:Program}{e:TypeId}{x:PV}(h:WT P (.sl e) x):∃rows,x= .sl rows∧bA P e rows:=by
 cases h with
 |sl _ rows h hl hw=>exact⟨rows,rfl,h,fun row hr=>(aI _ _).2 ⟨hl row hr,fun j ck x hc hx=>hw row hr j ck x hc hx⟩⟩
theorem bA.wt{P:Program}{e:TypeId}{rows:List (List PV)}(h:bA P e rows):WT P (.sl e) (.sl rows):=
 .sl e rows h.1 (fun row hr=>((aI _ _).1 (h.2 row hr)).1) (fun row hr j ck x hc hx=>((aI _ _).1 (h.2 row hr)).2 j ck x hc hx)
theorem uF{P:Program}{k:IntKind}{x:PV}(h:WT P (.int k) x):∃n,x= .v (.int k n)∧k.min≤n∧n≤k.max:=by
 cases h with|int _ n h1 h2=>exact⟨n,rfl,h1,h2⟩
theorem zm{P:Program}{x:PV}(h:WT P .any x):x= .un:=by cases h;rfl
theorem zo{P:Program}{x:PV}(h:WT P .iz x):∃n,x= .v (.string n)∧n.size≤kl:=by cases h with|iz n h=>exact⟨n,rfl,h⟩
theorem uG{P:Program}{x:PV}(h:WT P .str x):∃n,x= .v (.string n)∧n.size≤bZ:=by
 cases h with|str n h=>exact⟨n,rfl,h⟩
theorem yv{P:Program}{x:PV}(h:WT P .bool x):∃n,x= .v (.bool n):=by
 cases h with|bool n=>exact⟨n,rfl⟩
theorem kP{P:Program}{c:CK}{cs:List CK}{row:List PV}(h:WTs P (c::cs) row):∃x xs,row=x::xs∧WT P c x∧WTs P cs xs:=by
 cases row with
 |nil=>simp[WTs]at h
 |cons x xs=>exact⟨x,xs,rfl,h.1,h.2⟩
theorem mh{P:Program}{row:List PV}(h:WTs P [] row):row=[]:=by
 cases row with
 |nil=>rfl
 |cons x xs=>simp[WTs]at h
theorem uH{P:Program}{cs:List CK}{row:List PV}(h:WTs P (.str::cs) row):∃(n:ByteArray) (xs:List PV),row=s n::xs∧n.size≤bZ∧WTs P cs xs:=by
 obtain⟨x,xs,rfl,hx,hxs⟩:=kP h
 obtain⟨n,rfl,h1⟩:=uG hx
 exact⟨n,xs,rfl,h1,hxs⟩
theorem zp{P:Program}:WTs P [] []:=trivial
theorem zq{P:Program}{cs:List CK}{n:ByteArray}{xs:List PV}(h:n.size≤bZ)(k:WTs P cs xs):WTs P (.str::cs) (s n::xs):=⟨.str _ h,k⟩
theorem Ty.of{P:Program}{t:TypeId}{cs:List CK}{row:List PV}(hc:cks P t=cs)(h:WTs P cs row):Ty P t row:=by unfold Ty;rw[hc];exact h
theorem Ty.to{P:Program}{t:TypeId}{cs:List CK}{row:List PV}(hc:cks P t=cs)(h:Ty P t row):WTs P cs row:=by unfold Ty at h;rw[hc]at h;exact h
theorem cB.nil{P:Program}{e:TypeId}:cB P e []:=by intro r h;simp at h
theorem cB.one{P:Program}{e:TypeId}{row:List PV}(h:Ty P e row):cB P e [row]:=by intro r hr;simp at hr;subst hr;exact h
theorem cB.cons{P:Program}{e:TypeId}{row:List PV}{rows:List (List PV)}(h:Ty P e row)(k:cB P e rows):cB P e (row::rows):=by
 intro r hr;rcases CD hr with rfl|hr;exact h;exact k r hr
theorem cB.append{P:Program}{e:TypeId}{a b:List (List PV)}(h:cB P e a)(k:cB P e b):cB P e (a++b):=by
 intro r hr;rcases CC hr with hr|hr;exact h r hr;exact k r hr
theorem cB.take{P:Program}{e:TypeId}{a:List (List PV)}(h:cB P e a)(n:Nat):cB P e (a.take n):=fun r hr=>h r (List.mem_of_mem_take hr)
theorem cB.drop{P:Program}{e:TypeId}{a:List (List PV)}(h:cB P e a)(n:Nat):cB P e (a.drop n):=fun r hr=>h r (List.mem_of_mem_drop hr)
theorem bA.nil{P:Program}{e:TypeId}:bA P e []:=⟨Nat.zero_le _,.nil⟩
theorem cB.len{P:Program}{e:TypeId}{rows:List (List PV)}{n:Nat}(h:cB P e rows)(hn:(cks P e).length=n):∀row∈rows,row.length=n:=fun row hr=>by rw[←hn];exact((aI _ _).1 (h row hr)).1
theorem bA.of{P:Program}{e:TypeId}{rows:List (List PV)}(h:rows.length≤2097152)(k:cB P e rows):bA P e rows:=⟨Nat.le_trans h (gQ e),k⟩
theorem bA.ofC{P:Program}{e:TypeId}{rows:List (List PV)}(he:1000000≤e)(h:rows.length≤1073741824)(k:cB P e rows):bA P e rows:=⟨by rw[rV he];exact h,k⟩
theorem bA.real{P:Program}{e:TypeId}{rows:List (List PV)}(h:bA P e rows)(he:Nat.ble 1000000 e=false):rows.length≤ew:=by have:=h.1;rwa[j4 he]at this
theorem bA.len{P:Program}{e:TypeId}{rows:List (List PV)}(h:bA P e rows):rows.length≤1073741824:=Nat.le_trans h.1 (uE e)
mutual
def pz:PV→Nat
 | .v (.string x)=>1+x.size
 | .v _=>1
 | .sl rows=>1+rsz rows
 | .rm _ rows=>1+rsz rows
 | .ls rows=>1+rsz rows
 | .un=>1
 | .mp _a rows=>1+rsz rows
def rz:List PV→Nat
 | []=>0
 |x::xs=>pz x+rz xs
def rsz:List (List PV)→Nat
 | []=>0
 |r::rs=>1+rz r+rsz rs
end
theorem AK(rows:List (List PV)):pz (.sl rows)=1+rsz rows:=by simp[pz]
theorem fc:rz []=0:=by simp[rz]
theorem dG(x:PV)(xs:List PV):rz (x::xs)=pz x+rz xs:=by simp[rz]
theorem mi:rsz []=0:=by simp[rsz]
theorem kQ(r:List PV)(rs:List (List PV)):rsz (r::rs)=1+rz r+rsz rs:=by simp[rsz]
theorem wm{rows:List (List PV)}{row:List PV}(h:row∈rows):rz row<rsz rows:=by
 induction rows with
 |nil=>simp at h
 |cons x xs ih=>
  rw[kQ]
  rcases CD h with rfl|h
  ·omega
  ·have:=ih h;omega
theorem lH(rows:List (List PV)):rows.length≤rsz rows:=by
 induction rows with
 |nil=>simp
 |cons x xs ih=>rw[kQ,List.length_cons];omega
theorem dc{n:Int}(h1: -9223372036854775808≤n)(h2:n≤9223372036854775807):IntKind.wrap .i64 n=n:=by
 unfold IntKind.wrap;simp[IntKind.bits,IntKind.signed];omega
theorem bA.sub{P:Program}{e:TypeId}{rows:List (List PV)}(h:bA P e rows)(m k:Nat):bA P e ((rows.take m).drop k):=
 ⟨Nat.le_trans (by simp;omega) h.1,(h.2.take m).drop k⟩
theorem nO(n:Int): -9223372036854775808≤IntKind.wrap .i64 n∧IntKind.wrap .i64 n≤9223372036854775807:=by
 unfold IntKind.wrap;simp[IntKind.bits,IntKind.signed];omega
end Go.TL
namespace Go.TL
def sw(a b k:Nat):Nat:=
 match Nat.beq k a with
 |true=>b
 |false=>match Nat.beq k b with
  |true=>a
  |false=>k
theorem AL(a b k:Nat):sw a b k=if k=a then b else if k=b then a else k:=by
 unfold sw
 cases h:Nat.beq k a with
 |true=>simp[Cv h]
 |false=>
  have h1:=beq_false h
  cases h2:Nat.beq k b with
  |true=>have:=Cv h2;simp[this];intro e;exact absurd (this.trans e) h1
  |false=>have h3:=beq_false h2;simp[h1,h3]
theorem dr(a b k:Nat):sw a b (sw a b k)=k:=by
 simp only[AL];split<;>(try split)<;>(try split)<;>simp_all
mutual
def SV.rn(π:Nat→Nat):SV→SV
 | .vec j=> .vec (π j)
 | .ptr j off=> .ptr (π j) off
 | .aY j sz i off=> .aY (π j) sz i off
 | .ref j=> .ref (π j)
 | .agg xs=> .agg (rns π xs)
 | .bB xs=> .bB (rns π xs)
 | .fn f first aL=> .fn f (rns π first) (rns π aL)
 | .bH t x=> .bH t (SV.rn π x)
 | .u=> .u
 | .p x fr=> .p x fr
 | .pd row off fr=> .pd row off fr
 | .pc rows fr=> .pc rows fr
def rns(π:Nat→Nat):List SV→List SV
 | []=>[]
 |x::xs=>SV.rn π x::rns π xs
end
def OV.rn(π:Nat→Nat):OV→OV
 | .box t cells=> .box t (rns π cells)
 |o=>o
def gD(π:Nat→Nat):Tab→Tab
 | []=>[]
 |(k,x)::r=>(π k,OV.rn π x)::gD π r
def mj(π:Nat→Nat):List (Nat×SV)→List (Nat×SV)
 | []=>[]
 |(t,x)::r=>(t,SV.rn π x)::mj π r
theorem nf(a b:Nat)(l:Tab)(k:Nat):lk (gD (sw a b) l) k=(lk l (sw a b k)).map (OV.rn (sw a b)):=by
 induction l with
 |nil=>rfl
 |cons h r ih=>
  obtain⟨j,x⟩:=h
  simp only[gD,lk]
  have:Nat.beq (sw a b j) k=Nat.beq j (sw a b k):=by
   cases h1:Nat.beq (sw a b j) k with
   |true=>have:=Cv h1;rw[←this,dr];exact(Nat.beq_refl j).symm
   |false=>
    cases h2:Nat.beq j (sw a b k)with
    |false=>rfl
    |true=>have:=Cv h2;subst this;rw[dr,Nat.beq_refl]at h1;cases h1
  rw[this]
  cases Nat.beq j (sw a b k)<;>simp[ih]
def Env.sw(E:Env)(a b:Nat):Env:=⟨fun k=>E.val (Go.TL.sw a b k),fun c=>(E.own c).map (Go.TL.sw a b),E.ext⟩
theorem Env.km(E:Env)(a b:Nat):(E.sw a b).bad=E.bad:=by
 funext c;apply propext;simp[Env.bad,Env.sw]
theorem Env.uI(E:Env)(a b c k:Nat):(E.sw a b).own c=some k ↔ E.own c=some (Go.TL.sw a b k):=by
 simp only[Env.sw]
 cases hc:E.own c with
 |none=>simp
 |some j=>
  simp only[Option.map_some,Ct]
  constructor
  ·intro e;rw[←e,dr]
  ·intro e;rw[e,dr]
theorem Env.dr(E:Env)(a b:Nat):(E.sw a b).sw a b=E:=by
 cases E with
 |mk v o x=>
  simp only[Env.sw,Go.TL.dr,Option.map_map]
  congr 1
  funext c
  cases o c with
  |none=>rfl
  |some j=>simp[Go.TL.dr]
mutual
theorem VR.sw{w:World}{E:Env}{lo a b:Nat}:∀(sv:SV) (v:Value),VR w E lo sv v→VR w (E.sw a b) lo (SV.rn (Go.TL.sw a b) sv) v
 | .u,_,_=>by simp[SV.rn,VR]
 | .p x fr,v,h=>by simp only[SV.rn,VR]at h ⊢;rw[Env.km];exact h
 | .ptr k off,v,h=>by simp only[SV.rn,VR]at h ⊢;obtain⟨c,h1,h2⟩:=h;exact⟨c,by simp[Env.sw,Go.TL.dr,h1],h2⟩
 | .vec k,v,h=>by simp only[SV.rn,VR]at h ⊢;exact⟨by simp[Env.sw,Go.TL.dr,h.1],h.2⟩
 | .aY k sz i off,v,h=>by simp only[SV.rn,VR]at h ⊢;obtain⟨c,n,m,h1,h2⟩:=h;exact⟨c,n,m,by simp[Env.sw,Go.TL.dr,h1],h2⟩
 | .pd row off fr,v,h=>by simp only[SV.rn,VR]at h ⊢;rw[Env.km];exact h
 | .pc rows fr,v,h=>by simp only[SV.rn,VR]at h ⊢;rw[Env.km];exact h
 | .agg xs,v,h=>by simp only[SV.rn,VR]at h ⊢;obtain⟨vs,h1,h2⟩:=h;exact⟨vs,h1,VRs.sw xs vs h2⟩
 | .bB xs,v,h=>by simp only[SV.rn,VR]at h ⊢;obtain⟨vs,h1,h2⟩:=h;exact⟨vs,h1,VRs.sw xs vs h2⟩
 | .ref k,v,h=>by simp only[SV.rn,VR]at h ⊢;exact⟨by simp[Env.sw,Go.TL.dr,h.1],h.2⟩
 | .fn f first aL,v,h=>by simp only[SV.rn,VR]at h ⊢;obtain⟨vs,ws,h1,h2,h3⟩:=h;exact⟨vs,ws,h1,VRs.sw first vs h2,VRs.sw aL ws h3⟩
 | .bH t x,v,h=>by simp only[SV.rn,VR]at h ⊢;obtain⟨y,h1,h2⟩:=h;exact⟨y,h1,VR.sw x y h2⟩
theorem VRs.sw{w:World}{E:Env}{lo a b:Nat}:∀(xs:List SV) (vs:List Value),VRs w E lo xs vs→VRs w (E.sw a b) lo (rns (Go.TL.sw a b) xs) vs
 | [],[],_=>by simp[rns,VRs]
 |x::xs,v::vs,h=>by simp only[rns];exact dI (VR.sw x v (bj.1 h).1) (VRs.sw xs vs (bj.1 h).2)
 | [],_::_,h=>by simp[VRs]at h
 |_::_,[],h=>by simp[VRs]at h
end
theorem OR.sw{w:World}{E:Env}{lo a b k:Nat}{ov:OV}(h:OR w E lo k ov):OR w (E.sw a b) lo (Go.TL.sw a b k) (OV.rn (Go.TL.sw a b) ov):=by
 have hv:(E.sw a b).val (Go.TL.sw a b k)=E.val k:=by simp[Env.sw,Go.TL.dr]
 have ho:∀c,(E.sw a b).own c=some (Go.TL.sw a b k) ↔ E.own c=some k:=fun c=>by rw[Env.uI,Go.TL.dr]
 cases ov with
 |box t cells=>obtain⟨c,vs,h1,h2,h3,h4⟩:=h;exact⟨c,vs,hv.trans h1,(ho c).2 h2,h3,VRs.sw cells vs h4⟩
 |vec t sz rows fr=>obtain⟨v,xs,h1,h2,h3,h4,h5⟩:=h;exact⟨v,xs,hv.trans h1,h2,h3,fun g hg=>(ho g).2 (h4 g hg),by rw[Env.km];exact h5⟩
 |mp a rows fr=>obtain⟨c,es,cl,h1,h2,h3,h4⟩:=h;exact⟨c,es,cl,hv.trans h1,(ho c).2 h2,h3,by rw[Env.km];exact h4⟩
 |it a rows fr n on=>obtain⟨c,o,h1,h2,h3,h4⟩:=h;exact⟨c,o,hv.trans h1,(ho c).2 h2,h3,by rw[Env.km];exact h4⟩
theorem b9.sw{w:World}{E:Env}{lo a b:Nat}{T:Tab}(h:b9 w E lo T):b9 w (E.sw a b) lo (gD (Go.TL.sw a b) T):=by
 refine⟨?_,?_,?_,?_⟩
 ·intro k ov hl
  rw[nf]at hl
  cases hq:lk T (Go.TL.sw a b k)with
  |none=>simp[hq]at hl
  |some o=>
   simp[hq]at hl;subst hl
   have:=OR.sw (a:=a) (b:=b) (h.obj _ _ hq)
   rwa[Go.TL.dr]at this
 ·intro k hl
  rw[nf]at hl
  exact h.dead _ (by simpa using hl)
 ·intro c k ho
  have:=h.own c _ ((Env.uI E a b c k).1 ho)
  refine⟨this.1,this.2.1,?_⟩
  rw[nf];simpa using this.2.2
 ·intro c hx
  have:=h.ext c hx
  exact⟨this.1,by simp[Env.sw,this.2]⟩
theorem Fr.sw{w w':World}{E E':Env}{a b:Nat}(h:Fr w E w' E'):Fr w (E.sw a b) w' (E'.sw a b):=
 ⟨h.os,h.tape,h.output,h.size,fun c hc hn=>by
  have hn':E.own c=none:=by simpa[Env.sw]using hn
  have:=h.keep c hc hn'
  exact⟨this.1,by simp[Env.sw,this.2]⟩,h.ext⟩
theorem sg(a b:Nat):∀xs:List SV,rns (sw a b) (rns (sw a b) xs)=xs:=by
 have key:∀n,∀x:SV,SizeOf.sizeOf x<n→SV.rn (sw a b) (SV.rn (sw a b) x)=x:=by
  intro n
  induction n with
  |zero=>intro x h;omega
  |succ n ih=>
   have ihs:∀xs:List SV,SizeOf.sizeOf xs≤n→rns (sw a b) (rns (sw a b) xs)=xs:=by
    intro xs
    induction xs with
    |nil=>intro _;rfl
    |cons x xs ihx=>
     intro h
     simp at h
     simp only[rns]
     rw[ih x (by omega),ihx (by omega)]
   intro x h
   cases x<;>simp only[SV.rn,dr]<;>simp at h
   ·rw[ihs _ (by omega)]
   ·rw[ihs _ (by omega)]
   ·rw[ihs _ (by omega),ihs _ (by omega)]
   ·rw[ih _ (by omega)]
 intro xs
 induction xs with
 |nil=>rfl
 |cons x xs ih=>simp only[rns];rw[key _ x (Nat.lt_succ_self _),ih]
theorem FnS.sw{P:Program}{f:FuncId}{args:List SV}{T:Tab}{R:SV→Tab→Prop}(a b:Nat)(h:FnS P f args T R):
  FnS P f (rns (Go.TL.sw a b) args) (gD (Go.TL.sw a b) T) fun r T'=>∃r0 T0,R r0 T0∧r=SV.rn (Go.TL.sw a b) r0∧T'=gD (Go.TL.sw a b) T0:=by
 intro lo w E vals aV ht hv
 have ht':=b9.sw (a:=a) (b:=b) ht
 have hv':=VRs.sw (a:=a) (b:=b) _ _ hv
 rw[sg]at hv'
 have hT:gD (Go.TL.sw a b) (gD (Go.TL.sw a b) T)=T:=by
  clear ht ht' h
  induction T with
  |nil=>rfl
  |cons x T ih=>
   obtain⟨k,ov⟩:=x
   simp only[gD,dr,ih]
   congr 1
   congr 1
   cases ov<;>simp[OV.rn,sg]
 rw[hT]at ht'
 refine(h lo w (E.sw a b) vals ⟨aV.le,aV.laid,fun b hb=>by simp[Env.sw,aV.own b hb]⟩ ht' hv').mono ?_
 rintro e w' ⟨r,v,T',E',rfl,hR,hfr,htt,hr,hp⟩
 refine⟨_,v,_,E'.sw a b,rfl,⟨r,T',hR,rfl,rfl⟩,?_,b9.sw htt,VR.sw r v hr,?_⟩
 ·have:=Fr.sw (a:=a) (b:=b) hfr
  rwa[Env.dr]at this
 ·intro k x hk
  have:=hp (Go.TL.sw a b k) x (by simpa[Env.sw,Go.TL.dr]using hk)
  simpa[Env.sw]using this
def St.rn(σ:St)(k k':Nat):St:=⟨mj (sw k k') σ.az,gD (sw k k') σ.tab⟩
end Go.TL
namespace Go.TL
mutual
def SV.cP:SV→SV
 | .p (.sl rows) _=> .p (.sl rows) false
 | .p (.rm len rows) _=> .p (.rm len rows) false
 | .p (.ls rows) _=> .p (.ls rows) false
 | .p .un fr=> .p .un fr
 | .p (.mp a rows) _=> .p (.mp a rows) false
 | .pd row off _=> .pd row off false
 | .pc rows _=> .pc rows false
 | .agg xs=> .agg (ml xs)
 | .bB xs=> .bB (ml xs)
 | .p (.v x) fr=>match gP x with
  |true=> .p (.sl []) false
  |false=> .p (.v x) fr
 | .u=> .u
 | .ptr k off=> .ptr k off
 | .vec k=> .vec k
 | .aY k sz i off=> .aY k sz i off
 | .ref k=> .ref k
 | .fn f first aL=> .fn f first aL
 | .bH t x=> .bH t (SV.cP x)
def ml:List SV→List SV
 | []=>[]
 |x::xs=>SV.cP x::ml xs
end
theorem Rep.qD{w:World}{bad:Nat→Prop}{lo:Nat}{x:PV}{v:Value}(h:Rep w bad lo x v):Rep w bad 0 x v:=h.mono (Nat.zero_le _) fun _ _ h k=>⟨h,k⟩
mutual
theorem VR.cP{w:World}{E:Env}{lo:Nat}:∀(sv:SV) (v:Value),VR w E lo sv v→VR w E lo sv.cP v
 | .p (.sl rows) fr,v,h=>by simp only[SV.cP,VR,flo]at h ⊢;exact h.qD
 | .p (.rm len rows) fr,v,h=>by simp only[SV.cP,VR,flo]at h ⊢;exact h.qD
 | .p (.ls rows) fr,v,h=>by simp only[SV.cP,VR,flo]at h ⊢;exact h.qD
 | .p .un fr,v,h=>by simpa only[SV.cP]using h
 | .p (.mp a rows) fr,v,h=>by simp only[SV.cP,VR,flo]at h ⊢;exact h.qD
 | .pd row off fr,v,h=>by
  simp only[SV.cP,VR,flo]at h ⊢
  obtain⟨b,o,h1,h2⟩:=h
  exact⟨b,o,h1,h2.mono (Nat.zero_le _) fun _ _ h k=>⟨h,k⟩⟩
 | .pc rows fr,v,h=>by
  simp only[SV.cP,VR,flo]at h ⊢
  obtain⟨a,h1,h2⟩:=h
  exact⟨a,h1,h2.qD⟩
 | .agg xs,v,h=>by simp only[SV.cP,VR]at h ⊢;obtain⟨vs,h1,h2⟩:=h;exact⟨vs,h1,VRs.cP xs vs h2⟩
 | .bB xs,v,h=>by simp only[SV.cP,VR]at h ⊢;obtain⟨vs,h1,h2⟩:=h;exact⟨vs,h1,VRs.cP xs vs h2⟩
 | .p (.v x) fr,v,h=>by
  simp only[SV.cP]
  cases hx:gP x with
  |true=>
   have:=kN hx;subst this
   rw[sa h]
   simp only[VR]
   exact .nil none 0
  |false=>exact h
 | .u,_,h=>by simpa only[SV.cP]using h
 | .ptr k off,_,h=>by simpa only[SV.cP]using h
 | .vec k,_,h=>by simpa only[SV.cP]using h
 | .aY k sz i off,_,h=>by simpa only[SV.cP]using h
 | .ref k,_,h=>by simpa only[SV.cP]using h
 | .fn f first aL,_,h=>by simpa only[SV.cP]using h
 | .bH t x,v,h=>by simp only[SV.cP,VR]at h ⊢;obtain⟨y,h1,h2⟩:=h;exact⟨y,h1,VR.cP x y h2⟩
theorem VRs.cP{w:World}{E:Env}{lo:Nat}:∀(xs:List SV) (vs:List Value),VRs w E lo xs vs→VRs w E lo (ml xs) vs
 | [],[],_=>by simp[ml,VRs]
 |x::xs,v::vs,h=>by simp only[ml];exact dI (VR.cP x v (bj.1 h).1) (VRs.cP xs vs (bj.1 h).2)
 | [],_::_,h=>by simp[VRs]at h
 |_::_,[],h=>by simp[VRs]at h
end
def gE:List Bool→List SV→List SV
 |true::m,x::xs=>x.cP::gE m xs
 |false::m,x::xs=>x::gE m xs
 |_,xs=>xs
theorem VRs.gE{w:World}{E:Env}{lo:Nat}:∀(m:List Bool) (xs:List SV) (vs:List Value),VRs w E lo xs vs→VRs w E lo (Go.TL.gE m xs) vs
 | [],xs,vs,h=>by simpa only[Go.TL.gE]using h
 |b::m,[],vs,h=>by cases b<;>simpa only[Go.TL.gE]using h
 |true::m,x::xs,v::vs,h=>by simp only[Go.TL.gE];exact dI (VR.cP x v (bj.1 h).1) (VRs.gE m xs vs (bj.1 h).2)
 |false::m,x::xs,v::vs,h=>by simp only[Go.TL.gE];exact dI (bj.1 h).1 (VRs.gE m xs vs (bj.1 h).2)
 |true::m,x::xs,[],h=>by simp[VRs]at h
 |false::m,x::xs,[],h=>by simp[VRs]at h
theorem FnS.cP{P:Program}{g:FuncId}{T:Tab}{R:SV→Tab→Prop}(m:List Bool)(svs:List SV){svs':List SV}(e:gE m svs=svs')(h:FnS P g svs' T R):FnS P g svs T R:=by
 subst e
 intro lo w E vals aV ht hv
 exact h lo w E vals aV ht (VRs.gE m svs vals hv)
def St.nl(t:Nat)(fr:Bool)(σ:St):St:=⟨(t,.p (.sl []) fr)::rm σ.az t,σ.tab⟩
mutual
def SV.nlf:SV→SV
 | .p (.v x) fr=>match gP x with
  |true=> .p (.sl []) true
  |false=> .p (.v x) fr
 | .agg xs=> .agg (oK xs)
 | .bB xs=> .bB (oK xs)
 | .p (.sl rows) fr=> .p (.sl rows) fr
 | .p (.rm len rows) fr=> .p (.rm len rows) fr
 | .p (.ls rows) fr=> .p (.ls rows) fr
 | .p .un fr=> .p .un fr
 | .p (.mp a rows) fr=> .p (.mp a rows) fr
 | .pd row off fr=> .pd row off fr
 | .pc rows fr=> .pc rows fr
 | .u=> .u
 | .ptr k off=> .ptr k off
 | .vec k=> .vec k
 | .aY k sz i off=> .aY k sz i off
 | .ref k=> .ref k
 | .fn f first aL=> .fn f first aL
 | .bH t x=> .bH t x
def oK:List SV→List SV
 | []=>[]
 |x::xs=>SV.nlf x::oK xs
end
mutual
theorem VR.nlf{w:World}{E:Env}{lo:Nat}:∀(sv:SV) (v:Value),VR w E lo sv v→VR w E lo sv.nlf v
 | .p (.v x) fr,v,h=>by
  simp only[SV.nlf]
  cases hx:gP x with
  |true=>
   have:=kN hx;subst this
   rw[sa h]
   simp only[VR]
   exact .nil none 0
  |false=>exact h
 | .agg xs,v,h=>by simp only[SV.nlf,VR]at h ⊢;obtain⟨vs,h1,h2⟩:=h;exact⟨vs,h1,VRs.nlf xs vs h2⟩
 | .bB xs,v,h=>by simp only[SV.nlf,VR]at h ⊢;obtain⟨vs,h1,h2⟩:=h;exact⟨vs,h1,VRs.nlf xs vs h2⟩
 | .p (.sl rows) fr,v,h=>by simpa only[SV.nlf]using h
 | .p (.rm len rows) fr,v,h=>by simpa only[SV.nlf]using h
 | .p (.ls rows) fr,v,h=>by simpa only[SV.nlf]using h
 | .p .un fr,v,h=>by simpa only[SV.nlf]using h
 | .p (.mp a rows) fr,v,h=>by simpa only[SV.nlf]using h
 | .pd row off fr,v,h=>by simpa only[SV.nlf]using h
 | .pc rows fr,v,h=>by simpa only[SV.nlf]using h
 | .u,_,h=>by simpa only[SV.nlf]using h
 | .ptr k off,_,h=>by simpa only[SV.nlf]using h
 | .vec k,_,h=>by simpa only[SV.nlf]using h
 | .aY k sz i off,_,h=>by simpa only[SV.nlf]using h
 | .ref k,_,h=>by simpa only[SV.nlf]using h
 | .fn f first aL,_,h=>by simpa only[SV.nlf]using h
 | .bH t x,v,h=>by simpa only[SV.nlf]using h
theorem VRs.nlf{w:World}{E:Env}{lo:Nat}:∀(xs:List SV) (vs:List Value),VRs w E lo xs vs→VRs w E lo (oK xs) vs
 | [],[],_=>by simp[oK,VRs]
 |x::xs,v::vs,h=>by simp only[oK];exact dI (VR.nlf x v (bj.1 h).1) (VRs.nlf xs vs (bj.1 h).2)
 | [],_::_,h=>by simp[VRs]at h
 |_::_,[],h=>by simp[VRs]at h
end
def iZ:List Bool→List SV→List SV
 |true::m,x::xs=>x.nlf::iZ m xs
 |false::m,x::xs=>x::iZ m xs
 |_,xs=>xs
theorem VRs.iZ{w:World}{E:Env}{lo:Nat}:∀(m:List Bool) (xs:List SV) (vs:List Value),VRs w E lo xs vs→VRs w E lo (Go.TL.iZ m xs) vs
 | [],xs,vs,h=>by simpa only[Go.TL.iZ]using h
 |b::m,[],vs,h=>by cases b<;>simpa only[Go.TL.iZ]using h
 |true::m,x::xs,v::vs,h=>by simp only[Go.TL.iZ];exact dI (VR.nlf x v (bj.1 h).1) (VRs.iZ m xs vs (bj.1 h).2)
 |false::m,x::xs,v::vs,h=>by simp only[Go.TL.iZ];exact dI (bj.1 h).1 (VRs.iZ m xs vs (bj.1 h).2)
 |true::m,x::xs,[],h=>by simp[VRs]at h
 |false::m,x::xs,[],h=>by simp[VRs]at h
theorem FnS.nlf{P:Program}{g:FuncId}{T:Tab}{R:SV→Tab→Prop}(m:List Bool)(svs:List SV){svs':List SV}(e:iZ m svs=svs')(h:FnS P g svs' T R):FnS P g svs T R:=by
 subst e
 intro lo w E vals aV ht hv
 exact h lo w E vals aV ht (VRs.iZ m svs vals hv)
end Go.TL
namespace Go.TL
end Go.TL
