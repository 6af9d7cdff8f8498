/- Regions that draw the order of their operations. -/
import Derived.Test.YtbjmbhgbalmoaaaW07
import Derived.Still
import Derived.Test.YtbjmbhgbalmoaaaW06
namespace Go.TL
def zr(P:Program)(n:Nat)(ops:Array Oper)(fuel:Nat)(listed:Array Bool)(σ:St)(Q:Exit→St→Prop):Prop:=
 ∀lo w0 E0 a w,Holds (mkC P n lo w0 E0) σ a w→wpAny P .any ops (lift (mkC P n lo w0 E0) Q) fuel listed a w
end Go.TL
namespace Go.TL
inductive WR(P:Program):CK→PV→Prop
 |int (k:IntKind) (n:Int) (h1:k.min≤n) (h2:n≤k.max):WR P (.int k) (.v (.int k n))
 |bool (x:Bool):WR P .bool (.v (.bool x))
 |str (x:ByteArray) (h:x.size≤bZ):WR P .str (.v (.string x))
 |rm (e:TypeId) (len:Nat) (rows:List (List PV)) (h:len≤rows.length) (hm:len≤ew) (hr:rows.length≤len+2) (hl:∀row∈rows,row.length=(cks P e).length)
   (hw:∀(row:List PV),row∈rows→∀(j:Nat) (ck:CK) (x:PV),(cks P e)[j]? =some ck→row[j]? =some x→WR P ck x):WR P (.sl e) (.rm len rows)
def WRs(P:Program):List CK→List PV→Prop
 | [],[]=>True
 |c::cs,x::xs=>WR P c x∧WRs P cs xs
 |_,_=>False
theorem dt{P:Program}:∀(cs:List CK) (xs:List PV),WRs P cs xs ↔ xs.length=cs.length∧∀(j:Nat) (ck:CK) (x:PV),cs[j]? =some ck→xs[j]? =some x→WR P ck x
 | [],[]=>by simp[WRs]
 |c::cs,x::xs=>by
  simp only[WRs]
  rw[dt cs xs]
  constructor
  ·rintro⟨h1,h2,h3⟩
   refine⟨by simp[h2],?_⟩
   intro j ck y hc hy
   cases j with
   |zero=>simp at hc hy;subst hc;subst hy;exact h1
   |succ j=>exact h3 j ck y (by simpa using hc) (by simpa using hy)
  ·rintro⟨h1,h2⟩
   exact⟨h2 0 c x rfl rfl,by simpa using h1,fun j ck y hc hy=>h2 (j+1) ck y (by simpa using hc) (by simpa using hy)⟩
 | [],_::_=>by simp[WRs]
 |_::_,[]=>by simp[WRs]
def TyR(P:Program)(t:TypeId)(row:List PV):Prop:=WRs P (cks P t) row
theorem TyR.of{P:Program}{t:TypeId}{cs:List CK}{row:List PV}(hc:cks P t=cs)(h:WRs P cs row):TyR P t row:=by unfold TyR;rw[hc];exact h
theorem TyR.to{P:Program}{t:TypeId}{cs:List CK}{row:List PV}(hc:cks P t=cs)(h:TyR P t row):WRs P cs row:=by unfold TyR at h;rw[hc]at h;exact h
mutual
def PV.er:PV→PV
 | .v x=> .v x
 | .sl rows=> .sl rows
 | .rm len rows=> .sl (dn len rows)
 | .ls rows=> .ls rows
 | .un=> .un
 | .mp a rows=> .mp a rows
def cL:List PV→List PV
 | []=>[]
 |x::xs=>PV.er x::cL xs
def dn:Nat→List (List PV)→List (List PV)
 |_,[]=>[]
 |0,_::_=>[]
 |n+1,r::rs=>cL r::dn n rs
end
theorem eO:∀(row:List PV) (j:Nat),(cL row)[j]? =(row[j]?).map PV.er
 | [],j=>by simp[cL]
 |x::xs,0=>by simp[cL]
 |x::xs,j+1=>by simp[cL,eO xs j]
theorem ic(row:List PV):(cL row).length=row.length:=by
 induction row with
 |nil=>simp[cL]
 |cons x xs ih=>simp[cL,ih]
theorem jm:∀(n:Nat) (rows:List (List PV)) (i:Nat),(dn n rows)[i]? =if i<n then(rows[i]?).map cL else none
 |_,[],i=>by simp[dn]
 |0,_::_,i=>by simp[dn]
 |n+1,r::rs,0=>by simp[dn]
 |n+1,r::rs,i+1=>by simp[dn,jm n rs i]
theorem lJ(n:Nat)(rows:List (List PV)):(dn n rows).length=min n rows.length:=by
 induction rows generalizing n with
 |nil=>simp[dn]
 |cons r rs ih=>cases n with
  |zero=>simp[dn]
  |succ n=>simp only[dn,List.length_cons,ih];omega
theorem Rep.er{w:World}{bad:Nat→Prop}{lo:Nat}{x:PV}{v:Value}(h:Rep w bad lo x v):Rep w bad lo x.er v:=by
 induction h with
 |v x hx=>exact .v x hx
 |nil b c=>exact .nil b c
 |sl rows b off cap cs t fz sz f dS hb bh aV dZ hlen hc hr ih=>exact .sl rows b off cap cs t fz sz f dS hb bh aV dZ hlen hc hr
 |j2=>simp only[PV.er,dn];exact .nil none 0
 |rm len rows b off cs t sz f dS hb bh aV hlen hc hr ih=>
  simp only[PV.er]
  have hl:(dn len rows).length=len:=by rw[lJ];omega
  have fZ:∀(i:Nat) (row:List PV),(dn len rows)[i]? =some row→∃r0,rows[i]? =some r0∧row=cL r0:=by
   intro i row hi
   rw[jm]at hi
   split at hi
   ·cases hq:rows[i]? with
    |none=>simp[hq]at hi
    |some r0=>simp[hq]at hi;exact⟨r0,rfl,hi.symm⟩
   ·cases hi
  have gI:∀(r0:List PV) (j:Nat) (x:PV),(cL r0)[j]? =some x→∃y,r0[j]? =some y∧x=y.er:=by
   intro r0 j x hj
   rw[eO]at hj
   cases hq:r0[j]? with
   |none=>simp[hq]at hj
   |some y=>simp[hq]at hj;exact⟨y,rfl,hj.symm⟩
  have:=Rep.sl (w:=w) (bad:=bad) (lo:=lo) (dn len rows) b off rows.length cs t (0,0) sz f (by rw[hl];exact dS) hb bh aV (fun _=>rfl)
   (fun i row hi=>by obtain⟨r0,h1,rfl⟩:=fZ i row hi;rw[ic];exact hlen i r0 h1)
   (fun i row j x hi hj=>by
    obtain⟨r0,h1,rfl⟩:=fZ i row hi
    obtain⟨y,h2,rfl⟩:=gI r0 j x hj
    exact hc i r0 j y h1 h2)
   (fun i row j x hi hj=>by
    obtain⟨r0,h1,rfl⟩:=fZ i row hi
    obtain⟨y,h2,rfl⟩:=gI r0 j x hj
    exact ih i r0 j y h1 h2)
  rw[hl]at this
  exact this
 |jv=>exact .jv
 |un x hx=>exact .un x hx
 |ls row rows b o cs t fz f hb bh aV hc hr ih=>exact .ls row rows b o cs t fz f hb bh aV hc hr
 |jw a=>exact .jw a
 |mp a rows b es clock f hb bh aV hc hr ih=>exact .mp a rows b es clock f hb bh aV hc hr
theorem WR.er{P:Program}{ck:CK}{x:PV}(h:WR P ck x):WT P ck x.er:=by
 induction h with
 |int k n h1 h2=>exact .int k n h1 h2
 |bool x=>exact .bool x
 |str x h=>exact .str x h
 |rm e len rows h hm hr hl hw ih=>
  simp only[PV.er]
  have fZ:∀row∈dn len rows,∃r0∈rows,row=cL r0:=by
   intro row dk
   obtain⟨i,hi⟩:=List.getElem?_of_mem dk
   rw[jm]at hi
   split at hi
   ·cases hq:rows[i]? with
    |none=>simp[hq]at hi
    |some r0=>simp[hq]at hi;exact⟨r0,CE hq,hi.symm⟩
   ·cases hi
  refine .sl e _ (by rw[lJ];have:=gQ e;unfold ew at hm;omega) ?_ ?_
  ·intro row dk
   obtain⟨r0,h0,rfl⟩:=fZ row dk
   rw[ic];exact hl r0 h0
  ·intro row dk j ck x hc hx
   obtain⟨r0,h0,rfl⟩:=fZ row dk
   rw[eO]at hx
   cases hq:r0[j]? with
   |none=>simp[hq]at hx
   |some y=>simp[hq]at hx;subst hx;exact ih r0 h0 j ck y hc hq
theorem TyR.er{P:Program}{t:TypeId}{row:List PV}(h:TyR P t row):Ty P t (cL row):=by
 unfold TyR at h;unfold Ty
 rw[dt]at h;rw[aI]
 refine⟨by rw[ic];exact h.1,?_⟩
 intro j ck x hc hx
 rw[eO]at hx
 cases hq:row[j]? with
 |none=>simp[hq]at hx
 |some y=>simp[hq]at hx;subst hx;exact(h.2 j ck y hc hq).er
def de:List CK→Bool
 | []=>true
 | .int _::r=>de r
 | .bool::r=>de r
 | .str::r=>de r
 |_=>false
theorem gk:∀{cs:List CK},de cs=true→∀c∈cs,(∃k,c= .int k)∨c= .bool∨c= .str
 | [],_,c,hc=>by simp at hc
 | .int k::r,h,c,hc=>by
  rcases CD hc with rfl|hc
  ·exact .inl ⟨k,rfl⟩
  ·exact gk (cs:=r) (by simpa[de]using h) c hc
 | .bool::r,h,c,hc=>by
  rcases CD hc with rfl|hc
  ·exact .inr (.inl rfl)
  ·exact gk (cs:=r) (by simpa[de]using h) c hc
 | .str::r,h,c,hc=>by
  rcases CD hc with rfl|hc
  ·exact .inr (.inr rfl)
  ·exact gk (cs:=r) (by simpa[de]using h) c hc
 | .sl _::_,h,_,_=>by simp[de]at h
 | .other::_,h,_,_=>by simp[de]at h
 | .iz::_,h,_,_=>by simp[de]at h
 | .any::_,h,_,_=>by simp[de]at h
theorem pD{P:Program}{c:CK}{x:PV}(hs:(∃k,c= .int k)∨c= .bool∨c= .str)(h:WT P c x):(∃v,x= .v v)∧WR P c x:=by
 cases h with
 |int k n h1 h2=>exact⟨⟨_,rfl⟩,.int k n h1 h2⟩
 |bool x=>exact⟨⟨_,rfl⟩,.bool x⟩
 |str x h=>exact⟨⟨_,rfl⟩,.str x h⟩
 |iz x h=>rcases hs with⟨k,e⟩|e|e<;>cases e
 |any=>rcases hs with⟨k,e⟩|e|e<;>cases e
 |sl e rows=>rcases hs with⟨k,e⟩|e|e<;>cases e
theorem Ty.room{P:Program}{t:TypeId}{row:List PV}(hs:de (cks P t)=true)(h:Ty P t row):TyR P t row:=by
 unfold Ty at h;unfold TyR
 rw[aI]at h;rw[dt]
 exact⟨h.1,fun j ck x hc hx=>(pD (gk hs ck (CE hc)) (h.2 j ck x hc hx)).2⟩
end Go.TL
namespace Go.TL
abbrev aK:=Nat→Option Obj
inductive WF(P:Program)(room:Bool)(c:aK):Nat→CK→Value→Prop
 |int (d:Nat) (k:IntKind) (n:Int) (h1:k.min≤n) (h2:n≤k.max):WF P room c d (.int k) (.int k n)
 |bool (d:Nat) (x:Bool):WF P room c d .bool (.bool x)
 |str (d:Nat) (x:ByteArray) (h:x.size≤bZ):WF P room c d .str (.string x)
 |nil (d:Nat) (e:TypeId):WF P room c d (.sl e) (.slice none 0 0)
 |sl (d:Nat) (e:TypeId) (b o len cap:Nat) (cs:Array Value) (t:TypeId) (g:Nat→Nat→Value) (hb:c b=some (.cells cs t (0,0))) (hle:len≤cap) (hl:len≤ew) (hm:room=true→cap≤len+2)
   (hc:∀i:Nat,i<(if room then cap else len)→∀(j:Nat) (ck:CK),(cks P e)[j]? =some ck→cs[o+i*(cks P e).length+j]? =some (g i j))
   (hw:∀i:Nat,i<(if room then cap else len)→∀(j:Nat) (ck:CK),(cks P e)[j]? =some ck→WF P room c d ck (g i j)):
   WF P room c (d+1) (.sl e) (.slice (some ⟨b,o,none⟩) len cap)
theorem WF.up{P:Program}{room:Bool}{c:aK}{d:Nat}{ck:CK}{v:Value}(h:WF P room c d ck v):∀d',d≤d'→WF P room c d' ck v:=by
 induction h with
 |int d k n h1 h2=>exact fun d' _=> .int d' k n h1 h2
 |bool d x=>exact fun d' _=> .bool d' x
 |str d x h=>exact fun d' _=> .str d' x h
 |nil d e=>exact fun d' _=> .nil d' e
 |sl d e b o len cap cs t g hb hle hl hm hc hw ih=>
  intro d' hd
  obtain⟨k,rfl⟩:∃k,d'=k+1:=⟨d' - 1,by omega⟩
  exact .sl k e b o len cap cs t g hb hle hl hm hc fun i hi j ck hj=>ih i hi j ck hj k (by omega)
def ng(v0 v:Value):Prop:=
 v=v0∨(∃k n m,v0= .int k n∧v= .int k m∧k.min≤m∧m≤k.max)∨(∃x y,v0= .bool x∧v= .bool y)∨(∃x y,v0= .string x∧v= .string y∧y.size≤bZ)
def KEq(c0 c:aK):Prop:=
 (∀b,c0 b=none ↔ c b=none)∧∀b cs t fz,c0 b=some (.cells cs t fz)→∃cs',c b=some (.cells cs' t fz)∧cs'.size=cs.size∧∀(j:Nat) (v0:Value),cs[j]? =some v0→∃v,cs'[j]? =some v∧ng v0 v
theorem WF.tB{P:Program}{room:Bool}{c:aK}{d:Nat}{ck:CK}{v0 v:Value}(h:WF P room c d ck v0)(hk:ng v0 v):WF P room c d ck v:=by
 rcases hk with rfl|⟨k,n,m,rfl,rfl,h1,h2⟩|⟨x,y,rfl,rfl⟩|⟨x,y,rfl,rfl,h1⟩
 ·exact h
 ·cases h with|int=>exact .int _ _ _ h1 h2
 ·cases h with|bool=>exact .bool _ _
 ·cases h with|str=>exact .str _ _ h1
theorem WF.keq{P:Program}{room:Bool}{c0 c:aK}(hk:KEq c0 c){d:Nat}{ck:CK}{v:Value}(h:WF P room c0 d ck v):WF P room c d ck v:=by
 induction h with
 |int d k n h1 h2=>exact .int d k n h1 h2
 |bool d x=>exact .bool d x
 |str d x h=>exact .str d x h
 |nil d e=>exact .nil d e
 |sl d e b o len cap cs t g hb hle hl hm hc hw ih=>
  obtain⟨cs',h1,h2,h3⟩:=hk.2 b cs t (0,0) hb
  have key:∀i:Nat,i<(if room then cap else len)→∀(j:Nat) (ck:CK),(cks P e)[j]? =some ck→∃v,cs'[o+i*(cks P e).length+j]? =some v∧ng (g i j) v:=
   fun i hi j ck hj=>h3 _ _ (hc i hi j ck hj)
  refine .sl d e b o len cap cs' t (fun i j=>(cs'[o+i*(cks P e).length+j]?).getD undef) h1 hle hl hm (fun i hi j ck hj=>?_) fun i hi j ck hj=>?_
  ·obtain⟨v,q1,q2⟩:=key i hi j ck hj
   rw[q1];rfl
  ·obtain⟨v,q1,q2⟩:=key i hi j ck hj
   simp only[q1,Option.getD_some]
   exact(ih i hi j ck hj).tB q2
theorem fI{p:Nat→Nat→Prop}(hm:∀i d d',d≤d'→p i d→p i d'):∀(n:Nat),(∀i,i<n→∃d,p i d)→∃d,∀i,i<n→p i d
 |0,_=>⟨0,fun i hi=>absurd hi (Nat.not_lt_zero i)⟩
 |n+1,h=>by
  obtain⟨d1,h1⟩:=fI hm n fun i hi=>h i (by omega)
  obtain⟨d2,h2⟩:=h n (by omega)
  refine⟨max d1 d2,fun i hi=>?_⟩
  by_cases he:i=n
  ·subst he;exact hm i d2 _ (by omega) h2
  ·exact hm i d1 _ (by omega) (h1 i (by omega))
end Go.TL
namespace Go.TL.H
open Go
abbrev aT:=List (Nat×Value)
def bz:Option Nat→Value→aT→aT
 |some d,v,l=>(d,v)::l
 |none,_,l=>l
structure SL(n:Nat)(sl:aT)(a:Act):Prop where
 size:a.tmps.size=n
 defers:a.defers=[]
 az:∀t v,lk sl t=some v→a.tmps.getD t undef=v
def dok(n:Nat):Option Nat→Bool
 |some d=>Nat.ble (d+1) n
 |none=>true
theorem SL.put{n:Nat}{sl:aT}{a:Act}(h:SL n sl a){dst:Option Nat}(hd:dok n dst=true)(v:Value):SL n (bz dst v sl) (a.put dst v):=by
 cases dst with
 |none=>exact h
 |some d=>
  have hdn:d<n:=Cz hd
  refine⟨by simp[Act.put,h.size],h.defers,?_⟩
  intro t x hl
  by_cases he:t=d
  ·subst he
   simp only[bz]at hl
   rw[aE]at hl;cases hl
   have:t<a.tmps.size:=by rw[h.size];exact hdn
   simp[Act.put,this]
  ·simp only[bz]at hl
   rw[av _ _ _ _ he]at hl
   have:=h.az t x hl
   simpa[Act.put,Array.getElem?_setIfInBounds,Ne.symm he]using this
theorem SL.zt{n:Nat}{sl:aT}{a:Act}(h:SL n sl a){dst:Option Nat}(hd:dok n dst=true):SL n (bz dst undef sl) (a.put dst undef):=h.put hd undef
theorem SL.keep{n:Nat}{sl:aT}{a:Act}(h:SL n sl a)(ks:List Nat):SL n (pick sl ks) a:=⟨h.size,h.defers,fun t v hl=>h.az t v (oJ _ _ _ _ hl)⟩
def slV:Nat→List Value→aT
 |_,[]=>[]
 |k,x::xs=>(k,x)::slV (k+1) xs
theorem uJ:∀(xs:List Value) (k t:Nat),lk (slV k xs) t=if k≤t then xs[t - k]? else none
 | [],k,t=>by simp[slV,lk]
 |x::xs,k,t=>by
  simp only[slV,lk]
  cases hb:Nat.beq k t with
  |true=>have:=Cv hb;subst this;simp
  |false=>
   have gY:=beq_false hb
   simp only
   rw[uJ xs (k+1) t]
   by_cases hle:k≤t
   ·rw[if_pos (by omega),if_pos hle,show t - k=(t - (k+1))+1 by omega];rfl
   ·rw[if_neg (by omega),if_neg hle]
theorem SL.init{n:Nat}(args:List Value)(h:Nat.ble args.length n=true):SL n (slV 0 args) {tmps:=args.toArray++Array.replicate (n - args.length) undef,defers:=[]}:=by
 have hn:=Cz h
 refine⟨by simp;omega,rfl,?_⟩
 intro t v hl
 rw[uJ]at hl
 simp at hl
 have aF:t<args.length:=(CA hl).1
 simp only[Array.getD_eq_getD_getElem?,Array.getElem?_append,List.size_toArray,aF,if_true,List.getElem?_toArray,hl,Option.getD_some]
def ev(sl:aT):Operand→Option Value
 | .tmp t=>lk sl t
 | .const v=>some v
 | .func f=>some (.func (.func f) #[] #[])
 | .global g=>some (.pointer (some ⟨g,0,none⟩))
theorem SL.ev{n:Nat}{sl:aT}{a:Act}(h:SL n sl a){x:Operand}{v:Value}(e:H.ev sl x=some v):a.eval x=v:=by
 cases x with
 |tmp t=>exact h.az t v e
 |const u=>simpa[H.ev,Act.eval]using e
 |func f=>simpa[H.ev,Act.eval]using e
 |global g=>simpa[H.ev,Act.eval]using e
def evs(sl:aT):List Operand→Option (List Value)
 | []=>some []
 |x::xs=>match ev sl x,evs sl xs with
  |some v,some vs=>some (v::vs)
  |_,_=>none
theorem SL.evs{n:Nat}{sl:aT}{a:Act}(h:SL n sl a):∀{xs:List Operand} {vs:List Value},H.evs sl xs=some vs→xs.map a.eval=vs
 | [],vs,e=>by simp[H.evs]at e;subst e;rfl
 |x::xs,vs,e=>by
  simp only[H.evs]at e
  split at e
  ·rename_i v us h1 h2
   simp only[Ct]at e;subst e
   simp[h.ev h1,h.evs h2]
  ·cases e
section
variable {P:Program} {ops:Array Oper} {Q:Exit→Act→World→Prop} {rest:List Oper} {o:Oper} {n:Nat} {sl:aT} {a:Act} {w w':World} {v:Value}
theorem wg{j t:Nat}{want b:Bool}(h:SL n sl a)(hg:o.guard=some (j,want))(hj:(ops[j]?).bind (·.dst)=some t)(ht:lk sl t=some (.bool b))(htn:Nat.ble (t+1) n=true):
  Region.wanted o (yielded ops a.tmps)=(b==want):=by
 have aF:t<a.tmps.size:=by rw[h.size];exact Cz htn
 have h1:=h.az t _ ht
 have h2:a.tmps[t]? =some (.bool b):=by
  rw[Array.getD_eq_getD_getElem?]at h1
  rw[Array.getElem?_eq_getElem aF]at h1 ⊢
  simpa using h1
 unfold Region.wanted
 rw[hg]
 simp only[yielded,hj,Option.bind_some,h2]
 cases b<;>cases want<;>rfl
theorem L(h:SL n sl a)(hw:Region.wanted o (yielded ops a.tmps)=true)(hd:dok n o.dst=true)(hr:(execOp a.eval o).run P w= .ok (.value v) w')
  (k:∀a',SL n (bz o.dst v sl) a'→wpList P ops Q rest a' w'):wpList P ops Q (o::rest) a w:=by
 unfold wpList
 rw[if_pos hw]
 refine .inl ?_
 unfold Oper.wp
 rw[hr]
 exact k _ (h.put hd v)
theorem Ls(h:SL n sl a)(hw:Region.wanted o (yielded ops a.tmps)=true)(hd:o.dst=none)(hr:(execOp a.eval o).run P w= .ok .skip w')
  (k:SL n sl a→wpList P ops Q rest a w'):wpList P ops Q (o::rest) a w:=by
 unfold wpList
 rw[if_pos hw]
 refine .inl ?_
 unfold Oper.wp
 rw[hr]
 have e:a.put o.dst undef=a:=by rw[hd];rfl
 show wpList P ops Q rest (a.put o.dst undef) w'
 rw[e];exact k h
theorem Lu(h:SL n sl a)(hw:Region.wanted o (yielded ops a.tmps)=false)(hd:dok n o.dst=true)
  (k:∀a',SL n (bz o.dst undef sl) a'→wpList P ops Q rest a' w):wpList P ops Q (o::rest) a w:=by
 unfold wpList
 rw[if_neg (by rw[hw];simp)]
 exact k _ (h.zt hd)
theorem sh{K:Act→World→Prop}{f:Operand}{args:Array Operand}{ts:Array TypeId}{g:FuncId}{first aL:Array Value}{vs:List Value}{R:Value→World→Prop}(h:SL n sl a)(hd:dok n o.dst=true)
  (ho:o.op= .call ⟨.value f,args,ts⟩)(hf:ev sl f=some (.func (.func g) first aL))(ha:evs sl args.toList=some vs)(aC:aD P g=true)
  (jg:Ret P g (first.toList++(vs++aL.toList)) w R)(k:∀v w' a',R v w'→SL n (bz o.dst v sl) a'→K a' w'):o.wp P a w K Q:=by
 have hfv:=h.ev hf
 have hav:=h.evs ha
 have cf:(execOp a.eval o).run P w= .ok (.enter g (first.toList++(vs++aL.toList)).toArray) w:=by
  unfold execOp
  simp only[ho,resolve,hfv,Deferred.ofValue,pure_bind,invoke]
  have e:(first++Array.map a.eval args)++aL=(first.toList++(vs++aL.toList)).toArray:=by
   rw[←hav]
   apply Array.ext';simp
  rw[e]
  exact jC aC
 unfold Oper.wp
 rw[cf]
 show Calls P g _ w _
 refine Calls.mono jg ?_
 rintro e w' ⟨v,rfl,hR⟩
 exact k v w' _ hR (h.put hd v)
theorem Lc{f:Operand}{args:Array Operand}{ts:Array TypeId}{g:FuncId}{first aL:Array Value}{vs:List Value}{R:Value→World→Prop}(h:SL n sl a)(hw:Region.wanted o (yielded ops a.tmps)=true)(hd:dok n o.dst=true)
  (ho:o.op= .call ⟨.value f,args,ts⟩)(hf:ev sl f=some (.func (.func g) first aL))(ha:evs sl args.toList=some vs)(aC:aD P g=true)
  (jg:Ret P g (first.toList++(vs++aL.toList)) w R)(k:∀v w' a',R v w'→SL n (bz o.dst v sl) a'→wpList P ops Q rest a' w'):wpList P ops Q (o::rest) a w:=by
 unfold wpList
 rw[if_pos hw]
 exact .inl (sh h hd ho hf ha aC jg k)
theorem Le(h:Q .normal a w):wpList P ops Q [] a w:=h
theorem T{Q:Act→Prop}(h:SL n sl a)(hw:Region.wanted o (yielded ops a.tmps)=true)(hd:dok n o.dst=true)(hr:(execOp a.eval o).run P w= .ok (.value v) w)
  (k:∀a',SL n (bz o.dst v sl) a'→wpStill P ops w Q rest a'):wpStill P ops w Q (o::rest) a:=by
 unfold wpStill
 rw[if_pos hw]
 unfold Oper.still
 rw[hr,Oper.stillUpon_value]
 exact k _ (h.put hd v)
theorem Tu{Q:Act→Prop}(h:SL n sl a)(hw:Region.wanted o (yielded ops a.tmps)=false)(hd:dok n o.dst=true)
  (k:∀a',SL n (bz o.dst undef sl) a'→wpStill P ops w Q rest a'):wpStill P ops w Q (o::rest) a:=by
 unfold wpStill
 rw[if_neg (by rw[hw];simp)]
 exact k _ (h.zt hd)
theorem Te{Q:Act→Prop}(h:Q a):wpStill P ops w Q [] a:=h
theorem Y{fuel i:Nat}{listed:Array Bool}(h:SL n sl a)(hi:ops[i]? =some o)(hg:o.guard=none)(hd:dok n o.dst=true)(hs:Region.noSelect ops=true)(hf:Region.free .any ops listed i=true)
  (hr:(Region.ready .any ops listed).contains i=true)(hQ:∀c a w,Q (.panic c) a w→False)(hx:∀w,(execOp a.eval o).run P w= .ok (.value v) w)
  (k:∀a',SL n (bz o.dst v sl) a'→wpAny P .any ops Q fuel (listed.setIfInBounds i true) a' w):wpAny P .any ops Q (fuel+1) listed a w:=
 wpAny_take hi hs hf hr (fun c a w h=>(hQ c _ _ h).elim) (.inl ⟨by unfold Region.wanted;rw[hg],hx⟩) (k _ (h.put hd v))
theorem aj{i:Nat}{K:Act→World→Prop}(h:SL n sl a)(hi:ops[i]? =some o)(hg:o.guard=none)(hd:dok n o.dst=true)(hr:(execOp a.eval o).run P w= .ok (.value v) w')
  (k:∀a',SL n (bz o.dst v sl) a'→K a' w'):wpOp P ops Q i K a w:=by
 unfold wpOp
 simp only[hi]
 rw[if_pos (by unfold Region.wanted;rw[hg])]
 refine .inl ?_
 unfold Oper.wp
 rw[hr]
 exact k _ (h.put hd v)
theorem eQ{i:Nat}{K:Act→World→Prop}(h:SL n sl a)(hi:ops[i]? =some o)(hg:o.guard=none)(hd:o.dst=none)(hr:(execOp a.eval o).run P w= .ok .skip w')
  (k:SL n sl a→K a w'):wpOp P ops Q i K a w:=by
 unfold wpOp
 simp only[hi]
 rw[if_pos (by unfold Region.wanted;rw[hg])]
 refine .inl ?_
 unfold Oper.wp
 rw[hr]
 have e:a.put o.dst undef=a:=by rw[hd];rfl
 show K (a.put o.dst undef) w'
 rw[e];exact k h
theorem Y1{fuel:Nat}(i:Nat){listed:Array Bool}(hr:Region.ready .any ops listed=[i])(k:wpOp P ops Q i (wpAny P .any ops Q fuel (listed.setIfInBounds i true)) a w):wpAny P .any ops Q (fuel+1) listed a w:=
 wpAny_all hr (by simp) fun j hj=>by simp at hj;subst hj;exact k
theorem Y2{fuel:Nat}(i j:Nat){listed:Array Bool}(hr:Region.ready .any ops listed=[i,j])(k1:wpOp P ops Q i (wpAny P .any ops Q fuel (listed.setIfInBounds i true)) a w)
  (k2:wpOp P ops Q j (wpAny P .any ops Q fuel (listed.setIfInBounds j true)) a w):wpAny P .any ops Q (fuel+1) listed a w:=
 wpAny_all hr (by simp) fun l hl=>by
  simp at hl
  rcases hl with rfl|rfl
  ·exact k1
  ·exact k2
theorem Ye{fuel:Nat}{listed:Array Bool}(hr:Region.ready .any ops listed=[])(h:Q .normal a w):wpAny P .any ops Q fuel listed a w:=wpAny_done hr h fuel
end
structure Ch(S:Nat→Prop)(w w':World):Prop where
 os:w'.os=w.os
 tape:w'.tape=w.tape
 output:w'.output=w.output
 size:w.heap.size≤w'.heap.size
 keep:∀b,b<w.heap.size→¬ S b→w'.heap[b]? =w.heap[b]?
theorem Ch.refl(S:Nat→Prop)(w:World):Ch S w w:=⟨rfl,rfl,rfl,Nat.le_refl _,fun _ _ _=>rfl⟩
theorem Ch.drew(S:Nat→Prop)(w:World):Ch S w {w with drawn:=w.drawn+1}:=⟨rfl,rfl,rfl,Nat.le_refl _,fun _ _ _=>rfl⟩
theorem Ch.trans{S:Nat→Prop}{w w1 w2:World}(h:Ch S w w1)(k:Ch S w1 w2):Ch S w w2:=
 ⟨k.os.trans h.os,k.tape.trans h.tape,k.output.trans h.output,Nat.le_trans h.size k.size,fun b hb hn=>(k.keep b (Nat.lt_of_lt_of_le hb h.size) hn).trans (h.keep b hb hn)⟩
theorem Ch.mono{S S':Nat→Prop}{w w':World}(h:Ch S w w')(hs:∀b,b<w.heap.size→S b→S' b):Ch S' w w':=
 ⟨h.os,h.tape,h.output,h.size,fun b hb hn=>h.keep b hb fun hS=>hn (hs b hb hS)⟩
theorem Ch.trans'{S S':Nat→Prop}{w w1 w2:World}(h:Ch S w w1)(k:Ch S' w1 w2)(hs:∀b,b<w.heap.size→S' b→S b):Ch S w w2:=
 ⟨k.os.trans h.os,k.tape.trans h.tape,k.output.trans h.output,Nat.le_trans h.size k.size,fun b hb hn=>(k.keep b (Nat.lt_of_lt_of_le hb h.size) fun hS=>hn (hs b hb hS)).trans (h.keep b hb hn)⟩
theorem Ch.at{S:Nat→Prop}{w w':World}(h:Ch S w w'){b:Nat}{o:Obj}(hb:w.heap[b]? =some o)(hn:¬ S b):w'.heap[b]? =some o:=by rw[h.keep b (aq hb) hn];exact hb
theorem Ch.alloc(S:Nat→Prop)(w:World)(o:Obj):Ch S w (w.alloc o):=⟨rfl,rfl,rfl,by simp,fun b hb _=>heap_alloc_old w o b hb⟩
theorem Ch.setRow(w:World)(b:Nat)(cs:Array Value):Ch (· =b) w (w.setRow b cs):=⟨rfl,rfl,rfl,by simp,fun c _ hn=>setRow_other w b c cs hn⟩
theorem Ch.ownsRow{S:Nat→Prop}{w w':World}(h:Ch S w w'){base e size n:Nat}{v:Value}{xs:List Value}(ho:w.ownsRow base e size v n xs)(hn:∀g,v.ownBlock=some g→¬ S g):w'.ownsRow base e size v n xs:=by
 refine⟨ho.1,?_⟩
 rcases ho.2 with h1|⟨g,cap,cur,h1,h2,h3,h4⟩
 ·exact .inl h1
 ·exact .inr ⟨g,cap,cur,h1,h2,h.at h3 (hn g (by rw[h1];rfl)),h4⟩
end Go.TL.H
