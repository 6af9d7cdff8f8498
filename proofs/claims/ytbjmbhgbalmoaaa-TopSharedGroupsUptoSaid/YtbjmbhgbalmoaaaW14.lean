/- Regions whose first operations only read, and the others wait for them. -/
import Derived.Test.YtbjmbhgbalmoaaaW08
import Derived.StillTail
namespace Go.TL
section
variable {P:Program} {ops:Array Oper} {w:World} {n:Nat}
structure Cut(ops:Array Oper)(n:Nat):Prop where
 lt:n<ops.size
 head:∀i,i<n→∃j oj,i<j∧j≤n∧ops[j]? =some oj∧∃e∈oj.after,Region.binds .any e=true∧e.on=i
 tail:∀t ot,n<t→ops[t]? =some ot→∃e∈ot.after,Region.binds .any e=true∧e.on=n
end
end Go.TL
namespace Go.TL
structure Va where
 n:Int
 b:Bool
 s:ByteArray
 l:List (List PV)
instance:Inhabited Va:=⟨⟨0,false,⟨#[]⟩,[]⟩⟩
abbrev Ro:=Nat→Va
abbrev Sum:=List (Nat×Int)
structure Lin where
 c:Int
 t:Sum
def aR(ρ:Ro)(a:Nat):Int:=
 match a % 4 with
 |0=>(ρ (a / 4)).n
 |1=>((ρ (a / 4)).l.length:Int)
 |2=>(rsz (ρ (a / 4)).l:Int)
 |_=>((ρ (a / 4)).s.size:Int)
def cQ(ρ:Ro):Sum→Int
 | []=>0
 |(a,c)::r=>c*aR ρ a+cQ ρ r
def Lin.v(ρ:Ro)(e:Lin):Int:=e.c+cQ ρ e.t
def isZ:Int→Bool
 | .ofNat n=>Nat.beq n 0
 | .negSucc _=>false
def qn:Int→Bool
 | .ofNat n=>Nat.beq n 1
 | .negSucc _=>false
def zO:Int→Bool
 | .ofNat _=>false
 | .negSucc n=>Nat.beq n 0
def leZ:Int→Bool
 | .ofNat n=>Nat.beq n 0
 | .negSucc _=>true
theorem ku{z:Int}(h:isZ z=true):z=0:=by
 cases z with
 |ofNat n=>simp only[isZ]at h;rw[Cv h];rfl
 |negSucc n=>simp[isZ]at h
theorem uV{z:Int}(h:leZ z=true):z≤0:=by
 cases z with
 |ofNat n=>simp only[leZ]at h;rw[Cv h];decide
 |negSucc n=>exact Int.le_of_lt (Int.negSucc_lt_zero n)
def lS(a:Nat)(c:Int):Sum→Sum
 | []=>match isZ c with|true=>[]|false=>[(a,c)]
 |(a',c')::r=>match Nat.beq a a' with
   |true=>match isZ (c+c')with|true=>r|false=>(a,c+c')::r
   |false=>match Nat.ble a a' with
    |true=>match isZ c with|true=>(a',c')::r|false=>(a,c)::(a',c')::r
    |false=>(a',c')::lS a c r
theorem uW(ρ:Ro)(a:Nat)(c:Int):∀l:Sum,cQ ρ (lS a c l)=c*aR ρ a+cQ ρ l
 | []=>by
  simp only[lS]
  cases hz:isZ c with
  |true=>simp[ku hz,cQ]
  |false=>simp[cQ]
 |(a',c')::r=>by
   simp only[lS]
   cases hb:Nat.beq a a' with
   |true=>
    have e:=Cv hb;subst e
    cases hz:isZ (c+c')with
    |true=>
     have e:=ku hz
     simp only[cQ]
     have:c*aR ρ a+(c'*aR ρ a+cQ ρ r)=(c+c')*aR ρ a+cQ ρ r:=by rw[Int.add_mul];omega
     rw[this,e];simp
    |false=>simp only[cQ];rw[Int.add_mul];omega
   |false=>
    cases hl:Nat.ble a a' with
    |true=>
     cases hz:isZ c with
     |true=>simp[ku hz]
     |false=>simp[cQ]
    |false=>simp only[cQ,uW ρ a c r];omega
def ns(k:Int):Sum→Sum→Sum
 | [],y=>y
 |(a,c)::r,y=>ns k r (lS a (k*c) y)
theorem uX(ρ:Ro)(k:Int):∀(x y:Sum),cQ ρ (ns k x y)=k*cQ ρ x+cQ ρ y
 | [],y=>by simp[ns,cQ]
 |(a,c)::r,y=>by
   simp only[ns,cQ]
   rw[uX ρ k r,uW,Int.mul_add,Int.mul_assoc];omega
def Lin.ax(x:Lin)(k:Int)(y:Lin):Lin:=⟨x.c+k*y.c,ns k y.t x.t⟩
theorem Lin.ig(ρ:Ro)(x:Lin)(k:Int)(y:Lin):(x.ax k y).v ρ=x.v ρ+k*y.v ρ:=by
 unfold Lin.ax Lin.v;simp only[uX,Int.mul_add];omega
def Lin.add(x y:Lin):Lin:=x.ax 1 y
def Lin.sub(x y:Lin):Lin:=x.ax (-1) y
def Lin.scale(k:Int)(x:Lin):Lin:=Lin.ax ⟨0,[]⟩ k x
def Lin.lit(n:Int):Lin:=⟨n,[]⟩
def Lin.at(a:Nat):Lin:=⟨0,[(a,1)]⟩
def Lin.cR(x:Lin)(n:Int):Lin:=⟨x.c+n,x.t⟩
theorem Lin.ez(ρ:Ro)(k:Int)(x:Lin):(Lin.scale k x).v ρ=k*x.v ρ:=by unfold Lin.scale;rw[Lin.ig];simp[Lin.v,cQ]
theorem Lin.dX(ρ:Ro)(n:Int):(Lin.lit n).v ρ=n:=by simp[Lin.lit,Lin.v,cQ]
theorem Lin.eh(ρ:Ro)(a:Nat):(Lin.at a).v ρ=aR ρ a:=by simp[Lin.at,Lin.v,cQ]
theorem Lin.ca(ρ:Ro)(x:Lin)(n:Int):(x.cR n).v ρ=x.v ρ+n:=by unfold Lin.cR Lin.v;simp only;omega
def k6:Sum→Sum→Bool
 | [],[]=>true
 |(a,c)::r,(a',c')::r'=>match Nat.beq a a',isZ (c - c')with
   |true,true=>k6 r r'
   |_,_=>false
 |_,_=>false
theorem nt:∀{x y:Sum},k6 x y=true→x=y
 | [],[],_=>rfl
 |(a,c)::r,(a',c')::r',h=>by
   simp only[k6]at h
   split at h
   ·rename_i h1 h2
    have e1:=Cv h1
    have e2:=ku h2
    have:c=c':=by omega
    subst e1;subst this;rw[nt h]
   ·cases h
 | [],_::_,h=>by simp[k6]at h
 |_::_,[],h=>by simp[k6]at h
def Lin.beq(x y:Lin):Bool:=match isZ (x.c - y.c)with|true=>k6 x.t y.t|false=>false
theorem Lin.beq_eq{x y:Lin}(h:x.beq y=true):x=y:=by
 unfold Lin.beq at h
 split at h
 ·rename_i h1
  have:=ku h1
  obtain⟨c,t⟩:=x;obtain⟨c',t'⟩:=y
  simp only at this h
  rw[show c=c' by omega,nt h]
 ·cases h
inductive BF where
 |lit(b:Bool)
 |var(k:Nat)
 |le(e:Lin)
 |eq(e:Lin)
 |not(f:BF)
 |and(f g:BF)
 |or(f g:BF)
def BF.v(ρ:Ro):BF→Bool
 | .lit b=>b
 | .var k=>(ρ k).b
 | .le e=>decide (e.v ρ≤0)
 | .eq e=>decide (e.v ρ=0)
 | .not f=> !f.v ρ
 | .and f g=>f.v ρ && g.v ρ
 | .or f g=>f.v ρ||g.v ρ
inductive SE where
 |lit(b:List UInt8)
 |var(k:Nat)
def SE.v(ρ:Ro):SE→ByteArray
 | .lit b=>⟨b.toArray⟩
 | .var k=>(ρ k).s
abbrev LV:=Option Nat
def lvV(ρ:Ro):LV→List (List PV)
 |none=>[]
 |some k=>(ρ k).l
inductive DP where
 |int(k:IntKind)(e:Lin)
 |bl(f:BF)
 |st(e:SE)
 |sl(l:LV)
 |nl
 |cst(v:Value)
 |ls(l:LV)
 |un
 |mp(a:Option Nat)(l:LV)
def DP.v(ρ:Ro):DP→PV
 | .int k e=> .v (.int k (e.v ρ))
 | .bl f=> .v (.bool (f.v ρ))
 | .st e=> .v (.string (e.v ρ))
 | .sl l=> .sl (lvV ρ l)
 | .nl=> .v (.slice none 0 0)
 | .cst v=> .v v
 | .ls l=> .ls (lvV ρ l)
 | .un=> .un
 | .mp a l=> .mp a (lvV ρ l)
inductive DV where
 |u
 |p(x:DP)(fr:Bool)
 |ptr(k off:Nat)
 |vec(k:Nat)
 |aY(k sz:Nat)(i:Lin)(off:Nat)
 |pd(row:List DP)(off:Nat)(fr:Bool)
 |pc(l:LV)(fr:Bool)
 |agg(xs:List DV)
 |bB(xs:List DV)
 |ref(k:Nat)
 |fn(f:Fn)(first aL:List DV)
 |bH(t:TypeId)(x:DV)
instance:Inhabited DV:=⟨.u⟩
def aU(ρ:Ro):List DP→List PV
 | []=>[]
 |x::xs=>x.v ρ::aU ρ xs
mutual
def DV.v(ρ:Ro):DV→SV
 | .u=> .u
 | .p x fr=> .p (x.v ρ) fr
 | .ptr k off=> .ptr k off
 | .vec k=> .vec k
 | .aY k sz i off=> .aY k sz (i.v ρ).toNat off
 | .pd row off fr=> .pd (aU ρ row) off fr
 | .pc l fr=> .pc (lvV ρ l) fr
 | .agg xs=> .agg (dvs ρ xs)
 | .bB xs=> .bB (dvs ρ xs)
 | .ref k=> .ref k
 | .fn f first aL=> .fn f (dvs ρ first) (dvs ρ aL)
 | .bH t x=> .bH t (x.v ρ)
def dvs(ρ:Ro):List DV→List SV
 | []=>[]
 |x::xs=>x.v ρ::dvs ρ xs
end
inductive DO where
 |box(t:TypeId)(cells:List DV)
 |vec(t:TypeId)(sz:Nat)(l:LV)(fr:Bool)
 |mp(a:Option Nat)(l:LV)(fr:Bool)
 |it(a:Option Nat)(l:LV)(fr:Bool)(n:Lin)(on:Bool)
def DO.v(ρ:Ro):DO→OV
 | .box t cells=> .box t (dvs ρ cells)
 | .vec t sz l fr=> .vec t sz (lvV ρ l) fr
 | .mp a l fr=> .mp a (lvV ρ l) fr
 | .it a l fr n on=> .it a (lvV ρ l) fr (n.v ρ).toNat on
abbrev fK:=List (Nat×DV)
abbrev bY:=List (Nat×DO)
def iS(ρ:Ro):fK→List (Nat×SV)
 | []=>[]
 |(k,x)::r=>(k,x.v ρ)::iS ρ r
def dw(ρ:Ro):bY→Tab
 | []=>[]
 |(k,x)::r=>(k,x.v ρ)::dw ρ r
inductive PF where
 |row(l:Nat)(i:Lin)(cells:List DP)
 |app(l:Nat)(a b:LV)
 |lit(l:Nat)(rows:List (List DP))
 |sub(l a:Nat)(lo hi:Lin)
 |set(l a:Nat)(i:Lin)(cells:List DP)
 |tru(f:BF)
 |cat(s:Nat)(a b:SE)
 |pr(id:Nat)(args:List Nat)
abbrev Pr:=Nat→List Va→Prop
def nZ(ρ:Ro):List (List DP)→List (List PV)
 | []=>[]
 |r::rs=>aU ρ r::nZ ρ rs
def PF.v(I:Pr)(ρ:Ro):PF→Prop
 | .row l i cells=>0≤i.v ρ∧(ρ l).l[(i.v ρ).toNat]? =some (aU ρ cells)
 | .app l a b=>(ρ l).l=lvV ρ a++lvV ρ b
 | .lit l rows=>(ρ l).l=nZ ρ rows
 | .sub l a lo hi=>(ρ l).l=((ρ a).l.take (hi.v ρ).toNat).drop (lo.v ρ).toNat
 | .set l a i cells=>(ρ l).l=(ρ a).l.set (i.v ρ).toNat (aU ρ cells)
 | .tru f=>f.v ρ=true
 | .cat s a b=>(ρ s).s=a.v ρ++b.v ρ
 | .pr id args=>I id (args.map ρ)
structure Cert where
 g:Lin
 m:Nat
 ks:List (Nat×Int)
 zs:List (Nat×Int)
structure DSt where
 az:fK
 tab:bY
 tys:List (Nat×TypeId)
 lin:List Lin
 prs:List PF
 nx:Nat
 hc:List Cert
def DSt.v(ρ:Ro)(σ:DSt):St:=⟨iS ρ σ.az,dw ρ σ.tab⟩
def kv:Nat:=1099511627776
structure Gok(ρ:Ro):Prop where
 lo:∀k, -9223372036854775808≤(ρ k).n
 hi:∀k,(ρ k).n≤9223372036854775807
 st:∀k,(ρ k).s.size≤bZ
 ln:∀k,(ρ k).l.length≤kv
def bR(ρ:Ro):List Lin→Prop
 | []=>True
 |e::r=>e.v ρ≤0∧bR ρ r
def fp(I:Pr)(ρ:Ro):List PF→Prop
 | []=>True
 |f::r=>f.v I ρ∧fp I ρ r
def df(P:Program)(ρ:Ro):List (Nat×TypeId)→Prop
 | []=>True
 |(k,e)::r=>bA P e (ρ k).l∧df P ρ r
structure DSt.ok(P:Program)(I:Pr)(σ:DSt)(ρ:Ro):Prop where
 g:Gok ρ
 tys:df P ρ σ.tys
 lin:bR ρ σ.lin
 prs:fp I ρ σ.prs
theorem pL{ρ:Ro}:∀{l:List Lin} {e:Lin},bR ρ l→e∈l→e.v ρ≤0
 |x::r,e,h,hm=>by
  rcases CD hm with rfl|hm
  ·exact h.1
  ·exact pL h.2 hm
theorem kz{P:Program}{ρ:Ro}:∀{l:List (Nat×TypeId)} {k:Nat} {e:TypeId},df P ρ l→lk l k=some e→bA P e (ρ k).l
 |(j,e')::r,k,e,h,hl=>by
   simp only[lk]at hl
   cases hb:Nat.beq j k with
   |true=>simp only[hb,Ct]at hl;subst hl;rw[←Cv hb];exact h.1
   |false=>simp only[hb]at hl;exact kz h.2 hl
theorem ij{ρ:Ro}:∀{a b:List Lin},bR ρ a→bR ρ b→bR ρ (a++b)
 | [],_,_,h=>h
 |_::_,_,h,k=>⟨h.1,ij h.2 k⟩
def cJ:Sum→List Nat
 | []=>[]
 |(a,_)::r=>(a / 4)::cJ r
def Lin.vars(e:Lin):List Nat:=cJ e.t
def BF.vars:BF→List Nat
 | .lit _=>[]
 | .var k=>[k]
 | .le e=>e.vars
 | .eq e=>e.vars
 | .not f=>f.vars
 | .and f g=>f.vars++g.vars
 | .or f g=>f.vars++g.vars
def SE.vars:SE→List Nat
 | .lit _=>[]
 | .var k=>[k]
def eA:LV→List Nat
 |none=>[]
 |some k=>[k]
def DP.vars:DP→List Nat
 | .int _ e=>e.vars
 | .bl f=>f.vars
 | .st e=>e.vars
 | .sl l=>eA l
 | .nl=>[]
 | .cst _=>[]
 | .ls l=>eA l
 | .un=>[]
 | .mp _ l=>eA l
def gT:List DP→List Nat
 | []=>[]
 |x::xs=>x.vars++gT xs
def k7:List (List DP)→List Nat
 | []=>[]
 |x::xs=>gT x++k7 xs
mutual
def DV.vars:DV→List Nat
 | .p x _=>x.vars
 | .aY _ _ i _=>i.vars
 | .pd row _ _=>gT row
 | .pc l _=>eA l
 | .agg xs=>bS xs
 | .bB xs=>bS xs
 | .fn _ first aL=>bS first++bS aL
 | .bH _ x=>x.vars
 | .u=>[]
 | .ptr _ _=>[]
 | .vec _=>[]
 | .ref _=>[]
def bS:List DV→List Nat
 | []=>[]
 |x::xs=>x.vars++bS xs
end
def DO.vars:DO→List Nat
 | .box _ cells=>bS cells
 | .vec _ _ l _=>eA l
 | .mp _ l _=>eA l
 | .it _ l _ n _=>eA l++n.vars
def sr:bY→List Nat
 | []=>[]
 |(_,x)::r=>x.vars++sr r
def PF.vars:PF→List Nat
 | .row l i cells=>l::(i.vars++gT cells)
 | .app l a b=>l::(eA a++eA b)
 | .lit l rows=>l::k7 rows
 | .sub l a lo hi=>l::a::(lo.vars++hi.vars)
 | .set l a i cells=>l::a::(i.vars++gT cells)
 | .tru f=>f.vars
 | .cat s a b=>s::(a.vars++b.vars)
 | .pr _ args=>args
def Sc(n:Nat)(l:List Nat):Prop:=∀k∈l,k<n
structure DSt.sc(σ:DSt):Prop where
 az:∀t v,lk σ.az t=some v→Sc σ.nx v.vars
 tab:∀k v,lk σ.tab k=some v→Sc σ.nx v.vars
 tys:∀k e,(k,e)∈σ.tys→k<σ.nx
 lin:∀e∈σ.lin,Sc σ.nx e.vars
 prs:∀f∈σ.prs,Sc σ.nx f.vars
def aS(n:Nat)(ρ ρ':Ro):Prop:=∀k,k<n→ρ' k=ρ k
theorem aS.refl(n:Nat)(ρ:Ro):aS n ρ ρ:=fun _ _=>rfl
theorem aS.trans{n m:Nat}{ρ ρ1 ρ2:Ro}(h:aS n ρ ρ1)(k:aS m ρ1 ρ2)(hl:n≤m):aS n ρ ρ2:=fun j hj=>(k j (by omega)).trans (h j hj)
theorem aS.le{n m:Nat}{ρ ρ':Ro}(h:aS m ρ ρ')(hl:n≤m):aS n ρ ρ':=fun j hj=>h j (by omega)
theorem Sc.app{n:Nat}{a b:List Nat}:Sc n (a++b) ↔ Sc n a∧Sc n b:=by
 unfold Sc;simp only[List.mem_append]
 exact⟨fun h=>⟨fun k hk=>h k (.inl hk),fun k hk=>h k (.inr hk)⟩,fun h k hk=>hk.elim (h.1 k) (h.2 k)⟩
theorem Sc.cons{n a:Nat}{b:List Nat}:Sc n (a::b) ↔ a<n∧Sc n b:=by
 unfold Sc;simp only[List.mem_cons]
 exact⟨fun h=>⟨h a (.inl rfl),fun k hk=>h k (.inr hk)⟩,fun h k hk=>hk.elim (fun e=>e▸h.1) (h.2 k)⟩
theorem Sc.nil{n:Nat}:Sc n []:=by intro k h;simp at h
theorem Sc.mono{n m:Nat}{a:List Nat}(h:Sc n a)(hl:n≤m):Sc m a:=fun k hk=>Nat.lt_of_lt_of_le (h k hk) hl
theorem wP{n:Nat}{ρ ρ':Ro}(h:aS n ρ ρ'){a:Nat}(ha:a / 4<n):aR ρ' a=aR ρ a:=by
 unfold aR;rw[h _ ha]
theorem su{n:Nat}{ρ ρ':Ro}(h:aS n ρ ρ'):∀{x:Sum},Sc n (cJ x)→cQ ρ' x=cQ ρ x
 | [],_=>rfl
 |(a,c)::r,hs=>by
   simp only[cJ,Sc.cons]at hs
   simp only[cQ,wP h hs.1,su h hs.2]
theorem Lin.ag{n:Nat}{ρ ρ':Ro}(h:aS n ρ ρ'){e:Lin}(hs:Sc n e.vars):e.v ρ'=e.v ρ:=by
 unfold Lin.v;rw[su h hs]
theorem BF.ag{n:Nat}{ρ ρ':Ro}(h:aS n ρ ρ'):∀{f:BF},Sc n f.vars→f.v ρ'=f.v ρ
 | .lit _,_=>rfl
 | .var k,hs=>by simp only[BF.vars,Sc.cons]at hs;simp only[BF.v,h k hs.1]
 | .le e,hs=>by simp only[BF.v,Lin.ag h hs]
 | .eq e,hs=>by simp only[BF.v,Lin.ag h hs]
 | .not f,hs=>by simp only[BF.vars]at hs;simp only[BF.v,BF.ag h hs]
 | .and f g,hs=>by simp only[BF.vars,Sc.app]at hs;simp only[BF.v,BF.ag h hs.1,BF.ag h hs.2]
 | .or f g,hs=>by simp only[BF.vars,Sc.app]at hs;simp only[BF.v,BF.ag h hs.1,BF.ag h hs.2]
theorem SE.ag{n:Nat}{ρ ρ':Ro}(h:aS n ρ ρ'):∀{f:SE},Sc n f.vars→f.v ρ'=f.v ρ
 | .lit _,_=>rfl
 | .var k,hs=>by simp only[SE.vars,Sc.cons]at hs;simp only[SE.v,h k hs.1]
theorem jr{n:Nat}{ρ ρ':Ro}(h:aS n ρ ρ'):∀{f:LV},Sc n (eA f)→lvV ρ' f=lvV ρ f
 |none,_=>rfl
 |some k,hs=>by simp only[eA,Sc.cons]at hs;simp only[lvV,h k hs.1]
theorem DP.ag{n:Nat}{ρ ρ':Ro}(h:aS n ρ ρ'){f:DP}(hs:Sc n f.vars):f.v ρ'=f.v ρ:=by
 cases f<;>simp only[DP.vars]at hs<;>simp only[DP.v]
 ·rw[Lin.ag h hs]
 ·rw[BF.ag h hs]
 ·rw[SE.ag h hs]
 ·rw[jr h hs]
 ·rw[jr h hs]
 ·rw[jr h hs]
theorem lT{n:Nat}{ρ ρ':Ro}(h:aS n ρ ρ'):∀{f:List DP},Sc n (gT f)→aU ρ' f=aU ρ f
 | [],_=>rfl
 |x::xs,hs=>by simp only[gT,Sc.app]at hs;simp only[aU,DP.ag h hs.1,lT h hs.2]
theorem sy{n:Nat}{ρ ρ':Ro}(h:aS n ρ ρ'):∀{f:List (List DP)},Sc n (k7 f)→nZ ρ' f=nZ ρ f
 | [],_=>rfl
 |x::xs,hs=>by simp only[k7,Sc.app]at hs;simp only[nZ,lT h hs.1,sy h hs.2]
mutual
theorem DV.ag{n:Nat}{ρ ρ':Ro}(h:aS n ρ ρ'):∀{f:DV},Sc n f.vars→f.v ρ'=f.v ρ
 | .u,_=>by simp only[DV.v]
 | .p x fr,hs=>by simp only[DV.vars]at hs;simp only[DV.v,DP.ag h hs]
 | .ptr _ _,_=>by simp only[DV.v]
 | .vec _,_=>by simp only[DV.v]
 | .aY _ _ i _,hs=>by simp only[DV.vars]at hs;simp only[DV.v,Lin.ag h hs]
 | .pd row _ _,hs=>by simp only[DV.vars]at hs;simp only[DV.v,lT h hs]
 | .pc l _,hs=>by simp only[DV.vars]at hs;simp only[DV.v,jr h hs]
 | .agg xs,hs=>by simp only[DV.vars]at hs;simp only[DV.v,kA h hs]
 | .bB xs,hs=>by simp only[DV.vars]at hs;simp only[DV.v,kA h hs]
 | .ref _,_=>by simp only[DV.v]
 | .fn f first aL,hs=>by simp only[DV.vars,Sc.app]at hs;simp only[DV.v,kA h hs.1,kA h hs.2]
 | .bH t x,hs=>by simp only[DV.vars]at hs;simp only[DV.v,DV.ag h hs]
theorem kA{n:Nat}{ρ ρ':Ro}(h:aS n ρ ρ'):∀{f:List DV},Sc n (bS f)→dvs ρ' f=dvs ρ f
 | [],_=>by simp only[dvs]
 |x::xs,hs=>by simp only[bS,Sc.app]at hs;simp only[dvs,DV.ag h hs.1,kA h hs.2]
end
theorem sA{n:Nat}{ρ ρ':Ro}(h:aS n ρ ρ'):∀{l:List Nat},Sc n l→l.map ρ'=l.map ρ
 | [],_=>rfl
 |x::xs,hs=>by rw[Sc.cons]at hs;simp only[List.map_cons,h x hs.1,sA h hs.2]
theorem DO.ag{n:Nat}{ρ ρ':Ro}(h:aS n ρ ρ'){f:DO}(hs:Sc n f.vars):f.v ρ'=f.v ρ:=by
 cases f<;>simp only[DO.vars]at hs<;>simp only[DO.v]
 ·rw[kA h hs]
 ·rw[jr h hs]
 ·rw[jr h hs]
 ·rw[Sc.app]at hs;rw[jr h hs.1,Lin.ag h hs.2]
theorem PF.ag{I:Pr}{n:Nat}{ρ ρ':Ro}(h:aS n ρ ρ'){f:PF}(hs:Sc n f.vars):f.v I ρ'=f.v I ρ:=by
 cases f<;>simp only[PF.vars,Sc.app,Sc.cons]at hs<;>simp only[PF.v]
 ·rw[h _ hs.1,Lin.ag h hs.2.1,lT h hs.2.2]
 ·rw[h _ hs.1,jr h hs.2.1,jr h hs.2.2]
 ·rw[h _ hs.1,sy h hs.2]
 ·rw[h _ hs.1,h _ hs.2.1,Lin.ag h hs.2.2.1,Lin.ag h hs.2.2.2]
 ·rw[h _ hs.1,h _ hs.2.1,Lin.ag h hs.2.2.1,lT h hs.2.2.2]
 ·rw[BF.ag h hs]
 ·rw[h _ hs.1,SE.ag h hs.2.1,SE.ag h hs.2.2]
 ·rw[sA h hs]
theorem sB(ρ:Ro):∀(l:bY) (t:Nat),lk (dw ρ l) t=(lk l t).map (DO.v ρ)
 | [],_=>rfl
 |(k,x)::r,t=>by
   simp only[dw,lk]
   cases Nat.beq k t with
   |true=>rfl
   |false=>exact sB ρ r t
theorem oQ(ρ:Ro):∀(l:bY) (t:Nat),rm (dw ρ l) t=dw ρ (rm l t)
 | [],_=>rfl
 |(k,x)::r,t=>by
   simp only[dw,rm]
   cases Nat.beq k t with
   |true=>exact oQ ρ r t
   |false=>simp only[dw,oQ ρ r t]
theorem jH(ρ:Ro):∀l:List DP,aU ρ l=l.map (DP.v ρ)
 | []=>rfl
 |x::xs=>by simp[aU,jH ρ xs]
end Go.TL
namespace Go.TL
def n4(a:Nat):Option Int:=
 match a % 4 with
 |0=>some 9223372036854775807
 |1=>some 1099511627776
 |2=>none
 |_=>some 1073741824
def kB(a:Nat):Int:=
 match a % 4 with
 |0=> -9223372036854775808
 |_=>0
theorem oR(a:Nat):a % 4=0∨a % 4=1∨a % 4=2∨a % 4=3:=by omega
theorem pM{ρ:Ro}(h:Gok ρ){a:Nat}{b:Int}(hb:n4 a=some b):aR ρ a≤b:=by
 unfold n4 at hb
 unfold aR
 have h1:=h.hi (a / 4)
 have h2:=h.ln (a / 4)
 have h3:=h.st (a / 4)
 unfold kv at h2
 unfold bZ at h3
 rcases oR a with e|e|e|e<;>simp only[e]at hb ⊢ <;>simp only[Ct,reduceCtorEq]at hb<;>omega
theorem pO{ρ:Ro}(h:Gok ρ)(a:Nat):kB a≤aR ρ a:=by
 unfold kB aR
 have h1:=h.lo (a / 4)
 rcases oR a with e|e|e|e<;>simp only[e]<;>omega
def isNeg:Int→Bool
 | .ofNat _=>false
 | .negSucc _=>true
theorem nu{z:Int}(h:isNeg z=true):z<0:=by
 cases z with
 |ofNat n=>simp[isNeg]at h
 |negSucc n=>exact Int.negSucc_lt_zero n
theorem iF{z:Int}(h:isNeg z=false):0≤z:=by
 cases z with
 |ofNat n=>exact Int.natCast_nonneg n
 |negSucc n=>simp[isNeg]at h
def ubS(acc:Int):Sum→Option Int
 | []=>some acc
 |(a,c)::r=>match isNeg c with
   |true=>ubS (acc+c*kB a) r
   |false=>match n4 a with
    |some b=>ubS (acc+c*b) r
    |none=>none
theorem qP{ρ:Ro}(h:Gok ρ):∀(x:Sum) (acc b:Int),ubS acc x=some b→acc+cQ ρ x≤b
 | [],acc,b,hb=>by simp only[ubS,Ct]at hb;simp only[cQ];omega
 |(a,c)::r,acc,b,hb=>by
   simp only[ubS]at hb
   simp only[cQ]
   split at hb
   ·rename_i hn
    have:=qP h r _ b hb
    have h1:=nu hn
    have h2:c*aR ρ a≤c*kB a:=Int.mul_le_mul_of_nonpos_left (by omega) (pO h a)
    omega
   ·rename_i hn
    split at hb
    ·rename_i b' hb'
     have:=qP h r _ b hb
     have h2:c*aR ρ a≤c*b':=Int.mul_le_mul_of_nonneg_left (pM h hb') (iF hn)
     omega
    ·cases hb
def qQ(e:Lin):Bool:=match ubS e.c e.t with|some b=>leZ b|none=>false
theorem oS{ρ:Ro}(h:Gok ρ){e:Lin}(hb:qQ e=true):e.v ρ≤0:=by
 unfold qQ at hb
 split at hb
 ·rename_i b hu
  have:=qP h _ _ _ hu
  have:=uV hb
  unfold Lin.v;omega
 ·cases hb
def wQ(a:Nat):Sum→Int
 | []=>0
 |(a',c)::r=>match Nat.beq a a' with|true=>c|false=>wQ a r
def ratio(c d:Int):Option Int:=
 match qn d,zO d with
 |true,_=>match isNeg c,isZ c with|false,false=>some c|_,_=>none
 |_,true=>match isNeg c with|true=>some (-c)|false=>none
 |_,_=>match isZ (c - d)with|true=>some 1|false=>none
def tK:Sum→Option (Nat×Int)
 | []=>none
 |(a,c)::r=>match tK r with
   |some x=>some x
   |none=>match isNeg c with
    |false=>some (a,c)
    |true=>match a % 4 with
     |0=>some (a,c)
     |_=>none
def wR(e:Lin)(a:Nat)(c:Int):Option Lin:=
 match isNeg c with
 |true=>some ((e.ax (-c) (Lin.at a)).cR (c*kB a))
 |false=>match n4 a with
  |some b=>some ((e.ax (-c) (Lin.at a)).cR (c*b))
  |none=>none
theorem yD{ρ:Ro}(h:Gok ρ){e e':Lin}{a:Nat}{c:Int}(he:wR e a c=some e'):e.v ρ≤e'.v ρ:=by
 unfold wR at he
 split at he
 ·rename_i hn
  simp only[Ct]at he;subst he
  have h1:=nu hn
  have h2:c*aR ρ a≤c*kB a:=Int.mul_le_mul_of_nonpos_left (by omega) (pO h a)
  rw[Lin.ca,Lin.ig,Lin.eh]
  have h3:(-c)*aR ρ a= -(c*aR ρ a):=Int.neg_mul _ _
  omega
 ·rename_i hn
  split at he
  ·rename_i b hb
   simp only[Ct]at he;subst he
   have h2:c*aR ρ a≤c*b:=Int.mul_le_mul_of_nonneg_left (pM h hb) (iF hn)
   rw[Lin.ca,Lin.ig,Lin.eh]
   have h3:(-c)*aR ρ a= -(c*aR ρ a):=Int.neg_mul _ _
   omega
  ·cases he
def qR(e:Lin)(a:Nat)(c:Int):Option Lin:=
 match a % 4,isNeg c with
 |1,false=>some ((e.ax (-c) (Lin.at a)).ax c (Lin.at (a+1)))
 |2,true=>some ((e.ax (-c) (Lin.at a)).ax c (Lin.at (a - 1)))
 |_,_=>none
theorem sC{ρ:Ro}{e e':Lin}{a:Nat}{c:Int}(he:qR e a c=some e'):e.v ρ≤e'.v ρ:=by
 unfold qR at he
 split at he
 ·rename_i hm hn
  simp only[Ct]at he;subst he
  rw[Lin.ig,Lin.ig,Lin.eh,Lin.eh]
  have h1:aR ρ a=((ρ (a / 4)).l.length:Int):=by unfold aR;simp only[hm]
  have h2:aR ρ (a+1)=(rsz (ρ (a / 4)).l:Int):=by
   unfold aR
   have q1:(a+1) % 4=2:=by omega
   have q2:(a+1) / 4=a / 4:=by omega
   simp only[q1,q2]
  have h3:=lH (ρ (a / 4)).l
  have h4:c*((ρ (a / 4)).l.length:Int)≤c*(rsz (ρ (a / 4)).l:Int):=Int.mul_le_mul_of_nonneg_left (by omega) (iF hn)
  rw[h1,h2,Int.neg_mul];omega
 ·rename_i hm hn
  simp only[Ct]at he;subst he
  rw[Lin.ig,Lin.ig,Lin.eh,Lin.eh]
  have h1:aR ρ a=(rsz (ρ (a / 4)).l:Int):=by unfold aR;simp only[hm]
  have h2:aR ρ (a - 1)=((ρ (a / 4)).l.length:Int):=by
   unfold aR
   have q1:(a - 1) % 4=1:=by omega
   have q2:(a - 1) / 4=a / 4:=by omega
   simp only[q1,q2]
  have h3:=lH (ρ (a / 4)).l
  have h5:=nu hn
  have h4:c*(rsz (ρ (a / 4)).l:Int)≤c*((ρ (a / 4)).l.length:Int):=Int.mul_le_mul_of_nonpos_left (by omega) (by omega)
  rw[h1,h2,Int.neg_mul];omega
 ·cases he
def direct(e:Lin):List Lin→Bool
 | []=>false
 |f::r=>match k6 e.t f.t with
  |true=>match leZ (e.c - f.c)with|true=>true|false=>direct e r
  |false=>direct e r
theorem jX{ρ:Ro}{e:Lin}:∀{fs:List Lin},(∀f∈fs,f.v ρ≤0)→direct e fs=true→e.v ρ≤0
 |f::r,hf,h=>by
  simp only[direct]at h
  split at h
  ·rename_i h1
   split at h
   ·rename_i h2
    have h3:=hf f (Cy ..)
    have h4:=uV h2
    unfold Lin.v at h3 ⊢
    rw[nt h1];omega
   ·exact jX (fun x hx=>hf x (Cx _ hx)) h
  ·exact jX (fun x hx=>hf x (Cx _ hx)) h
def AT(a:Nat)(t:Sum):Bool:=
 match tK t with
 |none=>true
 |some (a',_)=>Nat.ble (a'+1) a
def fL(rec:Nat→Lin→Bool×Nat)(up:Bool)(e:Lin)(a:Nat)(c:Int):List Lin→Nat→Bool×Nat
 | [],b=>(false,b)
 |f::gs,b=>match isZ (wQ a f.t)with
  |true=>fL rec up e a c gs b
  |false=>match ratio c (wQ a f.t)with
   |some k=>match isNeg k with
    |true=>fL rec up e a c gs b
    |false=>match e.ax (-k) f with
     |e'=>match AT a e'.t,up with
      |true,false=>match rec b e' with
       |(true,b)=>(true,b)
       |(false,b)=>fL rec up e a c gs b
      |false,true=>match rec b e' with
       |(true,b)=>(true,b)
       |(false,b)=>fL rec up e a c gs b
      |_,_=>fL rec up e a c gs b
   |none=>fL rec up e a c gs b
def n6(rec:Nat→Lin→Bool×Nat):Option Lin→Nat→Bool×Nat
 |some e',b=>match e'.t with| []=>(false,b)|_=>rec b e'
 |none,b=>(false,b)
def il(fs:List Lin):Nat→Nat→Nat→Lin→Bool×Nat
 |0,_,b,e=>(qQ e,b)
 |_+1,_,0,_=>(false,0)
 |n+1,u,b+1,e=>match(match qQ e with|true=>true|false=>direct e fs)with
  |true=>(true,b)
  |false=>match tK e.t with
   |none=>(false,b)
   |some (a,c)=>match fL (il fs n u) false e a c fs b with
    |(true,b)=>(true,b)
    |(false,b)=>match n6 (il fs n u) (wR e a c) b with
      |(true,b)=>(true,b)
      |(false,b)=>match n6 (il fs n u) (qR e a c) b with
        |(true,b)=>(true,b)
        |(false,b)=>match u with
          |0=>(false,b)
          |u+1=>fL (il fs n u) true e a c fs b
theorem eS{ρ:Ro}{rec:Nat→Lin→Bool×Nat}(hr:∀b e,(rec b e).1=true→e.v ρ≤0)(up:Bool)(e:Lin)(a:Nat)(c:Int):∀(gs:List Lin) (b:Nat),(∀f∈gs,f.v ρ≤0)→(fL rec up e a c gs b).1=true→e.v ρ≤0
 |f::gs,b,hg,hp=>by
  have fP:∀f∈gs,f.v ρ≤0:=fun x hx=>hg x (Cx _ hx)
  have go:∀{b k},isNeg k=false→(rec b (e.ax (-k) f)).1=true→e.v ρ≤0:=by
   intro b k hk hq
   have h1:=hr b _ hq
   rw[Lin.ig]at h1
   have h2:=hg f (Cy ..)
   have h3:k*f.v ρ≤0:=Int.mul_nonpos_of_nonneg_of_nonpos (iF hk) h2
   have h4:(-k)*f.v ρ= -(k*f.v ρ):=Int.neg_mul _ _
   omega
  simp only[fL]at hp
  split at hp
  ·exact eS hr up e a c gs b fP hp
  ·split at hp
   ·rename_i k _
    split at hp
    ·exact eS hr up e a c gs b fP hp
    ·rename_i hk
     split at hp
     ·split at hp
      ·rename_i b' hq;exact go hk (by rw[hq])
      ·exact eS hr _ e a c gs _ fP hp
     ·split at hp
      ·rename_i b' hq;exact go hk (by rw[hq])
      ·exact eS hr _ e a c gs _ fP hp
     ·exact eS hr _ e a c gs b fP hp
   ·exact eS hr up e a c gs b fP hp
 | [],b,_,hp=>by simp[fL]at hp
theorem pP{ρ:Ro}{rec:Nat→Lin→Bool×Nat}(hr:∀b e,(rec b e).1=true→e.v ρ≤0){e:Lin}{o:Option Lin}{b:Nat}(ho:∀e',o=some e'→e.v ρ≤e'.v ρ)(hp:(n6 rec o b).1=true):e.v ρ≤0:=by
 unfold n6 at hp
 split at hp
 ·rename_i e'
  split at hp
  ·cases hp
  ·exact Int.le_trans (ho e' rfl) (hr _ _ hp)
 ·cases hp
theorem pQ{ρ:Ro}(h:Gok ρ)(fs:List Lin)(hf:∀f∈fs,f.v ρ≤0):∀(n u b:Nat) (e:Lin),(il fs n u b e).1=true→e.v ρ≤0
 |0,u,b,e,hp=>by simp only[il]at hp;exact oS h hp
 |n+1,u,0,e,hp=>by simp[il]at hp
 |n+1,u,b+1,e,hp=>by
  have ih:=pQ h fs hf n
  simp only[il]at hp
  split at hp
  ·rename_i hu
   split at hu
   ·rename_i hu';exact oS h hu'
   ·exact jX hf hu
  ·split at hp
   ·cases hp
   ·rename_i a c hl
    split at hp
    ·rename_i b1 hq;exact eS (ih u) false e a c fs b hf (by rw[hq])
    ·split at hp
     ·rename_i b2 hq;exact pP (ih u) (fun e' he=>yD h he) (by rw[hq])
     ·split at hp
      ·rename_i b3 hq;exact pP (ih u) (fun e' he=>sC he) (by rw[hq])
      ·split at hp
       ·cases hp
       ·exact eS (ih _) true e a c fs _ hf hp
def qS:Nat→List Lin→Option Lin
 |_,[]=>none
 |0,f::_=>some f
 |n+1,_::r=>qS n r
theorem qT:∀{n:Nat} {l:List Lin} {f:Lin},qS n l=some f→f∈l
 |0,x::r,f,h=>by simp only[qS,Ct]at h;subst h;exact Cy ..
 |n+1,x::r,f,h=>by simp only[qS]at h;exact Cx _ (qT h)
def n7(fs:List Lin):List (Nat×Int)→Lin→Option Lin
 | [],e=>some e
 |(i,k)::r,e=>match isNeg k,qS i fs with
   |false,some f=>n7 fs r (e.ax (-k) f)
   |_,_=>none
theorem qU{ρ:Ro}{fs:List Lin}(hf:∀f∈fs,f.v ρ≤0):∀{l:List (Nat×Int)} {e e':Lin},n7 fs l e=some e'→e.v ρ≤e'.v ρ
 | [],e,e',h=>by simp only[n7,Ct]at h;subst h;exact Int.le_refl _
 |(i,k)::r,e,e',h=>by
   simp only[n7]at h
   split at h
   ·rename_i f hk hn
    have h1:=qU hf h
    rw[Lin.ig,Int.neg_mul]at h1
    have h2:k*f.v ρ≤0:=Int.mul_nonpos_of_nonneg_of_nonpos (iF hk) (hf f (qT hn))
    omega
   ·cases h
def qV(T:List (Nat×TypeId))(l:Nat):Option Nat:=match lk T l with|some e=>some (fH e)|none=>none
theorem uY{P:Program}{ρ:Ro}{T:List (Nat×TypeId)}(hT:df P ρ T){l b:Nat}(h:qV T l=some b):(ρ l).l.length≤b:=by
 unfold qV at h
 split at h
 ·rename_i e he;simp only[Ct]at h;subst h;exact(kz hT he).1
 ·cases h
def mx(T:List (Nat×TypeId)):List (Nat×Int)→Lin→Option Lin
 | [],e=>some e
 |(a,k)::r,e=>match isNeg k,a % 4 with
   |false,1=>mx T r ((e.ax (-k) (Lin.at a)).ax k (Lin.at (a+1)))
   |false,0=>match qV T (a / 4)with
    |some b=>mx T r ((e.ax (-k) (Lin.at (a+1))).cR (k*b))
    |none=>none
   |_,_=>none
theorem ny{P:Program}{ρ:Ro}{T:List (Nat×TypeId)}(hT:df P ρ T):∀{l:List (Nat×Int)} {e e':Lin},mx T l e=some e'→e.v ρ≤e'.v ρ
 | [],e,e',h=>by simp only[mx,Ct]at h;subst h;exact Int.le_refl _
 |(a,k)::r,e,e',h=>by
   simp only[mx]at h
   split at h
   ·rename_i hk hm
    have h0:=ny hT (l:=r) h
    have h5:qR e a k=some ((e.ax (-k) (Lin.at a)).ax k (Lin.at (a+1))):=by unfold qR;simp only[hm,hk]
    exact Int.le_trans (sC h5) h0
   ·rename_i hk hm
    split at h
    ·rename_i b hs
     have h0:=ny hT (l:=r) h
     have h1:=uY hT hs
     rw[Lin.ca,Lin.ig,Lin.eh]at h0
     have h2:aR ρ (a+1)=((ρ (a / 4)).l.length:Int):=by
      unfold aR
      have q1:(a+1) % 4=1:=by omega
      have q2:(a+1) / 4=a / 4:=by omega
      simp only[q1,q2]
     rw[h2]at h0
     have h3:k*((ρ (a / 4)).l.length:Int)≤k*(b:Int):=Int.mul_le_mul_of_nonneg_left (by omega) (iF hk)
     rw[Int.neg_mul]at h0
     omega
    ·cases h
   ·cases h
def qW(T:List (Nat×TypeId))(fs:List Lin)(c:Cert):Bool:=
 match Nat.ble 1 c.m,n7 fs c.ks (Lin.scale c.m c.g)with
 |true,some e=>match mx T c.zs e with
  |some e=>qQ e
  |none=>false
 |_,_=>false
theorem uZ{P:Program}{ρ:Ro}{T:List (Nat×TypeId)}(hT:df P ρ T)(h:Gok ρ){fs:List Lin}(hf:∀f∈fs,f.v ρ≤0){c:Cert}(hc:qW T fs c=true):c.g.v ρ≤0:=by
 unfold qW at hc
 split at hc
 ·rename_i e1 hm h1
  split at hc
  ·rename_i e2 h2
   have a1:=qU hf h1
   have a2:=ny hT h2
   have a3:=oS h hc
   rw[Lin.ez]at a1
   have hm':=Cz hm
   have a4:(c.m:Int)*c.g.v ρ≤0:=by omega
   by_cases hp:c.g.v ρ≤0
   ·exact hp
   ·have:0<(c.m:Int)*c.g.v ρ:=Int.mul_pos (by omega) (by omega)
    omega
  ·cases hc
 ·cases hc
def kC(T:List (Nat×TypeId))(fs:List Lin)(e:Lin):List Cert→Bool
 | []=>false
 |c::r=>match e.beq c.g with
  |true=>match qW T fs c with
   |true=>true
   |false=>kC T fs e r
  |false=>kC T fs e r
theorem k8{P:Program}{ρ:Ro}{T:List (Nat×TypeId)}(hT:df P ρ T)(h:Gok ρ){fs:List Lin}(hf:∀f∈fs,f.v ρ≤0){e:Lin}:∀{l:List Cert},kC T fs e l=true→e.v ρ≤0
 |c::r,hc=>by
  simp only[kC]at hc
  split at hc
  ·rename_i hb
   split at hc
   ·rename_i ho;rw[Lin.beq_eq hb];exact uZ hT h hf ho
   ·exact k8 hT h hf hc
  ·exact k8 hT h hf hc
end Go.TL
namespace Go.TL
def wS:Value→DP
 | .int k n=> .int k (Lin.lit n)
 | .bool b=> .bl (.lit b)
 | .string s=> .st (.lit s.data.toList)
 | .slice none 0 0=> .nl
 |v=> .cst v
theorem vd(v:Value):(wS v).vars=[]:=by
 unfold wS
 split<;>simp[DP.vars,Lin.lit,Lin.vars,cJ,BF.vars,SE.vars]
def DSt.get(σ:DSt)(t:Nat):DV:=match lk σ.az t with|some x=>x|none=> .u
def DSt.put(σ:DSt)(dst:Option Nat)(x:DV):DSt:=
 match dst with
 |some d=>{σ with az:=(d,x)::σ.az}
 |none=>σ
def dev(σ:DSt):Operand→DV
 | .tmp t=>σ.get t
 | .const v=>match v.oneCell' with|true=> .p (wS v) true|false=> .u
 | .func f=> .fn (.func f) [] []
 | .global _=> .u
def oU(σ:DSt):List Operand→List DV
 | []=>[]
 |x::xs=>dev σ x::oU σ xs
theorem DSt.sc.get{σ:DSt}(h:σ.sc)(t:Nat):Sc σ.nx (σ.get t).vars:=by
 unfold DSt.get
 cases hl:lk σ.az t with
 |some x=>exact h.az t x hl
 |none=>exact Sc.nil
theorem DSt.sc.dev{σ:DSt}(h:σ.sc)(x:Operand):Sc σ.nx (dev σ x).vars:=by
 cases x with
 |tmp t=>exact h.get t
 |const v=>simp only[Go.TL.dev];cases v.oneCell'<;>simp[DV.vars,vd,Sc.nil]
 |func f=>simp[Go.TL.dev,DV.vars,bS,Sc.nil]
 |global g=>simp[Go.TL.dev,DV.vars,Sc.nil]
theorem DSt.sc.oU{σ:DSt}(h:σ.sc):∀xs:List Operand,Sc σ.nx (bS (oU σ xs))
 | []=>by simp[Go.TL.oU,bS,Sc.nil]
 |x::xs=>by simp only[Go.TL.oU,bS,Sc.app];exact⟨h.dev x,h.oU xs⟩
theorem DSt.sc.put{σ:DSt}(h:σ.sc)(dst:Option Nat){x:DV}(hx:Sc σ.nx x.vars):(σ.put dst x).sc:=by
 cases dst with
 |none=>exact h
 |some d=>
  refine⟨?_,h.tab,h.tys,h.lin,h.prs⟩
  intro t v hl
  simp only[DSt.put,lk]at hl
  cases hb:Nat.beq d t with
  |true=>simp only[hb,Ct]at hl;subst hl;exact hx
  |false=>simp only[hb]at hl;exact h.az t v hl
theorem DSt.ok.put{P:Program}{I:Pr}{σ:DSt}{ρ:Ro}(h:σ.ok P I ρ)(dst:Option Nat)(x:DV):(σ.put dst x).ok P I ρ:=by
 cases dst with
 |none=>exact h
 |some d=>exact⟨h.g,h.tys,h.lin,h.prs⟩
theorem sD{n:Nat}{ρ ρ':Ro}(h:aS n ρ ρ'):∀{l:List Lin},(∀e∈l,Sc n e.vars)→(bR ρ' l ↔ bR ρ l)
 | [],_=>Iff.rfl
 |e::r,hs=>by simp only[bR,Lin.ag h (hs e (Cy ..)),sD h fun x hx=>hs x (Cx _ hx)]
theorem ve{I:Pr}{n:Nat}{ρ ρ':Ro}(h:aS n ρ ρ'):∀{l:List PF},(∀e∈l,Sc n e.vars)→(fp I ρ' l ↔ fp I ρ l)
 | [],_=>Iff.rfl
 |e::r,hs=>by simp only[fp,PF.ag h (hs e (Cy ..)),ve h fun x hx=>hs x (Cx _ hx)]
theorem vf{P:Program}{n:Nat}{ρ ρ':Ro}(h:aS n ρ ρ'):∀{l:List (Nat×TypeId)},(∀k e,(k,e)∈l→k<n)→(df P ρ' l ↔ df P ρ l)
 | [],_=>Iff.rfl
 |(k,e)::r,hs=>by simp only[df,h k (hs k e (Cy ..)),vf h fun k' e' hx=>hs k' e' (Cx _ hx)]
theorem DSt.ok.ag{P:Program}{I:Pr}{σ:DSt}{ρ ρ':Ro}(h:σ.ok P I ρ)(hs:σ.sc)(ha:aS σ.nx ρ ρ')(hg:Gok ρ'):σ.ok P I ρ':=
 ⟨hg,(vf ha hs.tys).2 h.tys,(sD ha hs.lin).2 h.lin,(ve ha hs.prs).2 h.prs⟩
structure cS(σ σ':St):Prop where
 az:∀t,lk σ.az t=lk σ'.az t
 tab:∀t,lk σ.tab t=lk σ'.tab t
theorem cS.refl(σ:St):cS σ σ:=⟨fun _=>rfl,fun _=>rfl⟩
theorem cS.symm{σ σ':St}(h:cS σ σ'):cS σ' σ:=⟨fun t=>(h.az t).symm,fun t=>(h.tab t).symm⟩
theorem cS.put{σ σ':St}(h:cS σ σ')(dst:Option Nat)(x:SV):cS (σ.put dst x) (σ'.put dst x):=by
 cases dst with
 |none=>exact h
 |some d=>
  refine⟨fun t=>?_,h.tab⟩
  simp only[St.put,lk]
  rw[h.az t]
theorem cS.holds{C:Ctx}{σ σ':St}{a:Act}{w:World}(h:cS σ σ')(hh:Holds C σ a w):Holds C σ' a w:=by
 obtain⟨E,e⟩:=hh
 refine⟨E,e.size,e.defers,fun t sv hl=>e.az t sv ((h.az t).trans hl),⟨fun k ov hl=>e.tab.obj k ov ((h.tab k).trans hl),fun k hk=>e.tab.dead k ((h.tab k).trans hk),?_,e.tab.ext⟩,e.fr,e.lo,e.ids,e.Be⟩
 intro b k hb
 obtain⟨h1,h2,h3⟩:=e.tab.own b k hb
 exact⟨h1,h2,fun h0=>h3 ((h.tab k).trans h0)⟩
inductive G where
 |le(e:Lin)
 |pf(f:PF)
def G.v(I:Pr)(ρ:Ro):G→Prop
 | .le e=>e.v ρ≤0
 | .pf f=>f.v I ρ
def gsV(I:Pr)(ρ:Ro):List G→Prop
 | []=>True
 |g::r=>g.v I ρ∧gsV I ρ r
def DSt.grow(σ:DSt)(n:Nat)(tys:List (Nat×TypeId))(lin:List Lin)(prs:List PF):DSt:=
 {σ with nx:=σ.nx+n,tys:=tys++σ.tys,lin:=lin++σ.lin,prs:=prs++σ.prs}
structure zP(m:Nat)(tys:List (Nat×TypeId))(lin:List Lin)(prs:List PF):Prop where
 tys:∀k e,(k,e)∈tys→k<m
 lin:∀e∈lin,Sc m e.vars
 prs:∀f∈prs,Sc m f.vars
theorem DSt.sc.grow{σ:DSt}(h:σ.sc){n:Nat}{tys:List (Nat×TypeId)}{lin:List Lin}{prs:List PF}(hg:zP (σ.nx+n) tys lin prs):(σ.grow n tys lin prs).sc:=by
 have hl:σ.nx≤σ.nx+n:=Nat.le_add_right _ _
 refine⟨fun t v ht=>(h.az t v ht).mono hl,fun t v ht=>(h.tab t v ht).mono hl,?_,?_,?_⟩
 ·intro k e hk
  rcases CC hk with hk|hk
  ·exact hg.tys k e hk
  ·exact Nat.lt_of_lt_of_le (h.tys k e hk) hl
 ·intro e he
  rcases CC he with he|he
  ·exact hg.lin e he
  ·exact(h.lin e he).mono hl
 ·intro e he
  rcases CC he with he|he
  ·exact hg.prs e he
  ·exact(h.prs e he).mono hl
theorem mX{P:Program}{ρ:Ro}:∀{a b:List (Nat×TypeId)},df P ρ (a++b) ↔ df P ρ a∧df P ρ b
 | [],b=>by simp[df]
 |(k,e)::a,b=>by simp[df,mX (a:=a),and_assoc]
theorem pR{ρ:Ro}:∀{a b:List Lin},bR ρ (a++b) ↔ bR ρ a∧bR ρ b
 | [],b=>by simp[bR]
 |e::a,b=>by simp[bR,pR (a:=a),and_assoc]
theorem jI{I:Pr}{ρ:Ro}:∀{a b:List PF},fp I ρ (a++b) ↔ fp I ρ a∧fp I ρ b
 | [],b=>by simp[fp]
 |e::a,b=>by simp[fp,jI (a:=a),and_assoc]
theorem DSt.ok.grow{P:Program}{I:Pr}{σ:DSt}{ρ ρ':Ro}(h:σ.ok P I ρ)(hs:σ.sc)(ha:aS σ.nx ρ ρ')(hg:Gok ρ'){n:Nat}{tys:List (Nat×TypeId)}{lin:List Lin}{prs:List PF}
  (h1:df P ρ' tys)(h2:bR ρ' lin)(h3:fp I ρ' prs):(σ.grow n tys lin prs).ok P I ρ':=by
 have:=h.ag hs ha hg
 exact⟨hg,mX.2 ⟨h1,this.tys⟩,pR.2 ⟨h2,this.lin⟩,jI.2 ⟨h3,this.prs⟩⟩
def up(ρ:Ro)(k:Nat)(x:Va):Ro:=fun j=>if j=k then x else ρ j
theorem my(ρ:Ro)(k:Nat)(x:Va):up ρ k x k=x:=by simp[up]
theorem AU(ρ:Ro){k j:Nat}(x:Va)(h:j≠k):up ρ k x j=ρ j:=by simp[up,h]
theorem tL(ρ:Ro)(k n:Nat)(x:Va)(h:n≤k):aS n ρ (up ρ k x):=fun j hj=>AU ρ x (by omega)
structure lU(x:Va):Prop where
 lo: -9223372036854775808≤x.n
 hi:x.n≤9223372036854775807
 st:x.s.size≤bZ
 ln:x.l.length≤kv
theorem Gok.up{ρ:Ro}(h:Gok ρ)(k:Nat){x:Va}(hx:lU x):Gok (up ρ k x):=by
 constructor<;>intro j<;>by_cases e:j=k<;>simp only[Go.TL.up,e,if_true,if_false]
 ·exact hx.lo
 ·exact h.lo j
 ·exact hx.hi
 ·exact h.hi j
 ·exact hx.st
 ·exact h.st j
 ·exact hx.ln
 ·exact h.ln j
def vaN(n:Int):Va:={(default:Va)with n}
def vaB(b:Bool):Va:={(default:Va)with b}
def vaS(s:ByteArray):Va:={(default:Va)with s}
def vaL(l:List (List PV)):Va:={(default:Va)with l}
theorem vh{n:Int}(h1: -9223372036854775808≤n)(h2:n≤9223372036854775807):lU (vaN n):=⟨h1,h2,Nat.zero_le _,Nat.zero_le _⟩
theorem vi(b:Bool):lU (vaB b):=⟨by show(-9223372036854775808:Int)≤0;decide,by show(0:Int)≤9223372036854775807;decide,Nat.zero_le _,Nat.zero_le _⟩
theorem vk{s:ByteArray}(h:s.size≤bZ):lU (vaS s):=⟨by show(-9223372036854775808:Int)≤0;decide,by show(0:Int)≤9223372036854775807;decide,h,Nat.zero_le _⟩
theorem zQ{l:List (List PV)}(h:l.length≤kv):lU (vaL l):=⟨by show(-9223372036854775808:Int)≤0;decide,by show(0:Int)≤9223372036854775807;decide,Nat.zero_le _,h⟩
theorem wT{n:Nat}(h:n≤1073741824):n≤kv:=Nat.le_trans h (by decide)
theorem vm{l:List (List PV)}(h:l.length≤1073741824):lU (vaL l):=zQ (wT h)
end Go.TL
