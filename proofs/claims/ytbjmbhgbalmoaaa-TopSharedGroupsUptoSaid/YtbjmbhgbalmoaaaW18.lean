/- Lists made, cut; one operation, whichever it is. -/
import Derived.Test.YtbjmbhgbalmoaaaW17
namespace Go.TL
end Go.TL
namespace Go.TL
inductive Tm where
 |v(k:Nat)
 |i(e:Lin)
 |b(f:BF)
 |s(e:SE)
 |l(l:LV)
abbrev Th:=List (Nat×Tm)
def ap(ρ:Ro)(θ:Th):Ro:=fun k=>match lk θ k with
 |none=>ρ k
 |some (.v j)=>ρ j
 |some (.i e)=>vaN (e.v ρ)
 |some (.b f)=>vaB (f.v ρ)
 |some (.s e)=>vaS (e.v ρ)
 |some (.l l)=>vaL (lvV ρ l)
theorem wV:(0:Int)=((rsz ([]:List (List PV)):Nat):Int):=by rw[mi];rfl
def qY(θ:Th)(a:Nat):Lin:=
 match lk θ (a / 4)with
 |none=>Lin.at a
 |some (.v j)=>Lin.at (4*j+a % 4)
 |some (.i e)=>match a % 4 with|0=>e|_=>Lin.lit 0
 |some (.b _)=>Lin.lit 0
 |some (.s e)=>match a % 4 with|3=>n9 e|_=>Lin.lit 0
 |some (.l l)=>match a % 4 with|1=>qo l|2=>qp l|_=>Lin.lit 0
theorem wW(ρ:Ro)(θ:Th)(a:Nat):(qY θ a).v ρ=aR (ap ρ θ) a:=by
 have hap:∀x,lk θ (a / 4)=x→ap ρ θ (a / 4)=match x with
  |none=>ρ (a / 4)|some (.v j)=>ρ j|some (.i e)=>vaN (e.v ρ)|some (.b f)=>vaB (f.v ρ)|some (.s e)=>vaS (e.v ρ)|some (.l l)=>vaL (lvV ρ l):=by
  rintro x rfl;rfl
 unfold qY
 cases hl:lk θ (a / 4)with
 |none=>simp only[Lin.eh];unfold aR;rw[hap _ hl]
 |some tm=>
  have h:=hap _ hl
  cases tm with
  |v j=>
   simp only[Lin.eh]
   have e1:(4*j+a % 4) % 4=a % 4:=by omega
   have e2:(4*j+a % 4) / 4=j:=by omega
   unfold aR;rw[h,e1,e2]
  |i e=>
   simp only at h ⊢
   unfold aR;rw[h]
   rcases oR a with q|q|q|q<;>simp only[q]
   ·rfl
   ·rw[Lin.dX];rfl
   ·rw[Lin.dX];exact wV
   ·rw[Lin.dX];rfl
  |b f=>
   simp only at h ⊢
   unfold aR;rw[h]
   rcases oR a with q|q|q|q<;>simp only[q]
   ·rw[Lin.dX];rfl
   ·rw[Lin.dX];rfl
   ·rw[Lin.dX];exact wV
   ·rw[Lin.dX];rfl
  |s e=>
   simp only at h ⊢
   unfold aR;rw[h]
   rcases oR a with q|q|q|q<;>simp only[q]
   ·rw[Lin.dX];rfl
   ·rw[Lin.dX];rfl
   ·rw[Lin.dX];exact wV
   ·rw[wU];rfl
  |l lv=>
   simp only at h ⊢
   unfold aR;rw[h]
   rcases oR a with q|q|q|q<;>simp only[q]
   ·rw[Lin.dX];rfl
   ·rw[yH];rfl
   ·rw[yI];rfl
   ·rw[Lin.dX];rfl
def oc(θ:Th):Sum→Lin→Lin
 | [],acc=>acc
 |(a,c)::r,acc=>oc θ r (acc.ax c (qY θ a))
theorem sG(ρ:Ro)(θ:Th):∀(x:Sum) (acc:Lin),(oc θ x acc).v ρ=acc.v ρ+cQ (ap ρ θ) x
 | [],acc=>by simp[oc,cQ]
 |(a,c)::r,acc=>by simp only[oc,sG ρ θ r,Lin.ig,wW,cQ];omega
def Lin.si(θ:Th)(e:Lin):Lin:=oc θ e.t (Lin.lit e.c)
theorem Lin.ep(ρ:Ro)(θ:Th)(e:Lin):(e.si θ).v ρ=e.v (ap ρ θ):=by
 unfold Lin.si;rw[sG,Lin.dX];rfl
def BF.si(θ:Th):BF→BF
 | .lit b=> .lit b
 | .var k=>match lk θ k with
  |none=> .var k
  |some (.v j)=> .var j
  |some (.b f)=>f
  |_=> .lit false
 | .le e=> .le (e.si θ)
 | .eq e=> .eq (e.si θ)
 | .not f=> .not (f.si θ)
 | .and f g=> .and (f.si θ) (g.si θ)
 | .or f g=> .or (f.si θ) (g.si θ)
theorem BF.ep(ρ:Ro)(θ:Th):∀f:BF,(f.si θ).v ρ=f.v (ap ρ θ)
 | .lit b=>rfl
 | .var k=>by
  simp only[BF.si,BF.v]
  cases hl:lk θ k with
  |none=>simp only[ap,hl,BF.v]
  |some tm=>cases tm<;>simp only[ap,hl,BF.v]<;>rfl
 | .le e=>by simp only[BF.si,BF.v,Lin.ep]
 | .eq e=>by simp only[BF.si,BF.v,Lin.ep]
 | .not f=>by simp only[BF.si,BF.v,BF.ep ρ θ f]
 | .and f g=>by simp only[BF.si,BF.v,BF.ep ρ θ f,BF.ep ρ θ g]
 | .or f g=>by simp only[BF.si,BF.v,BF.ep ρ θ f,BF.ep ρ θ g]
def SE.si(θ:Th):SE→SE
 | .lit b=> .lit b
 | .var k=>match lk θ k with
  |none=> .var k
  |some (.v j)=> .var j
  |some (.s e)=>e
  |_=> .lit []
theorem SE.ep(ρ:Ro)(θ:Th)(f:SE):(f.si θ).v ρ=f.v (ap ρ θ):=by
 cases f with
 |lit b=>rfl
 |var k=>
  simp only[SE.si,SE.v]
  cases hl:lk θ k with
  |none=>simp only[ap,hl]
  |some tm=>cases tm<;>simp only[ap,hl,SE.v]<;>rfl
def jL(θ:Th):LV→LV
 |none=>none
 |some k=>match lk θ k with
  |none=>some k
  |some (.v j)=>some j
  |some (.l l)=>l
  |_=>none
theorem iT(ρ:Ro)(θ:Th)(f:LV):lvV ρ (jL θ f)=lvV (ap ρ θ) f:=by
 cases f with
 |none=>rfl
 |some k=>
  simp only[jL,lvV]
  cases hl:lk θ k with
  |none=>simp only[ap,hl]
  |some tm=>cases tm<;>simp only[ap,hl]<;>first|rfl|(rename_i l;cases l<;>rfl)
def DP.si(θ:Th):DP→DP
 | .int k e=> .int k (e.si θ)
 | .bl f=> .bl (f.si θ)
 | .st e=> .st (e.si θ)
 | .sl l=> .sl (jL θ l)
 | .nl=> .nl
 | .cst v=> .cst v
 | .ls l=> .ls (jL θ l)
 | .un=> .un
 | .mp a l=> .mp a (jL θ l)
theorem DP.ep(ρ:Ro)(θ:Th)(x:DP):(x.si θ).v ρ=x.v (ap ρ θ):=by
 cases x with
 |int k e=>simp only[DP.si,DP.v,Lin.ep]
 |bl f=>simp only[DP.si,DP.v,BF.ep]
 |st e=>simp only[DP.si,DP.v,SE.ep]
 |sl l=>simp only[DP.si,DP.v,iT]
 |nl=>rfl
 |cst v=>rfl
 |ls l=>simp only[DP.si,DP.v,iT]
 |un=>rfl
 |mp a l=>simp only[DP.si,DP.v,iT]
def mC(θ:Th):List DP→List DP
 | []=>[]
 |x::xs=>x.si θ::mC θ xs
theorem mD(ρ:Ro)(θ:Th):∀x:List DP,aU ρ (mC θ x)=aU (ap ρ θ) x
 | []=>rfl
 |x::xs=>by simp only[mC,aU,DP.ep,mD ρ θ xs]
mutual
def DV.inst(θ:Th)(π:Nat→Nat):DV→DV
 | .u=> .u
 | .p x fr=> .p (x.si θ) fr
 | .ptr k off=> .ptr (π k) off
 | .vec k=> .vec (π k)
 | .aY k sz i off=> .aY (π k) sz (i.si θ) off
 | .pd row off fr=> .pd (mC θ row) off fr
 | .pc l fr=> .pc (jL θ l) fr
 | .agg xs=> .agg (fS θ π xs)
 | .bB xs=> .bB (fS θ π xs)
 | .ref k=> .ref (π k)
 | .fn f first aL=> .fn f (fS θ π first) (fS θ π aL)
 | .bH t x=> .bH t (DV.inst θ π x)
def fS(θ:Th)(π:Nat→Nat):List DV→List DV
 | []=>[]
 |x::xs=>DV.inst θ π x::fS θ π xs
end
mutual
theorem og(ρ:Ro)(θ:Th)(π:Nat→Nat):∀x:DV,(x.inst θ π).v ρ=SV.rn π (x.v (ap ρ θ))
 | .u=>by simp[DV.inst,DV.v,SV.rn]
 | .p x fr=>by simp only[DV.inst,DV.v,SV.rn,DP.ep]
 | .ptr k off=>by simp only[DV.inst,DV.v,SV.rn]
 | .vec k=>by simp only[DV.inst,DV.v,SV.rn]
 | .aY k sz i off=>by simp only[DV.inst,DV.v,SV.rn,Lin.ep]
 | .pd row off fr=>by simp only[DV.inst,DV.v,SV.rn,mD]
 | .pc l fr=>by simp only[DV.inst,DV.v,SV.rn,iT]
 | .agg xs=>by simp only[DV.inst,DV.v,SV.rn,gU ρ θ π xs]
 | .bB xs=>by simp only[DV.inst,DV.v,SV.rn,gU ρ θ π xs]
 | .ref k=>by simp only[DV.inst,DV.v,SV.rn]
 | .fn f first aL=>by simp only[DV.inst,DV.v,SV.rn,gU ρ θ π first,gU ρ θ π aL]
 | .bH t x=>by simp only[DV.inst,DV.v,SV.rn,og ρ θ π x]
theorem gU(ρ:Ro)(θ:Th)(π:Nat→Nat):∀x:List DV,dvs ρ (fS θ π x)=rns π (dvs (ap ρ θ) x)
 | []=>by simp[fS,dvs,rns]
 |x::xs=>by simp only[fS,dvs,rns,og ρ θ π x,gU ρ θ π xs]
end
def lZ(θ:Th)(k:Nat):Option Nat:=
 match lk θ k with
 |none=>some k
 |some (.v j)=>some j
 |some (.l (some j))=>some j
 |some (.s (.var j))=>some j
 |_=>none
def oh(θ:Th):List Nat→Option (List Nat)
 | []=>some []
 |k::r=>match lk θ k,oh θ r with
  |none,some l=>some (k::l)
  |some (.v j),some l=>some (j::l)
  |_,_=>none
theorem oW(ρ:Ro)(θ:Th):∀{l l':List Nat},oh θ l=some l'→l'.map ρ=l.map (ap ρ θ)
 | [],l',h=>by simp only[oh,Ct]at h;subst h;rfl
 |k::r,l',h=>by
  simp only[oh]at h
  split at h
  ·rename_i l h1 h2
   simp only[Ct]at h;subst h
   simp only[List.map_cons,oW ρ θ h2,ap,h1]
  ·rename_i j l h1 h2
   simp only[Ct]at h;subst h
   simp only[List.map_cons,oW ρ θ h2,ap,h1]
  ·cases h
def DO.inst(θ:Th)(π:Nat→Nat):DO→Option DO
 | .box t cells=>some (.box t (fS θ π cells))
 | .vec t sz l fr=>some (.vec t sz (jL θ l) fr)
 | .mp a l fr=>some (.mp a (jL θ l) fr)
 | .it a l fr n on=>some (.it a (jL θ l) fr (n.si θ) on)
theorem DO.og(ρ:Ro)(θ:Th)(π:Nat→Nat){x y:DO}(h:x.inst θ π=some y):y.v ρ=OV.rn π (x.v (ap ρ θ)):=by
 cases x with
 |box t cells=>simp only[DO.inst,Ct]at h;subst h;simp only[DO.v,OV.rn,gU]
 |vec t sz l fr=>simp only[DO.inst,Ct]at h;subst h;simp only[DO.v,OV.rn,iT]
 |mp a l fr=>simp only[DO.inst,Ct]at h;subst h;simp only[DO.v,OV.rn,iT]
 |it a l fr n on=>simp only[DO.inst,Ct]at h;subst h;simp only[DO.v,OV.rn,iT,Lin.ep]
theorem kE(ρ:Ro)(θ:Th){k j:Nat}(h:lZ θ k=some j)(h2:∀e,lk θ k≠some (.s e)):(ap ρ θ k).l=(ρ j).l:=by
 unfold lZ at h
 cases hl:lk θ k with
 |none=>simp only[hl,Ct]at h;subst h;simp only[ap,hl]
 |some tm=>
  rw[hl]at h
  cases tm with
  |v i=>simp only[Ct]at h;subst h;simp only[ap,hl]
  |l lv=>cases lv with
   |none=>simp at h
   |some i=>simp only[Ct]at h;subst h;simp only[ap,hl];rfl
  |s e=>exact absurd hl (h2 e)
  |_=>simp at h
def isS(θ:Th)(k:Nat):Bool:=match lk θ k with|some (.s _)=>true|_=>false
theorem gV{θ:Th}{k:Nat}(h:isS θ k=false):∀e,lk θ k≠some (.s e):=by
 intro e he;simp[isS,he]at h
def PF.inst(θ:Th):PF→Option PF
 | .row l i cells=>match lZ θ l,isS θ l with
  |some j,false=>some (.row j (i.si θ) (mC θ cells))
  |_,_=>none
 | .app l a b=>match lZ θ l,isS θ l with
  |some j,false=>some (.app j (jL θ a) (jL θ b))
  |_,_=>none
 | .sub l a lo hi=>match lZ θ l,lZ θ a,isS θ l,isS θ a with
  |some j,some k,false,false=>some (.sub j k (lo.si θ) (hi.si θ))
  |_,_,_,_=>none
 | .set l a i cells=>match lZ θ l,lZ θ a,isS θ l,isS θ a with
  |some j,some k,false,false=>some (.set j k (i.si θ) (mC θ cells))
  |_,_,_,_=>none
 | .tru f=>some (.tru (f.si θ))
 | .pr id args=>match oh θ args with
  |some l=>some (.pr id l)
  |none=>none
 |_=>none
theorem PF.og(I:Pr)(ρ:Ro)(θ:Th){x y:PF}(h:x.inst θ=some y):y.v I ρ ↔ x.v I (ap ρ θ):=by
 cases x with
 |row l i cells=>
  simp only[PF.inst]at h
  split at h
  ·rename_i j h1 h2
   simp only[Ct]at h;subst h
   simp only[PF.v,Lin.ep,mD,kE ρ θ h1 (gV h2)]
  ·cases h
 |app l a b=>
  simp only[PF.inst]at h
  split at h
  ·rename_i j h1 h2
   simp only[Ct]at h;subst h
   simp only[PF.v,iT,kE ρ θ h1 (gV h2)]
  ·cases h
 |sub l a lo hi=>
  simp only[PF.inst]at h
  split at h
  ·rename_i j k h1 h2 h3 h4
   simp only[Ct]at h;subst h
   simp only[PF.v,Lin.ep,kE ρ θ h1 (gV h3),kE ρ θ h2 (gV h4)]
  ·cases h
 |set l a i cells=>
  simp only[PF.inst]at h
  split at h
  ·rename_i j k h1 h2 h3 h4
   simp only[Ct]at h;subst h
   simp only[PF.v,Lin.ep,mD,kE ρ θ h1 (gV h3),kE ρ θ h2 (gV h4)]
  ·cases h
 |tru f=>simp only[PF.inst,Ct]at h;subst h;simp only[PF.v,BF.ep]
 |pr id args=>
  simp only[PF.inst]at h
  split at h
  ·rename_i l hl
   simp only[Ct]at h;subst h
   simp only[PF.v,oW ρ θ hl]
  ·cases h
 |_=>simp[PF.inst]at h
end Go.TL
namespace Go.TL
def vx(a b:IntKind):Bool:=decide (a=b)
def BF.beq:BF→BF→Bool
 | .lit a,.lit b=>a==b
 | .var a,.var b=>Nat.beq a b
 | .le a,.le b=>a.beq b
 | .eq a,.eq b=>a.beq b
 | .not a,.not b=>a.beq b
 | .and a b,.and c d=>match a.beq c with|true=>b.beq d|false=>false
 | .or a b,.or c d=>match a.beq c with|true=>b.beq d|false=>false
 |_,_=>false
theorem BF.beq_eq:∀{a b:BF},a.beq b=true→a=b
 | .lit a,.lit b,h=>by simp only[BF.beq,beq_iff_eq]at h;rw[h]
 | .var a,.var b,h=>by simp only[BF.beq]at h;rw[Cv h]
 | .le a,.le b,h=>by simp only[BF.beq]at h;rw[Lin.beq_eq h]
 | .eq a,.eq b,h=>by simp only[BF.beq]at h;rw[Lin.beq_eq h]
 | .not a,.not b,h=>by simp only[BF.beq]at h;rw[BF.beq_eq h]
 | .and a b,.and c d,h=>by
  simp only[BF.beq]at h
  split at h
  ·rename_i h1;rw[BF.beq_eq h1,BF.beq_eq h]
  ·cases h
 | .or a b,.or c d,h=>by
  simp only[BF.beq]at h
  split at h
  ·rename_i h1;rw[BF.beq_eq h1,BF.beq_eq h]
  ·cases h
 | .lit _,.var _,h| .lit _,.le _,h| .lit _,.eq _,h| .lit _,.not _,h| .lit _,.and _ _,h| .lit _,.or _ _,h=>by simp[BF.beq]at h
 | .var _,.lit _,h| .var _,.le _,h| .var _,.eq _,h| .var _,.not _,h| .var _,.and _ _,h| .var _,.or _ _,h=>by simp[BF.beq]at h
 | .le _,.lit _,h| .le _,.var _,h| .le _,.eq _,h| .le _,.not _,h| .le _,.and _ _,h| .le _,.or _ _,h=>by simp[BF.beq]at h
 | .eq _,.lit _,h| .eq _,.var _,h| .eq _,.le _,h| .eq _,.not _,h| .eq _,.and _ _,h| .eq _,.or _ _,h=>by simp[BF.beq]at h
 | .not _,.lit _,h| .not _,.var _,h| .not _,.le _,h| .not _,.eq _,h| .not _,.and _ _,h| .not _,.or _ _,h=>by simp[BF.beq]at h
 | .and _ _,.lit _,h| .and _ _,.var _,h| .and _ _,.le _,h| .and _ _,.eq _,h| .and _ _,.not _,h| .and _ _,.or _ _,h=>by simp[BF.beq]at h
 | .or _ _,.lit _,h| .or _ _,.var _,h| .or _ _,.le _,h| .or _ _,.eq _,h| .or _ _,.not _,h| .or _ _,.and _ _,h=>by simp[BF.beq]at h
def SE.beq:SE→SE→Bool
 | .lit a,.lit b=>mA a b
 | .var a,.var b=>Nat.beq a b
 |_,_=>false
theorem SE.beq_eq{a b:SE}(h:a.beq b=true):a=b:=by
 cases a<;>cases b<;>simp only[SE.beq,Bool.false_eq_true]at h
 ·rw[oa,beq_iff_eq]at h;rw[h]
 ·rw[Cv h]
def fM:LV→LV→Bool
 |none,none=>true
 |some a,some b=>Nat.beq a b
 |_,_=>false
theorem gW{a b:LV}(h:fM a b=true):a=b:=by
 cases a<;>cases b<;>simp only[fM,Bool.false_eq_true]at h
 ·rfl
 ·rw[Cv h]
def tP:Value→Value→Bool
 | .pointer none,.pointer none=>true
 | .nilFunc,.nilFunc=>true
 | .nilIface,.nilIface=>true
 | .map none,.map none=>true
 |_,_=>false
theorem wX{a b:Value}(h:tP a b=true):a=b:=by
 unfold tP at h;split at h<;>first|rfl|cases h
def DP.beq:DP→DP→Bool
 | .int k e,.int k' e'=>match vx k k' with|true=>e.beq e'|false=>false
 | .bl f,.bl g=>f.beq g
 | .st e,.st e'=>e.beq e'
 | .sl l,.sl l'=>fM l l'
 | .nl,.nl=>true
 | .cst v,.cst v'=>tP v v'
 | .ls l,.ls l'=>fM l l'
 | .un,.un=>true
 | .mp a l,.mp a' l'=>match fM a a' with|true=>fM l l'|false=>false
 |_,_=>false
theorem DP.beq_eq{a b:DP}(h:a.beq b=true):a=b:=by
 cases a<;>cases b<;>simp only[DP.beq,Bool.false_eq_true]at h
 ·split at h
  ·rename_i hk;have:=of_decide_eq_true hk;subst this;rw[Lin.beq_eq h]
  ·cases h
 ·rw[BF.beq_eq h]
 ·rw[SE.beq_eq h]
 ·rw[gW h]
 ·rfl
 ·rw[wX h]
 ·rw[gW h]
 ·rfl
 ·split at h
  ·rename_i h1;rw[gW h1,gW h]
  ·cases h
def jY:List DP→List DP→Bool
 | [],[]=>true
 |x::xs,y::ys=>match x.beq y with|true=>jY xs ys|false=>false
 |_,_=>false
theorem la:∀{a b:List DP},jY a b=true→a=b
 | [],[],_=>rfl
 |x::xs,y::ys,h=>by
  simp only[jY]at h
  split at h
  ·rename_i h1;rw[DP.beq_eq h1,la h]
  ·cases h
 | [],_::_,h=>by simp[jY]at h
 |_::_,[],h=>by simp[jY]at h
def jM(is ask:Bool):Bool:=match ask with|true=>is|false=>true
def wY(x y:DP):Bool:=
 match x,y with
 | .nl,.sl none=>true
 | .cst (.pointer none),.ls none=>true
 | .cst (.map none),.mp _ none=>true
 |_,.un=>true
 |x,y=>x.beq y
def tQ:Fn→Fn→Bool
 | .func a,.func b=>Nat.beq a b
 |_,_=>false
theorem yJ{a b:Fn}(h:tQ a b=true):a=b:=by
 unfold tQ at h;split at h
 ·rw[Cv h]
 ·cases h
mutual
def cV:DV→DV→Bool
 |_,.u=>true
 | .p x fr,.p y eM=>match wY x y with|true=>jM fr eM|false=>false
 | .ptr k off,.ptr k' gf=>Nat.beq k k' && Nat.beq off gf
 | .vec k,.vec k'=>Nat.beq k k'
 | .aY k sz i off,.aY k' sz' i' gf=>(Nat.beq k k' && Nat.beq sz sz') && (i.beq i' && Nat.beq off gf)
 | .pd row off fr,.pd eJ gf eM=>match Nat.beq off gf with
  |true=>jY row eJ && jM fr eM
  |false=>(jY ((row.drop off).take eJ.length) eJ && Nat.beq gf 0) && jM fr eM
 | .pc l fr,.pc l' eM=>fM l l' && jM fr eM
 | .pc l fr,.p (.sl l') eM=>fM l l' && jM fr eM
 | .agg xs,.agg ys=>iM xs ys
 | .bB xs,.bB ys=>iM xs ys
 | .ref k,.ref k'=>Nat.beq k k'
 | .fn f a b,.fn f' a' b'=>match tQ f f' with|true=>(match iM a a' with|true=>iM b b'|false=>false)|false=>false
 | .bH t x,.bH t' y=>match Nat.beq t t' with|true=>cV x y|false=>false
 |_,_=>false
def iM:List DV→List DV→Bool
 | [],[]=>true
 |x::xs,y::ys=>match cV x y with|true=>iM xs ys|false=>false
 |_,_=>false
end
theorem tR{lo:Nat}{a b:Bool}(h:jM a b=true):flo lo b≤flo lo a:=by
 cases a<;>cases b<;>simp[jM,flo]at*
theorem Rep.tS{w:World}{bad:Nat→Prop}{lo:Nat}{a b:Bool}{x:PV}{v:Value}(h:jM a b=true)(r:Rep w bad (flo lo a) x v):Rep w bad (flo lo b) x v:=
 r.mono (tR h) fun _ _ h h'=>⟨h,h'⟩
theorem zV{w:World}{bad:Nat→Prop}{lo:Nat}{ρ:Ro}{x y:DP}{v:Value}(h:wY x y=true)(r:Rep w bad lo (x.v ρ) v):Rep w bad lo (y.v ρ) v:=by
 unfold wY at h
 split at h
 ·simp only[DP.v]at r
  have:=ji r;subst this
  simp only[DP.v,lvV];exact .nil none 0
 ·have:=ji r;subst this;exact .jv
 ·have:=ji r;subst this;exact .jw _
 ·exact .un _ r.one
 ·rw[←DP.beq_eq h];exact r
mutual
theorem vy{w:World}{E:Env}{lo:Nat}{ρ:Ro}:∀{x y:DV} {v:Value},cV x y=true→VR w E lo (x.v ρ) v→VR w E lo (y.v ρ) v
 | .u,y,v,h,r=>by cases y<;>first|(simp[DV.v,VR];done)|(simp[cV]at h;done)
 | .p x fr,y,v,h,r=>by
  cases y with
  |u=>simp[DV.v,VR]
  |p y eM=>
   simp only[cV]at h
   simp only[DV.v,VR]at r ⊢
   split at h
   ·rename_i h1;exact Rep.tS h (zV h1 r)
   ·cases h
  |_=>simp[cV]at h
 | .ptr k off,y,v,h,r=>by
  cases y with
  |u=>simp[DV.v,VR]
  |ptr k' gf=>
   simp only[cV,Bool.and_eq_true]at h
   rw[←Cv h.1, ←Cv h.2];exact r
  |_=>simp[cV]at h
 | .vec k,y,v,h,r=>by
  cases y with
  |u=>simp[DV.v,VR]
  |vec k'=>
   simp only[cV]at h
   rw[←Cv h];exact r
  |_=>simp[cV]at h
 | .aY k sz i off,y,v,h,r=>by
  cases y with
  |u=>simp[DV.v,VR]
  |aY k' sz' i' gf=>
   simp only[cV,Bool.and_eq_true]at h
   rw[←Cv h.1.1, ←Cv h.1.2, ←Lin.beq_eq h.2.1, ←Cv h.2.2];exact r
  |_=>simp[cV]at h
 | .pd row off fr,y,v,h,r=>by
  cases y with
  |u=>simp[DV.v,VR]
  |pd eJ gf eM=>
   simp only[cV]at h
   simp only[DV.v,VR]at r ⊢
   obtain⟨b,o,h1,h2⟩:=r
   split at h
   ·rename_i h0
    simp only[Bool.and_eq_true]at h
    rw[←la h.1, ←Cv h0]
    exact⟨b,o,h1,h2.mono (tR h.2) fun _ _ h h'=>⟨h,h'⟩⟩
   ·simp only[Bool.and_eq_true]at h
    rw[←la h.1.1,Cv h.1.2]
    refine⟨b,o+off,h1,nK.mono (tR h.2) (fun _ _ h h'=>⟨h,h'⟩) ?_⟩
    obtain⟨cs,t,fz,f,e1,e2,e3,e4,e5⟩:=h2
    have hg:∀(j:Nat) (x:PV),(aU ρ ((row.drop off).take eJ.length))[j]? =some x→(aU ρ row)[off+j]? =some x:=fun j x hj=>by
     rw[jH,List.map_take,List.map_drop,List.getElem?_take]at hj
     split at hj
     ·rw[List.getElem?_drop]at hj;rw[jH];exact hj
     ·cases hj
    exact⟨cs,t,fz,fun j=>f (off+j),e1,e2,e3,fun j x hj=>by rw[Nat.add_assoc];exact e4 _ x (hg j x hj),fun j x hj=>e5 _ x (hg j x hj)⟩
  |_=>simp[cV]at h
 | .pc l fr,y,v,h,r=>by
  cases y with
  |u=>simp[DV.v,VR]
  |pc l' eM=>
   simp only[cV,Bool.and_eq_true]at h
   rw[←gW h.1]
   simp only[DV.v,VR]at r ⊢
   obtain⟨a,h1,h2⟩:=r
   exact⟨a,h1,Rep.tS h.2 h2⟩
  |p y eM=>
   cases y with
   |sl l'=>
    simp only[cV,Bool.and_eq_true]at h
    rw[←gW h.1]
    simp only[DV.v,DP.v,VR]at r ⊢
    obtain⟨a,h1,h2⟩:=r
    exact Rep.tS h.2 h2
   |_=>simp[cV]at h
  |_=>simp[cV]at h
 | .agg xs,y,v,h,r=>by
  cases y with
  |u=>simp[DV.v,VR]
  |agg ys=>
   simp only[cV]at h
   simp only[DV.v,VR]at r ⊢
   obtain⟨vs,h1,h2⟩:=r
   exact⟨vs,h1,kF h h2⟩
  |_=>simp[cV]at h
 | .bB xs,y,v,h,r=>by
  cases y with
  |u=>simp[DV.v,VR]
  |bB ys=>
   simp only[cV]at h
   simp only[DV.v,VR]at r ⊢
   obtain⟨vs,h1,h2⟩:=r
   exact⟨vs,h1,kF h h2⟩
  |_=>simp[cV]at h
 | .ref k,y,v,h,r=>by
  cases y with
  |u=>simp[DV.v,VR]
  |ref k'=>
   simp only[cV]at h
   rw[←Cv h];exact r
  |_=>simp[cV]at h
 | .fn f a b,y,v,h,r=>by
  cases y with
  |u=>simp[DV.v,VR]
  |fn f' a' b'=>
   simp only[cV]at h
   split at h
   ·rename_i h1
    split at h
    ·rename_i h2
     rw[←yJ h1]
     simp only[DV.v,VR]at r ⊢
     obtain⟨vs,ws,q1,q2,q3⟩:=r
     exact⟨vs,ws,q1,kF h2 q2,kF h q3⟩
    ·cases h
   ·cases h
  |_=>simp[cV]at h
 | .bH t x,y,v,h,r=>by
  cases y with
  |u=>simp[DV.v,VR]
  |bH t' y=>
   simp only[cV]at h
   split at h
   ·rename_i h1
    rw[←Cv h1]
    simp only[DV.v,VR]at r ⊢
    obtain⟨z,q1,q2⟩:=r
    exact⟨z,q1,vy h q2⟩
   ·cases h
  |_=>simp[cV]at h
theorem kF{w:World}{E:Env}{lo:Nat}{ρ:Ro}:∀{xs ys:List DV} {vs:List Value},iM xs ys=true→VRs w E lo (dvs ρ xs) vs→VRs w E lo (dvs ρ ys) vs
 | [],[],vs,_,r=>r
 |x::xs,y::ys,vs,h,r=>by
  simp only[iM]at h
  split at h
  ·rename_i h1
   simp only[dvs]at r ⊢
   cases vs with
   |nil=>simp[VRs]at r
   |cons v vs=>
    simp only[VRs]at r ⊢
    exact⟨vy h1 r.1,kF h r.2⟩
  ·cases h
 | [],_::_,_,h,_=>by simp[iM]at h
 |_::_,[],_,h,_=>by simp[iM]at h
end
def qZ:DO→DO→Bool
 | .box t xs,.box t' ys=>match Nat.beq t t' with|true=>iM xs ys|false=>false
 | .vec t sz l fr,.vec t' sz' l' eM=>(Nat.beq t t' && Nat.beq sz sz') && (fM l l' && jM fr eM)
 | .mp a l fr,.mp a' l' eM=>(fM a a' && fM l l') && jM fr eM
 | .it a l fr n _,.it a' l' eM n' on'=>((fM a a' && fM l l') && jM fr eM) && (n.beq n' && !on')
 |_,_=>false
 where
 natsEq:List Nat→List Nat→Bool
 | [],[]=>true
 |x::xs,y::ys=>match Nat.beq x y with|true=>natsEq xs ys|false=>false
 |_,_=>false
theorem pX:∀{a b:List Nat},qZ.natsEq a b=true→a=b
 | [],[],_=>rfl
 |x::xs,y::ys,h=>by
  simp only[qZ.natsEq]at h
  split at h
  ·rename_i h1;rw[Cv h1,pX h]
  ·cases h
 | [],_::_,h=>by simp[qZ.natsEq]at h
 |_::_,[],h=>by simp[qZ.natsEq]at h
end Go.TL
