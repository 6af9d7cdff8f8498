/- Code: branches, joins, loops. -/
import Derived.Test.YtpoamlpahljebaaGreatDoorW19
namespace Go.TL
structure Ann where
 keep:Nat→Option (List Nat)
 loop:Nat→Nat→DSt→Option (DSt×Lin)
 join:Nat→Bool→Nat→DSt→List DSt→Option DSt
 opens:Nat→Nat→DSt→List Nat
 hc:List Cert
 OD:Nat→Option Nat
 split:Nat→List Nat
 o:Nat
def Ann.sh(A:Ann)(j:Nat):Ann:={A with o:=A.o*8+j}
structure Res where
 nor:List DSt
 base:DSt
 oth:List (Exit×DSt)
 q:List Seq
def scB(n:Nat):List Nat→Bool
 | []=>true
 |k::r=>match Nat.ble (k+1) n with|true=>scB n r|false=>false
theorem p7{n:Nat}:∀{l:List Nat},scB n l=true→Sc n l
 | [],_=>Sc.nil
 |k::r,h=>by
  simp only[scB]at h
  split at h
  ·rename_i h1;exact Sc.cons.2 ⟨ZX h1,p7 h⟩
  ·cases h
def kO:List Lin→List Nat
 | []=>[]
 |e::r=>e.vars++kO r
def nA:List PF→List Nat
 | []=>[]
 |e::r=>e.vars++nA r
def nB:List (Nat×TypeId)→List Nat
 | []=>[]
 |(k,_)::r=>k::nB r
def qV(n0:Nat)(T:DSt):Bool:=
 match Nat.ble n0 T.nx with
 |true=>scB T.nx (kE T.ah++(ni T.tab++(nB T.tys++(kO T.lin++nA T.prs))))
 |false=>false
theorem yg{n:Nat}:∀{l:bX},Sc n (kE l)→∀t v,lk l t=some v→Sc n v.vars
 | [],_,t,v,h=>by simp[lk]at h
 |(j,x)::r,hs,t,v,h=>by
   simp only[kE,Sc.app]at hs
   simp only[lk]at h
   cases hb:Nat.beq j t with
   |true=>simp only[hb,ZS]at h;subst h;exact hs.1
   |false=>simp only[hb]at h;exact yg hs.2 t v h
theorem wA{n:Nat}:∀{l:aF},Sc n (ni l)→∀t v,lk l t=some v→Sc n v.vars
 | [],_,t,v,h=>by simp[lk]at h
 |(j,x)::r,hs,t,v,h=>by
   simp only[ni,Sc.app]at hs
   simp only[lk]at h
   cases hb:Nat.beq j t with
   |true=>simp only[hb,ZS]at h;subst h;exact hs.1
   |false=>simp only[hb]at h;exact wA hs.2 t v h
theorem tX{n:Nat}:∀{l:List Lin},Sc n (kO l)→∀e∈l,Sc n e.vars
 | [],_,e,h=>by simp at h
 |x::r,hs,e,h=>by
  simp only[kO,Sc.app]at hs
  rcases Z1 h with rfl|h
  ·exact hs.1
  ·exact tX hs.2 e h
theorem wB{n:Nat}:∀{l:List PF},Sc n (nA l)→∀e∈l,Sc n e.vars
 | [],_,e,h=>by simp at h
 |x::r,hs,e,h=>by
  simp only[nA,Sc.app]at hs
  rcases Z1 h with rfl|h
  ·exact hs.1
  ·exact wB hs.2 e h
theorem wC{n:Nat}:∀{l:List (Nat×TypeId)},Sc n (nB l)→∀k e,(k,e)∈l→k<n
 | [],_,k,e,h=>by simp at h
 |(j,x)::r,hs,k,e,h=>by
   simp only[nB,Sc.cons]at hs
   rcases Z1 h with h|h
   ·simp only[ZT]at h;rw[h.1];exact hs.1
   ·exact wC hs.2 k e h
theorem Ba{n0:Nat}{T:DSt}(h:qV n0 T=true):n0≤T.nx∧T.sc:=by
 unfold qV at h
 split at h
 ·rename_i h1
  have hs:=p7 h
  simp only[Sc.app]at hs
  exact⟨ZX h1,yg hs.1,wA hs.2.1,wC hs.2.2.1,tX hs.2.2.2.1,wB hs.2.2.2.2⟩
 ·cases h
def DSt.over(T σ0:DSt):DSt:={T with tys:=T.tys++σ0.tys,lin:=T.lin++σ0.lin,prs:=T.prs++σ0.prs,hc:=σ0.hc}
theorem D8{T σ0:DSt}(hT:qV σ0.nx T=true)(hs:σ0.sc):(T.over σ0).sc∧σ0.nx≤(T.over σ0).nx:=by
 obtain⟨h1,h2⟩:=Ba hT
 refine⟨⟨h2.ah,h2.tab,?_,?_,?_⟩,h1⟩
 ·intro k e he;exact(Z0 he).elim (h2.tys k e) fun h=>Nat.lt_of_lt_of_le (hs.tys k e h) h1
 ·intro e he;exact(Z0 he).elim (h2.lin e) fun h=>(hs.lin e h).mono h1
 ·intro e he;exact(Z0 he).elim (h2.prs e) fun h=>(hs.prs e h).mono h1
theorem zu{P:Program}{I:Pr}{n:Nat}{T σ0 σ:DSt}{ρ ρ':Ro}(c:Cp P I n σ0.nx σ T ρ ρ')(hs:σ0.sc)(h0:σ0.ok P I ρ):(T.over σ0).ok P I ρ':=by
 have h1:=h0.ag hs c.ag c.g
 exact⟨c.g,pD.2 ⟨c.tys,h1.tys⟩,dH c.lin h1.lin,mP.2 ⟨c.prs,h1.prs⟩⟩
def Cy(n:Nat)(σ0 T:DSt):List DSt→Option (List Seq)
 | []=>some []
 |σ::r=>match LG n σ0 σ T,Cy n σ0 T r with
  |some a,some b=>some (a++b)
  |_,_=>none
theorem yh{n:Nat}{σ0 T:DSt}:∀{S:List DSt} {q:List Seq},Cy n σ0 T S=some q→∀σ∈S,∃p,LG n σ0 σ T=some p∧∀s∈p,s∈q
 | [],q,h,σ,hσ=>by simp at hσ
 |σ0'::r,q,h,σ,hσ=>by
  simp only[Cy]at h
  split at h
  ·rename_i a b h1 h2
   simp only[ZS]at h;subst h
   rcases Z1 hσ with rfl|hσ
   ·exact⟨a,h1,fun s hs=>ZZ (.inl hs)⟩
   ·obtain⟨p,e1,e2⟩:=yh h2 σ hσ
    exact⟨p,e1,fun s hs=>ZZ (.inr (e2 s hs))⟩
  ·cases h
def Gb(n:Nat)(A:Ann)(must:Bool)(at':Nat)(σ0:DSt)(S:List DSt):bj:=
 match S with
 | []=>some ([],[])
 | [σ]=>some ([σ],[])
 |S=>match A.join A.o must at' σ0 S with
  |some T=>match qV σ0.nx T,Cy n σ0 T S with
   |true,some q=>some ([T.over σ0],q)
   |_,_=>none
  |none=>match must with
   |true=>none
   |false=>some (S,[])
structure HP(P:Program)(I:Pr)(n:Nat)(σ0:DSt)(S S':List DSt):Prop where
 sc:∀σ'∈S',σ'.sc∧σ0.nx≤σ'.nx
 to:∀σ∈S,∀ρ,σ.ok P I ρ→σ0.ok P I ρ→∃σ'∈S',∃ρ',au σ0.nx ρ ρ'∧σ'.ok P I ρ'∧Imp P n (σ.v ρ) (σ'.v ρ')
theorem HQ{P:Program}{I:Pr}{n:Nat}{A:Ann}{must:Bool}{at':Nat}{σ0:DSt}{S S':List DSt}{q:List Seq}(h:Gb n A must at' σ0 S=some (S',q))(hV:Valid P I q)(h0:σ0.sc)(hS:∀σ∈S,σ.sc∧σ0.nx≤σ.nx):
  HP P I n σ0 S S':=by
 unfold Gb at h
 split at h
 ·simp only[ZS,ZT]at h;obtain⟨rfl,rfl⟩:=h
  exact⟨by simp,by simp⟩
 ·rename_i σ
  simp only[ZS,ZT]at h;obtain⟨rfl,rfl⟩:=h
  refine⟨hS,?_⟩
  intro τ hτ ρ ab _
  exact⟨τ,hτ,ρ,au.refl _ _,ab,Imp.refl⟩
 ·split at h
  ·rename_i T hT
   split at h
   ·rename_i q' hb hi
    simp only[ZS,ZT]at h;obtain⟨rfl,rfl⟩:=h
    refine⟨by simpa using D8 hb h0,?_⟩
    intro σ hσ ρ ab c7
    obtain⟨p,e1,e2⟩:=yh hi σ hσ
    obtain⟨ρ',c⟩:=D7 e1 (fun s hs=>hV s (e2 s hs)) ρ ab
    exact⟨T.over σ0,by simp,ρ',c.ag,zu c h0 c7,c.imp⟩
   ·cases h
  ·split at h
   ·cases h
   ·simp only[ZS,ZT]at h;obtain⟨rfl,rfl⟩:=h
    refine⟨hS,?_⟩
    intro τ hτ ρ ab _
    exact⟨τ,hτ,ρ,au.refl _ _,ab,Imp.refl⟩
def LN{α:Type}(base cur:List α):List α:=cur.take (cur.length - base.length)
def tC(σ0 A:DSt):DSt:={A with lin:=LN σ0.lin A.lin,prs:=(LN σ0.prs A.prs).filter fun f=>match f with| .lit _ _=>false| .cat _ _ _=>false|_=>true,tys:=LN σ0.tys A.tys}
abbrev Node:=Array Bool×DSt
def zw:List Bool→List Bool→Bool
 | [],[]=>true
 |true::xs,true::ys=>zw xs ys
 |false::xs,false::ys=>zw xs ys
 |_,_=>false
theorem qW:∀{a b:List Bool},zw a b=true→a=b
 | [],[],_=>rfl
 |true::xs,true::ys,h=>by rw[qW (a:=xs) (b:=ys) h]
 |false::xs,false::ys,h=>by rw[qW (a:=xs) (b:=ys) h]
 |true::_,false::_,h=>by cases h
 |false::_,true::_,h=>by cases h
 | [],_::_,h=>by cases h
 |true::_,[],h=>by cases h
 |false::_,[],h=>by cases h
def addNode(l:Array Bool)(σ:DSt):List (Array Bool×List DSt)→List (Array Bool×List DSt)
 | []=>[(l,[σ])]
 |(m,S)::r=>match zw l.toList m.toList with|true=>(m,S++ [σ])::r|false=>(m,S)::addNode l σ r
def sL:List Node→List (Array Bool×List DSt)→List (Array Bool×List DSt)
 | [],g=>g
 |(l,σ)::r,g=>sL r (addNode l σ g)
def HR(n:Nat)(σ0:DSt)(S:List DSt):List DSt:=
 match S with
 |A::_::_=>match qV σ0.nx (tC σ0 A),Cy n σ0 (tC σ0 A) S with
  |true,some []=>[(tC σ0 A).over σ0]
  |_,_=>S
 |_=>S
def yi(l:Array Bool):List DSt→List Node
 | []=>[]
 |σ::r=>(l,σ)::yi l r
def uM(n:Nat)(σ0:DSt):List (Array Bool×List DSt)→List Node
 | []=>[]
 |(l,S)::r=>yi l (HR n σ0 S)++uM n σ0 r
theorem jP{l:Array Bool}{nd:Node}:∀{S:List DSt},nd∈yi l S ↔ nd.1=l∧nd.2∈S
 | []=>by simp[yi]
 |σ::r=>by
  obtain⟨a,b⟩:=nd
  simp only[yi,List.mem_cons,ZT,jP (S:=r)]
  constructor
  ·rintro(⟨h1,h2⟩|⟨h1,h2⟩)
   ·exact⟨h1,.inl h2⟩
   ·exact⟨h1,.inr h2⟩
  ·rintro⟨h1,h2|h2⟩
   ·exact .inl ⟨h1,h2⟩
   ·exact .inr ⟨h1,h2⟩
theorem Ai{l:Array Bool}{σ:DSt}:∀{g:List (Array Bool×List DSt)} {m:Array Bool} {S:List DSt},(m,S)∈addNode l σ g→∀τ∈S,(m=l∧τ=σ)∨∃S',(m,S')∈g∧τ∈S'
 | [],m,S,h,τ,hτ=>by
  simp only[addNode,List.mem_singleton,ZT]at h
  obtain⟨rfl,rfl⟩:=h
  exact .inl ⟨rfl,by simpa using hτ⟩
 |(k,R)::r,m,S,h,τ,hτ=>by
   simp only[addNode]at h
   split at h
   ·rename_i he
    rcases Z1 h with h|h
    ·simp only[ZT]at h;obtain⟨rfl,rfl⟩:=h
     rcases Z0 hτ with hτ|hτ
     ·exact .inr ⟨R,ZW ..,hτ⟩
     ·exact .inl ⟨(Array.toList_inj.1 (qW he)).symm,by simpa using hτ⟩
    ·exact .inr ⟨S,ZV _ h,hτ⟩
   ·rcases Z1 h with h|h
    ·simp only[ZT]at h;obtain⟨rfl,rfl⟩:=h
     exact .inr ⟨S,ZW ..,hτ⟩
    ·rcases Ai h τ hτ with h|⟨S',h1,h2⟩
     ·exact .inl h
     ·exact .inr ⟨S',ZV _ h1,h2⟩
theorem Cz{l:Array Bool}{σ:DSt}:∀{g:List (Array Bool×List DSt)},(∃S,(l,S)∈addNode l σ g∧σ∈S)∧∀m S τ,(m,S)∈g→τ∈S→∃S',(m,S')∈addNode l σ g∧τ∈S'
 | []=>⟨⟨[σ],by simp[addNode]⟩,fun _ _ _ h=>by simp at h⟩
 |(k,R)::r=>by
   obtain⟨⟨S0,h1,h2⟩,h3⟩:=Cz (l:=l) (σ:=σ) (g:=r)
   simp only[addNode]
   split
   ·rename_i he
    have hk:l=k:=Array.toList_inj.1 (qW he)
    subst hk
    refine⟨⟨R++ [σ],ZW ..,by simp⟩,fun m S τ hm hτ=>?_⟩
    rcases Z1 hm with hm|hm
    ·simp only[ZT]at hm;obtain⟨rfl,rfl⟩:=hm
     exact⟨_,ZW ..,ZZ (.inl hτ)⟩
    ·exact⟨S,ZV _ hm,hτ⟩
   ·refine⟨⟨S0,ZV _ h1,h2⟩,fun m S τ hm hτ=>?_⟩
    rcases Z1 hm with hm|hm
    ·exact⟨S,by rw[hm];exact ZW ..,hτ⟩
    ·obtain⟨S',q1,q2⟩:=h3 m S τ hm hτ
     exact⟨S',ZV _ q1,q2⟩
theorem Fj:∀{nds:List Node} {g:List (Array Bool×List DSt)},(∀nd∈nds,∃S,(nd.1,S)∈sL nds g∧nd.2∈S)∧(∀m S τ,(m,S)∈g→τ∈S→∃S',(m,S')∈sL nds g∧τ∈S')∧
  ∀m S τ,(m,S)∈sL nds g→τ∈S→(∃nd∈nds,nd.2=τ)∨∃S',(m,S')∈g∧τ∈S'
 | [],g=>⟨by simp,fun _ S _ h k=>⟨S,h,k⟩,fun _ S _ h k=> .inr ⟨S,h,k⟩⟩
 |(l,σ)::r,g=>by
   obtain⟨h1,h2,h3⟩:=Fj (nds:=r) (g:=addNode l σ g)
   obtain⟨⟨S0,a1,a2⟩,a3⟩:=Cz (l:=l) (σ:=σ) (g:=g)
   simp only[sL]
   refine⟨fun nd eU=>?_,fun m S τ hm hτ=>?_,fun m S τ hm hτ=>?_⟩
   ·rcases Z1 eU with rfl|eU
    ·exact h2 _ _ _ a1 a2
    ·exact h1 nd eU
   ·obtain⟨S',q1,q2⟩:=a3 m S τ hm hτ
    exact h2 _ _ _ q1 q2
   ·rcases h3 m S τ hm hτ with⟨nd,q1,q2⟩|⟨S',q1,q2⟩
    ·exact .inl ⟨nd,ZV _ q1,q2⟩
    ·rcases Ai q1 τ q2 with⟨_,rfl⟩|h
     ·exact .inl ⟨_,ZW ..,rfl⟩
     ·exact .inr h
theorem Ov{P:Program}{I:Pr}{n:Nat}{σ0:DSt}{S:List DSt}(h0:σ0.sc)(hS:∀σ∈S,σ.sc∧σ0.nx≤σ.nx):HP P I n σ0 S (HR n σ0 S):=by
 have same:HP P I n σ0 S S:=⟨hS,fun τ hτ ρ ab _=>⟨τ,hτ,ρ,au.refl _ _,ab,Imp.refl⟩⟩
 unfold HR
 split
 ·split
  ·rename_i A B r hb hi
   refine⟨by simpa using D8 hb h0,?_⟩
   intro σ hσ ρ ab c7
   obtain⟨p,e1,e2⟩:=yh hi σ hσ
   obtain⟨ρ',c⟩:=D7 e1 (fun s hs=>by have:=e2 s hs;simp at this) ρ ab
   exact⟨_,by simp,ρ',c.ag,zu c h0 c7,c.imp⟩
  ·exact same
 ·exact same
def HS(n:Nat)(σ0:DSt)(nds:List Node):List Node:=uM n σ0 (sL nds [])
theorem Fk{P:Program}{I:Pr}{n:Nat}{σ0:DSt}(h0:σ0.sc):∀{g:List (Array Bool×List DSt)},(∀m S τ,(m,S)∈g→τ∈S→τ.sc∧σ0.nx≤τ.nx)→
  (∀nd∈uM n σ0 g,nd.2.sc∧σ0.nx≤nd.2.nx)∧∀m S τ,(m,S)∈g→τ∈S→∀ρ,τ.ok P I ρ→σ0.ok P I ρ→∃nd∈uM n σ0 g,nd.1=m∧∃ρ',au σ0.nx ρ ρ'∧nd.2.ok P I ρ'∧Imp P n (τ.v ρ) (nd.2.v ρ')
 | [],_=>⟨by simp[uM],by simp⟩
 |(l,S)::r,hs=>by
   obtain⟨r1,r2⟩:=Fk (P:=P) (I:=I) (n:=n) h0 (g:=r) fun m S τ hm=>hs m S τ (ZV _ hm)
   have j:=Ov (P:=P) (I:=I) (n:=n) h0 (fun σ hσ=>hs l S σ (ZW ..) hσ)
   simp only[uM]
   refine⟨fun nd eU=>?_,fun m S' τ hm hτ ρ ab c7=>?_⟩
   ·rcases Z0 eU with eU|eU
    ·exact j.sc _ (jP.1 eU).2
    ·exact r1 nd eU
   ·rcases Z1 hm with hm|hm
    ·simp only[ZT]at hm;obtain⟨rfl,rfl⟩:=hm
     obtain⟨σ',q1,q2⟩:=j.to τ hτ ρ ab c7
     exact⟨(m,σ'),ZZ (.inl (jP.2 ⟨rfl,q1⟩)),rfl,q2⟩
    ·obtain⟨nd,q1,q2⟩:=r2 m S' τ hm hτ ρ ab c7
     exact⟨nd,ZZ (.inr q1),q2⟩
theorem Ow{P:Program}{I:Pr}{n:Nat}{σ0:DSt}(h0:σ0.sc){nds:List Node}(hs:∀nd∈nds,nd.2.sc∧σ0.nx≤nd.2.nx):
  (∀nd∈HS n σ0 nds,nd.2.sc∧σ0.nx≤nd.2.nx)∧∀nd∈nds,∀ρ,nd.2.ok P I ρ→σ0.ok P I ρ→∃nd'∈HS n σ0 nds,nd'.1=nd.1∧∃ρ',au σ0.nx ρ ρ'∧nd'.2.ok P I ρ'∧Imp P n (nd.2.v ρ) (nd'.2.v ρ'):=by
 obtain⟨g1,_,g3⟩:=Fj (nds:=nds) (g:=[])
 obtain⟨r1,r2⟩:=Fk (P:=P) (I:=I) (n:=n) h0 (g:=sL nds []) fun m S τ hm hτ=>by
  rcases g3 m S τ hm hτ with⟨nd,q1,rfl⟩|⟨S',q1,_⟩
  ·exact hs nd q1
  ·simp at q1
 refine⟨r1,fun nd eU ρ ab c7=>?_⟩
 obtain⟨S,q1,q2⟩:=g1 nd eU
 exact r2 nd.1 S nd.2 q1 q2 ρ ab c7
def one:DSt→bj:=fun τ=>some ([τ],[])
def yk(P:Program)(CL:DSt→Oper→bj)(ops:Array Oper)(listed:Array Bool)(σ:DSt):List Nat→Option (List Node×List Seq)
 | []=>some ([],[])
 |i::r=>match ops.toList[i]? with
  |some o=>match uL ops.toList o (LM P CL o one) one σ,yk P CL ops listed σ r with
   |some (outs,q),some (l,q')=>some (yi (listed.setIfInBounds i true) outs++l,q++q')
   |_,_=>none
  |none=>none
def LO(P:Program)(CL:DSt→Oper→bj)(ops:Array Oper)(listed:Array Bool)(σ:DSt):Option (List Node×List Seq):=
 match HO ops listed σ (Region.ready .any ops listed)with
 |some i=>match ops.toList[i]? with
  |some o=>match sa o,Region.free .any ops listed i,(Region.ready .any ops listed).contains i with
   |true,true,true=>match uL ops.toList o (yd P o one) one σ with
    |some (outs,q)=>some (yi (listed.setIfInBounds i true) outs,q)
    |none=>none
   |_,_,_=>none
  |none=>none
 |none=>yk P CL ops listed σ (Region.ready .any ops listed)
def yl(P:Program)(CL:DSt→Oper→bj)(ops:Array Oper):List Node→Option (List Node×List Seq)
 | []=>some ([],[])
 |(l,σ)::r=>match(Region.ready .any ops l).isEmpty,LO P CL ops l σ,yl P CL ops r with
   |false,some (a,q),some (b,q')=>some (a++b,q++q')
   |_,_,_=>none
def rJ(ops:Array Oper):List Node→Bool
 | []=>true
 |(l,_)::r=>match(Region.ready .any ops l).isEmpty with|true=>rJ ops r|false=>false
def kP:List Node→List DSt
 | []=>[]
 |(_,σ)::r=>σ::kP r
def uN(P:Program)(n:Nat)(CL:DSt→Oper→bj)(ops:Array Oper)(σ0:DSt):Nat→List Node→bj
 |0,nds=>match rJ ops nds with|true=>some (kP nds,[])|false=>none
 |k+1,nds=>match rJ ops nds with
  |true=>some (kP nds,[])
  |false=>match yl P CL ops nds with
   |some (s,q)=>zq q (uN P n CL ops σ0 k (HS n σ0 s))
   |none=>none
structure HT(P:Program)(I:Pr)(n:Nat)(ops:Array Oper)(Q:Exit→St→Prop)(k:Nat)(l:Array Bool)(σ:DSt)(s:List Node):Prop where
 sc:∀nd∈s,nd.2.sc∧σ.nx≤nd.2.nx
 run:∀ρ,σ.ok P I ρ→(∀nd∈s,∀ρ',au σ.nx ρ ρ'→nd.2.ok P I ρ'→jG P n ops k nd.1 (nd.2.v ρ') Q)→jG P n ops (k+1) l (σ.v ρ) Q
theorem wD{P:Program}{I:Pr}{A:St→Prop}(σ:DSt)(outs:List DSt)(q:List Seq)(h:one σ=some (outs,q))(_:Valid P I q)(hs:σ.sc):j9 P I A A σ outs:=by
 simp only[one,ZS,ZT]at h;obtain⟨rfl,rfl⟩:=h
 exact⟨by simp[hs],fun ρ ab hB=>hB σ (by simp) ρ (au.refl _ _) ab⟩
theorem Aj{P:Program}{I:Pr}{n:Nat}{CL:DSt→Oper→bj}(hC:Handler P I n CL){ops:Array Oper}{k:Nat}{listed:Array Bool}{Q:Exit→St→Prop}(dN:ly n ops.toList=true){σ:DSt}(hs:σ.sc):
  ∀(rs:List Nat) (s:List Node) (q:List Seq),yk P CL ops listed σ rs=some (s,q)→Valid P I q→(∀nd∈s,nd.2.sc∧σ.nx≤nd.2.nx)∧
    ∀ρ,σ.ok P I ρ→(∀nd∈s,∀ρ',au σ.nx ρ ρ'→nd.2.ok P I ρ'→jG P n ops k nd.1 (nd.2.v ρ') Q)→KV P n ops k listed (σ.v ρ) Q rs
 | [],s,q,h,_=>by
  simp only[yk,ZS,ZT]at h;obtain⟨rfl,rfl⟩:=h
  exact⟨by simp,fun _ _ _=>trivial⟩
 |i::r,s,q,h,hV=>by
  simp only[yk]at h
  split at h
  ·rename_i o ho
   split at h
   ·rename_i outs q1 l q2 e1 e2
    simp only[ZS,ZT]at h;obtain⟨rfl,rfl⟩:=h
    rw[Valid.app]at hV
    have kT:ops[i]? =some o:=by simpa using ho
    have hdo:∀d,o.dst=some d→d<n:=fun d hd=>eX dN o (Z2 ho) d hd
    have g1:=pG (Cv fun lo w0 E0 a w=>wpOp P ops (lift (mkC P n lo w0 E0) Q) i (wpAny P .any ops (lift (mkC P n lo w0 E0) Q) k (listed.setIfInBounds i true)) a w)
      (Fi hC hdo (Q:=Q) _ (fun lo w0 E0 a w=>wpAny P .any ops (lift (mkC P n lo w0 E0) Q) k (listed.setIfInBounds i true) a w)
       (fun s lo w0 E0 a w hh hw hwp=>by unfold wpOp;simp only[kT,gY hh (eX dN) hw,if_true];exact .inl hwp) wD)
      (ye hdo _ (fun lo w0 E0 a w=>wpAny P .any ops (lift (mkC P n lo w0 E0) Q) k (listed.setIfInBounds i true) a w)
       (fun s lo w0 E0 a w hh hw hk=>by unfold wpOp;simp only[kT,gY hh (eX dN) hw,Bool.false_eq_true,if_false];exact hk) wD) e1 hV.1 hs
    obtain⟨g2,g3⟩:=Aj hC (Q:=Q) (k:=k) dN hs r l q2 e2 hV.2
    refine⟨fun nd eU=>(Z0 eU).elim (fun h=>g1.sc _ (jP.1 h).2) (g2 nd),?_⟩
    intro ρ ab hB
    refine⟨g1.run ρ ab fun x hx ρ' ha cR=>hB (_,x) (ZZ (.inl (jP.2 ⟨rfl,hx⟩))) ρ' ha cR,g3 ρ ab fun nd eU=>hB nd (ZZ (.inr eU))⟩
   ·cases h
  ·cases h
theorem LP{P:Program}{I:Pr}{n:Nat}{CL:DSt→Oper→bj}(hC:Handler P I n CL){ops:Array Oper}{k:Nat}{listed:Array Bool}{Q:Exit→St→Prop}(dN:ly n ops.toList=true)(gO:Region.noSelect ops=true)
  (hQ:∀c s,Q (.panic c) s→False){σ:DSt}(hs:σ.sc)(he:(Region.ready .any ops listed).isEmpty=false){s:List Node}{q:List Seq}(h:LO P CL ops listed σ=some (s,q))(hV:Valid P I q):HT P I n ops Q k listed σ s:=by
 unfold LO at h
 split at h
 ·rename_i i hi
  split at h
  ·rename_i o ho
   split at h
   ·rename_i lE fM hr
    split at h
    ·rename_i outs q1 hg
     simp only[ZS,ZT]at h;obtain⟨rfl,rfl⟩:=h
     have g:=pG (n:=n) (B:=fun s=>jG P n ops k (listed.setIfInBounds i true) s Q) (Cv fun lo w0 E0 a w=>wpAny P .any ops (lift (mkC P n lo w0 E0) Q) (k+1) listed a w)
      (Jj ho dN lE gO fM hr hQ wD)
      (fun σ outs q h hV hs=>by
       have g:=wD (P:=P) (I:=I) (A:=fun s=>jG P n ops k (listed.setIfInBounds i true) s Q) _ outs q h hV (Sn hs o.dst).1
       refine⟨fun σ' a7=>by have:=g.sc σ' a7;rw[di]at this;exact this,?_⟩
       intro ρ ab hw hB
       refine FJ i ho dN hw gO fM hr hQ ?_
       have:=g.run ρ (ab.put _ _) (fun σ' a7 ρ' ha cR=>hB σ' a7 ρ' (by rw[di]at ha;exact ha) cR)
       rw[eF]at this;simp only[DV.v,dvs]at this
       exact this) hg hV hs
     exact⟨fun nd eU=>g.sc _ (jP.1 eU).2,fun ρ ab hB=>g.run ρ ab fun x hx ρ' ha cR=>hB (_,x) (jP.2 ⟨rfl,hx⟩) ρ' ha cR⟩
    ·cases h
   ·cases h
  ·cases h
 ·obtain⟨g1,g2⟩:=Aj hC (Q:=Q) (k:=k) dN hs _ s q h hV
  exact⟨g1,fun ρ ab hB=>PW _ rfl he (g2 ρ ab hB)⟩
theorem Ak{P:Program}{I:Pr}{n:Nat}{CL:DSt→Oper→bj}(hC:Handler P I n CL){ops:Array Oper}{k:Nat}{Q:Exit→St→Prop}(dN:ly n ops.toList=true)(gO:Region.noSelect ops=true)
  (hQ:∀c s,Q (.panic c) s→False):∀{nds s:List Node} {q:List Seq},yl P CL ops nds=some (s,q)→Valid P I q→(∀nd∈nds,nd.2.sc)→
  (∀x∈s,∃nd∈nds,x.2.sc∧nd.2.nx≤x.2.nx)∧∀nd∈nds,∃s',HT P I n ops Q k nd.1 nd.2 s'∧∀x∈s',x∈s
 | [],s,q,h,_,_=>by
  simp only[yl,ZS,ZT]at h;obtain⟨rfl,rfl⟩:=h
  exact⟨by simp,by simp⟩
 |(l,σ)::r,s,q,h,hV,hs=>by
   simp only[yl]at h
   split at h
   ·rename_i a q1 b q2 he h1 h2
    simp only[ZS,ZT]at h;obtain⟨rfl,rfl⟩:=h
    rw[Valid.app]at hV
    have g:=LP hC (k:=k) dN gO hQ (hs (l,σ) (ZW ..)) he h1 hV.1
    obtain⟨g1,g2⟩:=Ak hC (k:=k) dN gO hQ h2 hV.2 fun nd eU=>hs nd (ZV _ eU)
    refine⟨fun x hx=>?_,fun nd eU=>?_⟩
    ·rcases Z0 hx with hx|hx
     ·exact⟨(l,σ),ZW ..,g.sc x hx⟩
     ·obtain⟨nd,q1,q2⟩:=g1 x hx;exact⟨nd,ZV _ q1,q2⟩
    ·rcases Z1 eU with rfl|eU
     ·exact⟨a,g,fun x hx=>ZZ (.inl hx)⟩
     ·obtain⟨s',q1,q2⟩:=g2 nd eU;exact⟨s',q1,fun x hx=>ZZ (.inr (q2 x hx))⟩
   ·cases h
theorem Al{ops:Array Oper}:∀{nds:List Node},rJ ops nds=true→∀nd∈nds,(Region.ready .any ops nd.1).isEmpty=true
 | [],_,nd,h=>by simp at h
 |(l,σ)::r,h,nd,eU=>by
   simp only[rJ]at h
   split at h
   ·rename_i he
    rcases Z1 eU with rfl|eU
    ·exact he
    ·exact Al h nd eU
   ·cases h
theorem sM:∀{nds:List Node} {σ:DSt},σ∈kP nds ↔ ∃nd∈nds,nd.2=σ
 | [],σ=>by simp[kP]
 |(l,τ)::r,σ=>by simp only[kP,List.mem_cons,sM (nds:=r),exists_eq_or_imp,eq_comm]
theorem Am{P:Program}{I:Pr}{n:Nat}{CL:DSt→Oper→bj}(hC:Handler P I n CL){ops:Array Oper}(dN:ly n ops.toList=true)(gO:Region.noSelect ops=true){Q:Exit→St→Prop}(hQ:∀c s,Q (.panic c) s→False){σ0:DSt}(h0:σ0.sc):
  ∀(k:Nat) (nds:List Node) (outs:List DSt) (q:List Seq),uN P n CL ops σ0 k nds=some (outs,q)→Valid P I q→(∀nd∈nds,nd.2.sc∧σ0.nx≤nd.2.nx)→
    (∀σ'∈outs,σ'.sc∧σ0.nx≤σ'.nx)∧∀nd∈nds,∀ρ,σ0.ok P I ρ→nd.2.ok P I ρ→(∀σ'∈outs,∀ρ',au σ0.nx ρ ρ'→σ'.ok P I ρ'→Q .normal (σ'.v ρ'))→jG P n ops k nd.1 (nd.2.v ρ) Q:=by
 have done:∀(k:Nat) (nds:List Node),rJ ops nds=true→(∀nd∈nds,nd.2.sc∧σ0.nx≤nd.2.nx)→(∀σ'∈kP nds,σ'.sc∧σ0.nx≤σ'.nx)∧
   ∀nd∈nds,∀ρ,σ0.ok P I ρ→nd.2.ok P I ρ→(∀σ'∈kP nds,∀ρ',au σ0.nx ρ ρ'→σ'.ok P I ρ'→Q .normal (σ'.v ρ'))→jG P n ops k nd.1 (nd.2.v ρ) Q:=by
  intro k nds ha hs
  refine⟨fun σ' a7=>?_,fun nd eU ρ _ ab hB=>NC (Al ha nd eU) (hB nd.2 (sM.2 ⟨nd,eU,rfl⟩) ρ (au.refl _ _) ab)⟩
  obtain⟨nd,h1,rfl⟩:=sM.1 a7
  exact hs nd h1
 intro k
 induction k with
 |zero=>
  intro nds outs q h hV hs
  simp only[uN]at h
  split at h
  ·rename_i ha
   simp only[ZS,ZT]at h;obtain⟨rfl,rfl⟩:=h
   exact done 0 nds ha hs
  ·cases h
 |succ k ih=>
  intro nds outs q h hV hs
  simp only[uN]at h
  split at h
  ·rename_i ha
   simp only[ZS,ZT]at h;obtain⟨rfl,rfl⟩:=h
   exact done (k+1) nds ha hs
  ·split at h
   ·rename_i s q1 h1
    obtain⟨p,h2,rfl⟩:=sI h
    rw[Valid.app]at hV
    obtain⟨g1,g2⟩:=Ak hC (k:=k) dN gO hQ h1 hV.1 fun nd eU=>(hs nd eU).1
    obtain⟨m1,m2⟩:=Ow (P:=P) (I:=I) (n:=n) h0 (nds:=s) fun x hx=>by
     obtain⟨nd,q1,q2,q3⟩:=g1 x hx
     exact⟨q2,Nat.le_trans (hs nd q1).2 q3⟩
    obtain⟨r1,r2⟩:=ih _ outs p h2 hV.2 m1
    refine⟨r1,fun nd eU ρ c7 ab hB=>?_⟩
    obtain⟨s',n1,n2⟩:=g2 nd eU
    refine n1.run ρ ab fun x hx ρ' ha cR=>?_
    have ha0:au σ0.nx ρ ρ':=fun j hj=>ha j (Nat.lt_of_lt_of_le hj (hs nd eU).2)
    have hok0':=c7.ag h0 ha0 cR.g
    obtain⟨nd',e1,e2,ρ2,e3,e4,e5⟩:=m2 x (n2 x hx) ρ' cR hok0'
    have hA:=r2 nd' e1 ρ2 (hok0'.ag h0 e3 e4.g) e4 fun σ' a7 ρ3 ha3 hok3=>hB σ' a7 ρ3 (fun j hj=>by rw[ha3 j hj,e3 j hj,ha0 j hj]) hok3
    rw[e2]at hA
    exact GL e5 hA
   ·cases h
def qX(σ:DSt)(c:Operand):Option BF:=
 match dev σ c with
 | .p (.bl f) _=>some f
 |_=>none
theorem uO{σ:DSt}{c:Operand}{f:BF}(ρ:Ro)(h:qX σ c=some f):xC (σ.v ρ) c=some (f.v ρ):=by
 unfold qX at h
 split at h
 ·rename_i g fr he
  simp only[ZS]at h;subst h
  simp only[xC,aK,he,DV.v,DP.v]
 ·cases h
theorem Bb{σ:DSt}(hs:σ.sc){c:Operand}{f:BF}(h:qX σ c=some f):Sc σ.nx f.vars:=by
 unfold qX at h
 split at h
 ·rename_i g fr he
  simp only[ZS]at h;subst h
  have:=hs.dev c;rw[he]at this;simpa[DV.vars,DP.vars]using this
 ·cases h
def parts(c:Operand):List DSt→Option (List DSt×List DSt)
 | []=>some ([],[])
 |σ::r=>match qX σ c,parts c r with
  |some f,some (a,b)=>match sE σ f with
   |some true=>some (σ.asm none true f::a,b)
   |some false=>some (a,σ.asm none false f::b)
   |none=>some (σ.asm none true f::a,σ.asm none false f::b)
  |_,_=>none
theorem sj{P:Program}{I:Pr}{c:Operand}:∀{S a b:List DSt},parts c S=some (a,b)→(∀σ∈S,σ.sc)→
  (∀σ'∈a++b,∃σ∈S,σ'.sc∧σ'.nx=σ.nx)∧∀σ∈S,∃f,qX σ c=some f∧∀ρ,σ.ok P I ρ→(f.v ρ=true→∃σ'∈a,σ'.nx=σ.nx∧σ'.ok P I ρ∧cq (σ.v ρ) (σ'.v ρ))∧(f.v ρ=false→∃σ'∈b,σ'.nx=σ.nx∧σ'.ok P I ρ∧cq (σ.v ρ) (σ'.v ρ))
 | [],a,b,h,_=>by
  simp only[parts,ZS,ZT]at h;obtain⟨rfl,rfl⟩:=h
  exact⟨by simp,by simp⟩
 |σ::r,a,b,h,hs=>by
  simp only[parts]at h
  split at h
  ·rename_i f a' b' hf hr
   obtain⟨r1,r2⟩:=sj (P:=P) (I:=I) hr fun σ hσ=>hs σ (ZV _ hσ)
   have hσs:=hs σ (ZW ..)
   have hfs:=Bb hσs hf
   have s1:∀x,(σ.asm none x f).sc∧(σ.asm none x f).nx=σ.nx:=fun x=>⟨HK hσs none x hfs,rfl⟩
   have s2:∀x ρ,f.v ρ=x→σ.ok P I ρ→(σ.asm none x f).nx=σ.nx∧(σ.asm none x f).ok P I ρ∧cq (σ.v ρ) ((σ.asm none x f).v ρ):=fun x ρ hx ab=>⟨rfl,HL ab none hx,cq.refl _⟩
   split at h
   ·rename_i hd
    simp only[ZS,ZT]at h;obtain⟨rfl,rfl⟩:=h
    refine⟨?_,?_⟩
    ·intro σ' a7
     rcases Z0 a7 with a7|a7
     ·rcases Z1 a7 with rfl|a7
      ·exact⟨σ,ZW ..,s1 true⟩
      ·obtain⟨τ,h1,h2⟩:=r1 σ' (ZZ (.inl a7));exact⟨τ,ZV _ h1,h2⟩
     ·obtain⟨τ,h1,h2⟩:=r1 σ' (ZZ (.inr a7));exact⟨τ,ZV _ h1,h2⟩
    ·intro τ hτ
     rcases Z1 hτ with rfl|hτ
     ·refine⟨f,hf,fun ρ ab=>⟨fun hx=>⟨_,ZW ..,s2 true ρ hx ab⟩,fun hx=>?_⟩⟩
      rw[Ck ab hd]at hx;cases hx
     ·obtain⟨g,h1,h2⟩:=r2 τ hτ
      refine⟨g,h1,fun ρ ab=>⟨fun hx=>?_,fun hx=>(h2 ρ ab).2 hx⟩⟩
      obtain⟨y,q1,q2⟩:=(h2 ρ ab).1 hx;exact⟨y,ZV _ q1,q2⟩
   ·rename_i hd
    simp only[ZS,ZT]at h;obtain⟨rfl,rfl⟩:=h
    refine⟨?_,?_⟩
    ·intro σ' a7
     rcases Z0 a7 with a7|a7
     ·obtain⟨τ,h1,h2⟩:=r1 σ' (ZZ (.inl a7));exact⟨τ,ZV _ h1,h2⟩
     ·rcases Z1 a7 with rfl|a7
      ·exact⟨σ,ZW ..,s1 false⟩
      ·obtain⟨τ,h1,h2⟩:=r1 σ' (ZZ (.inr a7));exact⟨τ,ZV _ h1,h2⟩
    ·intro τ hτ
     rcases Z1 hτ with rfl|hτ
     ·refine⟨f,hf,fun ρ ab=>⟨fun hx=>?_,fun hx=>⟨_,ZW ..,s2 false ρ hx ab⟩⟩⟩
      rw[Ck ab hd]at hx;cases hx
     ·obtain⟨g,h1,h2⟩:=r2 τ hτ
      refine⟨g,h1,fun ρ ab=>⟨fun hx=>(h2 ρ ab).1 hx,fun hx=>?_⟩⟩
      obtain⟨y,q1,q2⟩:=(h2 ρ ab).2 hx;exact⟨y,ZV _ q1,q2⟩
   ·simp only[ZS,ZT]at h;obtain⟨rfl,rfl⟩:=h
    refine⟨?_,?_⟩
    ·intro σ' a7
     rcases Z0 a7 with a7|a7
     ·rcases Z1 a7 with rfl|a7
      ·exact⟨σ,ZW ..,s1 true⟩
      ·obtain⟨τ,h1,h2⟩:=r1 σ' (ZZ (.inl a7));exact⟨τ,ZV _ h1,h2⟩
     ·rcases Z1 a7 with rfl|a7
      ·exact⟨σ,ZW ..,s1 false⟩
      ·obtain⟨τ,h1,h2⟩:=r1 σ' (ZZ (.inr a7));exact⟨τ,ZV _ h1,h2⟩
    ·intro τ hτ
     rcases Z1 hτ with rfl|hτ
     ·exact⟨f,hf,fun ρ ab=>⟨fun hx=>⟨_,ZW ..,s2 true ρ hx ab⟩,fun hx=>⟨_,ZW ..,s2 false ρ hx ab⟩⟩⟩
     ·obtain⟨g,h1,h2⟩:=r2 τ hτ
      refine⟨g,h1,fun ρ ab=>⟨fun hx=>?_,fun hx=>?_⟩⟩
      ·obtain⟨y,q1,q2⟩:=(h2 ρ ab).1 hx;exact⟨y,ZV _ q1,q2⟩
      ·obtain⟨y,q1,q2⟩:=(h2 ρ ab).2 hx;exact⟨y,ZV _ q1,q2⟩
  ·cases h
def frD(k:Nat):DV→DV
 | .p (.sl (some j)) fr=>match Nat.beq j k with|true=> .p (.sl (some j)) true|false=> .p (.sl (some j)) fr
 |x=>x
def D9(k:Nat):List DV→List DV
 | []=>[]
 |x::r=>frD k x::D9 k r
def frO(k:Nat):DO→DO
 | .box t cs=> .box t (D9 k cs)
 |o=>o
def LQ(k:Nat):bX→bX
 | []=>[]
 |(t,x)::r=>(t,frD k x)::LQ k r
def frT(k:Nat):aF→aF
 | []=>[]
 |(t,x)::r=>(t,frO k x)::frT k r
def DSt.frV(σ:DSt)(k:Nat):DSt:={σ with ah:=LQ k σ.ah,tab:=frT k σ.tab}
def Sp(σ:DSt):Option Nat:=
 match σ.lin with
 |e::_=>match isZ e.c,e.t with
  |true,[(a,c)]=>match y5 c,Nat.beq (a % 4) 1 with
   |true,true=>some (a / 4)
   |_,_=>none
  |_,_=>none
 | []=>none
def DSt.pH(σ:DSt):DSt:=match Sp σ with|some k=>σ.frV k|none=>σ
theorem HU(k:Nat):∀x:DV,(frD k x).vars=x.vars:=by
 intro x
 unfold frD
 split
 ·split<;>rfl
 ·rfl
theorem Fl(k:Nat):∀x:List DV,aD (D9 k x)=aD x
 | []=>rfl
 |x::r=>by simp only[D9,aD,HU,Fl k r]
theorem Ea(k:Nat):∀(l:bX) (t:Nat),lk (LQ k l) t=(lk l t).map (frD k)
 | [],_=>rfl
 |(j,x)::r,t=>by simp only[LQ,lk];cases Nat.beq j t<;>simp[Ea k r]
theorem ym(k:Nat):∀(l:aF) (t:Nat),lk (frT k l) t=(lk l t).map (frO k)
 | [],_=>rfl
 |(j,x)::r,t=>by simp only[frT,lk];cases Nat.beq j t<;>simp[ym k r]
theorem Sq{ρ:Ro}{k:Nat}(hk:(ρ k).l=[]){w:World}{E:Env}{lo:Nat}{x:DV}{v:Value}(h:VR w E lo (x.v ρ) v):VR w E lo ((frD k x).v ρ) v:=by
 unfold frD
 split
 ·rename_i j fr
  split
  ·rename_i hj
   have:=ZU hj;subst this
   simp only[DV.v,DP.v,lvV,hk,VR]at h ⊢
   cases h with
   |nil b c=>exact .nil b c
   |sl _ b off cap=>exact .nil _ _
  ·exact h
 ·exact h
theorem Ox{ρ:Ro}{k:Nat}(hk:(ρ k).l=[]){w:World}{E:Env}{lo:Nat}:∀{xs:List DV} {vs:List Value},VRs w E lo (dvs ρ xs) vs→VRs w E lo (dvs ρ (D9 k xs)) vs
 | [],_,h=>h
 |x::xs,[],h=>by simp[dvs,VRs]at h
 |x::xs,v::vs,h=>by
  simp only[dvs,D9,VRs]at h ⊢
  exact⟨Sq hk h.1,Ox hk h.2⟩
theorem Bc{P:Program}{I:Pr}{n:Nat}{σ:DSt}:(σ.sc→σ.pH.sc)∧σ.pH.nx=σ.nx∧∀ρ,σ.ok P I ρ→σ.pH.ok P I ρ∧Imp P n (σ.v ρ) (σ.pH.v ρ):=by
 unfold DSt.pH
 split
 ·rename_i k hk
  refine⟨fun hs=>⟨fun t x hl=>?_,fun t x hl=>?_,hs.tys,hs.lin,hs.prs⟩,rfl,fun ρ ab=>⟨⟨ab.g,ab.tys,ab.lin,ab.prs⟩,?_⟩⟩
  ·simp only[DSt.frV,Ea]at hl
   obtain⟨y,hy,rfl⟩:=Option.map_eq_some_iff.1 hl
   rw[HU];exact hs.ah t y hy
  ·simp only[DSt.frV,ym]at hl
   obtain⟨y,hy,rfl⟩:=Option.map_eq_some_iff.1 hl
   have:=hs.tab t y hy
   cases y with
   |box t cs=>simp only[frO,DO.vars,Fl]at this ⊢;exact this
   |_=>exact this
  ·have hnil:(ρ k).l=[]:=by
    unfold Sp at hk
    split at hk
    ·rename_i e r hlin
     split at hk
     ·rename_i a c hz ht
      split at hk
      ·rename_i h1 h2
       simp only[ZS]at hk;subst hk
       have h3:=ab.lin
       rw[hlin]at h3
       have h3:=h3.1
       have hc:=so hz
       have h4:c=1:=by
        unfold y5 at h1
        split at h1
        ·rw[ZU h1];rfl
        ·cases h1
       have h5:=ZU h2
       unfold Lin.v at h3
       rw[hc,ht,h4]at h3
       simp only[bZ,aV,h5]at h3
       exact List.eq_nil_of_length_eq_zero (by omega)
      ·cases hk
     ·cases hk
    ·cases hk
   rintro lo w0 E0 a w ⟨E,h⟩
   refine⟨E,h.size,h.defers,?_,⟨?_,?_,?_,h.tab.ext⟩,h.fr,h.lo,h.ids,h.lL⟩
   ·intro t s hl
    simp only[DSt.v,DSt.frV,fQ,Ea,Option.map_map]at hl
    obtain⟨y,hy,rfl⟩:=Option.map_eq_some_iff.1 hl
    exact Sq hnil (h.ah t _ (by simp only[DSt.v,fQ,hy,Option.map_some]))
   ·intro j ov hl
    simp only[DSt.v,DSt.frV,dD,ym,Option.map_map]at hl
    obtain⟨y,hy,rfl⟩:=Option.map_eq_some_iff.1 hl
    have:=h.tab.obj j _ (dJ hy)
    cases y with
    |box t cs=>
     obtain⟨b,vs,h1,h2,h3,h4⟩:=this
     exact⟨b,vs,h1,h2,h3,Ox hnil h4⟩
    |_=>exact this
   ·intro j hl
    refine h.tab.dead j ?_
    simp only[DSt.v,DSt.frV,dD,ym,Option.map_map,Option.map_eq_none_iff]at hl ⊢
    exact hl
   ·intro b j ho
    have:=h.tab.own b j ho
    refine⟨this.1,this.2.1,fun e=>this.2.2 ?_⟩
    simp only[DSt.v,DSt.frV,dD,ym,Option.map_map,Option.map_eq_none_iff]at e ⊢
    exact e
 ·exact⟨fun h=>h,rfl,fun ρ ab=>⟨ab,Imp.refl⟩⟩
def zx:List DSt→List DSt
 | []=>[]
 |σ::r=>σ.pH::zx r
theorem p8:∀{S:List DSt} {x:DSt},x∈zx S ↔ ∃σ∈S,x=σ.pH
 | [],x=>by simp[zx]
 |σ::r,x=>by simp only[zx,List.mem_cons,p8];simp
def HV(c:Operand)(S:List DSt):Option (List DSt×List DSt):=match parts c S with
 |some (a,b)=>some (zx a,zx b)
 |none=>none
theorem Oy{P:Program}{I:Pr}{n:Nat}{c:Operand}{S a b:List DSt}(h:HV c S=some (a,b))(hS:∀σ∈S,σ.sc):
  (∀σ'∈a++b,∃σ∈S,σ'.sc∧σ'.nx=σ.nx)∧∀σ∈S,∃f,qX σ c=some f∧∀ρ,σ.ok P I ρ→(f.v ρ=true→∃σ'∈a,σ'.nx=σ.nx∧σ'.ok P I ρ∧Imp P n (σ.v ρ) (σ'.v ρ))∧(f.v ρ=false→∃σ'∈b,σ'.nx=σ.nx∧σ'.ok P I ρ∧Imp P n (σ.v ρ) (σ'.v ρ)):=by
 unfold HV at h
 split at h
 ·rename_i a0 b0 hp
  simp only[ZS,ZT]at h;obtain⟨rfl,rfl⟩:=h
  obtain⟨h1,h2⟩:=sj (P:=P) (I:=I) hp hS
  refine⟨fun x hx=>?_,fun σ hσ=>?_⟩
  ·obtain⟨y,hy,rfl⟩:∃y∈a0++b0,x=y.pH:=by
    rcases Z0 hx with hx|hx
    ·obtain⟨y,hy,e⟩:=p8.1 hx;exact⟨y,ZZ (.inl hy),e⟩
    ·obtain⟨y,hy,e⟩:=p8.1 hx;exact⟨y,ZZ (.inr hy),e⟩
   obtain⟨σ,q1,q2,q3⟩:=h1 y hy
   have e:=Bc (P:=P) (I:=I) (n:=n) (σ:=y)
   exact⟨σ,q1,e.1 q2,e.2.1.trans q3⟩
  ·obtain⟨f,hf,h3⟩:=h2 σ hσ
   refine⟨f,hf,fun ρ ab=>⟨fun hx=>?_,fun hx=>?_⟩⟩
   ·obtain⟨y,q1,q2,q3,q4⟩:=(h3 ρ ab).1 hx
    have e:=Bc (P:=P) (I:=I) (n:=n) (σ:=y)
    exact⟨y.pH,p8.2 ⟨y,q1,rfl⟩,e.2.1.trans q2,(e.2.2 ρ q3).1,Imp.trans (fun lo w0 E0 a w hh=>q4.holds hh) (e.2.2 ρ q3).2⟩
   ·obtain⟨y,q1,q2,q3,q4⟩:=(h3 ρ ab).2 hx
    have e:=Bc (P:=P) (I:=I) (n:=n) (σ:=y)
    exact⟨y.pH,p8.2 ⟨y,q1,rfl⟩,e.2.1.trans q2,(e.2.2 ρ q3).1,Imp.trans (fun lo w0 E0 a w hh=>q4.holds hh) (e.2.2 ρ q3).2⟩
 ·cases h
def reb(σ0:DSt):List DSt→DSt
 | [σ]=>σ
 |_=>σ0
def nW(A:Ann)(id:Nat)(σ:DSt):DSt:=
 match A.keep id with
 |some L=>{σ with ah:=pick σ.ah L}
 |none=>σ
theorem QO{A:Ann}{id:Nat}{σ:DSt}(hs:σ.sc):(nW A id σ).sc∧(nW A id σ).nx=σ.nx:=by
 unfold nW
 split
 ·exact⟨⟨fun t v hl=>hs.ah t v (jk _ _ _ _ hl),hs.tab,hs.tys,hs.lin,hs.prs⟩,rfl⟩
 ·exact⟨hs,rfl⟩
theorem QP{P:Program}{I:Pr}{A:Ann}{id:Nat}{σ:DSt}{ρ:Ro}(h:σ.ok P I ρ):(nW A id σ).ok P I ρ:=by
 unfold nW
 split
 ·exact⟨h.g,h.tys,h.lin,h.prs⟩
 ·exact h
theorem Oz{P:Program}{n:Nat}{A:Ann}{id:Nat}{σ:DSt}{ρ:Ro}:Imp P n (σ.v ρ) ((nW A id σ).v ρ):=by
 unfold nW
 split
 ·refine HD ?_ (fun k b hl=>⟨b,hl,fun _ _ _ h=>h⟩) (fun k hk=>hk)
  intro t b hl
  simp only[DSt.v,qU]at hl ⊢
  exact⟨b,jk _ _ _ _ hl,fun _ _ _ _ h=>h⟩
 ·exact Imp.refl
def rK(A:Ann)(id:Nat):List DSt→List DSt
 | []=>[]
 |σ::r=>nW A id σ::rK A id r
theorem Ao{A:Ann}{id:Nat}:∀{l:List DSt} {x:DSt},x∈rK A id l→∃σ∈l,x=nW A id σ
 |σ::r,x,h=>by
  simp only[rK,List.mem_cons]at h
  rcases h with rfl|h
  ·exact⟨σ,ZW ..,rfl⟩
  ·obtain⟨τ,h1,h2⟩:=Ao h;exact⟨τ,ZV _ h1,h2⟩
theorem CA{A:Ann}{id:Nat}:∀{l:List DSt} {σ:DSt},σ∈l→nW A id σ∈rK A id l
 |τ::r,σ,h=>by
  simp only[rK]
  rcases Z1 h with rfl|h
  ·exact ZW ..
  ·exact ZV _ (CA h)
def OA:List Oper→Bool
 | []=>true
 |o::r=>match uh o with|true=>OA r|false=>false
def OB(P:Program)(ops:Array Oper)(σ:DSt):bj:=match OA ops.toList with
 |true=>match Dy ops 0 ops.toList with
  |true=>sK P ops ops.toList σ
  |false=>none
 |false=>none
def Be:Nat→List Oper→Nat
 |k,o::r=>match uh o with|true=>Be (k+1) r|false=>k
 |k,[]=>k
def zy(l:List Oper):Nat→Option Nat
 |0=>none
 |k+1=>match vU (k+1) 0 l with|true=>some (k+1)|false=>zy l k
def Ss(P:Program)(n:Nat)(CL:DSt→Oper→bj)(ops:Array Oper)(σ:DSt):bj:=match Nat.ble 12 (Be 0 ops.toList)with
 |true=>match zy ops.toList (Be 0 ops.toList)with
  |some m=>match DF ops m 0 ops.toList with
   |true=>match sK P ops (ops.toList.take m) σ with
    |some (S,q)=>zq q (uN P n CL ops σ (ops.size - m) (yi (ur ops.size m) S))
    |none=>none
   |false=>none
  |none=>none
 |false=>none
theorem CB{l:List Oper}:∀{k m:Nat},zy l k=some m→vU m 0 l=true
 |k+1,m,h=>by
  simp only[zy]at h
  split at h
  ·cases h;assumption
  ·exact CB h
def Eb(P:Program)(n:Nat)(CL:DSt→Oper→bj)(ops:Array Oper)(draw:Bool)(σ:DSt):bj:=
 match ly n ops.toList with
 |true=>match draw with
  |false=>zt P n CL ops.toList (List.range ops.size) σ
  |true=>match P.follows .mixedOrders,Region.noSelect ops with
   |true,true=>match OB P ops σ with
    |some r=>some r
    |none=>match Ss P n CL ops σ with
     |some r=>some r
     |none=>uN P n CL ops σ ops.size [(Array.replicate ops.size false,σ)]
   |_,_=>none
 |false=>none
theorem yn{P:Program}{I:Pr}{n id:Nat}{CL:DSt→Oper→bj}(hC:Handler P I n CL){ops:Array Oper}{draw:Bool}{σ:DSt}{outs:List DSt}{q:List Seq}(h:Eb P n CL ops draw σ=some (outs,q))(hV:Valid P I q)(hs:σ.sc)
  {Q:Exit→St→Prop}(hQ:∀c s,Q (.panic c) s→False):j9 P I (fun s=>AWP P n (.region id ops draw) s Q) (fun s=>Q .normal s) σ outs:=by
 unfold Eb at h
 split at h
 ·rename_i dN
  split at h
  ·have g:=Cx hC (Q:=Q) dN _ σ outs q h hV hs
   exact⟨g.sc,fun ρ ab hB=>KM (g.run ρ ab hB)⟩
  ·split at h
   ·rename_i hm gO
    split at h
    ·rename_i r hq
     cases h
     unfold OB at hq
     split at hq
     ·split at hq
      ·rename_i hlex
       have g:=tW (I:=I) dN (Q:=Q) ops.toList (fun _ h=>h) σ outs q hq hV hs
       exact⟨g.sc,fun ρ ab hB=>NF hm gO hlex (g.run ρ ab hB)⟩
      ·cases hq
     ·cases hq
    ·split at h
     ·rename_i r hq
      cases h
      unfold Ss at hq
      split at hq
      ·split at hq
       ·rename_i m hcut
        split at hq
        ·rename_i hlex
         split at hq
         ·rename_i S q1 h1
          obtain⟨p,h2,rfl⟩:=sI hq
          rw[Valid.app]at hV
          have g:=tW (I:=I) dN (Q:=K7 P n ops m Q) (ops.toList.take m) (fun _ h=>List.mem_of_mem_take h) σ S q1 h1 hV.1 hs
          obtain⟨g1,g2⟩:=Am hC dN gO hQ hs _ _ outs p h2 hV.2 fun nd eU=>g.sc _ (jP.1 eU).2
          refine⟨g1,fun ρ ab hB=>Qi m hm gO (CB hcut) hlex (g.run ρ ab fun τ hτ ρ' ha cR=>?_)⟩
          exact g2 (_,τ) (jP.2 ⟨rfl,hτ⟩) ρ' (ab.ag hs ha cR.g) cR fun x hx ρ2 ha2 oq=>hB x hx ρ2 (fun j hj=>(ha2 j hj).trans (ha j hj)) oq
         ·cases hq
        ·cases hq
       ·cases hq
      ·cases hq
     ·obtain⟨g1,g2⟩:=Am hC dN gO hQ hs _ _ outs q h hV (by simpa using hs)
      exact⟨g1,fun ρ ab hB=>NA _ _ hm rfl rfl (g2 _ (List.mem_singleton.2 rfl) ρ ab ab hB)⟩
   ·cases h
 ·cases h
def sN(e:Exit):List DSt→List (Exit×DSt)
 | []=>[]
 |σ::r=>(e,σ)::sN e r
theorem nX{e:Exit}:∀{l:List DSt} {p:Exit×DSt},p∈sN e l→p.1=e∧p.2∈l
 |σ::r,p,h=>by
  simp only[sN,List.mem_cons]at h
  rcases h with rfl|h
  ·exact⟨rfl,ZW ..⟩
  ·obtain⟨h1,h2⟩:=nX h;exact⟨h1,ZV _ h2⟩
theorem yo{e:Exit}:∀{l:List DSt} {σ:DSt},σ∈l→(e,σ)∈sN e l
 |τ::r,σ,h=>by
  simp only[sN]
  rcases Z1 h with rfl|h
  ·exact ZW ..
  ·exact ZV _ (yo h)
def fK(id:Nat):List (Exit×DSt)→List DSt×List (Exit×DSt)
 | []=>([],[])
 |(.exit j,σ)::r=>match fK id r with
   |(a,b)=>match Nat.beq j id with
     |true=>(σ::a,b)
     |false=>(a,(.exit j,σ)::b)
 |p::r=>match fK id r with
  |(a,b)=>(a,p::b)
theorem zz{id:Nat}:∀{l:List (Exit×DSt)} {σ:DSt},σ∈(fK id l).1→(.exit id,σ)∈l
 | [],σ,h=>by simp[fK]at h
 |(e,τ)::r,σ,h=>by
   cases e with
   |exit j=>
    simp only[fK]at h
    cases hb:Nat.beq j id with
    |true=>
     simp only[hb,List.mem_cons]at h
     rcases h with rfl|h
     ·rw[ZU hb];exact ZW ..
     ·exact ZV _ (zz h)
    |false=>simp only[hb]at h;exact ZV _ (zz h)
   |_=>simp only[fK]at h;exact ZV _ (zz h)
theorem zA{id:Nat}:∀{l:List (Exit×DSt)} {p:Exit×DSt},p∈(fK id l).2→p∈l
 | [],p,h=>by simp[fK]at h
 |(e,τ)::r,p,h=>by
   cases e with
   |exit j=>
    simp only[fK]at h
    cases hb:Nat.beq j id with
    |true=>simp only[hb]at h;exact ZV _ (zA h)
    |false=>
     simp only[hb,List.mem_cons]at h
     rcases h with rfl|h
     ·exact ZW ..
     ·exact ZV _ (zA h)
   |_=>
    simp only[fK,List.mem_cons]at h
    rcases h with rfl|h
    ·exact ZW ..
    ·exact ZV _ (zA h)
theorem HW{id:Nat}:∀{l:List (Exit×DSt)} {e:Exit} {σ:DSt},(e,σ)∈l→(e= .exit id∧σ∈(fK id l).1)∨(e≠ .exit id∧(e,σ)∈(fK id l).2)
 | [],e,σ,h=>by simp at h
 |(e0,τ)::r,e,σ,h=>by
   rcases Z1 h with h|h
   ·simp only[ZT]at h;obtain⟨rfl,rfl⟩:=h
    cases e with
    |exit j=>
     simp only[fK]
     cases hb:Nat.beq j id with
     |true=>exact .inl ⟨by rw[ZU hb],ZW ..⟩
     |false=>exact .inr ⟨fun e=>by cases e;simp[Nat.beq_refl]at hb,ZW ..⟩
    |_=>simp only[fK];exact .inr ⟨by simp,ZW ..⟩
   ·have ih:=HW (id:=id) h
    cases e0 with
    |exit j=>
     simp only[fK]
     cases hb:Nat.beq j id with
     |true=>exact ih.imp (fun⟨a,b⟩=>⟨a,ZV _ b⟩) (fun x=>x)
     |false=>exact ih.imp (fun x=>x) fun⟨a,b⟩=>⟨a,ZV _ b⟩
    |_=>simp only[fK];exact ih.imp (fun x=>x) fun⟨a,b⟩=>⟨a,ZV _ b⟩
def down(m:Lin)(θ:Th):List G:=[.le (((m.si θ).ax (-1) m).aN 1),.le ((Lin.scale (-1) m).aN 1)]
def Gc(n n0:Nat)(T:DSt)(m:Lin):List DSt→Option (List Seq)
 | []=>some []
 |σ::r=>match wx n n0 σ T (down m),Gc n n0 T m r with
  |some a,some b=>some (a++b)
  |_,_=>none
theorem Fm{n n0:Nat}{T:DSt}{m:Lin}:∀{S:List DSt} {q:List Seq},Gc n n0 T m S=some q→∀σ∈S,∃p,wx n n0 σ T (down m)=some p∧∀s∈p,s∈q
 | [],q,h,σ,hσ=>by simp at hσ
 |σ0'::r,q,h,σ,hσ=>by
  simp only[Gc]at h
  split at h
  ·rename_i a b h1 h2
   simp only[ZS]at h;subst h
   rcases Z1 hσ with rfl|hσ
   ·exact⟨a,h1,fun s hs=>ZZ (.inl hs)⟩
   ·obtain⟨p,e1,e2⟩:=Fm h2 σ hσ
    exact⟨p,e1,fun s hs=>ZZ (.inr (e2 s hs))⟩
  ·cases h
def CC(σ:DSt):List Nat→DSt
 | []=>σ
 |l::r=>CC (LH σ l) r
theorem Fo{P:Program}{I:Pr}:∀{ls:List Nat} {σ:DSt},GOk P I σ (CC σ ls)
 | [],_=>GOk.refl
 |_l::r,_σ=>GOk.trans QL (Fo (ls:=r))
def gH(ex:List DSt→Option Res):Nat→List DSt→Option (List (Exit×DSt)×List Seq)
 |_,[]=>some ([],[])
 |0,_::_=>none
 |k+1,σ::r=>match ex (σ::r)with
  |some R=>match gH ex k R.nor with
   |some (o,q)=>some (R.oth++o,R.q++q)
   |none=>none
  |none=>none
def QQ:DV→Nat
 | .p (.bl (.lit true)) _=>1
 | .p (.bl (.lit false)) _=>2
 | .p .nl _=>3
 | .p (.ej _) _=>4
 | .p (.int _ ⟨.ofNat 0,[]⟩) _=>9
 | .p _ _=>5
 | .vec _=>6
 | .ref _=>7
 | .ptr _ _=>8
 |_=>0
def Su:List DV→Nat→Nat
 | [],a=>a
 |x::r,a=>Su r (a*16+QQ x)
def VN(σ:DSt)(t:Nat):Nat:=match t / 1000 with
 |0=>match lk σ.ah t with
  |some (.ptr k _)=>match lk σ.tab k with
   |some (.box _ xs)=>Su xs 8
   |_=>8
  |some x=>QQ x
  |none=>15
 |j+1=>match lk σ.ah (t % 1000)with
  |some (.ptr k _)=>match lk σ.tab k with
   |some (.box _ xs)=>QQ (xs.getD j .u)
   |_=>8
  |_=>15
def QR(σ τ:DSt):List Nat→Bool
 | []=>true
 |t::r=>match Nat.beq (VN σ t) (VN τ t)with|true=>QR σ τ r|false=>false
def nC(L:List Nat)(σ:DSt):List DSt→List DSt×List DSt
 | []=>([],[])
 |τ::r=>match nC L σ r with
  |(a,b)=>match QR σ τ L with|true=>(τ::a,b)|false=>(a,τ::b)
theorem tY{L:List Nat}{σ:DSt}:∀{S a b:List DSt},nC L σ S=(a,b)→∀x,x∈S ↔ x∈a∨x∈b
 | [],a,b,h,x=>by simp only[nC,ZT]at h;obtain⟨rfl,rfl⟩:=h;simp
 |τ::r,a,b,h,x=>by
  simp only[nC]at h
  cases hr:nC L σ r with
  |mk a' b'=>
   have ih:=tY hr x
   rw[hr]at h
   cases ht:QR σ τ L with
   |true=>simp only[ht,ZT]at h;obtain⟨rfl,rfl⟩:=h;simp only[List.mem_cons,ih];exact or_assoc.symm
   |false=>simp only[ht,ZT]at h;obtain⟨rfl,rfl⟩:=h;simp only[List.mem_cons,ih];exact or_left_comm
def LR(k:Nat)(l:List Nat):List Nat:=match l.any (Nat.beq k)with|true=>l|false=>k::l
mutual
def LS:DV→List Nat→List Nat
 | .ptr k _,l=>LR k l
 | .vec k,l=>LR k l
 | .bn k _ _ _,l=>LR k l
 | .ref k,l=>LR k l
 | .agg xs,l=>uP xs l
 | .bL xs,l=>uP xs l
 | .fn _ a b,l=>uP b (uP a l)
 | .cL _ x,l=>LS x l
 |_,l=>l
def uP:List DV→List Nat→List Nat
 | [],l=>l
 |x::r,l=>uP r (LS x l)
end
def CD:bX→List Nat→List Nat
 | [],l=>l
 |(_,x)::r,l=>CD r (LS x l)
def LU(T:aF):List Nat→List Nat→List Nat
 | [],l=>l
 |k::r,l=>match lk T k with
  |some (.box _ xs)=>LU T r (uP xs l)
  |_=>LU T r l
def handed:aF→List Nat
 | []=>[]
 |(k,_)::r=>match Nat.ble 1000000 k with|true=>k::handed r|false=>handed r
def CE(T:aF):Nat→List Nat→List Nat
 |0,l=>l
 |m+1,l=>CE T m (LU T l l)
def gcS(σ:DSt):DSt:=σ.keep (dU σ.ah) (CE σ.tab 4 (CD σ.ah (handed σ.tab)))
def gcs:List DSt→List DSt
 | []=>[]
 |σ::r=>gcS σ::gcs r
theorem Ec:∀{S:List DSt} {x:DSt},x∈gcs S ↔ ∃σ∈S,x=gcS σ
 | [],x=>by simp[gcs]
 |σ::r,x=>by simp only[gcs,List.mem_cons,Ec];simp
def oX(n:Nat)(A:Ann)(ex:Ann→DSt→Option Res)(bid:Nat)(σ0:DSt):Nat→Nat→List DSt→Option (List (Exit×DSt)×List Seq)
 |_,_,[]=>some ([],[])
 |0,_,_::_=>none
 |k+1,j,s::r=>match nC (A.split bid) s (s::r)with
  |(S1,S2)=>match Gb n (A.sh j) true (100000+bid) σ0 S1 with
    |some ([σa],q0)=>match CC σa ((A.sh j).opens (A.sh j).o bid σa)with
     |σ=>match(A.sh j).loop (A.sh j).o bid σ with
      |some (T,m)=>match qV σ.nx T,scB T.nx m.vars,LG n σ σ T with
       |true,true,some q1=>match ex (A.sh j) (T.over σ)with
        |some R=>match nC (A.split bid) (T.over σ) R.nor with
         |(B,F)=>match Gc n σ.nx T m B with
           |some q2=>match oX n A ex bid σ0 k (j+1) (S2++gcs F)with
            |some (o,q)=>some (R.oth++o,q0++(q1++(R.q++(q2++q))))
            |none=>none
           |none=>none
        |none=>none
       |_,_,_=>none
      |none=>none
    |_=>none
def exec(P:Program)(n:Nat)(CL:DSt→Oper→bj):Ann→Code→Nat→DSt→List DSt→Option Res
 |_,.skip,_,σ0,S=>some ⟨S,σ0,[],[]⟩
 |_,.ret,_,σ0,S=>some ⟨[],σ0,sN .ret S,[]⟩
 |_,.exit id,_,σ0,S=>some ⟨[],σ0,sN (.exit id) S,[]⟩
 |A,.region id ops draw,_,σ0,S=>match Gb n A false id σ0 S with
  |some (S',q0)=>match ny (Eb P n CL ops draw) S' with
   |some (outs,q)=>some ⟨rK A id outs,reb σ0 S',[],q0++q⟩
   |none=>none
  |none=>none
 |A,.seq a b,bid,σ0,S=>match exec P n CL A a bid σ0 S with
  |some R=>match exec P n CL A b bid (reb R.base R.nor) R.nor with
   |some R'=>some ⟨R'.nor,R'.base,R.oth++R'.oth,R.q++R'.q⟩
   |none=>none
  |none=>none
 |A,.cond c x y,bid,σ0,S=>match HV c S with
  |some (T,F)=>match exec P n CL A x bid (reb σ0 T) T,exec P n CL A y bid (reb σ0 F) F with
   |some R,some R'=>some ⟨R.nor++R'.nor,σ0,R.oth++R'.oth,R.q++R'.q⟩
   |_,_=>none
  |none=>none
 |A,.block id c,_,σ0,S=>match exec P n CL A c id σ0 S with
  |some R=>match fK id R.oth with
   |([],o)=>some ⟨R.nor,R.base,o,R.q⟩
   |(e,o)=>some ⟨R.nor++e,σ0,o,R.q⟩
  |none=>none
 |A,.loop c,bid,σ0,S=>match A.OD bid with
  |some m=>match gH (fun S=>exec P n CL A c bid σ0 S) m S with
   |some (o,q)=>some ⟨[],σ0,o,q⟩
   |none=>none
  |none=>match oX n A (fun A σ=>exec P n CL A c bid σ [σ]) bid σ0 6 0 S with
   |some (o,q)=>some ⟨[],σ0,o,q⟩
   |none=>none
 |_,_,_,_,_=>none
structure HX(P:Program)(I:Pr)(n:Nat)(c:Code)(σ0:DSt)(S:List DSt)(R:Res):Prop where
 base:R.base.sc∧σ0.nx≤R.base.nx
 nor:∀σ'∈R.nor,σ'.sc∧R.base.nx≤σ'.nx
 oth:∀p∈R.oth,p.2.sc∧σ0.nx≤p.2.nx
 ne:∀p∈R.oth,p.1≠ .normal
 run:∀σ∈S,∀ρ,σ.ok P I ρ→σ0.ok P I ρ→∀Q:Exit→St→Prop,(∀c s,Q (.panic c) s→False)→
  (∀σ'∈R.nor,∀ρ',au σ0.nx ρ ρ'→σ'.ok P I ρ'→R.base.ok P I ρ'→∀s,Imp P n s (σ'.v ρ')→Q .normal s)→
  (∀e σ',(e,σ')∈R.oth→∀ρ',au σ0.nx ρ ρ'→σ'.ok P I ρ'→∀s,Imp P n s (σ'.v ρ')→Q e s)→AWP P n c (σ.v ρ) Q
theorem CF{P:Program}{I:Pr}{σ0:DSt}{S:List DSt}(h0:σ0.sc)(hS:∀σ∈S,σ.sc∧σ0.nx≤σ.nx):
  (reb σ0 S).sc∧σ0.nx≤(reb σ0 S).nx∧(∀σ∈S,(reb σ0 S).nx≤σ.nx)∧∀σ∈S,∀ρ,σ.ok P I ρ→σ0.ok P I ρ→(reb σ0 S).ok P I ρ:=by
 unfold reb
 split
 ·rename_i σ
  have:=hS σ (by simp)
  exact⟨this.1,this.2,by simp,fun τ hτ ρ h _=>by simp at hτ;subst hτ;exact h⟩
 ·exact⟨h0,Nat.le_refl _,fun σ hσ=>(hS σ hσ).2,fun _ _ _ _ h=>h⟩
theorem OC{P:Program}{I:Pr}{n:Nat}{c:Code}{σ0:DSt}(h0:σ0.sc){ex:List DSt→Option Res}
  (hex:∀S R,ex S=some R→Valid P I R.q→(∀σ∈S,σ.sc∧σ0.nx≤σ.nx)→HX P I n c σ0 S R){m:Nat}{S:List DSt}{o:List (Exit×DSt)}{q:List Seq}(hu:gH ex m S=some (o,q))(hV:Valid P I q)(hS:∀σ∈S,σ.sc∧σ0.nx≤σ.nx):
  (∀p∈o,p.2.sc∧σ0.nx≤p.2.nx)∧(∀p∈o,p.1≠ .normal)∧∀σ∈S,∀ρ,σ.ok P I ρ→σ0.ok P I ρ→∀Q:Exit→St→Prop,(∀c s,Q (.panic c) s→False)→
   (∀e σ',(e,σ')∈o→∀ρ',au σ0.nx ρ ρ'→σ'.ok P I ρ'→∀s,Imp P n s (σ'.v ρ')→Q e s)→AWP P n (.loop c) (σ.v ρ) Q:=by
 have base:∀(m:Nat) (S:List DSt) (o:List (Exit×DSt)) (q:List Seq),gH ex m S=some (o,q)→Valid P I q→(∀σ∈S,σ.sc∧σ0.nx≤σ.nx)→(∀p∈o,p.2.sc∧σ0.nx≤p.2.nx)∧∀p∈o,p.1≠ .normal:=by
  intro m
  induction m with
  |zero=>
   intro S o q hu hV hS
   cases S with
   |nil=>simp only[gH,ZS,ZT]at hu;rw[←hu.1];simp
   |cons σ r=>simp[gH]at hu
  |succ m ih=>
   intro S o q hu hV hS
   cases S with
   |nil=>simp only[gH,ZS,ZT]at hu;rw[←hu.1];simp
   |cons σ r=>
    simp only[gH]at hu
    split at hu
    ·rename_i R hR
     split at hu
     ·rename_i o' q' hu'
      simp only[ZS,ZT]at hu;obtain⟨rfl,rfl⟩:=hu
      rw[Valid.app]at hV
      have x:=hex _ R hR hV.1 hS
      have y:=ih R.nor o' q' hu' hV.2 fun σ hσ=>⟨(x.nor σ hσ).1,Nat.le_trans x.base.2 (x.nor σ hσ).2⟩
      exact⟨fun p hp=>(Z0 hp).elim (x.oth p) (y.1 p),fun p hp=>(Z0 hp).elim (x.ne p) (y.2 p)⟩
     ·cases hu
    ·cases hu
 obtain⟨b1,b2⟩:=base m S o q hu hV hS
 refine⟨b1,b2,?_⟩
 intro σ hσ ρ ab c7 Q hQ ho
 refine PO (α:=Nat×DSt×Ro) (fun x=>x.2.1.v x.2.2) (fun x=>∃S o' q',x.2.1∈S∧gH ex x.1 S=some (o',q')∧(∀p∈o',p∈o)∧Valid P I q'∧(∀σ∈S,σ.sc∧σ0.nx≤σ.nx)∧x.2.1.ok P I x.2.2∧σ0.ok P I x.2.2∧au σ0.nx ρ x.2.2)
  (fun x=>x.1) (m,σ,ρ) Imp.refl ⟨S,o,q,hσ,hu,fun _ h=>h,hV,hS,ab,c7,au.refl _ _⟩ ?_
 rintro⟨k,τ,r⟩ ⟨S1,o1,q1,hτ,hu1,oA,hV1,hS1,okτ,ok0,ag⟩
 cases S1 with
 |nil=>simp at hτ
 |cons s1 r1=>
  cases k with
  |zero=>simp[gH]at hu1
  |succ k=>
   simp only[gH]at hu1
   split at hu1
   ·rename_i R hR
    split at hu1
    ·rename_i o' q' hu'
     simp only[ZS,ZT]at hu1;obtain⟨rfl,rfl⟩:=hu1
     rw[Valid.app]at hV1
     have x:=hex _ R hR hV1.1 hS1
     refine x.run τ hτ r okτ ok0 _ ?_ ?_ ?_
     ·intro c s hc;exact hQ c s hc
     ·intro y hy r2 fC ef okb2 s ij
      exact⟨(k,y,r2),⟨R.nor,o',q',hy,hu',fun p hp=>oA p (ZZ (.inr hp)),hV1.2,fun σ hσ=>⟨(x.nor σ hσ).1,Nat.le_trans x.base.2 (x.nor σ hσ).2⟩,ef,ok0.ag h0 fC ef.g,ag.trans fC (Nat.le_refl _)⟩,Nat.lt_succ_self k,ij⟩
     ·intro e y hy r2 fC ef s ij
      have:=ho e y (oA _ (ZZ (.inl hy))) r2 (ag.trans fC (Nat.le_refl _)) ef s ij
      cases e with
      |normal=>exact absurd rfl (x.ne _ hy)
      |_=>exact this
    ·cases hu1
   ·cases hu1
def AWL(P:Program)(n:Nat)(c:Code)(σ:St)(Q:Exit→St→Prop):Prop:=
 ∀lo w0 E0 a w,Holds (mkC P n lo w0 E0) σ a w→∀b k cs,∃e a' w',lift (mkC P n lo w0 E0) Q e a' w'∧Arrives P (lone (b.at a (.code c:: .inLoop c::k)) cs w) b k cs e a' w'
theorem AWL.loop{P:Program}{n:Nat}{c:Code}{σ:St}{Q:Exit→St→Prop}(h:AWL P n c σ Q):AWP P n (.loop c) σ Q:=by
 intro lo w0 E0 a w hh b k cs
 obtain⟨e,a',w',hq,fG⟩:=h lo w0 E0 a w hh b k cs
 exact⟨e,a',w',hq,.of_steps (.one step_loop) fG⟩
theorem AWL.imp{P:Program}{n:Nat}{c:Code}{σ τ:St}{Q:Exit→St→Prop}(h:Imp P n σ τ)(k:AWL P n c τ Q):AWL P n c σ Q:=
 fun lo w0 E0 a w hh=>k lo w0 E0 a w (h lo w0 E0 a w hh)
theorem QS{P:Program}{n:Nat}{c:Code}{σ:St}{Q:Exit→St→Prop}{α:Type}(I:α→St)(K:α→Prop)(μ:α→Nat)(x0:α)(h0:Imp P n σ (I x0))(hK:K x0)
  (h:∀x,K x→AWP P n c (I x) fun e s=>match e with| .normal=>(∃x',K x'∧μ x'<μ x∧Imp P n s (I x'))∨AWL P n c s Q|e=>Q e s):AWL P n c σ Q:=by
 intro lo w0 E0 a w hh b k cs
 have key:∀m a w x,K x→μ x=m→Holds (mkC P n lo w0 E0) (I x) a w→
   ∃e a' w',lift (mkC P n lo w0 E0) Q e a' w'∧Arrives P (lone (b.at a (.code c:: .inLoop c::k)) cs w) b k cs e a' w':=by
  intro m
  induction m using Nat.strongRecOn with
  |_ m ih=>
   intro a w x hx hm hs
   obtain⟨e,a₁,w₁,⟨s,hq,hs₁⟩,fG⟩:=h x hx lo w0 E0 a w hs b (.inLoop c::k) cs
   cases e with
   |normal=>
    rcases hq with⟨x',hx',av,himp⟩|hq
    ·obtain⟨e₂,a₂,w₂,hq₂,wV⟩:=ih (μ x') (hm▸av) a₁ w₁ x' hx' rfl (himp lo w0 E0 a₁ w₁ hs₁)
     exact⟨e₂,a₂,w₂,hq₂,.of_steps (Steps.trans fG (.one step_inLoop)) wV⟩
    ·obtain⟨e₂,a₂,w₂,hq₂,wV⟩:=hq lo w0 E0 a₁ w₁ hs₁ b k cs
     exact⟨e₂,a₂,w₂,hq₂,.of_steps (Steps.trans fG (.one step_inLoop)) wV⟩
   |exit id=>exact⟨_,a₁,w₁,⟨s,hq,hs₁⟩,.pass (x:= .inLoop c) rfl (fun _ _=> .inl (by simp)) fG⟩
   |goto l=>exact⟨_,a₁,w₁,⟨s,hq,hs₁⟩,.pass (x:= .inLoop c) rfl (fun _ _=> .inl (by simp)) fG⟩
   |ret=>exact⟨_,a₁,w₁,⟨s,hq,hs₁⟩,.pass (x:= .inLoop c) rfl (fun _ _=> .inl (by simp)) fG⟩
   |panic ch=>exact⟨_,a₁,w₁,⟨s,hq,hs₁⟩,.pass (x:= .inLoop c) rfl (fun _ _=> .inl (by simp)) fG⟩
   |outgrown=>exact⟨_,a₁,w₁,⟨s,hq,hs₁⟩,.pass (x:= .inLoop c) rfl (fun _ _=> .inl (by simp)) fG⟩
 exact key _ a w x0 hK rfl (h0 lo w0 E0 a w hh)
theorem QT{P:Program}{I:Pr}{n:Nat}{c:Code}{A:Ann}{bid:Nat}{σ0:DSt}(h0:σ0.sc){ex:Ann→DSt→Option Res}
  (hex:∀A σ R,ex A σ=some R→Valid P I R.q→σ.sc→HX P I n c σ [σ] R):∀(k j:Nat) (S:List DSt) (o:List (Exit×DSt)) (q:List Seq),oX n A ex bid σ0 k j S=some (o,q)→Valid P I q→(∀σ∈S,σ.sc∧σ0.nx≤σ.nx)→
  (∀p∈o,p.2.sc∧σ0.nx≤p.2.nx)∧(∀p∈o,p.1≠ .normal)∧∀σ∈S,∀ρ,σ.ok P I ρ→σ0.ok P I ρ→∀Q:Exit→St→Prop,(∀c s,Q (.panic c) s→False)→
   (∀e σ',(e,σ')∈o→∀ρ',au σ0.nx ρ ρ'→σ'.ok P I ρ'→∀s,Imp P n s (σ'.v ρ')→Q e s)→AWL P n c (σ.v ρ) Q:=by
 intro k
 induction k with
 |zero=>
  intro j S o q h hV hS
  cases S with
  |nil=>simp only[oX,ZS,ZT]at h;obtain⟨rfl,rfl⟩:=h;exact⟨by simp,by simp,by simp⟩
  |cons s r=>simp[oX]at h
 |succ k ih=>
  intro j S o q h hV hS
  cases S with
  |nil=>simp only[oX,ZS,ZT]at h;obtain⟨rfl,rfl⟩:=h;exact⟨by simp,by simp,by simp⟩
  |cons s r=>
   unfold oX at h
   generalize hS0:s::r=S at h hS ⊢
   clear hS0
   split at h
   rename_i S1 S2 hp
   have mem:=tY hp
   split at h
   ·rename_i σa q0 hj
    have hgo:=Fo (P:=P) (I:=I) (ls:=(A.sh j).opens (A.sh j).o bid σa) (σ:=σa)
    generalize CC σa ((A.sh j).opens (A.sh j).o bid σa)=σ at h hgo
    simp only at h
    split at h
    ·rename_i T m hT
     split at h
     ·rename_i q1 hb hm hi
      split at h
      ·rename_i R1 h1
       generalize hpB:nC (A.split bid) (T.over σ) R1.nor=BF at h
       obtain⟨B,F⟩:=BF
       have memB:=tY hpB
       simp only at h
       split at h
       ·rename_i q2 hk
        split at h
        ·rename_i o' q' pj
         simp only[ZS,ZT]at h;obtain⟨rfl,rfl⟩:=h
         rw[Valid.app,Valid.app,Valid.app,Valid.app]at hV
         obtain⟨V0,V1,V2,V3,V4⟩:=hV
         have hS1:∀σ∈S1,σ.sc∧σ0.nx≤σ.nx:=fun σ hσ=>hS σ ((mem σ).2 (.inl hσ))
         have j:=HQ hj V0 h0 hS1
         have hσa:=j.sc σa (by simp)
         have hσ:σ.sc∧σ0.nx≤σ.nx:=⟨hgo.sc hσa.1,Nat.le_trans hσa.2 hgo.nx⟩
         have hTs:=D8 hb hσ.1
         have x1:=hex _ _ R1 h1 V2 hTs.1
         have l0:σ0.nx≤(T.over σ).nx:=Nat.le_trans hσ.2 hTs.2
         obtain⟨i1,i2,i3⟩:=ih _ _ o' q' pj V4 (by
          intro y hy
          rcases Z0 hy with hy|hy
          ·exact hS y ((mem y).2 (.inr hy))
          ·obtain⟨z,hz,rfl⟩:=Ec.1 hy
           have:=x1.nor z ((memB z).2 (.inr hz))
           have c:=D1 (P:=P) (n:=n) (dU z.ah) (CE z.tab 4 (CD z.ah (handed z.tab))) z
           exact⟨c.sc this.1,by rw[gcS,c.nx];exact Nat.le_trans l0 (Nat.le_trans x1.base.2 this.2)⟩)
         refine⟨fun p hp=>?_,fun p hp=>?_,?_⟩
         ·rcases Z0 hp with hp|hp
          ·exact⟨(x1.oth p hp).1,Nat.le_trans l0 (x1.oth p hp).2⟩
          ·exact i1 p hp
         ·rcases Z0 hp with hp|hp
          ·exact x1.ne p hp
          ·exact i2 p hp
         intro τ hτ ρ ab c7 Q hQ ho
         rcases(mem τ).1 hτ with hτ|hτ
         ·obtain⟨σ',a7,ρa,aga,oka,ima⟩:=j.to τ hτ ρ ab c7
          simp only[List.mem_singleton]at a7;subst a7
          obtain⟨ρ1,agb,ok1,sm1⟩:=hgo.run hσa.1 ρa oka
          have jf:au σ0.nx ρ ρ1:=aga.trans agb hσa.2
          have im1:Imp P n (τ.v ρ) (σ.v ρ1):=ima.trans fun lo w0 E0 a w hh=>sm1.holds hh
          obtain⟨ρ2,c2⟩:=D7 hi V1 ρ1 ok1
          refine AWL.imp im1 (QS (α:=Ro) (fun r=>(T.over σ).v r) (fun r=>au σ.nx ρ1 r∧(T.over σ).ok P I r) (fun r=>(m.v r).toNat) ρ2 c2.imp ⟨c2.ag,zu c2 hσ.1 ok1⟩ ?_)
          rintro r ⟨agr,okr⟩
          refine x1.run _ (List.mem_singleton.2 rfl) r okr okr _ ?_ ?_ ?_
          ·intro c s hc;exact hQ c s hc
          ·intro y hy r2 fC ef okb2 s ij
           have agr2:au σ.nx ρ1 r2:=agr.trans fC hTs.2
           rcases(memB y).1 hy with hyB|hyF
           ·left
            obtain⟨p,e1,e2⟩:=Fm hk y hyB
            obtain⟨θ,c3,hd⟩:=A7 e1 (fun s hs=>V3 s (e2 s hs)) r2 ef
            refine⟨ap r2 θ,⟨agr2.trans c3.ag (Nat.le_refl _),zu c3 hσ.1 (ok1.ag hσ.1 agr2 ef.g)⟩,?_,ij.trans c3.imp⟩
            simp only[down,gsV,G.v,Lin.aO,Lin.bQ,Lin.bE,Lin.gf]at hd
            have hmv:m.v r2=m.v r:=Lin.ag fC (p7 hm)
            rw[hmv]at hd
            show(m.v (ap r2 θ)).toNat<(m.v r).toNat
            omega
           ·right
            have agt:au σ0.nx ρ r2:=jf.trans agr2 hσ.2
            have c:=D1 (P:=P) (n:=n) (dU y.ah) (CE y.tab 4 (CD y.ah (handed y.tab))) y
            refine AWL.imp (ij.trans (c.imp r2)) (i3 (gcS y) (ZZ (.inr (Ec.2 ⟨y,hyF,rfl⟩))) r2 (c.ok ef) (c7.ag h0 agt ef.g) Q hQ ?_)
            intro e z hz r3 ag3 ok3 s3 im3
            exact ho e z (ZZ (.inr hz)) r3 (agt.trans ag3 (Nat.le_refl _)) ok3 s3 im3
          ·intro e y hy r2 fC ef s ij
           have:=ho e y (ZZ (.inl hy)) r2 (jf.trans (agr.trans fC hTs.2) hσ.2) ef s ij
           cases e with
           |normal=>exact absurd rfl (x1.ne _ hy)
           |_=>exact this
         ·refine i3 τ (ZZ (.inl hτ)) ρ ab c7 Q hQ fun e z hz=>ho e z (ZZ (.inr hz))
        ·cases h
       ·cases h
      ·cases h
     ·cases h
    ·cases h
   ·cases h
theorem Tx{P:Program}{I:Pr}{n:Nat}{CL:DSt→Oper→bj}(hC:Handler P I n CL):∀(c:Code) (A:Ann) (bid:Nat) (σ0:DSt) (S:List DSt) (R:Res),
  exec P n CL A c bid σ0 S=some R→Valid P I R.q→σ0.sc→(∀σ∈S,σ.sc∧σ0.nx≤σ.nx)→HX P I n c σ0 S R:=by
 intro c
 induction c with
 |skip=>
  intro A bid σ0 S R h hV h0 hS
  simp only[exec,ZS]at h;subst h
  exact⟨⟨h0,Nat.le_refl _⟩,hS,by simp,by simp,fun σ hσ ρ ab c7 Q _ hn _=>PL (hn σ hσ ρ (au.refl _ _) ab c7 _ Imp.refl)⟩
 |ret=>
  intro A bid σ0 S R h hV h0 hS
  simp only[exec,ZS]at h;subst h
  refine⟨⟨h0,Nat.le_refl _⟩,by simp,?_,fun p hp=>by rw[(nX hp).1];simp,fun σ hσ ρ ab c7 Q _ _ ho=>SW (ho .ret σ (yo hσ) ρ (au.refl _ _) ab _ Imp.refl)⟩
  intro p hp;obtain⟨_,h2⟩:=nX hp;exact hS _ h2
 |exit id=>
  intro A bid σ0 S R h hV h0 hS
  simp only[exec,ZS]at h;subst h
  refine⟨⟨h0,Nat.le_refl _⟩,by simp,?_,fun p hp=>by rw[(nX hp).1];simp,fun σ hσ ρ ab c7 Q _ _ ho=>PM (ho (.exit id) σ (yo hσ) ρ (au.refl _ _) ab _ Imp.refl)⟩
  intro p hp;obtain⟨_,h2⟩:=nX hp;exact hS _ h2
 |region id ops draw=>
  intro A bid σ0 S R h hV h0 hS
  simp only[exec]at h
  split at h
  ·rename_i S' q0 hj
   split at h
   ·rename_i outs q hm
    simp only[ZS]at h;subst h
    have ow:=HQ hj (fun s hs=>hV s (ZZ (.inl hs))) h0 hS
    have hVq:Valid P I q:=fun s hs=>hV s (ZZ (.inr hs))
    have hrb:=CF (P:=P) (I:=I) h0 ow.sc
    have wX:∀τ∈S',∀{Q:Exit→St→Prop},(∀c s,Q (.panic c) s→False)→∃a,(∀x∈a,x∈outs)∧j9 P I (fun s=>AWP P n (.region id ops draw) s Q) (fun s=>Q .normal s) τ a:=by
     intro τ hτ Q hQ
     obtain⟨a,p,e1,e2,e3⟩:=mn hm τ hτ
     exact⟨a,e2,yn hC e1 (fun s hs=>hVq s (e3 s hs)) (ow.sc τ hτ).1 hQ⟩
    refine⟨⟨hrb.1,hrb.2.1⟩,?_,by simp,by simp,?_⟩
    ·intro x hx
     obtain⟨y,hy,rfl⟩:=Ao hx
     obtain⟨τ,hτ,a,p,e1,e2⟩:=sJ hm y hy
     obtain⟨a',p',e1',_,e3'⟩:=mn hm τ hτ
     rw[e1]at e1';simp only[ZS,ZT]at e1';obtain⟨rfl,rfl⟩:=e1'
     have g:=(yn (id:=id) hC (Q:=fun e _=>e= .normal) e1 (fun s hs=>hVq s (e3' s hs)) (ow.sc τ hτ).1 (fun c s h=>by cases h)).sc y e2
     have k:=QO (A:=A) (id:=id) g.1
     exact⟨k.1,Nat.le_trans (hrb.2.2.1 τ hτ) (k.2▸g.2)⟩
    ·intro σ hσ ρ ab c7 Q hQ hn ho
     obtain⟨τ,hτ,ρ1,jf,ok1,im1⟩:=ow.to σ hσ ρ ab c7
     obtain⟨a,ha,g⟩:=wX τ hτ hQ
     refine AWP.imp im1 (g.run ρ1 ok1 ?_)
     intro y hy ρ2 fC ef
     have hτs:=ow.sc τ hτ
     refine hn (nW A id y) (CA (ha y hy)) ρ2 (jf.trans fC hτs.2) (QP ef) ?_ _ Oz
     have hb:=hrb.2.2.2 τ hτ ρ1 ok1 (c7.ag h0 jf ok1.g)
     exact hb.ag hrb.1 (fC.le (hrb.2.2.1 τ hτ)) ef.g
   ·cases h
  ·cases h
 |seq a b iha ihb=>
  intro A bid σ0 S R h hV h0 hS
  simp only[exec]at h
  split at h
  ·rename_i R1 h1
   split at h
   ·rename_i R2 h2
    simp only[ZS]at h;subst h
    have x1:=iha A bid σ0 S R1 h1 (fun s hs=>hV s (ZZ (.inl hs))) h0 hS
    have hrb:=CF (P:=P) (I:=I) x1.base.1 x1.nor
    have x2:=ihb A bid _ _ R2 h2 (fun s hs=>hV s (ZZ (.inr hs))) hrb.1 (fun σ hσ=>⟨(x1.nor σ hσ).1,hrb.2.2.1 σ hσ⟩)
    have l1:σ0.nx≤(reb R1.base R1.nor).nx:=Nat.le_trans x1.base.2 hrb.2.1
    refine⟨⟨x2.base.1,Nat.le_trans l1 x2.base.2⟩,x2.nor,?_,fun p hp=>(Z0 hp).elim (x1.ne p) (x2.ne p),?_⟩
    ·intro p hp
     rcases Z0 hp with hp|hp
     ·exact x1.oth p hp
     ·exact⟨(x2.oth p hp).1,Nat.le_trans l1 (x2.oth p hp).2⟩
    ·intro σ hσ ρ ab c7 Q hQ hn ho
     refine SU (x1.run σ hσ ρ ab c7 _ ?_ ?_ ?_)
     ·intro c s hc;exact hQ c s hc
     ·intro τ hτ ρ1 jf ok1 okb s im
      refine AWP.imp im (x2.run τ hτ ρ1 ok1 (hrb.2.2.2 τ hτ ρ1 ok1 okb) Q hQ ?_ ?_)
      ·intro y hy ρ2 fC ef okb2 s ij
       exact hn y hy ρ2 (jf.trans fC l1) ef okb2 s ij
      ·intro e y hy ρ2 fC ef s ij
       exact ho e y (ZZ (.inr hy)) ρ2 (jf.trans fC l1) ef s ij
     ·intro e τ hτ ρ1 jf ok1 s im
      have:=ho e τ (ZZ (.inl hτ)) ρ1 jf ok1 s im
      cases e with
      |normal=>exact absurd rfl (x1.ne _ hτ)
      |_=>exact this
   ·cases h
  ·cases h
 |cond c x y ihx ihy=>
  intro A bid σ0 S R h hV h0 hS
  simp only[exec]at h
  split at h
  ·rename_i T F hp
   split at h
   ·rename_i R1 R2 h1 h2
    simp only[ZS]at h;subst h
    obtain⟨p1,p2⟩:=Oy (P:=P) (I:=I) (n:=n) hp fun σ hσ=>(hS σ hσ).1
    have hT:∀σ∈T,σ.sc∧σ0.nx≤σ.nx:=fun σ hσ=>by
     obtain⟨τ,h1,h2,h3⟩:=p1 σ (ZZ (.inl hσ));exact⟨h2,h3▸(hS τ h1).2⟩
    have hF:∀σ∈F,σ.sc∧σ0.nx≤σ.nx:=fun σ hσ=>by
     obtain⟨τ,h1,h2,h3⟩:=p1 σ (ZZ (.inr hσ));exact⟨h2,h3▸(hS τ h1).2⟩
    have rT:=CF (P:=P) (I:=I) h0 hT
    have rF:=CF (P:=P) (I:=I) h0 hF
    have x1:=ihx A bid _ T R1 h1 (fun s hs=>hV s (ZZ (.inl hs))) rT.1 (fun σ hσ=>⟨(hT σ hσ).1,rT.2.2.1 σ hσ⟩)
    have x2:=ihy A bid _ F R2 h2 (fun s hs=>hV s (ZZ (.inr hs))) rF.1 (fun σ hσ=>⟨(hF σ hσ).1,rF.2.2.1 σ hσ⟩)
    refine⟨⟨h0,Nat.le_refl _⟩,?_,?_,fun p hp=>(Z0 hp).elim (x1.ne p) (x2.ne p),?_⟩
    ·intro σ hσ
     rcases Z0 hσ with hσ|hσ
     ·exact⟨(x1.nor σ hσ).1,Nat.le_trans rT.2.1 (Nat.le_trans x1.base.2 (x1.nor σ hσ).2)⟩
     ·exact⟨(x2.nor σ hσ).1,Nat.le_trans rF.2.1 (Nat.le_trans x2.base.2 (x2.nor σ hσ).2)⟩
    ·intro p hp
     rcases Z0 hp with hp|hp
     ·exact⟨(x1.oth p hp).1,Nat.le_trans rT.2.1 (x1.oth p hp).2⟩
     ·exact⟨(x2.oth p hp).1,Nat.le_trans rF.2.1 (x2.oth p hp).2⟩
    ·intro σ hσ ρ ab c7 Q hQ hn ho
     obtain⟨f,hf,lI⟩:=p2 σ hσ
     refine PN (f.v ρ) (uO ρ hf) ?_ ?_
     ·intro hb
      obtain⟨τ,hτ,hnx,okτ,sm⟩:=(lI ρ ab).1 hb
      refine AWP.imp sm (x1.run τ hτ ρ okτ (rT.2.2.2 τ hτ ρ okτ c7) Q hQ ?_ ?_)
      ·intro y hy ρ2 fC ef okb2 s ij
       exact hn y (ZZ (.inl hy)) ρ2 (fC.le rT.2.1) ef (c7.ag h0 (fC.le rT.2.1) ef.g) s ij
      ·intro e y hy ρ2 fC ef s ij
       exact ho e y (ZZ (.inl hy)) ρ2 (fC.le rT.2.1) ef s ij
     ·intro hb
      obtain⟨τ,hτ,hnx,okτ,sm⟩:=(lI ρ ab).2 hb
      refine AWP.imp sm (x2.run τ hτ ρ okτ (rF.2.2.2 τ hτ ρ okτ c7) Q hQ ?_ ?_)
      ·intro y hy ρ2 fC ef okb2 s ij
       exact hn y (ZZ (.inr hy)) ρ2 (fC.le rF.2.1) ef (c7.ag h0 (fC.le rF.2.1) ef.g) s ij
      ·intro e y hy ρ2 fC ef s ij
       exact ho e y (ZZ (.inr hy)) ρ2 (fC.le rF.2.1) ef s ij
   ·cases h
  ·cases h
 |block id c ih=>
  intro A bid σ0 S R h hV h0 hS
  simp only[exec]at h
  split at h
  ·rename_i R1 h1
   have hV1:Valid P I R1.q:=by
    split at h<;>(simp only[ZS]at h;subst h;exact hV)
   have x1:=ih A id σ0 S R1 h1 hV1 h0 hS
   have hO:∀p∈(fK id R1.oth).2,p∈R1.oth:=fun p hp=>zA hp
   have hE:∀σ∈(fK id R1.oth).1,(Exit.exit id,σ)∈R1.oth:=fun σ hσ=>zz hσ
   have body:∀σ∈S,∀ρ,σ.ok P I ρ→σ0.ok P I ρ→∀Q:Exit→St→Prop,(∀c s,Q (.panic c) s→False)→
     (∀σ'∈R1.nor,∀ρ',au σ0.nx ρ ρ'→σ'.ok P I ρ'→R1.base.ok P I ρ'→∀s,Imp P n s (σ'.v ρ')→Q .normal s)→
     (∀σ'∈(fK id R1.oth).1,∀ρ',au σ0.nx ρ ρ'→σ'.ok P I ρ'→∀s,Imp P n s (σ'.v ρ')→Q .normal s)→
     (∀e σ',(e,σ')∈(fK id R1.oth).2→∀ρ',au σ0.nx ρ ρ'→σ'.ok P I ρ'→∀s,Imp P n s (σ'.v ρ')→Q e s)→AWP P n (.block id c) (σ.v ρ) Q:=by
    intro σ hσ ρ ab c7 Q hQ hn he ho
    refine Nt (x1.run σ hσ ρ ab c7 _ ?_ ?_ ?_)
    ·intro c s hc;exact hQ c s hc
    ·intro y hy ρ2 fC ef okb2 s ij;exact hn y hy ρ2 fC ef okb2 s ij
    ·intro e y hy ρ2 fC ef s ij
     rcases HW (id:=id) hy with⟨rfl,h⟩|⟨h,h'⟩
     ·simp only[Nat.beq_refl];exact he y h ρ2 fC ef s ij
     ·have:=ho e y h' ρ2 fC ef s ij
      cases e with
      |exit j=>
       simp only
       cases hb:Nat.beq j id with
       |true=>exact absurd (by rw[ZU hb]) h
       |false=>exact this
      |_=>exact this
   split at h
   ·rename_i o ho
    simp only[ZS]at h;subst h
    rw[ho]at hO hE body
    exact⟨x1.base,x1.nor,fun p hp=>x1.oth p (hO p hp),fun p hp=>x1.ne p (hO p hp),fun σ hσ ρ ab c7 Q hQ hn hoo=>
     body σ hσ ρ ab c7 Q hQ hn (by simp) hoo⟩
   ·rename_i e o ho
    simp only[ZS]at h;subst h
    rw[ho]at hO hE body
    refine⟨⟨h0,Nat.le_refl _⟩,?_,fun p hp=>x1.oth p (hO p hp),fun p hp=>x1.ne p (hO p hp),fun σ hσ ρ ab c7 Q hQ hn hoo=>
     body σ hσ ρ ab c7 Q hQ ?_ ?_ hoo⟩
    ·intro y hy
     rcases Z0 hy with hy|hy
     ·exact⟨(x1.nor y hy).1,Nat.le_trans x1.base.2 (x1.nor y hy).2⟩
     ·exact x1.oth _ (hE y hy)
    ·intro y hy ρ2 fC ef okb2 s ij
     exact hn y (ZZ (.inl hy)) ρ2 fC ef (c7.ag h0 fC ef.g) s ij
    ·intro y hy ρ2 fC ef s ij
     exact hn y (ZZ (.inr hy)) ρ2 fC ef (c7.ag h0 fC ef.g) s ij
  ·cases h
 |loop c ih=>
  intro A bid σ0 S R h hV h0 hS
  simp only[exec]at h
  split at h
  ·rename_i m _
   split at h
   ·rename_i o q hu
    simp only[ZS]at h;subst h
    have wX:=OC (P:=P) (I:=I) (n:=n) (c:=c) (σ0:=σ0) h0 (ex:=fun S=>exec P n CL A c bid σ0 S) (fun S R h hv hS=>ih A bid σ0 S R h hv h0 hS) hu hV hS
    exact⟨⟨h0,Nat.le_refl _⟩,by simp,wX.1,wX.2.1,fun σ hσ ρ ab c7 Q hQ _ ho=>wX.2.2 σ hσ ρ ab c7 Q hQ ho⟩
   ·cases h
  ·split at h
   ·rename_i o q hu
    simp only[ZS]at h;subst h
    have wX:=QT (P:=P) (I:=I) (n:=n) (c:=c) (A:=A) (bid:=bid) (σ0:=σ0) h0 (ex:=fun A σ=>exec P n CL A c bid σ [σ]) (fun A σ R h hv hs=>ih A bid σ [σ] R h hv hs (by simpa using hs)) 6 0 S o q hu hV hS
    exact⟨⟨h0,Nat.le_refl _⟩,by simp,wX.1,wX.2.1,fun σ hσ ρ ab c7 Q hQ _ ho=>(wX.2.2 σ hσ ρ ab c7 Q hQ ho).loop⟩
   ·cases h
 |_=>intro A bid σ0 S R h;simp[exec]at h
end Go.TL
