/- Code: branches, joins, loops. -/
import Derived.Test.YtbjmbhgbalmoaaaW20
namespace Go.TL
structure Ann where
 keep:Nat→Option (List Nat)
 loop:Nat→Nat→DSt→Option (DSt×Lin)
 join:Nat→Bool→Nat→DSt→List DSt→Option DSt
 opens:Nat→Nat→DSt→List Nat
 hc:List Cert
 Cd:Nat→Option Nat
 split:Nat→List Nat
 o:Nat
structure Res where
 nor:List DSt
 base:DSt
 oth:List (Exit×DSt)
 q:List Seq
def scB(n:Nat):List Nat→Bool
 | []=>true
 |k::r=>match Nat.ble (k+1) n with|true=>scB n r|false=>false
def ri:List Lin→List Nat
 | []=>[]
 |e::r=>e.vars++ri r
def sJ:List PF→List Nat
 | []=>[]
 |e::r=>e.vars++sJ r
def sK:List (Nat×TypeId)→List Nat
 | []=>[]
 |(k,_)::r=>k::sK r
def DSt.z6(T σ0:DSt):DSt:={T with tys:=T.tys++σ0.tys,lin:=T.lin++σ0.lin,prs:=T.prs++σ0.prs,hc:=σ0.hc}
structure Cb(P:Program)(I:Pr)(n:Nat)(σ0:DSt)(S S':List DSt):Prop where
 sc:∀σ'∈S',σ'.sc∧σ0.nx≤σ'.nx
 to:∀σ∈S,∀ρ,σ.ok P I ρ→σ0.ok P I ρ→∃σ'∈S',∃ρ',aS σ0.nx ρ ρ'∧σ'.ok P I ρ'∧Imp P n (σ.v ρ) (σ'.v ρ')
abbrev Node:=Array Bool×DSt
def one:DSt→Br:=fun τ=>some ([τ],[])
structure Bt(P:Program)(I:Pr)(n:Nat)(ops:Array Oper)(Q:Exit→St→Prop)(k:Nat)(l:Array Bool)(σ:DSt)(s:List Node):Prop where
 sc:∀nd∈s,nd.2.sc∧σ.nx≤nd.2.nx
 run:∀ρ,σ.ok P I ρ→(∀nd∈s,∀ρ',aS σ.nx ρ ρ'→nd.2.ok P I ρ'→zr P n ops k nd.1 (nd.2.v ρ') Q)→zr P n ops (k+1) l (σ.v ρ) Q
def qv(σ:DSt)(c:Operand):Option BF:=
 match dev σ c with
 | .p (.bl f) _=>some f
 |_=>none
theorem xa{σ:DSt}(hs:σ.sc){c:Operand}{f:BF}(h:qv σ c=some f):Sc σ.nx f.vars:=by
 unfold qv at h
 split at h
 ·rename_i g fr he
  simp only[Ct]at h;subst h
  have:=hs.dev c;rw[he]at this;simpa[DV.vars,DP.vars]using this
 ·cases h
def parts(c:Operand):List DSt→Option (List DSt×List DSt)
 | []=>some ([],[])
 |σ::r=>match qv σ c,parts c r with
  |some f,some (a,b)=>match j9 σ f with
   |some true=>some (σ.asm none true f::a,b)
   |some false=>some (a,σ.asm none false f::b)
   |none=>some (σ.asm none true f::a,σ.asm none false f::b)
  |_,_=>none
theorem kU{P:Program}{I:Pr}{c:Operand}:∀{S a b:List DSt},parts c S=some (a,b)→(∀σ∈S,σ.sc)→
  (∀σ'∈a++b,∃σ∈S,σ'.sc∧σ'.nx=σ.nx)∧∀σ∈S,∃f,qv σ c=some f∧∀ρ,σ.ok P I ρ→(f.v ρ=true→∃σ'∈a,σ'.nx=σ.nx∧σ'.ok P I ρ∧cS (σ.v ρ) (σ'.v ρ))∧(f.v ρ=false→∃σ'∈b,σ'.nx=σ.nx∧σ'.ok P I ρ∧cS (σ.v ρ) (σ'.v ρ))
 | [],a,b,h,_=>by
  simp only[parts,Ct,Cu]at h;obtain⟨rfl,rfl⟩:=h
  exact⟨by simp,by simp⟩
 |σ::r,a,b,h,hs=>by
  simp only[parts]at h
  split at h
  ·rename_i f a' b' hf hr
   obtain⟨r1,r2⟩:=kU (P:=P) (I:=I) hr fun σ hσ=>hs σ (Cx _ hσ)
   have hσs:=hs σ (Cy ..)
   have hfs:=xa hσs hf
   have s1:∀x,(σ.asm none x f).sc∧(σ.asm none x f).nx=σ.nx:=fun x=>⟨zY hσs none x hfs,rfl⟩
   have s2:∀x ρ,f.v ρ=x→σ.ok P I ρ→(σ.asm none x f).nx=σ.nx∧(σ.asm none x f).ok P I ρ∧cS (σ.v ρ) ((σ.asm none x f).v ρ):=fun x ρ hx aC=>⟨rfl,zZ aC none hx,cS.refl _⟩
   split at h
   ·rename_i hd
    simp only[Ct,Cu]at h;obtain⟨rfl,rfl⟩:=h
    refine⟨?_,?_⟩
    ·intro σ' dp
     rcases CC dp with dp|dp
     ·rcases CD dp with rfl|dp
      ·exact⟨σ,Cy ..,s1 true⟩
      ·obtain⟨τ,h1,h2⟩:=r1 σ' (CB (.inl dp));exact⟨τ,Cx _ h1,h2⟩
     ·obtain⟨τ,h1,h2⟩:=r1 σ' (CB (.inr dp));exact⟨τ,Cx _ h1,h2⟩
    ·intro τ hτ
     rcases CD hτ with rfl|hτ
     ·refine⟨f,hf,fun ρ aC=>⟨fun hx=>⟨_,Cy ..,s2 true ρ hx aC⟩,fun hx=>?_⟩⟩
      rw[rf aC hd]at hx;cases hx
     ·obtain⟨g,h1,h2⟩:=r2 τ hτ
      refine⟨g,h1,fun ρ aC=>⟨fun hx=>?_,fun hx=>(h2 ρ aC).2 hx⟩⟩
      obtain⟨y,q1,q2⟩:=(h2 ρ aC).1 hx;exact⟨y,Cx _ q1,q2⟩
   ·rename_i hd
    simp only[Ct,Cu]at h;obtain⟨rfl,rfl⟩:=h
    refine⟨?_,?_⟩
    ·intro σ' dp
     rcases CC dp with dp|dp
     ·obtain⟨τ,h1,h2⟩:=r1 σ' (CB (.inl dp));exact⟨τ,Cx _ h1,h2⟩
     ·rcases CD dp with rfl|dp
      ·exact⟨σ,Cy ..,s1 false⟩
      ·obtain⟨τ,h1,h2⟩:=r1 σ' (CB (.inr dp));exact⟨τ,Cx _ h1,h2⟩
    ·intro τ hτ
     rcases CD hτ with rfl|hτ
     ·refine⟨f,hf,fun ρ aC=>⟨fun hx=>?_,fun hx=>⟨_,Cy ..,s2 false ρ hx aC⟩⟩⟩
      rw[rf aC hd]at hx;cases hx
     ·obtain⟨g,h1,h2⟩:=r2 τ hτ
      refine⟨g,h1,fun ρ aC=>⟨fun hx=>(h2 ρ aC).1 hx,fun hx=>?_⟩⟩
      obtain⟨y,q1,q2⟩:=(h2 ρ aC).2 hx;exact⟨y,Cx _ q1,q2⟩
   ·simp only[Ct,Cu]at h;obtain⟨rfl,rfl⟩:=h
    refine⟨?_,?_⟩
    ·intro σ' dp
     rcases CC dp with dp|dp
     ·rcases CD dp with rfl|dp
      ·exact⟨σ,Cy ..,s1 true⟩
      ·obtain⟨τ,h1,h2⟩:=r1 σ' (CB (.inl dp));exact⟨τ,Cx _ h1,h2⟩
     ·rcases CD dp with rfl|dp
      ·exact⟨σ,Cy ..,s1 false⟩
      ·obtain⟨τ,h1,h2⟩:=r1 σ' (CB (.inr dp));exact⟨τ,Cx _ h1,h2⟩
    ·intro τ hτ
     rcases CD hτ with rfl|hτ
     ·exact⟨f,hf,fun ρ aC=>⟨fun hx=>⟨_,Cy ..,s2 true ρ hx aC⟩,fun hx=>⟨_,Cy ..,s2 false ρ hx aC⟩⟩⟩
     ·obtain⟨g,h1,h2⟩:=r2 τ hτ
      refine⟨g,h1,fun ρ aC=>⟨fun hx=>?_,fun hx=>?_⟩⟩
      ·obtain⟨y,q1,q2⟩:=(h2 ρ aC).1 hx;exact⟨y,Cx _ q1,q2⟩
      ·obtain⟨y,q1,q2⟩:=(h2 ρ aC).2 hx;exact⟨y,Cx _ q1,q2⟩
  ·cases h
def down(m:Lin)(θ:Th):List G:=[.le (((m.si θ).ax (-1) m).cR 1),.le ((Lin.scale (-1) m).cR 1)]
def tT(k:Nat)(l:List Nat):List Nat:=match l.any (Nat.beq k)with|true=>l|false=>k::l
mutual
def x7:DV→List Nat→List Nat
 | .ptr k _,l=>tT k l
 | .vec k,l=>tT k l
 | .aY k _ _ _,l=>tT k l
 | .ref k,l=>tT k l
 | .agg xs,l=>l7 xs l
 | .bB xs,l=>l7 xs l
 | .fn _ a b,l=>l7 b (l7 a l)
 | .bH _ x,l=>x7 x l
 |_,l=>l
def l7:List DV→List Nat→List Nat
 | [],l=>l
 |x::r,l=>l7 r (x7 x l)
end
structure Cc(P:Program)(I:Pr)(n:Nat)(c:Code)(σ0:DSt)(S:List DSt)(R:Res):Prop where
 base:R.base.sc∧σ0.nx≤R.base.nx
 nor:∀σ'∈R.nor,σ'.sc∧R.base.nx≤σ'.nx
 oth:∀p∈R.oth,p.2.sc∧σ0.nx≤p.2.nx
 ne:∀p∈R.oth,p.1≠ .normal
 run:∀σ∈S,∀ρ,σ.ok P I ρ→σ0.ok P I ρ→∀Q:Exit→St→Prop,(∀c s,Q (.panic c) s→False)→
  (∀σ'∈R.nor,∀ρ',aS σ0.nx ρ ρ'→σ'.ok P I ρ'→R.base.ok P I ρ'→∀s,Imp P n s (σ'.v ρ')→Q .normal s)→
  (∀e σ',(e,σ')∈R.oth→∀ρ',aS σ0.nx ρ ρ'→σ'.ok P I ρ'→∀s,Imp P n s (σ'.v ρ')→Q e s)→AWP P n c (σ.v ρ) Q
def AWL(P:Program)(n:Nat)(c:Code)(σ:St)(Q:Exit→St→Prop):Prop:=
 ∀lo w0 E0 a w,Holds (mkC P n lo w0 E0) σ a w→∀b k cs,∃e a' w',lift (mkC P n lo w0 E0) Q e a' w'∧Arrives P (lone (b.at a (.code c:: .inLoop c::k)) cs w) b k cs e a' w'
theorem AWL.loop{P:Program}{n:Nat}{c:Code}{σ:St}{Q:Exit→St→Prop}(h:AWL P n c σ Q):AWP P n (.loop c) σ Q:=by
 intro lo w0 E0 a w hh b k cs
 obtain⟨e,a',w',hq,kg⟩:=h lo w0 E0 a w hh b k cs
 exact⟨e,a',w',hq,.of_steps (.one step_loop) kg⟩
theorem AWL.imp{P:Program}{n:Nat}{c:Code}{σ τ:St}{Q:Exit→St→Prop}(h:Imp P n σ τ)(k:AWL P n c τ Q):AWL P n c σ Q:=
 fun lo w0 E0 a w hh=>k lo w0 E0 a w (h lo w0 E0 a w hh)
end Go.TL
