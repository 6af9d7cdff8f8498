/- Finding states for loops and for places where ways meet (nothing has to be shown of this). -/
import Derived.Test.YtpoamlpahljebaaGreatDoorW24
import Derived.Test.YtpoamlpahljebaaGreatDoorW12
import Derived.ChangeStays
import Derived.ChangeSame
import Derived.ChangeReads
import Derived.OpenShut
import Derived.WalkKit
import Derived.ProofKit
import Derived.JoinedCond
import Derived.Deep.Frames
import Derived.Deep.Modes
import Derived.WideShapes
namespace Go.TL
inductive Mo where
 |g(fr:Bool)
 |v(K e sz:Nat)(fr:Bool)
 |d
structure LA where
 bid:Nat
 live:List Nat
 gen:List (Nat×Mo)
 ob:List (Nat×Mo)
 facts:List Lin
 V9:List (Nat×Nat)
 kQ:Lin
 prs:List PF
structure GS where
 nx:Nat
 tys:List (Nat×TypeId)
def gLv(S:List (Nat×TypeId))(l:LV)(g:GS):LV×GS:=
 match l with
 |some k=>match lk S k with
  |some e=>(some g.nx,⟨g.nx+1,(g.nx,e)::g.tys⟩)
  |none=>(some g.nx,⟨g.nx+1,g.tys⟩)
 |none=>(none,g)
def gDP(S:List (Nat×TypeId)):DP→GS→DP×GS
 | .int k _,g=>(.int k (Lin.at (4*g.nx)),⟨g.nx+1,g.tys⟩)
 | .bl _,g=>(.bl (.var g.nx),⟨g.nx+1,g.tys⟩)
 | .st _,g=>(.st (.var g.nx),⟨g.nx+1,g.tys⟩)
 | .sl l,g=>match gLv S l g with|(l,g)=>(.sl l,g)
 | .ls l,g=>match gLv S l g with|(l,g)=>(.ls l,g)
 | .un,g=>(.un,g)
 | .mp a l,g=>match gLv S l g with|(l,g)=>(.mp a l,g)
 |x,g=>(x,g)
def VY(S:List (Nat×TypeId)):List DP→GS→List DP×GS
 | [],g=>([],g)
 |x::xs,g=>match gDP S x g with
  |(x,g)=>match VY S xs g with|(xs,g)=>(x::xs,g)
mutual
def gDV(S:List (Nat×TypeId))(ff:Bool):DV→GS→DV×GS
 | .p x fr,g=>match gDP S x g with|(x,g)=>(.p x (fr && ff),g)
 | .bn k sz _ off,g=>(.bn k sz (Lin.at (4*g.nx)) off,⟨g.nx+1,g.tys⟩)
 | .pd r off fr,g=>match VY S r g with|(r,g)=>(.pd r off (fr && ff),g)
 | .pc l fr,g=>match gLv S l g with|(l,g)=>(.p (.sl l) (fr && ff),g)
 | .agg xs,g=>match MG S ff xs g with|(xs,g)=>(.agg xs,g)
 | .bL xs,g=>match MG S ff xs g with|(xs,g)=>(.bL xs,g)
 | .cL t x,g=>match gDV S ff x g with|(x,g)=>(.cL t x,g)
 | .fn f a b,g=>(.fn f a b,g)
 | .u,g=>(.u,g)
 | .ptr k off,g=>(.ptr k off,g)
 | .vec k,g=>(.vec k,g)
 | .ref k,g=>(.ref k,g)
def MG(S:List (Nat×TypeId))(ff:Bool):List DV→GS→List DV×GS
 | [],g=>([],g)
 |x::xs,g=>match gDV S ff x g with
  |(x,g)=>match MG S ff xs g with|(xs,g)=>(x::xs,g)
end
def YL(e:TypeId)(sz:Nat)(fr:Bool)(g:GS):DO×GS:=(.vec e sz (some g.nx) fr,⟨g.nx+1,(g.nx,e)::g.tys⟩)
def XR(S:List (Nat×TypeId))(W:aF)(e:TypeId):DV→TypeId
 | .vec k=>match lk W k with
  |some (.vec _ _ (some l) _)=>(match lk S l with|some t=>t|none=>e)
  |_=>e
 |_=>e
def gDO(S:List (Nat×TypeId))(ff:Bool):DO→GS→DO×GS
 | .box t xs,g=>match MG S ff xs g with|(xs,g)=>(.box t xs,g)
 | .vec e sz l fr,g=>match(match l with|some k=>lk S k|none=>some e)with
  |some t=>(.vec e sz (some g.nx) (fr && ff),⟨g.nx+1,(g.nx,t)::g.tys⟩)
  |none=>(.vec e sz (some g.nx) (fr && ff),⟨g.nx+1,g.tys⟩)
 | .mp a l fr,g=>match gLv S l g with|(l,g)=>(.mp a l (fr && ff),g)
 | .it a l fr _ _,g=>(.it a l fr (Lin.at (4*g.nx)) false,⟨g.nx+1,g.tys⟩)
def mU(σ:DSt)(gen:List (Nat×Mo)):List Nat→aF→GS→bX×aF×GS
 | [],T,g=>([],T,g)
 |t::r,T,g=>match lk σ.ah t with
  |none=>mU σ gen r T g
  |some x=>match lk gen t with
   |none=>match mU σ gen r T g with|(s,q)=>((t,x)::s,q)
   |some .d=>mU σ gen r T g
   |some (.g ff)=>match gDV σ.tys ff x g with
    |(x,g)=>match mU σ gen r T g with|(s,q)=>((t,x)::s,q)
   |some (.v K e sz fr)=>match(lk T K).isSome with
    |true=>match mU σ gen r T g with|(s,q)=>((t,.vec K)::s,q)
    |false=>match YL e sz fr g with
     |(o,g)=>match mU σ gen r ((K,o)::T) g with|(s,q)=>((t,.vec K)::s,q)
def wH(k:Nat)(S:List (Nat×TypeId))(W:aF)(ff:Bool)(ob:List (Nat×Mo)):Nat→List DV→aF→GS→List DV×aF×GS
 |_,[],T,g=>([],T,g)
 |j,x::xs,T,g=>match lk ob ((j+1)*100000000+k)with
  |some (.v K e sz fr)=>match wH k S W ff ob (j+1) xs ((K,.vec e sz (some g.nx) fr)::T) ⟨g.nx+1,(g.nx,XR S W e x)::g.tys⟩with|(ys,q)=>(.vec K::ys,q)
  |some .d=>match wH k S W ff ob (j+1) xs T g with|(ys,q)=>(x::ys,q)
  |_=>match gDV S ff x g with
   |(x,g)=>match wH k S W ff ob (j+1) xs T g with|(ys,q)=>(x::ys,q)
def u5(σ:DSt)(ob:List (Nat×Mo)):aF→aF→GS→aF×GS
 | [],T,g=>(T,g)
 |(k,x)::r,T,g=>match lk ob k with
   |none=>u5 σ ob r ((k,x)::T) g
   |some .d=>u5 σ ob r T g
   |some (.g ff)=>match x with
    | .box t xs=>match wH k σ.tys σ.tab ff ob 0 xs T g with|(ys,T,g)=>u5 σ ob r ((k,.box t ys)::T) g
    |x=>match gDO σ.tys ff x g with|(x,g)=>u5 σ ob r ((k,x)::T) g
   |some _=>u5 σ ob r ((k,x)::T) g
def u6(S:bX)(tys:List (Nat×TypeId)):List (Nat×Nat)→GS→List PF×GS
 | [],g=>([],g)
 |(l,ti)::r,g=>match lk S ti with
   |some (.p (.int _ e) _)=>match lk tys l with
    |some ty=>match u6 S tys r ⟨g.nx+1,(g.nx,ty)::g.tys⟩with
     |(ps,g')=>(.sub g.nx l e (Lin.at (4*l+1))::ps,g')
    |none=>u6 S tys r g
   |_=>u6 S tys r g
def TE(σ:DSt)(a:LA):DSt:=
 match u5 σ a.ob σ.tab [] ⟨σ.nx,[]⟩with
 |(T,g)=>match mU σ a.gen a.live T g with
   |(s,T,g)=>match u6 s (g.tys++σ.tys) a.V9 g with
     |(ps,g)=>⟨s,T,g.tys,a.facts,a.prs++ps,g.nx,[]⟩
def Bm(n:Nat)(l:List Nat):Bool:=scB n l
structure JS where
 nx:Nat
 tys:List (Nat×TypeId)
 nm:List (Nat×Nat×Nat)
 kd:List (Nat×Nat)
def JS.fresh(g:JS)(kind:Nat):JS:={g with nx:=g.nx+1,kd:=(g.nx,kind)::g.kd}
def JS.list(g:JS)(e:TypeId):JS:={g with nx:=g.nx+1,kd:=(g.nx,1)::g.kd,tys:=(g.nx,e)::g.tys}
def mL(S1 S2:List (Nat×TypeId))(a b:LV):Option TypeId:=
 match a with
 |some k=>lk S1 k
 |none=>match b with|some k=>lk S2 k|none=>none
def XS(a b:Option Nat):Bool:=gw a b
def jDP(n0:Nat)(S1 S2:List (Nat×TypeId))(x y:DP)(g:JS):Option (DP×JS):=
 match x.beq y,Bm n0 x.vars with
 |true,true=>some (x,g)
 |_,_=>match x,y with
  | .int k _,.int k' _=>match HB k k' with|true=>some (.int k (Lin.at (4*g.nx)),g.fresh 0)|false=>none
  | .bl _,.bl _=>some (.bl (.var g.nx),g.fresh 2)
  | .st _,.st _=>some (.st (.var g.nx),g.fresh 3)
  | .sl a,.sl b=>match mL S1 S2 a b with|some e=>some (.sl (some g.nx),g.list e)|none=>none
  | .sl a,.nl=>match mL S1 S2 a none with|some e=>some (.sl (some g.nx),g.list e)|none=>some (.sl none,g)
  | .nl,.sl b=>match mL S1 S2 none b with|some e=>some (.sl (some g.nx),g.list e)|none=>some (.sl none,g)
  | .nl,.nl=>some (.nl,g)
  | .ls a,y=>match y with
   | .ls b=>match mL S1 S2 a b with|some e=>some (.ls (some g.nx),g.list e)|none=>none
   | .ej _=>match mL S1 S2 a none with|some e=>some (.ls (some g.nx),g.list e)|none=>none
   |_=>none
  | .mp q a,y=>match y with
   | .mp q' b=>match XS q q',mL S1 S2 a b with|true,some e=>some (.mp q (some g.nx),g.list e)|_,_=>none
   | .ej _=>match mL S1 S2 a none with|some e=>some (.mp q (some g.nx),g.list e)|none=>none
   |_=>none
  | .ej _,.ls b=>match mL S1 S2 none b with|some e=>some (.ls (some g.nx),g.list e)|none=>none
  | .ej _,.mp q b=>match mL S1 S2 none b with|some e=>some (.mp q (some g.nx),g.list e)|none=>none
  |_,_=>none
def VZ(n0:Nat)(S1 S2:List (Nat×TypeId)):List DP→List DP→JS→Option (List DP×JS)
 | [],[],g=>some ([],g)
 |x::xs,y::ys,g=>match jDP n0 S1 S2 x y g with
  |some (z,g)=>match VZ n0 S1 S2 xs ys g with
   |some (zs,g)=>some (z::zs,g)
   |none=>none
  |none=>none
 |_,_,_=>none
def Iu(k1 k2:Nat):List (Nat×Nat×Nat)→Option Nat
 | []=>none
 |(K,a,b)::r=>match Nat.beq a k1,Nat.beq b k2 with|true,true=>some K|_,_=>Iu k1 k2 r
def MH(T1 T2:aF)(k1 k2:Nat)(g:JS):Option (Nat×JS):=
 match Iu k1 k2 g.nm with
 |some K=>some (K,g)
 |none=>match Nat.beq k1 k2 with
  |true=>some (k1,{g with nm:=(k1,k1,k2)::g.nm})
  |false=>match(lk T2 k1).isSome,(lk T1 k2).isSome with
   |false,_=>some (k1,{g with nm:=(k1,k1,k2)::g.nm})
   |_,false=>some (k2,{g with nm:=(k2,k1,k2)::g.nm})
   |_,_=>none
def JS.MI(g:JS)(S1 S2:List (Nat×TypeId))(l l':LV)(e:TypeId):JS:=
 match(match l with|some k=>(lk S1 k).isSome|none=>true),(match l' with|some k=>(lk S2 k).isSome|none=>true)with
 |true,true=>g.list (match mL S1 S2 l l' with|some t=>t|none=>e)
 |_,_=>g.fresh 1
def V5:Nat:=99999999
def SH(T:aF)(k:Nat):Bool:=match lk T k with|some (.vec _ _ _ fr)=>fr|_=>false
def Kn(T:aF)(k:Nat):Option TypeId:=match lk T k with|some (.vec e _ _ _)=>some e|_=>none
mutual
def jDV(n0:Nat)(A B:DSt):DV→DV→JS→DV×JS
 | .p x fr,y,g=>match y with
  | .p y fr'=>match jDP n0 A.tys B.tys x y g with|some (z,g)=>(.p z (fr && fr'),g)|none=>(.u,g)
  | .vec k=>match x with
   | .nl=>match(lk A.tab k).isSome with
    |true=>(.u,g)
    |false=>(.vec k,{g with nm:=(k,V5,k)::g.nm})
   | .sl _=>match Kn B.tab k with|some e=>(.p (.sl (some g.nx)) (fr && SH B.tab k),g.list e)|none=>(.u,g)
   |_=>(.u,g)
  |_=>(.u,g)
 | .vec k,y,g=>match y with
  | .vec k'=>match MH A.tab B.tab k k' g with|some (K,g)=>(.vec K,g)|none=>(.u,g)
  | .p .nl _=>match(lk B.tab k).isSome with
   |true=>(.u,g)
   |false=>(.vec k,{g with nm:=(k,k,V5)::g.nm})
  | .p (.sl _) fr=>match Kn A.tab k with|some e=>(.p (.sl (some g.nx)) (fr && SH A.tab k),g.list e)|none=>(.u,g)
  |_=>(.u,g)
 | .ptr k off,y,g=>match y with
  | .ptr k' lT=>match Nat.beq off lT with
   |true=>match MH A.tab B.tab k k' g with|some (K,g)=>(.ptr K off,g)|none=>(.u,g)
   |false=>(.u,g)
  |_=>(.u,g)
 | .bn k sz i off,y,g=>match y with
  | .bn k' gm i' lT=>match ep (.bn k sz i off) (.bn k' gm i' lT),Bm n0 i.vars with
   |true,true=>(.bn k sz i off,{g with nm:=(k,k,k)::g.nm})
   |_,_=>match Nat.beq k k',Nat.beq off lT with
    |true,true=>(.bn k sz (Lin.at (4*g.nx)) off,{g.fresh 0 with nm:=(k,k,k)::g.nm})
    |_,_=>(.u,g)
  |_=>(.u,g)
 | .pd r off fr,y,g=>match y with
  | .pd r' lT fr'=>match Nat.beq off lT with
   |true=>match VZ n0 A.tys B.tys r r' g with|some (z,g)=>(.pd z off (fr && fr'),g)|none=>(.u,g)
   |false=>(.u,g)
  |_=>(.u,g)
 | .pc l fr,y,g=>match y with
  | .pc l' fr'=>match gw l l',Bm n0 (a8 l)with
   |true,true=>(.pc l (fr && fr'),g)
   |_,_=>match jDP n0 A.tys B.tys (.sl l) (.sl l') g with|some (z,g)=>(.p z (fr && fr'),g)|none=>(.u,g)
  | .p (.sl l') fr'=>match jDP n0 A.tys B.tys (.sl l) (.sl l') g with|some (z,g)=>(.p z (fr && fr'),g)|none=>(.u,g)
  |_=>(.u,g)
 | .agg xs,y,g=>match y with
  | .agg ys=>match En n0 A B xs ys g with|(zs,g)=>(.agg zs,g)
  |_=>(.u,g)
 | .bL xs,y,g=>match y with
  | .bL ys=>match En n0 A B xs ys g with|(zs,g)=>(.bL zs,g)
  |_=>(.u,g)
 | .ref k,y,g=>match y with
  | .ref k'=>match MH A.tab B.tab k k' g with|some (K,g)=>(.ref K,g)|none=>(.u,g)
  |_=>(.u,g)
 | .fn f a b,y,g=>match y with
  | .fn f' a' b'=>match Lr f f' with
   |true=>match En n0 A B a a' g with
    |(x,g)=>match En n0 A B b b' g with|(z,g)=>(.fn f x z,g)
   |false=>(.u,g)
  |_=>(.u,g)
 | .cL t x,y,g=>match y with
  | .cL t' y=>match Nat.beq t t' with
   |true=>match jDV n0 A B x y g with|(z,g)=>(.cL t z,g)
   |false=>(.u,g)
  |_=>(.u,g)
 | .u,_,g=>(.u,g)
def En(n0:Nat)(A B:DSt):List DV→List DV→JS→List DV×JS
 |x::xs,ys,g=>match ys with
  |y::ys=>match jDV n0 A B x y g with
   |(z,g)=>match En n0 A B xs ys g with|(zs,g)=>(z::zs,g)
  | []=>([],g)
 | [],_,g=>([],g)
end
def C0(n0:Nat)(A B:DSt):bX→List Nat→JS→bX×JS
 | [],_,g=>([],g)
 |(t,x)::r,seen,g=>match seen.any (Nat.beq t)with
   |true=>C0 n0 A B r seen g
   |false=>match lk B.ah t with
    |some y=>match jDV n0 A B x y g with
     |(z,g)=>match C0 n0 A B r (t::seen) g with
       |(zs,g)=>match z with| .u=>(zs,g)|z=>((t,z)::zs,g)
    |none=>C0 n0 A B r (t::seen) g
def Gj(T2:aF):aF→JS→JS
 | [],g=>g
 |(k,_)::r,g=>match(lk T2 k).isSome with
   |true=>match Iu k k g.nm with
    |some _=>Gj T2 r g
    |none=>Gj T2 r (match g.nm.any (fun p=>Nat.beq p.1 k)with|true=>g|false=>{g with nm:=(k,k,k)::g.nm})
   |false=>Gj T2 r g
def kr(n0:Nat)(A B:DSt):Nat→List Nat→aF→JS→aF×JS
 |0,_,T,g=>(T,g)
 |fuel+1,done,T,g=>match g.nm.find? (fun p=> !(done.any (Nat.beq p.1)))with
  |none=>(T,g)
  |some (K,k1,k2)=>match lk A.tab k1,lk B.tab k2 with
   |some (.vec e sz l fr),some (.vec _ _ l' fr')=>match gw l l',Bm n0 (a8 l)with
    |true,true=>kr n0 A B fuel (K::done) ((K,.vec e sz l (fr && fr'))::T) g
    |_,_=>kr n0 A B fuel (K::done) ((K,.vec e sz (some g.nx) (fr && fr'))::T) (g.MI A.tys B.tys l l' e)
   |some (.vec e sz l fr),none=>kr n0 A B fuel (K::done) ((K,.vec e sz (some g.nx) fr)::T) (g.MI A.tys B.tys l none e)
   |none,some (.vec e sz l fr)=>kr n0 A B fuel (K::done) ((K,.vec e sz (some g.nx) fr)::T) (g.MI A.tys B.tys none l e)
   |some (.box t xs),some (.box _ ys)=>match En n0 A B xs ys g with
    |(zs,g)=>kr n0 A B fuel (K::done) ((K,.box t zs)::T) g
   |some (.it q l fr n _),some (.it _ l' fr' n' _)=>match gw l l',Bm n0 (a8 l),n.beq n',Bm n0 n.vars with
    |true,true,true,true=>kr n0 A B fuel (K::done) ((K,.it q l (fr && fr') n false)::T) g
    |true,true,_,_=>kr n0 A B fuel (K::done) ((K,.it q l (fr && fr') (Lin.at (4*g.nx)) false)::T) (g.fresh 0)
    |_,_,_,_=>match mL A.tys B.tys l l' with
     |some e=>kr n0 A B fuel (K::done) ((K,.it q (some g.nx) (fr && fr') (Lin.at (4*(g.nx+1))) false)::T) ((g.list e).fresh 0)
     |none=>kr n0 A B fuel (K::done) T g
   |some (.mp q l fr),some (.mp _ l' fr')=>match gw l l',Bm n0 (a8 l)with
    |true,true=>kr n0 A B fuel (K::done) ((K,.mp q l (fr && fr'))::T) g
    |_,_=>match mL A.tys B.tys l l' with
     |some e=>kr n0 A B fuel (K::done) ((K,.mp q (some g.nx) (fr && fr'))::T) (g.list e)
     |none=>kr n0 A B fuel (K::done) T g
   |_,_=>kr n0 A B fuel (K::done) T g
def Ko(n0:Nat)(A B:DSt)(nx:Nat):DSt×List (Nat×Nat):=
 match C0 n0 A B A.ah [] ⟨nx,[],[],[]⟩with
 |(s,g)=>match kr n0 A B 100 [] [] (Gj B.tab A.tab g)with
   |(T,g)=>(⟨s,T,g.tys,[],[],g.nx,[]⟩,g.kd)
def Iv(n0:Nat)(base:List (Nat×TypeId)):DSt→List (Nat×Nat)→List DSt→DSt×List (Nat×Nat)
 |A,kd,[]=>(A,kd)
 |A,_,[B]=>Ko n0 A B n0
 |A,_,B::r=>match Ko n0 A B n0 with
  |(T,kd)=>Iv n0 base {T with tys:=T.tys++base} kd r
structure An where
 n:Nat
 lim:Nat
 keeps:List (Nat×List Nat)
 loops:List LA
 SI:List (Nat×List Lin)
 unr:List (Nat×Nat)
 hc:List Cert
 split:List (Nat×List Nat):=[]
 XT:List (Nat×List (Nat×Nat)):=[]
def V6(σ:DSt)(p:Nat×Nat):Bool:=match lk σ.ah p.2 with
 |some (.p (.int _ e) _)=>match e.t,isZ e.c with
  | [],true=>false
  |_,_=>σ.prs.any fun f=>match f with| .sub _ l lo _=>Nat.beq l p.1 && lo.beq e|_=>false
 |_=>false
def MJ(σ:DSt):List (Nat×Nat)→List Nat
 | []=>[]
 |p::r=>match V6 σ p with|true=>MJ σ r|false=>p.1::MJ σ r
def TF(σ0 T:DSt)(l:List (Nat×Nat)):DSt:=match l with
 | []=>T
 |_=>match u6 T.ah (T.tys++σ0.tys) l ⟨T.nx,T.tys⟩with|(ps,g)=>{T with prs:=ps,tys:=g.tys,nx:=g.nx}
def later(o i:Nat):Nat:=o*10000000000+i
def Iw(bid:Nat):List LA→Option LA
 | []=>none
 |a::r=>match Nat.beq a.bid bid with|true=>some a|false=>Iw bid r
def An.ann(a:An):Ann where
 hc:=a.hc
 OD i:=lk a.unr i
 keep id:=lk a.keeps id
 split bid:=match lk a.split bid with|some l=>l|none=>[]
 o:=0
 loop o bid σ:=match Iw (later o bid) a.loops with
  |some l=>some (TE σ l,l.kQ)
  |none=>none
 opens o bid σ:=match Iw (later o bid) a.loops with
  |some l=>MJ σ l.V9
  |none=>[]
 join o must i σ0 S:=match lk a.SI (later o (500000000+i)),S with
  |some _,A::_=>some (tC σ0 A)
  |_,_=>match must,Nat.ble S.length a.lim with
   |false,true=>none
   |_,_=>match S with
    | []=>none
    |A::r=>match Iv σ0.nx σ0.tys A [] r with
     |(T,_)=>some {TF σ0 T (match lk a.XT (later o i)with|some l=>l|none=>[])with lin:=match lk a.SI (later o i)with|some l=>l|none=>[]}
end Go.TL
namespace Go.TL
inductive Kd where
 |i
 |ik(k:IntKind)
 |b
 |s
 |l(e:TypeId)(fr:Bool)
 |row(t:TypeId)(fr:Bool)
 |val(t:TypeId)(fr:Bool)
 |v(k:Nat)(e:TypeId)(fr:Bool)
 |vl(k:Nat)(e:TypeId)(fr:Bool)
 |vb(k:Nat)(e:TypeId)
 |box(k:Nat)(t:TypeId)(cells:List Kd)
 |agg(xs:List Kd)
 |cL(t:TypeId)(x:Kd)
 |pcl(e:TypeId)(fr:Bool)
 |mp(e:TypeId)(fr:Bool)
 |om(k:Nat)(e:TypeId)
 |ch(e:TypeId)(fr:Bool)
 |ob(k:Nat)(o:DO)
 |x(d:DV)
def agN(P:Program)(e:TypeId):Option Nat:=match iq P e,P.info? e with|some true,some i=>some i.size|_,_=>none
structure KS where
 nx:Nat
 tys:List (Nat×TypeId)
 lin:List Lin
 tab:aF
def KS.one(g:KS):KS:={g with nx:=g.nx+1}
mutual
def Kd.mk(P:Program):Kd→KS→DV×KS
 | .i,g=>(.p (.int .i64 (Lin.at (4*g.nx))) true,g.one)
 | .ik k,g=>(.p (.int k (Lin.at (4*g.nx))) true,{g.one with lin:=(Lin.at (4*g.nx)).aN (-k.max)::(Lin.scale (-1) (Lin.at (4*g.nx))).aN k.min::g.lin})
 | .b,g=>(.p (.bl (.var g.nx)) true,g.one)
 | .s,g=>(.p (.st (.var g.nx)) true,g.one)
 | .l e fr,g=>(.p (.sl (some g.nx)) fr,{g.one with tys:=(g.nx,e)::g.tys})
 | .row t fr,g=>match iv (cks P t) g.nx with
  |some R=>(.pd R.cells 0 fr,{g with nx:=R.nx,tys:=R.tys++g.tys,lin:=R.lin++g.lin})
  |none=>(.u,g)
 | .val t fr,g=>match iv (cks P t) g.nx with
  |some R=>(.agg (jM fr R.cells),{g with nx:=R.nx,tys:=R.tys++g.tys,lin:=R.lin++g.lin})
  |none=>(.u,g)
 | .v k e fr,g=>(.vec k,{g.one with tys:=(g.nx,e)::g.tys,tab:=(k,.vec e (match P.info? e with|some i=>i.size|none=>0) (some g.nx) fr)::g.tab})
 | .vl k e fr,g=>(.vec k,{g.one with tab:=(k,.vec e (match P.info? e with|some i=>i.size|none=>0) (some g.nx) fr)::g.tab})
 | .vb k e,g=>(.vec k,{g.one with tys:=(g.nx,3000000+e)::g.tys,tab:=(k,.vec e 1 (some g.nx) true)::g.tab})
 | .box k t cells,g=>match Rc P cells g with|(xs,g)=>(.ptr k 0,{g with tab:=(k,.box t xs)::g.tab})
 | .agg xs,g=>match Rc P xs g with|(xs,g)=>(.agg xs,g)
 | .pcl e fr,g=>(.pc (some g.nx) fr,{g.one with tys:=(g.nx,e)::g.tys})
 | .mp e fr,g=>(.p (.mp (agN P e) (some g.nx)) fr,{g.one with tys:=(g.nx,mE e)::g.tys})
 | .om k e,g=>(.ref k,{g.one with tys:=(g.nx,mE e)::g.tys,tab:=(k,.mp (agN P e) (some g.nx) true)::g.tab})
 | .ob k o,g=>(.ref k,{g with tab:=(k,o)::g.tab})
 | .ch e fr,g=>(.p (.ls (some g.nx)) fr,{g.one with tys:=(g.nx,cE e)::g.tys})
 | .cL t x,g=>match Kd.mk P x g with|(d,g)=>(.cL t d,g)
 | .x d,g=>(d,g)
def Rc(P:Program):List Kd→KS→List DV×KS
 | [],g=>([],g)
 |x::xs,g=>match Kd.mk P x g with
  |(x,g)=>match Rc P xs g with|(xs,g)=>(x::xs,g)
end
structure ZP where
 res:List Kd
 ZQ:List Kd:=[]
 facts:List DV→aF→List DV→aF→List Lin:=fun _ _ _ _=>[]
 prs:List DV→List DV→List PF:=fun _ _=>[]
end Go.TL
namespace Go.TL.H
open Go
def E00:Env:=⟨fun _=>none,fun _=>none,fun _=>False⟩
theorem TG(b:Nat):¬ E00.bad b:=by simp[E00,Env.bad]
theorem Rep.nb{w:World}{bad:Nat→Prop}{lo:Nat}{x:PV}{v:Value}(h:Rep w bad lo x v):Rep w NB lo x v:=h.mono (Nat.le_refl _) fun _ _ h _=>⟨h,fun h=>h⟩
theorem Rep.e00{w:World}{lo:Nat}{x:PV}{v:Value}(h:Rep w NB lo x v):Rep w E00.bad lo x v:=h.mono (Nat.le_refl _) fun b _ h _=>⟨h,TG b⟩
theorem OU{P:Program}{B:Pr}{s:Spec}(hK:aA P B s){ρ:Ro}(wY:s.pre.ok P B ρ)(lQ:s.tab=[]){w:World}(hld:fV P w){vals:List Value}(hv:VRs w E00 w.heap.size (dvs ρ s.args) vals):
  Ret P s.fn vals w fun v w'=>Ch (fun _=>False) w w'∧∃p∈s.mJ,∃ρ' E',(p.st s.nv).ok P B ρ'∧VR w' E' w.heap.size ((dmk p.res).v ρ') v:=by
 have h:=hK.ok ((s.kQ.v ρ).toNat+1) ρ wY (by omega) w.heap.size w E00 vals ⟨Nat.le_refl _,hld,fun _ _=>rfl⟩
  ⟨fun k ov hk=>by simp[lQ,aU,lk]at hk,fun _ _=>rfl,fun b k hb=>by simp[E00]at hb,fun b hb=>by simp[E00]at hb⟩ hv
 refine Calls.mono h ?_
 rintro e w' ⟨r,v,T',E',rfl,⟨p,hp,ρ',h1,h2,rfl,rfl⟩,c8,_,hvr,_⟩
 exact⟨v,rfl,⟨c8.os,c8.tape,c8.output,c8.size,fun b hb _=>(c8.keep b hb rfl).1⟩,p,hp,ρ',E',h2,hvr⟩
def n4:List (Option Nat)→List DP→List DV
 | [],_=>[]
 |none::r,x::xs=>tS false x::n4 r xs
 |some n::r,xs=> .agg (jM false (xs.take n))::n4 r (xs.drop n)
 |none::r,[]=> .u::n4 r []
def eh:List (Option Nat)→List Value→List Value
 | [],_=>[]
 |none::r,x::xs=>x::eh r xs
 |some n::r,xs=> .agg (xs.take n).toArray::eh r (xs.drop n)
 |none::r,[]=> .nilFunc::eh r []
theorem Cw.drop{w:World}{lo n:Nat}{row:List PV}{vs:List Value}(h:Cw w lo row vs):Cw w lo (row.drop n) (vs.drop n):=
 ⟨by simp[h.len],fun j x hj=>by rw[List.getElem?_drop]at hj ⊢;exact h.rep _ x hj⟩
theorem Cw.take{w:World}{lo n:Nat}{row:List PV}{vs:List Value}(h:Cw w lo row vs):Cw w lo (row.take n) (vs.take n):=
 ⟨by simp[h.len],fun j x hj=>by
  rw[List.getElem?_take]at hj ⊢
  split at hj
  ·rw[if_pos (by assumption)];exact h.rep _ x hj
  ·cases hj⟩
theorem Cw.cons{w:World}{lo:Nat}{x:PV}{xs:List PV}{v:Value}{vs:List Value}(h:Cw w lo (x::xs) (v::vs)):Rep w NB lo x v∧Cw w lo xs vs:=by
 refine⟨?_,by have:=h.drop (n:=1);simpa using this⟩
 obtain⟨u,h1,h2⟩:=h.rep 0 x rfl
 simp at h1;subst h1;exact h2
theorem kH(ρ:Ro):∀(n:Nat) (xs:List DP),ar ρ (xs.take n)=(ar ρ xs).take n
 |0,xs=>by simp[ar]
 |n+1,[]=>by simp[ar]
 |n+1,x::xs=>by simp[ar,kH ρ n xs]
theorem np(ρ:Ro):∀(n:Nat) (xs:List DP),ar ρ (xs.drop n)=(ar ρ xs).drop n
 |0,xs=>by simp
 |n+1,[]=>by simp[ar]
 |n+1,x::xs=>by simp[ar,np ρ n xs]
theorem TH{w:World}{bad:Nat→Prop}{lo jb:Nat}{x:Value}{v:Value}(h:Rep w bad lo (.v x) v):Rep w bad jb (.v x) v:=by
 cases h with
 |v _ hx=>exact .v _ hx
theorem Kp{w:World}{ρ:Ro}{lo:Nat}(x:DP)(v:Value)(h:Rep w NB 0 (x.v ρ) v):VR w E00 lo ((tS false x).v ρ) v:=by
 cases x<;>simp only[tS,DV.v,DP.v,VR,flo]at h ⊢ <;>first|exact TH (Rep.e00 h)|exact Rep.e00 h|(cases h with|un _ hx=>exact .un _ hx)
theorem Kq{w:World}{ρ:Ro}{lo:Nat}:∀(xs:List DP) (vs:List Value),Cw w 0 (ar ρ xs) vs→VRs w E00 lo (dvs ρ (jM false xs)) vs
 | [],vs,h=>by
  have:vs=[]:=List.length_eq_zero_iff.1 (by simpa[ar]using h.len)
  subst this;simp[jM,dvs,VRs]
 |x::xs,vs,h=>by
  cases vs with
  |nil=>have:=h.len;simp[ar]at this
  |cons v vs=>
   obtain⟨h1,h2⟩:=h.cons
   simp only[jM,dvs,VRs]
   exact⟨Kp x v h1,Kq xs vs h2⟩
theorem wI{w:World}{ρ:Ro}{lo:Nat}:∀(parts:List (Option Nat)) (xs:List DP) (vs:List Value),Cw w 0 (ar ρ xs) vs→VRs w E00 lo (dvs ρ (n4 parts xs)) (eh parts vs)
 | [],_,_,_=>by simp[n4,eh,dvs,VRs]
 |some n::r,xs,vs,h=>by
  simp only[n4,eh,dvs,VRs,DV.v,VR]
  exact⟨⟨_,rfl,Kq _ _ (by rw[kH];exact h.take)⟩,wI r _ _ (by rw[np];exact h.drop)⟩
 |none::r,[],vs,h=>by
  have:vs=[]:=List.length_eq_zero_iff.1 (by simpa[ar]using h.len)
  subst this
  simp only[n4,eh,dvs,VRs,DV.v,VR,true_and]
  exact wI r [] [] h
 |none::r,x::xs,vs,h=>by
  cases vs with
  |nil=>have:=h.len;simp[ar]at this
  |cons v vs=>
   obtain⟨h1,h2⟩:=h.cons
   simp only[n4,eh,dvs,VRs]
   exact⟨Kp x v h1,wI r xs vs h2⟩
def Gk(b:List (Nat×TypeId)):List (Nat×TypeId)→Bool
 | []=>true
 |(k,e)::r=>match lk b k with
   |some e'=>match Nat.beq e' e with|true=>Gk b r|false=>false
   |none=>false
theorem Kr{P:Program}{ρ:Ro}{b:List (Nat×TypeId)}(hb:dA P ρ b):∀{a:List (Nat×TypeId)},Gk b a=true→dA P ρ a
 | [],_=>trivial
 |(k,e)::r,h=>by
   simp only[Gk]at h
   split at h
   ·rename_i e' hl
    split at h
    ·rename_i hb'
     have:=ZU hb';subst this
     exact⟨eE hb hl,Kr hb h⟩
    ·cases h
   ·cases h
theorem Ks:Gok (fun _=>default):=by
 constructor<;>intro k<;>simp[default,cu,ByteArray.size]
abbrev RK:=Option (Bool×List CK)
def u7(l:List Lin)(e:Lin):Bool:=match l with| []=>false|x::r=>match x.beq e with|true=>true|false=>u7 r e
def MK(e:Lin):Bool:=match e.t with
 | [(a,_)]=>match Nat.beq (a % 4) 0 with
  |true=>match e.beq ((Lin.at a).aN (-9223372036854775807))with|true=>true|false=>e.beq ((Lin.scale (-1) (Lin.at a)).aN (-9223372036854775808))
  |false=>false
 |_=>false
def ML(l:List Lin):List G→Bool
 | []=>true
 | .le e::r=>match(match MK e with|true=>true|false=>u7 l e)with|true=>ML l r|false=>false
 | .pf _::_=>false
theorem wJ{ρ:Ro}{e:Lin}:∀{l:List Lin},bh ρ l→u7 l e=true→e.v ρ≤0
 | [],_,h=>by cases h
 |x::r,hl,h=>by
  simp only[u7]at h
  split at h
  ·rename_i hb;rw[←Lin.beq_eq hb];exact hl.1
  ·exact wJ hl.2 h
theorem TJ{ρ:Ro}(hg:Gok ρ){e:Lin}(h:MK e=true):e.v ρ≤0:=by
 unfold MK at h
 split at h
 ·rename_i a c he
  split at h
  ·rename_i hm
   have hm:=ZU hm
   have hv:(Lin.at a).v ρ=(ρ (a / 4)).n:=by simp[Lin.bN,aV,hm]
   have h1:=hg.lo (a / 4)
   have h2:=hg.hi (a / 4)
   split at h
   ·rename_i hb;rw[Lin.beq_eq hb,Lin.aO,hv];omega
   ·rw[Lin.beq_eq h,Lin.aO,Lin.bE,hv];omega
  ·cases h
 ·cases h
theorem OW{I:Pr}{ρ:Ro}(hg:Gok ρ){l:List Lin}(hl:bh ρ l):∀{gs:List G},ML l gs=true→gsV I ρ gs
 | [],_=>trivial
 | .le e::r,h=>by
  simp only[ML]at h
  split at h
  ·rename_i hc
   refine⟨?_,OW hg hl h⟩
   split at hc
   ·rename_i h6;exact TJ hg h6
   ·exact wJ hl hc
  ·cases h
 | .pf _::_,h=>by cases h
def unP:List DV→Option (List DP)
 | []=>some []
 | .p x true::r=>match unP r with|some xs=>some (x::xs)|none=>none
 |_::_=>none
def OX(ag:Bool)(x:DV):Option (List DP):=match ag,x with
 |true,.agg xs=>unP xs
 |false,.p x true=>some [x]
 |_,_=>none
def Bn(p:TL.cb):List RK→List DV→Bool
 | [],[]=>true
 |none::r,_::xs=>Bn p r xs
 |some (ag,ks)::r,x::xs=>match OX ag x with
  |some cells=>match dty p.tys ks cells with
   |some gs=>match ML p.lin gs with|true=>Bn p r xs|false=>false
   |none=>false
  |none=>false
 |_,_=>false
def Gl(kinds:List RK):List TL.cb→Bool
 | []=>true
 |p::r=>match Bn p kinds p.res with|true=>Gl kinds r|false=>false
def V7(P:Program)(w:World)(lo:Nat)(ag:Bool)(ks:List CK)(v:Value):Prop:=∃row us,v=pk ag us∧Cw w lo row us∧WTs P ks row
def jr(P:Program)(w:World)(lo:Nat):List RK→List Value→Prop
 | [],[]=>True
 |none::r,_::vs=>jr P w lo r vs
 |some (ag,ks)::r,v::vs=>V7 P w lo ag ks v∧jr P w lo r vs
 |_,_=>False
def mkv:List Value→Value
 | [x]=>x
 |xs=> .tuple xs.toArray
theorem Ix{w:World}{ρ:Ro}{E:Env}{lo:Nat}:∀(xs:List DV) (cells:List DP) (vs:List Value),unP xs=some cells→VRs w E lo (dvs ρ xs) vs→Cw w lo (ar ρ cells) vs
 | [],cells,vs,h,hv=>by
  simp only[unP,ZS]at h;subst h
  cases vs with
  |nil=>exact⟨rfl,fun j x hj=>by simp[ar]at hj⟩
  |cons v vs=>simp[dvs,VRs]at hv
 |x::xs,cells,vs,h,hv=>by
  unfold unP at h
  split at h
  ·rename_i heq;cases heq
  ·rename_i y r heq
   cases heq
   split at h
   ·rename_i ys hys
    simp only[ZS]at h;subst h
    cases vs with
    |nil=>simp[dvs,VRs]at hv
    |cons v vs=>
     simp only[dvs,VRs,DV.v,VR,flo]at hv
     have ih:=Ix xs ys vs hys hv.2
     refine⟨by simp[ar,ih.len],fun j z hj=>?_⟩
     cases j with
     |zero=>simp[ar]at hj;subst hj;exact⟨v,rfl,Rep.nb hv.1⟩
     |succ j=>simp[ar]at hj;exact ih.rep j z hj
   ·cases h
  ·cases h
theorem Eo{P:Program}{I:Pr}{w:World}{ρ:Ro}{E:Env}{lo:Nat}{p:TL.cb}(hg:Gok ρ)(ht:dA P ρ p.tys)(hl:bh ρ p.lin):∀(kinds:List RK) (xs:List DV) (vs:List Value),Bn p kinds xs=true→VRs w E lo (dvs ρ xs) vs→jr P w lo kinds vs
 | [],[],vs,_,hv=>by
  cases vs with
  |nil=>trivial
  |cons v vs=>simp[dvs,VRs]at hv
 | [],_::_,_,h,_=>by cases h
 |none::r,[],_,h,_=>by cases h
 |some _::r,[],_,h,_=>by cases h
 |none::r,x::xs,vs,h,hv=>by
  cases vs with
  |nil=>simp[dvs,VRs]at hv
  |cons v vs=>exact Eo (I:=I) hg ht hl r xs vs h (by simp only[dvs,VRs]at hv;exact hv.2)
 |some (ag,ks)::r,x::xs,vs,h,hv=>by
  cases vs with
  |nil=>simp[dvs,VRs]at hv
  |cons v vs=>
   simp only[dvs,VRs]at hv
   simp only[Bn]at h
   split at h
   ·rename_i cells hc
    split at h
    ·rename_i gs hd
     split at h
     ·rename_i hgc
      refine⟨?_,Eo (I:=I) hg ht hl r xs vs h hv.2⟩
      have hw:=gj (I:=I) hg ht ks cells gs hd (OW hg hl hgc)
      unfold OX at hc
      split at hc
      ·rename_i ys
       have hv1:=hv.1
       simp only[DV.v,VR]at hv1
       obtain⟨us,rfl,hus⟩:=hv1
       exact⟨_,us,rfl,Ix ys cells us hc hus,hw⟩
      ·rename_i y
       simp only[ZS]at hc;subst hc
       refine⟨_,[v],rfl,Ix (E:=E) [.p y true] [y] [v] rfl ?_,hw⟩
       simp only[dvs,VRs];exact⟨hv.1,trivial⟩
      ·cases hc
     ·cases h
    ·cases h
   ·cases h
theorem V8{P:Program}{I:Pr}{w:World}{ρ:Ro}{E:Env}{lo:Nat}{p:TL.cb}(hg:Gok ρ)(ht:dA P ρ p.tys)(hl:bh ρ p.lin){kinds:List RK}{v:Value}(h:Bn p kinds p.res=true)(hv:VR w E lo ((dmk p.res).v ρ) v):
  ∃vs,v=mkv vs∧jr P w lo kinds vs:=by
 have key:∀xs:List DV,VR w E lo ((dmk xs).v ρ) v→∃vs,v=mkv vs∧VRs w E lo (dvs ρ xs) vs:=by
  intro xs hv
  match xs with
  | []=>
   simp only[dmk,DV.v,VR]at hv
   obtain⟨vs,rfl,h⟩:=hv
   have:vs=[]:=by cases vs with|nil=>rfl|cons v vs=>simp[dvs,VRs]at h
   subst this
   exact⟨[],rfl,h⟩
  | [x]=>exact⟨[v],rfl,by simp only[dvs,VRs];exact⟨hv,trivial⟩⟩
  |x::y::r=>
   simp only[dmk,DV.v,VR]at hv
   obtain⟨vs,rfl,h⟩:=hv
   refine⟨vs,?_,h⟩
   match vs,h with
   | [],h=>simp[dvs,VRs]at h
   | [u],h=>simp[dvs,VRs]at h
   |u::u'::us,h=>rfl
 obtain⟨vs,rfl,h2⟩:=key p.res hv
 exact⟨vs,rfl,Eo (I:=I) hg ht hl kinds p.res vs h h2⟩
theorem Fw{kinds:List RK}:∀{ps:List TL.cb},Gl kinds ps=true→∀p∈ps,Bn p kinds p.res=true
 | [],_,p,hp=>by simp at hp
 |q::r,h,p,hp=>by
  simp only[Gl]at h
  split at h
  ·rename_i hq
   rcases Z1 hp with rfl|hp
   ·exact hq
   ·exact Fw h p hp
  ·cases h
theorem Re{P:Program}{B:Pr}{s:Spec}(hK:aA P B s){f n:Nat}{m:Lin}(hs:s=⟨f,n,[],[],[],[],[],m,[⟨1,[],[],[.je (.var n)],[],[.p (.bl (.var n)) true]⟩]⟩)(w:World)(hld:fV P w):
  Ret P f [] w fun v w'=>v= .bool true∧Ch (fun _=>False) w w':=by
 subst hs
 have h:=OU hK (ρ:=fun _=>default) ⟨Ks,trivial,trivial,trivial⟩ rfl (w:=w) hld (vals:=[]) (by simp[dvs,VRs])
 refine h.mono ?_
 rintro v w' ⟨bp,p,hp,ρ',E',ab,hv⟩
 simp only[List.mem_cons,List.mem_nil_iff,or_false]at hp;subst hp
 have hb:(ρ' n).b=true:=by have:=ab.prs.1;simpa[PF.v,BF.v]using this
 simp only[dmk,DV.v,DP.v,BF.v,VR,flo,hb]at hv
 cases hv
 exact⟨rfl,bp⟩
end Go.TL.H
namespace Go.TL.H
open Go Go.ChangeShapes Go.WideShapes Go.ChangeAt Go.RowKit
theorem TK{w w':World}(h:Ch (fun _=>False) w w'):w.keptBut w' (fun _=>False):=by
 refine⟨h.os,h.output,fun i hi=>?_⟩
 rw[h.keep i hi fun h=>h]
 cases w.heap[i]? with
 |none=>rfl
 |some o=>cases o<;>simp
section
variable {H:Type} {enc:TypeId×Value→H} {P:Program}
theorem OY{f:Func}{s:ChangeSpec}{apart fresh handsOn again:Bool}{W W':World}{args:Array Value}{v:Value}{ds gs:List (DataW H)}{before pa pv:List MemPlace}
  (hW:DataW.Whole enc P f.params.toList s.vars apart W args.toList ds gs before)
  (hres:∀(b:Nat) (sp:Nat→Bool) (hd:Bool),DataW.TrodAll enc P W' b sp hd f.resultTypes.toList (v.resultList f.resultTypes.size) (s.fn H (ds++gs)).results [])
  (rj:∀sp:Nat→Bool,(∀p∈before,sp p.block=true)→DataW.TrodAll enc P W' 0 sp true f.params.toList args.toList (s.fn H (ds++gs)).args pa)
  (wZ:∀sp:Nat→Bool,(∀p∈before,sp p.block=true)→DataW.TrodVars enc P W' sp s.vars (s.fn H (ds++gs)).vars pv)
  (hps:before=pa++pv)(hk:W.keptBut W' (· ∈before))(gz:∀b off,MemPlace.cell b off∈before→W'.frozen? ⟨b,off,none⟩=W.frozen? ⟨b,off,none⟩)
  (ab:∀(j:Nat) (t:TypeId) (r:Value),f.resultTypes[j]? =some t→(v.resultList f.resultTypes.size)[j]? =some r→Value.okWide P W' .any 0 t r):
  s.post enc P f apart fresh handsOn again W args v W':=by
 have hold:∀p∈before,(fun b=>decide (b<W.heap.size)) p.block=true:=fun p hp=>by simpa using hW.lt p hp
 refine⟨ds,gs,before,[],pa,pv,hW,hres _ _ _,rj _ hold,wZ _ hold,World.keptBut_mono (fun p hp=>⟨hp,?_⟩) hk,fun _=>?_⟩
 ·rw[hps,List.mem_append]at hp
  exact Or.inr hp
 ·obtain⟨_,_,_,_,_,hz,hn⟩:=hW
  refine⟨ab,_,_,([]++pa)++pv,⟨[]++pa,pv,trodAll_append (rj _ (fun _ _=>rfl)) (hres _ _ _),wZ _ (fun _ _=>rfl),rfl,?_,?_⟩,?_⟩
  ·intro b off hp
   have hp':MemPlace.cell b off∈before:=by rw[hps];simpa using hp
   rw[gz b off hp']
   exact hz b off hp'
  ·intro ha
   have:=hn ha
   rw[hps]at this
   simpa using this
  ·intro p hp _
   rw[hps]
   simpa using hp
theorem Js{f:FuncId}{fn:Func}{T tb:TypeId}{fs:Array Field}{s:ChangeSpec}{E:TypeId→Prop}{b:DataW H→Nat}{ba:List (DataW H)→Nat}(hb:Blk H b ba)
  (hrt:fn.resultTypes= #[tb])(hpt:fn.params= #[T])(wZ:s.vars=[])(fJ:∀d:DataW H,s.fn H [d]={results:=[.lit (.bool true)],args:=[d]})(hbool:P.underlying tb=some .bool)(hT:P.underlying T=some (.struct fs))
  (hlaid:laidOutB P=true)(hrd:P.readableRec T=true)(av:T<P.types.size)(qw:tQ P 8 T=true)(hE:∀e,E e→Qb P E e)(oC:∀e,.sl e∈cks P T→E e)
  (hwalk:∀(W:World) (xs:List Value) (row:List PV),fV P W→gi P W (cks P T) xs row→rz row≤2097152→Ret P f [.agg xs.toArray] W fun v w'=>v= .bool true∧Ch (fun _=>False) W w')
  {apart fresh handsOn again:Bool}(W:World)(hla:fV P W)(base:Nat)(args:Array Value)(ds gs:List (DataW H))(before:List MemPlace)
  (dB:∀(j:Nat) t v,fn.params[j]? =some t→args[j]? =some v→Value.okWide P W .any base t v)(hW:DataW.Whole enc P fn.params.toList s.vars apart W args.toList ds gs before)(hk:ba (ds++gs)≤1048576):
  Calls P f args W fun e W'=>∃v,e= .returned v∧s.post enc P fn apart fresh handsOn again W args v W':=by
 have hW':=hW
 obtain⟨p,q,hA,hV,rfl,gz,eU⟩:=hW
 rw[hpt]at hA
 obtain⟨v0,vs0,d0,ds0,p0,q0,rj,rfl,rfl,h0,r0⟩:=trodAll_cons hA
 obtain⟨rfl,rfl,rfl⟩:=trodAll_nil r0
 obtain rfl:args= #[v0]:=by cases args;simp_all
 rw[wZ]at hV
 obtain⟨rfl,rfl⟩:=trodVars_none hV
 obtain⟨cs,rfl,fZ⟩:=okWide_struct hT (dB 0 T v0 (by simp[hpt]) rfl)
 obtain⟨fuel,hfuel⟩:=h0
 have hcl:(Value.agg cs).cells.toList=cs.toList:=rfl
 rw[hcl]at hfuel
 simp only[List.append_nil]at hW' gz hk
 have hbd:b d0≤1048576:=by simpa[hb.cons,hb.nil]using hk
 rw[←y0 qw]at oC
 obtain⟨row,hg,hrz⟩:=Qg hb hE fuel 8 T cs.toList d0 p0 hfuel gz qw oC hbd
 rw[y0 qw]at hg
 have hr:=hwalk W cs.toList row hla hg (by omega)
 have:([Value.agg cs.toList.toArray]:List Value).toArray= #[.agg cs]:=by simp
 unfold Ret at hr
 rw[this]at hr
 refine Calls.mono hr ?_
 rintro e W' ⟨v,rfl,rfl,bp⟩
 have hkept:=TK bp
 have tZ:∀p∈p0,p.block<W.heap.size:=fun p hp=>hW'.lt p hp
 refine⟨_,rfl,OY (pa:=p0) (pv:=[]) hW' ?_ ?_ ?_ (by simp) (World.keptBut_mono (fun _ h=>h.elim) hkept) ?_ ?_⟩
 ·intro b sp hd
  rw[List.append_nil,fJ,hrt]
  exact trodAll_cons_mk (shut_bool hbool _) trodAll_mk0
 ·intro sp lI
  rw[List.append_nil,fJ,hpt]
  refine trodAll_mk1 ⟨fuel,?_⟩
  rw[hcl]
  refine DataW.trod_stays (kids_book hlaid hrd) (book_sized hrd) (fun h=>by cases h) ⟨av,book_self T⟩ hfuel (fun p hp=>hkept.sameAt (tZ p hp) (fun h=>h) (fun b e=>?_)) lI
  have:=DataW.trod_good (kids_book hlaid hrd) (fun h=>by cases h) fuel T cs.toList (d0,p0) ⟨av,book_self T⟩ hfuel p hp
  subst e
  exact this
 ·intro sp _
  rw[List.append_nil,fJ,wZ];exact rfl
 ·intro b off hp
  have:=tZ _ hp
  have hh:=bp.keep b this fun h=>h
  unfold World.frozen?
  simp only[hh]
 ·exact ok_one hrt rfl (okWide_bool_mk hbool _)
end
end Go.TL.H
