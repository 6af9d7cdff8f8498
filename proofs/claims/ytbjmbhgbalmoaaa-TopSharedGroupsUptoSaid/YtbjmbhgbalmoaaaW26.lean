/- Finding states for loops and for places where ways meet (nothing has to be shown of this). -/
import Derived.Test.YtbjmbhgbalmoaaaW25
import Derived.Test.YtbjmbhgbalmoaaaW13
import Derived.ChangeStays
import Derived.ChangeSame
import Derived.ChangeReads
import Derived.OpenShut
import Derived.WalkKit
import Derived.ProofKit
import Derived.JoinedCond
import Derived.Deep.Frames
import Derived.Deep.Modes
import Derived.WideShapes
namespace Go.TL
inductive Mo where
 |g(fr:Bool)
 |v(K e sz:Nat)(fr:Bool)
 |d
structure LA where
 bid:Nat
 live:List Nat
 gen:List (Nat×Mo)
 ob:List (Nat×Mo)
 facts:List Lin
 Cp:List (Nat×Nat)
 xb:Lin
 prs:List PF
structure GS where
 nx:Nat
 tys:List (Nat×TypeId)
def gLv(S:List (Nat×TypeId))(l:LV)(g:GS):LV×GS:=
 match l with
 |some k=>match lk S k with
  |some e=>(some g.nx,⟨g.nx+1,(g.nx,e)::g.tys⟩)
  |none=>(some g.nx,⟨g.nx+1,g.tys⟩)
 |none=>(none,g)
def gDP(S:List (Nat×TypeId)):DP→GS→DP×GS
 | .int k _,g=>(.int k (Lin.at (4*g.nx)),⟨g.nx+1,g.tys⟩)
 | .bl _,g=>(.bl (.var g.nx),⟨g.nx+1,g.tys⟩)
 | .st _,g=>(.st (.var g.nx),⟨g.nx+1,g.tys⟩)
 | .sl l,g=>match gLv S l g with|(l,g)=>(.sl l,g)
 | .ls l,g=>match gLv S l g with|(l,g)=>(.ls l,g)
 | .un,g=>(.un,g)
 | .mp a l,g=>match gLv S l g with|(l,g)=>(.mp a l,g)
 |x,g=>(x,g)
def Aa(S:List (Nat×TypeId)):List DP→GS→List DP×GS
 | [],g=>([],g)
 |x::xs,g=>match gDP S x g with
  |(x,g)=>match Aa S xs g with|(xs,g)=>(x::xs,g)
mutual
def gDV(S:List (Nat×TypeId))(ff:Bool):DV→GS→DV×GS
 | .p x fr,g=>match gDP S x g with|(x,g)=>(.p x (fr && ff),g)
 | .aY k sz _ off,g=>(.aY k sz (Lin.at (4*g.nx)) off,⟨g.nx+1,g.tys⟩)
 | .pd r off fr,g=>match Aa S r g with|(r,g)=>(.pd r off (fr && ff),g)
 | .pc l fr,g=>match gLv S l g with|(l,g)=>(.p (.sl l) (fr && ff),g)
 | .agg xs,g=>match xd S ff xs g with|(xs,g)=>(.agg xs,g)
 | .bB xs,g=>match xd S ff xs g with|(xs,g)=>(.bB xs,g)
 | .bH t x,g=>match gDV S ff x g with|(x,g)=>(.bH t x,g)
 | .fn f a b,g=>(.fn f a b,g)
 | .u,g=>(.u,g)
 | .ptr k off,g=>(.ptr k off,g)
 | .vec k,g=>(.vec k,g)
 | .ref k,g=>(.ref k,g)
def xd(S:List (Nat×TypeId))(ff:Bool):List DV→GS→List DV×GS
 | [],g=>([],g)
 |x::xs,g=>match gDV S ff x g with
  |(x,g)=>match xd S ff xs g with|(xs,g)=>(x::xs,g)
end
def xe(n:Nat)(l:List Nat):Bool:=scB n l
structure JS where
 nx:Nat
 tys:List (Nat×TypeId)
 nm:List (Nat×Nat×Nat)
 kd:List (Nat×Nat)
def JS.fresh(g:JS)(kind:Nat):JS:={g with nx:=g.nx+1,kd:=(g.nx,kind)::g.kd}
def JS.list(g:JS)(e:TypeId):JS:={g with nx:=g.nx+1,kd:=(g.nx,1)::g.kd,tys:=(g.nx,e)::g.tys}
def jt(S1 S2:List (Nat×TypeId))(a b:LV):Option TypeId:=
 match a with
 |some k=>lk S1 k
 |none=>match b with|some k=>lk S2 k|none=>none
def AY(a b:Option Nat):Bool:=fM a b
def jDP(n0:Nat)(S1 S2:List (Nat×TypeId))(x y:DP)(g:JS):Option (DP×JS):=
 match x.beq y,xe n0 x.vars with
 |true,true=>some (x,g)
 |_,_=>match x,y with
  | .int k _,.int k' _=>match vx k k' with|true=>some (.int k (Lin.at (4*g.nx)),g.fresh 0)|false=>none
  | .bl _,.bl _=>some (.bl (.var g.nx),g.fresh 2)
  | .st _,.st _=>some (.st (.var g.nx),g.fresh 3)
  | .sl a,.sl b=>match jt S1 S2 a b with|some e=>some (.sl (some g.nx),g.list e)|none=>none
  | .sl a,.nl=>match jt S1 S2 a none with|some e=>some (.sl (some g.nx),g.list e)|none=>some (.sl none,g)
  | .nl,.sl b=>match jt S1 S2 none b with|some e=>some (.sl (some g.nx),g.list e)|none=>some (.sl none,g)
  | .nl,.nl=>some (.nl,g)
  | .ls a,y=>match y with
   | .ls b=>match jt S1 S2 a b with|some e=>some (.ls (some g.nx),g.list e)|none=>none
   | .cst _=>match jt S1 S2 a none with|some e=>some (.ls (some g.nx),g.list e)|none=>none
   |_=>none
  | .mp q a,y=>match y with
   | .mp q' b=>match AY q q',jt S1 S2 a b with|true,some e=>some (.mp q (some g.nx),g.list e)|_,_=>none
   | .cst _=>match jt S1 S2 a none with|some e=>some (.mp q (some g.nx),g.list e)|none=>none
   |_=>none
  | .cst _,.ls b=>match jt S1 S2 none b with|some e=>some (.ls (some g.nx),g.list e)|none=>none
  | .cst _,.mp q b=>match jt S1 S2 none b with|some e=>some (.mp q (some g.nx),g.list e)|none=>none
  |_,_=>none
def Ab(n0:Nat)(S1 S2:List (Nat×TypeId)):List DP→List DP→JS→Option (List DP×JS)
 | [],[],g=>some ([],g)
 |x::xs,y::ys,g=>match jDP n0 S1 S2 x y g with
  |some (z,g)=>match Ab n0 S1 S2 xs ys g with
   |some (zs,g)=>some (z::zs,g)
   |none=>none
  |none=>none
 |_,_,_=>none
def vz(k1 k2:Nat):List (Nat×Nat×Nat)→Option Nat
 | []=>none
 |(K,a,b)::r=>match Nat.beq a k1,Nat.beq b k2 with|true,true=>some K|_,_=>vz k1 k2 r
def tY(T1 T2:bY)(k1 k2:Nat)(g:JS):Option (Nat×JS):=
 match vz k1 k2 g.nm with
 |some K=>some (K,g)
 |none=>match Nat.beq k1 k2 with
  |true=>some (k1,{g with nm:=(k1,k1,k2)::g.nm})
  |false=>match(lk T2 k1).isSome,(lk T1 k2).isSome with
   |false,_=>some (k1,{g with nm:=(k1,k1,k2)::g.nm})
   |_,false=>some (k2,{g with nm:=(k2,k1,k2)::g.nm})
   |_,_=>none
def Ac:Nat:=99999999
def yf(T:bY)(k:Nat):Bool:=match lk T k with|some (.vec _ _ _ fr)=>fr|_=>false
def sM(T:bY)(k:Nat):Option TypeId:=match lk T k with|some (.vec e _ _ _)=>some e|_=>none
mutual
def jDV(n0:Nat)(A B:DSt):DV→DV→JS→DV×JS
 | .p x fr,y,g=>match y with
  | .p y eM=>match jDP n0 A.tys B.tys x y g with|some (z,g)=>(.p z (fr && eM),g)|none=>(.u,g)
  | .vec k=>match x with
   | .nl=>match(lk A.tab k).isSome with
    |true=>(.u,g)
    |false=>(.vec k,{g with nm:=(k,Ac,k)::g.nm})
   | .sl _=>match sM B.tab k with|some e=>(.p (.sl (some g.nx)) (fr && yf B.tab k),g.list e)|none=>(.u,g)
   |_=>(.u,g)
  |_=>(.u,g)
 | .vec k,y,g=>match y with
  | .vec k'=>match tY A.tab B.tab k k' g with|some (K,g)=>(.vec K,g)|none=>(.u,g)
  | .p .nl _=>match(lk B.tab k).isSome with
   |true=>(.u,g)
   |false=>(.vec k,{g with nm:=(k,k,Ac)::g.nm})
  | .p (.sl _) fr=>match sM A.tab k with|some e=>(.p (.sl (some g.nx)) (fr && yf A.tab k),g.list e)|none=>(.u,g)
  |_=>(.u,g)
 | .ptr k off,y,g=>match y with
  | .ptr k' gf=>match Nat.beq off gf with
   |true=>match tY A.tab B.tab k k' g with|some (K,g)=>(.ptr K off,g)|none=>(.u,g)
   |false=>(.u,g)
  |_=>(.u,g)
 | .aY k sz i off,y,g=>match y with
  | .aY k' sz' i' gf=>match cV (.aY k sz i off) (.aY k' sz' i' gf),xe n0 i.vars with
   |true,true=>(.aY k sz i off,{g with nm:=(k,k,k)::g.nm})
   |_,_=>match Nat.beq k k',Nat.beq off gf with
    |true,true=>(.aY k sz (Lin.at (4*g.nx)) off,{g.fresh 0 with nm:=(k,k,k)::g.nm})
    |_,_=>(.u,g)
  |_=>(.u,g)
 | .pd r off fr,y,g=>match y with
  | .pd r' gf eM=>match Nat.beq off gf with
   |true=>match Ab n0 A.tys B.tys r r' g with|some (z,g)=>(.pd z off (fr && eM),g)|none=>(.u,g)
   |false=>(.u,g)
  |_=>(.u,g)
 | .pc l fr,y,g=>match y with
  | .pc l' eM=>match fM l l',xe n0 (eA l)with
   |true,true=>(.pc l (fr && eM),g)
   |_,_=>match jDP n0 A.tys B.tys (.sl l) (.sl l') g with|some (z,g)=>(.p z (fr && eM),g)|none=>(.u,g)
  | .p (.sl l') eM=>match jDP n0 A.tys B.tys (.sl l) (.sl l') g with|some (z,g)=>(.p z (fr && eM),g)|none=>(.u,g)
  |_=>(.u,g)
 | .agg xs,y,g=>match y with
  | .agg ys=>match rl n0 A B xs ys g with|(zs,g)=>(.agg zs,g)
  |_=>(.u,g)
 | .bB xs,y,g=>match y with
  | .bB ys=>match rl n0 A B xs ys g with|(zs,g)=>(.bB zs,g)
  |_=>(.u,g)
 | .ref k,y,g=>match y with
  | .ref k'=>match tY A.tab B.tab k k' g with|some (K,g)=>(.ref K,g)|none=>(.u,g)
  |_=>(.u,g)
 | .fn f a b,y,g=>match y with
  | .fn f' a' b'=>match tQ f f' with
   |true=>match rl n0 A B a a' g with
    |(x,g)=>match rl n0 A B b b' g with|(z,g)=>(.fn f x z,g)
   |false=>(.u,g)
  |_=>(.u,g)
 | .bH t x,y,g=>match y with
  | .bH t' y=>match Nat.beq t t' with
   |true=>match jDV n0 A B x y g with|(z,g)=>(.bH t z,g)
   |false=>(.u,g)
  |_=>(.u,g)
 | .u,_,g=>(.u,g)
def rl(n0:Nat)(A B:DSt):List DV→List DV→JS→List DV×JS
 |x::xs,ys,g=>match ys with
  |y::ys=>match jDV n0 A B x y g with
   |(z,g)=>match rl n0 A B xs ys g with|(zs,g)=>(z::zs,g)
  | []=>([],g)
 | [],_,g=>([],g)
end
structure An where
 n:Nat
 lim:Nat
 keeps:List (Nat×List Nat)
 loops:List LA
 Cj:List (Nat×List Lin)
 unr:List (Nat×Nat)
 hc:List Cert
 split:List (Nat×List Nat):=[]
 Ck:List (Nat×List (Nat×Nat)):=[]
end Go.TL
namespace Go.TL
inductive Kd where
 |i
 |ik(k:IntKind)
 |b
 |s
 |l(e:TypeId)(fr:Bool)
 |row(t:TypeId)(fr:Bool)
 |val(t:TypeId)(fr:Bool)
 |v(k:Nat)(e:TypeId)(fr:Bool)
 |vl(k:Nat)(e:TypeId)(fr:Bool)
 |vb(k:Nat)(e:TypeId)
 |box(k:Nat)(t:TypeId)(cells:List Kd)
 |agg(xs:List Kd)
 |bH(t:TypeId)(x:Kd)
 |pcl(e:TypeId)(fr:Bool)
 |mp(e:TypeId)(fr:Bool)
 |om(k:Nat)(e:TypeId)
 |ch(e:TypeId)(fr:Bool)
 |ob(k:Nat)(o:DO)
 |x(d:DV)
def agN(P:Program)(e:TypeId):Option Nat:=match fF P e,P.info? e with|some true,some i=>some i.size|_,_=>none
structure KS where
 nx:Nat
 tys:List (Nat×TypeId)
 lin:List Lin
 tab:bY
def KS.one(g:KS):KS:={g with nx:=g.nx+1}
mutual
def Kd.mk(P:Program):Kd→KS→DV×KS
 | .i,g=>(.p (.int .i64 (Lin.at (4*g.nx))) true,g.one)
 | .ik k,g=>(.p (.int k (Lin.at (4*g.nx))) true,{g.one with lin:=(Lin.at (4*g.nx)).cR (-k.max)::(Lin.scale (-1) (Lin.at (4*g.nx))).cR k.min::g.lin})
 | .b,g=>(.p (.bl (.var g.nx)) true,g.one)
 | .s,g=>(.p (.st (.var g.nx)) true,g.one)
 | .l e fr,g=>(.p (.sl (some g.nx)) fr,{g.one with tys:=(g.nx,e)::g.tys})
 | .row t fr,g=>match jJ (cks P t) g.nx with
  |some R=>(.pd R.cells 0 fr,{g with nx:=R.nx,tys:=R.tys++g.tys,lin:=R.lin++g.lin})
  |none=>(.u,g)
 | .val t fr,g=>match jJ (cks P t) g.nx with
  |some R=>(.agg (mz fr R.cells),{g with nx:=R.nx,tys:=R.tys++g.tys,lin:=R.lin++g.lin})
  |none=>(.u,g)
 | .v k e fr,g=>(.vec k,{g.one with tys:=(g.nx,e)::g.tys,tab:=(k,.vec e (match P.info? e with|some i=>i.size|none=>0) (some g.nx) fr)::g.tab})
 | .vl k e fr,g=>(.vec k,{g.one with tab:=(k,.vec e (match P.info? e with|some i=>i.size|none=>0) (some g.nx) fr)::g.tab})
 | .vb k e,g=>(.vec k,{g.one with tys:=(g.nx,3000000+e)::g.tys,tab:=(k,.vec e 1 (some g.nx) true)::g.tab})
 | .box k t cells,g=>match xf P cells g with|(xs,g)=>(.ptr k 0,{g with tab:=(k,.box t xs)::g.tab})
 | .agg xs,g=>match xf P xs g with|(xs,g)=>(.agg xs,g)
 | .pcl e fr,g=>(.pc (some g.nx) fr,{g.one with tys:=(g.nx,e)::g.tys})
 | .mp e fr,g=>(.p (.mp (agN P e) (some g.nx)) fr,{g.one with tys:=(g.nx,mE e)::g.tys})
 | .om k e,g=>(.ref k,{g.one with tys:=(g.nx,mE e)::g.tys,tab:=(k,.mp (agN P e) (some g.nx) true)::g.tab})
 | .ob k o,g=>(.ref k,{g with tab:=(k,o)::g.tab})
 | .ch e fr,g=>(.p (.ls (some g.nx)) fr,{g.one with tys:=(g.nx,cE e)::g.tys})
 | .bH t x,g=>match Kd.mk P x g with|(d,g)=>(.bH t d,g)
 | .x d,g=>(d,g)
def xf(P:Program):List Kd→KS→List DV×KS
 | [],g=>([],g)
 |x::xs,g=>match Kd.mk P x g with
  |(x,g)=>match xf P xs g with|(xs,g)=>(x::xs,g)
end
structure Ci where
 res:List Kd
 Cq:List Kd:=[]
 facts:List DV→bY→List DV→bY→List Lin:=fun _ _ _ _=>[]
 prs:List DV→List DV→List PF:=fun _ _=>[]
end Go.TL
namespace Go.TL.H
open Go
def E00:Env:=⟨fun _=>none,fun _=>none,fun _=>False⟩
theorem yL(b:Nat):¬ E00.bad b:=by simp[E00,Env.bad]
theorem Rep.nb{w:World}{bad:Nat→Prop}{lo:Nat}{x:PV}{v:Value}(h:Rep w bad lo x v):Rep w NB lo x v:=h.mono (Nat.le_refl _) fun _ _ h _=>⟨h,fun h=>h⟩
theorem Rep.e00{w:World}{lo:Nat}{x:PV}{v:Value}(h:Rep w NB lo x v):Rep w E00.bad lo x v:=h.mono (Nat.le_refl _) fun b _ h _=>⟨h,yL b⟩
theorem Ad{P:Program}{B:Pr}{s:Spec}(hK:fB P B s){ρ:Ro}(hpre:s.pre.ok P B ρ)(htab:s.tab=[]){w:World}(hld:dD P w){vals:List Value}(hv:VRs w E00 w.heap.size (dvs ρ s.args) vals):
  Ret P s.fn vals w fun v w'=>Ch (fun _=>False) w w'∧∃p∈s.jZ,∃ρ' E',(p.st s.nv).ok P B ρ'∧VR w' E' w.heap.size ((dmk p.res).v ρ') v:=by
 have h:=hK.ok ((s.xb.v ρ).toNat+1) ρ hpre (by omega) w.heap.size w E00 vals ⟨Nat.le_refl _,hld,fun _ _=>rfl⟩
  ⟨fun k ov hk=>by simp[htab,dw,lk]at hk,fun _ _=>rfl,fun b k hb=>by simp[E00]at hb,fun b hb=>by simp[E00]at hb⟩ hv
 refine Calls.mono h ?_
 rintro e w' ⟨r,v,T',E',rfl,⟨p,hp,ρ',h1,h2,rfl,rfl⟩,hfr,_,hvr,_⟩
 exact⟨v,rfl,⟨hfr.os,hfr.tape,hfr.output,hfr.size,fun b hb _=>(hfr.keep b hb rfl).1⟩,p,hp,ρ',E',h2,hvr⟩
def im:List (Option Nat)→List DP→List DV
 | [],_=>[]
 |none::r,x::xs=>tN false x::im r xs
 |some n::r,xs=> .agg (mz false (xs.take n))::im r (xs.drop n)
 |none::r,[]=> .u::im r []
def eE:List (Option Nat)→List Value→List Value
 | [],_=>[]
 |none::r,x::xs=>x::eE r xs
 |some n::r,xs=> .agg (xs.take n).toArray::eE r (xs.drop n)
 |none::r,[]=> .nilFunc::eE r []
theorem Cw.drop{w:World}{lo n:Nat}{row:List PV}{vs:List Value}(h:Cw w lo row vs):Cw w lo (row.drop n) (vs.drop n):=
 ⟨by simp[h.len],fun j x hj=>by rw[List.getElem?_drop]at hj ⊢;exact h.rep _ x hj⟩
theorem Cw.take{w:World}{lo n:Nat}{row:List PV}{vs:List Value}(h:Cw w lo row vs):Cw w lo (row.take n) (vs.take n):=
 ⟨by simp[h.len],fun j x hj=>by
  rw[List.getElem?_take]at hj ⊢
  split at hj
  ·rw[if_pos (by assumption)];exact h.rep _ x hj
  ·cases hj⟩
theorem Cw.cons{w:World}{lo:Nat}{x:PV}{xs:List PV}{v:Value}{vs:List Value}(h:Cw w lo (x::xs) (v::vs)):Rep w NB lo x v∧Cw w lo xs vs:=by
 refine⟨?_,by have:=h.drop (n:=1);simpa using this⟩
 obtain⟨u,h1,h2⟩:=h.rep 0 x rfl
 simp at h1;subst h1;exact h2
theorem lX(ρ:Ro):∀(n:Nat) (xs:List DP),aU ρ (xs.take n)=(aU ρ xs).take n
 |0,xs=>by simp[aU]
 |n+1,[]=>by simp[aU]
 |n+1,x::xs=>by simp[aU,lX ρ n xs]
theorem lW(ρ:Ro):∀(n:Nat) (xs:List DP),aU ρ (xs.drop n)=(aU ρ xs).drop n
 |0,xs=>by simp
 |n+1,[]=>by simp[aU]
 |n+1,x::xs=>by simp[aU,lW ρ n xs]
theorem yM{w:World}{bad:Nat→Prop}{lo fC:Nat}{x:Value}{v:Value}(h:Rep w bad lo (.v x) v):Rep w bad fC (.v x) v:=by
 cases h with
 |v _ hx=>exact .v _ hx
theorem sO{w:World}{ρ:Ro}{lo:Nat}(x:DP)(v:Value)(h:Rep w NB 0 (x.v ρ) v):VR w E00 lo ((tN false x).v ρ) v:=by
 cases x<;>simp only[tN,DV.v,DP.v,VR,flo]at h ⊢ <;>first|exact yM (Rep.e00 h)|exact Rep.e00 h|(cases h with|un _ hx=>exact .un _ hx)
theorem sP{w:World}{ρ:Ro}{lo:Nat}:∀(xs:List DP) (vs:List Value),Cw w 0 (aU ρ xs) vs→VRs w E00 lo (dvs ρ (mz false xs)) vs
 | [],vs,h=>by
  have:vs=[]:=List.length_eq_zero_iff.1 (by simpa[aU]using h.len)
  subst this;simp[mz,dvs,VRs]
 |x::xs,vs,h=>by
  cases vs with
  |nil=>have:=h.len;simp[aU]at this
  |cons v vs=>
   obtain⟨h1,h2⟩:=h.cons
   simp only[mz,dvs,VRs]
   exact⟨sO x v h1,sP xs vs h2⟩
theorem lh{w:World}{ρ:Ro}{lo:Nat}:∀(parts:List (Option Nat)) (xs:List DP) (vs:List Value),Cw w 0 (aU ρ xs) vs→VRs w E00 lo (dvs ρ (im parts xs)) (eE parts vs)
 | [],_,_,_=>by simp[im,eE,dvs,VRs]
 |some n::r,xs,vs,h=>by
  simp only[im,eE,dvs,VRs,DV.v,VR]
  exact⟨⟨_,rfl,sP _ _ (by rw[lX];exact h.take)⟩,lh r _ _ (by rw[lW];exact h.drop)⟩
 |none::r,[],vs,h=>by
  have:vs=[]:=List.length_eq_zero_iff.1 (by simpa[aU]using h.len)
  subst this
  simp only[im,eE,dvs,VRs,DV.v,VR,true_and]
  exact lh r [] [] h
 |none::r,x::xs,vs,h=>by
  cases vs with
  |nil=>have:=h.len;simp[aU]at this
  |cons v vs=>
   obtain⟨h1,h2⟩:=h.cons
   simp only[im,eE,dvs,VRs]
   exact⟨sO x v h1,lh r xs vs h2⟩
def qz(b:List (Nat×TypeId)):List (Nat×TypeId)→Bool
 | []=>true
 |(k,e)::r=>match lk b k with
   |some e'=>match Nat.beq e' e with|true=>qz b r|false=>false
   |none=>false
theorem sQ{P:Program}{ρ:Ro}{b:List (Nat×TypeId)}(hb:df P ρ b):∀{a:List (Nat×TypeId)},qz b a=true→df P ρ a
 | [],_=>trivial
 |(k,e)::r,h=>by
   simp only[qz]at h
   split at h
   ·rename_i e' hl
    split at h
    ·rename_i hb'
     have:=Cv hb';subst this
     exact⟨kz hb hl,sQ hb h⟩
    ·cases h
   ·cases h
theorem yN:Gok (fun _=>default):=by
 constructor<;>intro k<;>simp[default,bZ,ByteArray.size]
abbrev RK:=Option (Bool×List CK)
def kI(l:List Lin)(e:Lin):Bool:=match l with| []=>false|x::r=>match x.beq e with|true=>true|false=>kI r e
def tZ(e:Lin):Bool:=match e.t with
 | [(a,_)]=>match Nat.beq (a % 4) 0 with
  |true=>match e.beq ((Lin.at a).cR (-9223372036854775807))with|true=>true|false=>e.beq ((Lin.scale (-1) (Lin.at a)).cR (-9223372036854775808))
  |false=>false
 |_=>false
def ud(l:List Lin):List G→Bool
 | []=>true
 | .le e::r=>match(match tZ e with|true=>true|false=>kI l e)with|true=>ud l r|false=>false
 | .pf _::_=>false
theorem lp{ρ:Ro}{e:Lin}:∀{l:List Lin},bR ρ l→kI l e=true→e.v ρ≤0
 | [],_,h=>by cases h
 |x::r,hl,h=>by
  simp only[kI]at h
  split at h
  ·rename_i hb;rw[←Lin.beq_eq hb];exact hl.1
  ·exact lp hl.2 h
theorem yO{ρ:Ro}(hg:Gok ρ){e:Lin}(h:tZ e=true):e.v ρ≤0:=by
 unfold tZ at h
 split at h
 ·rename_i a c he
  split at h
  ·rename_i hm
   have hm:=Cv hm
   have hv:(Lin.at a).v ρ=(ρ (a / 4)).n:=by simp[Lin.eh,aR,hm]
   have h1:=hg.lo (a / 4)
   have h2:=hg.hi (a / 4)
   split at h
   ·rename_i hb;rw[Lin.beq_eq hb,Lin.ca,hv];omega
   ·rw[Lin.beq_eq h,Lin.ca,Lin.ez,hv];omega
  ·cases h
 ·cases h
theorem vA{I:Pr}{ρ:Ro}(hg:Gok ρ){l:List Lin}(hl:bR ρ l):∀{gs:List G},ud l gs=true→gsV I ρ gs
 | [],_=>trivial
 | .le e::r,h=>by
  simp only[ud]at h
  split at h
  ·rename_i hc
   refine⟨?_,vA hg hl h⟩
   split at hc
   ·rename_i h6;exact yO hg h6
   ·exact lp hl hc
  ·cases h
 | .pf _::_,h=>by cases h
def unP:List DV→Option (List DP)
 | []=>some []
 | .p x true::r=>match unP r with|some xs=>some (x::xs)|none=>none
 |_::_=>none
def vB(ag:Bool)(x:DV):Option (List DP):=match ag,x with
 |true,.agg xs=>unP xs
 |false,.p x true=>some [x]
 |_,_=>none
def nB(p:TL.bD):List RK→List DV→Bool
 | [],[]=>true
 |none::r,_::xs=>nB p r xs
 |some (ag,ks)::r,x::xs=>match vB ag x with
  |some cells=>match dty p.tys ks cells with
   |some gs=>match ud p.lin gs with|true=>nB p r xs|false=>false
   |none=>false
  |none=>false
 |_,_=>false
def qA(kinds:List RK):List TL.bD→Bool
 | []=>true
 |p::r=>match nB p kinds p.res with|true=>qA kinds r|false=>false
def Ae(P:Program)(w:World)(lo:Nat)(ag:Bool)(ks:List CK)(v:Value):Prop:=∃row us,v=pk ag us∧Cw w lo row us∧WTs P ks row
def eF(P:Program)(w:World)(lo:Nat):List RK→List Value→Prop
 | [],[]=>True
 |none::r,_::vs=>eF P w lo r vs
 |some (ag,ks)::r,v::vs=>Ae P w lo ag ks v∧eF P w lo r vs
 |_,_=>False
def mkv:List Value→Value
 | [x]=>x
 |xs=> .tuple xs.toArray
theorem rp{w:World}{ρ:Ro}{E:Env}{lo:Nat}:∀(xs:List DV) (cells:List DP) (vs:List Value),unP xs=some cells→VRs w E lo (dvs ρ xs) vs→Cw w lo (aU ρ cells) vs
 | [],cells,vs,h,hv=>by
  simp only[unP,Ct]at h;subst h
  cases vs with
  |nil=>exact⟨rfl,fun j x hj=>by simp[aU]at hj⟩
  |cons v vs=>simp[dvs,VRs]at hv
 |x::xs,cells,vs,h,hv=>by
  unfold unP at h
  split at h
  ·rename_i heq;cases heq
  ·rename_i y r heq
   cases heq
   split at h
   ·rename_i ys hys
    simp only[Ct]at h;subst h
    cases vs with
    |nil=>simp[dvs,VRs]at hv
    |cons v vs=>
     simp only[dvs,VRs,DV.v,VR,flo]at hv
     have ih:=rp xs ys vs hys hv.2
     refine⟨by simp[aU,ih.len],fun j z hj=>?_⟩
     cases j with
     |zero=>simp[aU]at hj;subst hj;exact⟨v,rfl,Rep.nb hv.1⟩
     |succ j=>simp[aU]at hj;exact ih.rep j z hj
   ·cases h
  ·cases h
theorem o7{P:Program}{I:Pr}{w:World}{ρ:Ro}{E:Env}{lo:Nat}{p:TL.bD}(hg:Gok ρ)(ht:df P ρ p.tys)(hl:bR ρ p.lin):∀(kinds:List RK) (xs:List DV) (vs:List Value),nB p kinds xs=true→VRs w E lo (dvs ρ xs) vs→eF P w lo kinds vs
 | [],[],vs,_,hv=>by
  cases vs with
  |nil=>trivial
  |cons v vs=>simp[dvs,VRs]at hv
 | [],_::_,_,h,_=>by cases h
 |none::r,[],_,h,_=>by cases h
 |some _::r,[],_,h,_=>by cases h
 |none::r,x::xs,vs,h,hv=>by
  cases vs with
  |nil=>simp[dvs,VRs]at hv
  |cons v vs=>exact o7 (I:=I) hg ht hl r xs vs h (by simp only[dvs,VRs]at hv;exact hv.2)
 |some (ag,ks)::r,x::xs,vs,h,hv=>by
  cases vs with
  |nil=>simp[dvs,VRs]at hv
  |cons v vs=>
   simp only[dvs,VRs]at hv
   simp only[nB]at h
   split at h
   ·rename_i cells hc
    split at h
    ·rename_i gs hd
     split at h
     ·rename_i hgc
      refine⟨?_,o7 (I:=I) hg ht hl r xs vs h hv.2⟩
      have hw:=gq (I:=I) hg ht ks cells gs hd (vA hg hl hgc)
      unfold vB at hc
      split at hc
      ·rename_i ys
       have hv1:=hv.1
       simp only[DV.v,VR]at hv1
       obtain⟨us,rfl,hus⟩:=hv1
       exact⟨_,us,rfl,rp ys cells us hc hus,hw⟩
      ·rename_i y
       simp only[Ct]at hc;subst hc
       refine⟨_,[v],rfl,rp (E:=E) [.p y true] [y] [v] rfl ?_,hw⟩
       simp only[dvs,VRs];exact⟨hv.1,trivial⟩
      ·cases hc
     ·cases h
    ·cases h
   ·cases h
theorem Af{P:Program}{I:Pr}{w:World}{ρ:Ro}{E:Env}{lo:Nat}{p:TL.bD}(hg:Gok ρ)(ht:df P ρ p.tys)(hl:bR ρ p.lin){kinds:List RK}{v:Value}(h:nB p kinds p.res=true)(hv:VR w E lo ((dmk p.res).v ρ) v):
  ∃vs,v=mkv vs∧eF P w lo kinds vs:=by
 have key:∀xs:List DV,VR w E lo ((dmk xs).v ρ) v→∃vs,v=mkv vs∧VRs w E lo (dvs ρ xs) vs:=by
  intro xs hv
  match xs with
  | []=>
   simp only[dmk,DV.v,VR]at hv
   obtain⟨vs,rfl,h⟩:=hv
   have:vs=[]:=by cases vs with|nil=>rfl|cons v vs=>simp[dvs,VRs]at h
   subst this
   exact⟨[],rfl,h⟩
  | [x]=>exact⟨[v],rfl,by simp only[dvs,VRs];exact⟨hv,trivial⟩⟩
  |x::y::r=>
   simp only[dmk,DV.v,VR]at hv
   obtain⟨vs,rfl,h⟩:=hv
   refine⟨vs,?_,h⟩
   match vs,h with
   | [],h=>simp[dvs,VRs]at h
   | [u],h=>simp[dvs,VRs]at h
   |u::u'::us,h=>rfl
 obtain⟨vs,rfl,h2⟩:=key p.res hv
 exact⟨vs,rfl,o7 (I:=I) hg ht hl kinds p.res vs h h2⟩
theorem pZ{kinds:List RK}:∀{ps:List TL.bD},qA kinds ps=true→∀p∈ps,nB p kinds p.res=true
 | [],_,p,hp=>by simp at hp
 |q::r,h,p,hp=>by
  simp only[qA]at h
  split at h
  ·rename_i hq
   rcases CD hp with rfl|hp
   ·exact hq
   ·exact pZ h p hp
  ·cases h
end Go.TL.H
namespace Go.TL.H
open Go Go.ChangeShapes Go.WideShapes Go.ChangeAt Go.RowKit
theorem yP{w w':World}(h:Ch (fun _=>False) w w'):w.keptBut w' (fun _=>False):=by
 refine⟨h.os,h.output,fun i hi=>?_⟩
 rw[h.keep i hi fun h=>h]
 cases w.heap[i]? with
 |none=>rfl
 |some o=>cases o<;>simp
section
variable {H:Type} {enc:TypeId×Value→H} {P:Program}
theorem vC{f:Func}{s:ChangeSpec}{apart fresh handsOn again:Bool}{W W':World}{args:Array Value}{v:Value}{ds gs:List (DataW H)}{before pa pv:List MemPlace}
  (hW:DataW.Whole enc P f.params.toList s.vars apart W args.toList ds gs before)
  (hres:∀(b:Nat) (sp:Nat→Bool) (hd:Bool),DataW.TrodAll enc P W' b sp hd f.resultTypes.toList (v.resultList f.resultTypes.size) (s.fn H (ds++gs)).results [])
  (hargs:∀sp:Nat→Bool,(∀p∈before,sp p.block=true)→DataW.TrodAll enc P W' 0 sp true f.params.toList args.toList (s.fn H (ds++gs)).args pa)
  (hvars:∀sp:Nat→Bool,(∀p∈before,sp p.block=true)→DataW.TrodVars enc P W' sp s.vars (s.fn H (ds++gs)).vars pv)
  (hps:before=pa++pv)(hk:W.keptBut W' (· ∈before))(dZ:∀b off,MemPlace.cell b off∈before→W'.frozen? ⟨b,off,none⟩=W.frozen? ⟨b,off,none⟩)
  (aC:∀(j:Nat) (t:TypeId) (r:Value),f.resultTypes[j]? =some t→(v.resultList f.resultTypes.size)[j]? =some r→Value.okWide P W' .any 0 t r):
  s.post enc P f apart fresh handsOn again W args v W':=by
 have hold:∀p∈before,(fun b=>decide (b<W.heap.size)) p.block=true:=fun p hp=>by simpa using hW.lt p hp
 refine⟨ds,gs,before,[],pa,pv,hW,hres _ _ _,hargs _ hold,hvars _ hold,World.keptBut_mono (fun p hp=>⟨hp,?_⟩) hk,fun _=>?_⟩
 ·rw[hps,List.mem_append]at hp
  exact Or.inr hp
 ·obtain⟨_,_,_,_,_,hz,hn⟩:=hW
  refine⟨aC,_,_,([]++pa)++pv,⟨[]++pa,pv,trodAll_append (hargs _ (fun _ _=>rfl)) (hres _ _ _),hvars _ (fun _ _=>rfl),rfl,?_,?_⟩,?_⟩
  ·intro b off hp
   have hp':MemPlace.cell b off∈before:=by rw[hps];simpa using hp
   rw[dZ b off hp']
   exact hz b off hp'
  ·intro ha
   have:=hn ha
   rw[hps]at this
   simpa using this
  ·intro p hp _
   rw[hps]
   simpa using hp
theorem rY{f:FuncId}{fn:Func}{T tb:TypeId}{fs:Array Field}{s:ChangeSpec}{E:TypeId→Prop}{b:DataW H→Nat}{ba:List (DataW H)→Nat}(hb:Blk H b ba)
  (hrt:fn.resultTypes= #[tb])(hpt:fn.params= #[T])(hvars:s.vars=[])(gC:∀d:DataW H,s.fn H [d]={results:=[.lit (.bool true)],args:=[d]})(hbool:P.underlying tb=some .bool)(hT:P.underlying T=some (.struct fs))
  (hlaid:laidOutB P=true)(hrd:P.readableRec T=true)(aF:T<P.types.size)(jh:j6 P 8 T=true)(hE:∀e,E e→wJ P E e)(hks:∀e,.sl e∈cks P T→E e)
  (hwalk:∀(W:World) (xs:List Value) (row:List PV),dD P W→dz P W (cks P T) xs row→rz row≤2097152→Ret P f [.agg xs.toArray] W fun v w'=>v= .bool true∧Ch (fun _=>False) W w')
  {apart fresh handsOn again:Bool}(W:World)(hla:dD P W)(base:Nat)(args:Array Value)(ds gs:List (DataW H))(before:List MemPlace)
  (kf:∀(j:Nat) t v,fn.params[j]? =some t→args[j]? =some v→Value.okWide P W .any base t v)(hW:DataW.Whole enc P fn.params.toList s.vars apart W args.toList ds gs before)(hk:ba (ds++gs)≤1048576):
  Calls P f args W fun e W'=>∃v,e= .returned v∧s.post enc P fn apart fresh handsOn again W args v W':=by
 have hW':=hW
 obtain⟨p,q,hA,hV,rfl,dZ,hnd⟩:=hW
 rw[hpt]at hA
 obtain⟨v0,vs0,d0,ds0,p0,q0,hargs,rfl,rfl,h0,r0⟩:=trodAll_cons hA
 obtain⟨rfl,rfl,rfl⟩:=trodAll_nil r0
 obtain rfl:args= #[v0]:=by cases args;simp_all
 rw[hvars]at hV
 obtain⟨rfl,rfl⟩:=trodVars_none hV
 obtain⟨cs,rfl,dR⟩:=okWide_struct hT (kf 0 T v0 (by simp[hpt]) rfl)
 obtain⟨fuel,hfuel⟩:=h0
 have hcl:(Value.agg cs).cells.toList=cs.toList:=rfl
 rw[hcl]at hfuel
 simp only[List.append_nil]at hW' dZ hk
 have hbd:b d0≤1048576:=by simpa[hb.cons,hb.nil]using hk
 rw[←mw jh]at hks
 obtain⟨row,hg,hrz⟩:=wN hb hE fuel 8 T cs.toList d0 p0 hfuel dZ jh hks hbd
 rw[mw jh]at hg
 have hr:=hwalk W cs.toList row hla hg (by omega)
 have:([Value.agg cs.toList.toArray]:List Value).toArray= #[.agg cs]:=by simp
 unfold Ret at hr
 rw[this]at hr
 refine Calls.mono hr ?_
 rintro e W' ⟨v,rfl,rfl,a8⟩
 have hkept:=yP a8
 have hlt':∀p∈p0,p.block<W.heap.size:=fun p hp=>hW'.lt p hp
 refine⟨_,rfl,vC (pa:=p0) (pv:=[]) hW' ?_ ?_ ?_ (by simp) (World.keptBut_mono (fun _ h=>h.elim) hkept) ?_ ?_⟩
 ·intro b sp hd
  rw[List.append_nil,gC,hrt]
  exact trodAll_cons_mk (shut_bool hbool _) trodAll_mk0
 ·intro sp hsp
  rw[List.append_nil,gC,hpt]
  refine trodAll_mk1 ⟨fuel,?_⟩
  rw[hcl]
  refine DataW.trod_stays (kids_book hlaid hrd) (book_sized hrd) (fun h=>by cases h) ⟨aF,book_self T⟩ hfuel (fun p hp=>hkept.sameAt (hlt' p hp) (fun h=>h) (fun b e=>?_)) hsp
  have:=DataW.trod_good (kids_book hlaid hrd) (fun h=>by cases h) fuel T cs.toList (d0,p0) ⟨aF,book_self T⟩ hfuel p hp
  subst e
  exact this
 ·intro sp _
  rw[List.append_nil,gC,hvars];exact rfl
 ·intro b off hp
  have:=hlt' _ hp
  have hh:=a8.keep b this fun h=>h
  unfold World.frozen?
  simp only[hh]
 ·exact ok_one hrt rfl (okWide_bool_mk hbool _)
end
end Go.TL.H
