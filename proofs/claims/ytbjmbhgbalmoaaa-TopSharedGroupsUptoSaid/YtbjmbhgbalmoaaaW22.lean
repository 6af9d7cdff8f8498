/- What functions do, told by states; calls. -/
import Derived.Test.YtbjmbhgbalmoaaaW21
import Derived.Laws.Small
namespace Go.TL
structure bD where
 nw:Nat
 tys:List (Nat×TypeId)
 lin:List Lin
 prs:List PF
 tab:bY
 res:List DV
structure Spec where
 fn:Nat
 nv:Nat
 args:List DV
 tab:bY
 tys:List (Nat×TypeId)
 lin:List Lin
 prs:List PF
 xb:Lin
 jZ:List bD
def lf:Nat→List DV→fK
 |_,[]=>[]
 |k,x::xs=>(k,x)::lf (k+1) xs
def Spec.pre(s:Spec):DSt:=⟨lf 0 s.args,s.tab,s.tys,s.lin,s.prs,s.nv,[]⟩
def bD.st(p:bD)(nv:Nat):DSt:=⟨lf 0 p.res,p.tab,p.tys,p.lin,p.prs,nv+p.nw,[]⟩
def dmk:List DV→DV
 | [x]=>x
 |xs=> .bB xs
def mk:List SV→SV
 | [x]=>x
 |xs=> .bB xs
def qw(P:Program)(I:Pr)(s:Spec)(ρ:Ro):SV→Tab→Prop:=fun r T'=>
 ∃p∈s.jZ,∃ρ',aS s.nv ρ ρ'∧(p.st s.nv).ok P I ρ'∧r=(dmk p.res).v ρ'∧T'=dw ρ' p.tab
def mH(P:Program)(I:Pr)(N:Nat)(s:Spec):Prop:=∀ρ,s.pre.ok P I ρ→(s.xb.v ρ).toNat<N→FnS P s.fn (dvs ρ s.args) (dw ρ s.tab) (qw P I s ρ)
mutual
theorem ya(π π':Nat→Nat):∀x:SV,SV.rn π' (SV.rn π x)=SV.rn (fun k=>π' (π k)) x
 | .vec _=>by simp[SV.rn]
 | .ptr _ _=>by simp[SV.rn]
 | .aY _ _ _ _=>by simp[SV.rn]
 | .ref _=>by simp[SV.rn]
 | .agg xs=>by simp only[SV.rn,l9 π π' xs]
 | .bB xs=>by simp only[SV.rn,l9 π π' xs]
 | .fn f first aL=>by simp only[SV.rn,l9 π π' first,l9 π π' aL]
 | .bH t x=>by simp only[SV.rn,ya π π' x]
 | .u=>by simp[SV.rn]
 | .p _ _=>by simp[SV.rn]
 | .pd _ _ _=>by simp[SV.rn]
 | .pc _ _=>by simp[SV.rn]
theorem l9(π π':Nat→Nat):∀x:List SV,rns π' (rns π x)=rns (fun k=>π' (π k)) x
 | []=>by simp[rns]
 |x::xs=>by simp only[rns,ya π π' x,l9 π π' xs]
end
theorem FnS.pre{P:Program}{g:FuncId}{T T2:Tab}{R:SV→Tab→Prop}{args args2:List SV}(hT:∀k b,lk T k=some b→∃a,lk T2 k=some a∧∀w E lo,OR w E lo k a→OR w E lo k b)
  (hk:∀k,lk T2 k≠none→lk T k≠none)(ha:∀w E lo vs,VRs w E lo args2 vs→VRs w E lo args vs)(h:FnS P g args T R):FnS P g args2 T2 R:=by
 intro lo w E vals aV ht hv
 refine h lo w E vals aV ⟨?_,?_,?_,ht.ext⟩ (ha _ _ _ _ hv)
 ·intro k b hl
  obtain⟨a,h1,h2⟩:=hT k b hl
  exact h2 _ _ _ (ht.obj k a h1)
 ·intro k hn
  refine ht.dead k ?_
  cases hq:lk T2 k with
  |none=>rfl
  |some x=>exact absurd hn (hk k (by rw[hq];simp))
 ·intro b k hb
  obtain⟨h1,h2,h3⟩:=ht.own b k hb
  exact⟨h1,h2,hk k h3⟩
structure Cm where
 K:Nat
 e:TypeId
 sz:Nat
mutual
def DV.inB(T:bY):DV→Bool
 | .vec j=>(lk T j).isSome
 | .ptr j _=>(lk T j).isSome
 | .aY j _ _ _=>(lk T j).isSome
 | .ref j=>(lk T j).isSome
 | .agg xs=>js T xs
 | .bB xs=>js T xs
 | .fn _ first aL=>match js T first with|true=>js T aL|false=>false
 | .bH _ x=>DV.inB T x
 | .u=>true
 | .p _ _=>true
 | .pd _ _ _=>true
 | .pc _ _=>true
def js(T:bY):List DV→Bool
 | []=>true
 |x::xs=>match DV.inB T x with|true=>js T xs|false=>false
end
theorem iO{ρ:Ro}{T:bY}{k:Nat}:(lk (dw ρ T) k).isSome=(lk T k).isSome:=by rw[sB];cases lk T k<;>rfl
mutual
theorem yc{ρ:Ro}{T:bY}:∀x:DV,(x.v ρ).inB (dw ρ T)=x.inB T
 | .vec j=>by simp only[DV.v,SV.inB,DV.inB,iO]
 | .ptr j _=>by simp only[DV.v,SV.inB,DV.inB,iO]
 | .aY j _ _ _=>by simp only[DV.v,SV.inB,DV.inB,iO]
 | .ref j=>by simp only[DV.v,SV.inB,DV.inB,iO]
 | .agg xs=>by simp only[DV.v,SV.inB,DV.inB,kH xs]
 | .bB xs=>by simp only[DV.v,SV.inB,DV.inB,kH xs]
 | .fn _ first aL=>by simp only[DV.v,SV.inB,DV.inB,kH first,kH aL];rfl
 | .bH _ x=>by simp only[DV.v,SV.inB,DV.inB,yc x]
 | .u=>by simp only[DV.v,SV.inB,DV.inB]
 | .p _ _=>by simp only[DV.v,SV.inB,DV.inB]
 | .pd _ _ _=>by simp only[DV.v,SV.inB,DV.inB]
 | .pc _ _=>by simp only[DV.v,SV.inB,DV.inB]
theorem kH{ρ:Ro}{T:bY}:∀xs:List DV,gJ (dw ρ T) (dvs ρ xs)=js T xs
 | []=>by simp only[dvs,gJ,js]
 |x::xs=>by simp only[dvs,gJ,js,yc x,kH xs];rfl
end
def qx(T0:bY):bY→Bool
 | []=>true
 |(_,.box _ cells)::r=>match js T0 cells with|true=>qx T0 r|false=>false
 |_::r=>qx T0 r
theorem ma{ρ:Ro}{T0:bY}:∀r:bY,fo (dw ρ T0) (dw ρ r)=qx T0 r
 | []=>rfl
 |(k,x)::r=>by cases x<;>simp only[dw,DO.v,fo,qx,kH,ma r]<;>rfl
def Tm.vars:Tm→List Nat
 | .v k=>[k]
 | .i e=>e.vars
 | .b f=>f.vars
 | .s e=>e.vars
 | .l x=>eA x
def bD.vars(p:bD):List Nat:=bS p.res++(sr p.tab++(sK p.tys++(ri p.lin++sJ p.prs)))
theorem aS.symm{n:Nat}{ρ ρ':Ro}(h:aS n ρ ρ'):aS n ρ' ρ:=fun k hk=>(h k hk).symm
end Go.TL
namespace Go.TL
theorem gL.co{P:Program}{I:Pr}{n:Nat}{o:Oper}{σ σ1:DSt}{outs:List DSt}(c:Co1 P n σ σ1)(h:gL P I n o σ1 outs):gL P I n o σ outs:=by
 intro hs
 obtain⟨h1,h2⟩:=h (c.sc hs)
 refine⟨fun σ' dp=>⟨(h1 σ' dp).1,c.nx▸(h1 σ' dp).2⟩,?_⟩
 intro ρ aC K Q lo w0 E0 hK a w hh hd
 exact h2 ρ (c.ok aC) K Q lo w0 E0 (fun σ' dp ρ' ha=>hK σ' dp ρ' (c.nx▸ha)) a w (c.imp ρ lo w0 E0 a w hh) hd
abbrev Nm:=List (Nat×Nat)
def tU(K k:Nat)(m:Nm):Nm:=match lk m K with|some _=>m|none=>(K,k)::m
mutual
def yd:DV→DV→Nm→Nm
 | .vec K,y,m=>match y with| .vec k=>tU K k m|_=>m
 | .ptr K _,y,m=>match y with| .ptr k _=>tU K k m|_=>m
 | .aY K _ _ _,y,m=>match y with| .aY k _ _ _=>tU K k m|_=>m
 | .ref K,y,m=>match y with| .ref k=>tU K k m|_=>m
 | .agg xs,y,m=>match y with| .agg ys=>mb xs ys m|_=>m
 | .bB xs,y,m=>match y with| .bB ys=>mb xs ys m|_=>m
 | .fn _ a b,y,m=>match y with| .fn _ c d=>mb b d (mb a c m)|_=>m
 | .bH _ x,y,m=>match y with| .bH _ y=>yd x y m|_=>m
 | .u,_,m=>m
 | .p _ _,_,m=>m
 | .pd _ _ _,_,m=>m
 | .pc _ _,_,m=>m
def mb:List DV→List DV→Nm→Nm
 |x::xs,ys,m=>match ys with|y::ys=>mb xs ys (yd x y m)| []=>m
 | [],_,m=>m
end
mutual
def z8(S:bY):DV→DV→List Co→List Co
 | .p x _,y,l=>match x,y with
  | .sl _,.vec k=>gH (.fz k) l
  | .mp _ _,.ref k=>gH (.fz k) l
  |_,_=>l
 | .pc _ _,y,l=>match y with| .vec k=>gH (.fz k) l|_=>l
 | .pd _ _ _,y,l=>match y with
  | .ptr k _=>(match lk S k with|some (.box _ cells)=>qs S k cells l|_=>l)
  |_=>l
 | .agg xs,y,l=>match y with| .agg ys=>qy S xs ys l|_=>l
 | .bB xs,y,l=>match y with| .bB ys=>qy S xs ys l|_=>l
 | .fn _ _ b,y,l=>match y with| .fn _ _ d=>qy S b d l|_=>l
 | .bH _ x,y,l=>match y with| .bH _ y=>z8 S x y l|_=>l
 | .vec _,_,l=>l
 | .ptr _ _,_,l=>l
 | .u,_,l=>l
 | .aY _ _ _ _,_,l=>l
 | .ref _,_,l=>l
def qy(S:bY):List DV→List DV→List Co→List Co
 |x::xs,ys,l=>match ys with|y::ys=>qy S xs ys (z8 S x y l)| []=>l
 | [],_,l=>l
end
end Go.TL
namespace Go.TL
end Go.TL
namespace Go.TL
def ka:Pr:=fun id vs=>
 match id % 16,vs with
 |15,l=>match id / 16,l with
  |4,[l]=>∀row∈l.l,∃(k:Int) (r:List PV),row= .v (.int .i64 k)::r∧(k=1∨k=3)
  |5,[b,k,s]=>b.b=((k.n==8) && (s.s.toList==(⟨#[125]⟩:ByteArray).toList))
  |_,_=>True
 |_,_=>True
structure Cn(I:Pr):Prop where
 eq:∀id vs,id≠0→I id vs=ka id vs
end Go.TL
namespace Go.TL
end Go.TL
