/- What functions do, told by states; calls. -/
import Derived.Test.YtpoamlpahljebaaGreatDoorW20
import Derived.Laws.Small
namespace Go.TL
structure cb where
 nw:Nat
 tys:List (Nat×TypeId)
 lin:List Lin
 prs:List PF
 tab:aF
 res:List DV
structure Spec where
 fn:Nat
 nv:Nat
 args:List DV
 tab:aF
 tys:List (Nat×TypeId)
 lin:List Lin
 prs:List PF
 kQ:Lin
 mJ:List cb
def fL:Nat→List DV→bX
 |_,[]=>[]
 |k,x::xs=>(k,x)::fL (k+1) xs
theorem nY(ρ:Ro):∀(k:Nat) (l:List DV),cV ρ (fL k l)=fk k (dvs ρ l)
 |_,[]=>by simp[fL,cV,dvs,fk]
 |k,x::xs=>by simp only[fL,cV,dvs,fk,nY ρ (k+1) xs]
def Spec.pre(s:Spec):DSt:=⟨fL 0 s.args,s.tab,s.tys,s.lin,s.prs,s.nv,[]⟩
def cb.st(p:cb)(nv:Nat):DSt:=⟨fL 0 p.res,p.tab,p.tys,p.lin,p.prs,nv+p.nw,[]⟩
def dmk:List DV→DV
 | [x]=>x
 |xs=> .bL xs
def mk:List SV→SV
 | [x]=>x
 |xs=> .bL xs
theorem XN(ρ:Ro):∀l:List DV,(dmk l).v ρ=mk (dvs ρ l)
 | []=>by simp[dmk,mk,DV.v,dvs]
 | [x]=>by simp[dmk,mk,dvs]
 |x::y::r=>by simp[dmk,mk,DV.v,dvs]
def pI(P:Program)(I:Pr)(s:Spec)(ρ:Ro):SV→Tab→Prop:=fun r T'=>
 ∃p∈s.mJ,∃ρ',au s.nv ρ ρ'∧(p.st s.nv).ok P I ρ'∧r=(dmk p.res).v ρ'∧T'=aU ρ' p.tab
def ka(P:Program)(I:Pr)(N:Nat)(s:Spec):Prop:=∀ρ,s.pre.ok P I ρ→(s.kQ.v ρ).toNat<N→FnS P s.fn (dvs ρ s.args) (aU ρ s.tab) (pI P I s ρ)
def VO(P:Program)(I:Pr)(s:Spec):Prop:=∀ρ,s.pre.ok P I ρ→FnS P s.fn (dvs ρ s.args) (aU ρ s.tab) (pI P I s ρ)
def kq:List (Nat×Nat)→Nat→Nat
 | [],k=>k
 |(a,b)::r,k=>kq r (sw a b k)
mutual
theorem LW(π π':Nat→Nat):∀x:SV,SV.rn π' (SV.rn π x)=SV.rn (fun k=>π' (π k)) x
 | .vec _=>by simp[SV.rn]
 | .ptr _ _=>by simp[SV.rn]
 | .bn _ _ _ _=>by simp[SV.rn]
 | .ref _=>by simp[SV.rn]
 | .agg xs=>by simp only[SV.rn,sO π π' xs]
 | .bL xs=>by simp only[SV.rn,sO π π' xs]
 | .fn f first aQ=>by simp only[SV.rn,sO π π' first,sO π π' aQ]
 | .cL t x=>by simp only[SV.rn,LW π π' x]
 | .u=>by simp[SV.rn]
 | .p _ _=>by simp[SV.rn]
 | .pd _ _ _=>by simp[SV.rn]
 | .pc _ _=>by simp[SV.rn]
theorem sO(π π':Nat→Nat):∀x:List SV,rns π' (rns π x)=rns (fun k=>π' (π k)) x
 | []=>by simp[rns]
 |x::xs=>by simp only[rns,LW π π' x,sO π π' xs]
end
theorem VP(π π':Nat→Nat)(o:OV):OV.rn π' (OV.rn π o)=OV.rn (fun k=>π' (π k)) o:=by cases o<;>simp[OV.rn,sO]
theorem Bf(π π':Nat→Nat):∀T:Tab,eo π' (eo π T)=eo (fun k=>π' (π k)) T
 | []=>rfl
 |(k,x)::r=>by simp only[eo,VP,Bf π π' r]
theorem FnS.sws{P:Program}{f:FuncId}:∀(l:List (Nat×Nat)) {args:List SV} {T:Tab} {R:SV→Tab→Prop},FnS P f args T R→
  FnS P f (rns (kq l) args) (eo (kq l) T) fun r T'=>∃r0 T0,R r0 T0∧r=SV.rn (kq l) r0∧T'=eo (kq l) T0
 | [],args,T,R,h=>by
  have e:kq []=fun k=>k:=rfl
  rw[e,sF,A4]
  exact h.mono fun r T' hR=>⟨r,T',hR,(F6 r).symm,(A4 T').symm⟩
 |(a,b)::l,args,T,R,h=>by
   have h1:=FnS.sws l (h.sw a b)
   rw[sO,Bf]at h1
   refine h1.mono ?_
   rintro r T' ⟨r0,T0,⟨r1,T1,hR,rfl,rfl⟩,rfl,rfl⟩
   exact⟨r1,T1,hR,by rw[LW];rfl,by rw[Bf];rfl⟩
theorem FnS.pre{P:Program}{g:FuncId}{T T2:Tab}{R:SV→Tab→Prop}{args args2:List SV}(hT:∀k b,lk T k=some b→∃a,lk T2 k=some a∧∀w E lo,OR w E lo k a→OR w E lo k b)
  (hk:∀k,lk T2 k≠none→lk T k≠none)(ha:∀w E lo vs,VRs w E lo args2 vs→VRs w E lo args vs)(h:FnS P g args T R):FnS P g args2 T2 R:=by
 intro lo w E vals aR ht hv
 refine h lo w E vals aR ⟨?_,?_,?_,ht.ext⟩ (ha _ _ _ _ hv)
 ·intro k b hl
  obtain⟨a,h1,h2⟩:=hT k b hl
  exact h2 _ _ _ (ht.obj k a h1)
 ·intro k hn
  refine ht.dead k ?_
  cases hq:lk T2 k with
  |none=>rfl
  |some x=>exact absurd hn (hk k (by rw[hq];simp))
 ·intro b k hb
  obtain⟨h1,h2,h3⟩:=ht.own b k hb
  exact⟨h1,h2,hk k h3⟩
structure wE where
 K:Nat
 e:TypeId
 sz:Nat
def p9:List wE→aF→aF
 | [],T=>T
 |a::r,T=>p9 r ((a.K,.vec a.e a.sz none true)::T)
def yp(K:Nat):List DV→List DV
 | []=>[]
 |x::xs=>(match x with| .vec j=>(match Nat.beq j K with|true=> .p .nl true|false=> .vec j)|x=>x)::yp K xs
def uQ:List wE→List DV→List DV
 | [],l=>l
 |a::r,l=>yp a.K (uQ r l)
def Gd:List wE→aF→Bool
 | [],_=>true
 |a::r,T=>match(lk T a.K).isSome,Nat.ble 1 a.sz with
  |false,true=>Gd r ((a.K,.vec a.e a.sz none true)::T)
  |_,_=>false
theorem HY(ρ:Ro)(K:Nat):∀l:List DV,dvs ρ (yp K l)=qJ K (dvs ρ l)
 | []=>by simp[yp,dvs,qJ]
 |x::xs=>by
  simp only[yp,dvs,qJ,HY ρ K xs]
  congr 1
  cases x with
  |vec j=>simp only[DV.v];cases Nat.beq j K<;>simp[DV.v,DP.v]
  |_=>simp only[DV.v]
theorem FnS.kh{P:Program}{ρ:Ro}{g:FuncId}{R:SV→Tab→Prop}:∀{l:List wE} {T:aF} {args:List DV},Gd l T=true→FnS P g (dvs ρ args) (aU ρ (p9 l T)) R→FnS P g (dvs ρ (uQ l args)) (aU ρ T) R
 | [],T,args,_,h=>h
 |a::r,T,args,hb,h=>by
  simp only[Gd]at hb
  split at hb
  ·rename_i h1 h2
   have h3:=FnS.kh (l:=r) hb h
   refine FnS.U7 a.K a.e a.sz (dvs ρ (uQ r args)) ?_ ?_ h2 h3
   ·simp only[uQ];exact(HY ρ a.K _).symm
   ·rw[dD];cases hq:lk T a.K with
    |none=>rfl
    |some x=>rw[hq]at h1;simp at h1
  ·cases hb
def qa(P:Program)(σ:DSt)(o:Oper):Option (Nat×List DV):=
 match o.op with
 | .call c=>match c.callee with
  | .value f=>match dev σ f with
   | .fn (.func g) first aQ=>some (g,apps first (apps (mO σ c.args.toList) aQ))
   |_=>none
  | .invoke r m=>match dev σ r with
   | .cL t x=>match methodOf P t m with
    |some g=>some (g,x::mO σ c.args.toList)
    |none=>none
   |_=>none
  |_=>none
 |_=>none
theorem HZ(ρ:Ro):∀a b:List DV,dvs ρ (apps a b)=apps (dvs ρ a) (dvs ρ b)
 | [],b=>by simp[apps,dvs]
 |x::a,b=>by simp only[apps,dvs,HZ ρ a b]
theorem Jk{P:Program}(ρ:Ro){σ:DSt}{o:Oper}{g:Nat}{xs:List DV}(h:qa P σ o=some (g,xs)):r6 P (σ.v ρ) o=some (g,dvs ρ xs):=by
 unfold qa at h
 unfold r6
 split at h
 ·rename_i c kU
  split at h
  ·rename_i f hcv
   split at h
   ·rename_i g' first aQ hf
    simp only[ZS,ZT]at h;obtain⟨rfl,rfl⟩:=h
    simp only[kU,hcv,aK,hf,DV.v,HZ,BX]
   ·cases h
  ·rename_i r m hcv
   split at h
   ·rename_i t x hf
    split at h
    ·rename_i g' hm
     simp only[ZS,ZT]at h;obtain⟨rfl,rfl⟩:=h
     simp only[kU,hcv,aK,hf,DV.v,hm,dvs,BX]
    ·cases h
   ·cases h
  ·cases h
 ·cases h
mutual
def DV.inB(T:aF):DV→Bool
 | .vec j=>(lk T j).isSome
 | .ptr j _=>(lk T j).isSome
 | .bn j _ _ _=>(lk T j).isSome
 | .ref j=>(lk T j).isSome
 | .agg xs=>pJ T xs
 | .bL xs=>pJ T xs
 | .fn _ first aQ=>match pJ T first with|true=>pJ T aQ|false=>false
 | .cL _ x=>DV.inB T x
 | .u=>true
 | .p _ _=>true
 | .pd _ _ _=>true
 | .pc _ _=>true
def pJ(T:aF):List DV→Bool
 | []=>true
 |x::xs=>match DV.inB T x with|true=>pJ T xs|false=>false
end
theorem kb{ρ:Ro}{T:aF}{k:Nat}:(lk (aU ρ T) k).isSome=(lk T k).isSome:=by rw[dD];cases lk T k<;>rfl
mutual
theorem Sv{ρ:Ro}{T:aF}:∀x:DV,(x.v ρ).inB (aU ρ T)=x.inB T
 | .vec j=>by simp only[DV.v,SV.inB,DV.inB,kb]
 | .ptr j _=>by simp only[DV.v,SV.inB,DV.inB,kb]
 | .bn j _ _ _=>by simp only[DV.v,SV.inB,DV.inB,kb]
 | .ref j=>by simp only[DV.v,SV.inB,DV.inB,kb]
 | .agg xs=>by simp only[DV.v,SV.inB,DV.inB,sP xs]
 | .bL xs=>by simp only[DV.v,SV.inB,DV.inB,sP xs]
 | .fn _ first aQ=>by simp only[DV.v,SV.inB,DV.inB,sP first,sP aQ];rfl
 | .cL _ x=>by simp only[DV.v,SV.inB,DV.inB,Sv x]
 | .u=>by simp only[DV.v,SV.inB,DV.inB]
 | .p _ _=>by simp only[DV.v,SV.inB,DV.inB]
 | .pd _ _ _=>by simp only[DV.v,SV.inB,DV.inB]
 | .pc _ _=>by simp only[DV.v,SV.inB,DV.inB]
theorem sP{ρ:Ro}{T:aF}:∀xs:List DV,lN (aU ρ T) (dvs ρ xs)=pJ T xs
 | []=>by simp only[dvs,lN,pJ]
 |x::xs=>by simp only[dvs,lN,pJ,Sv x,sP xs];rfl
end
def CG(T0:aF):aF→Bool
 | []=>true
 |(_,.box _ cells)::r=>match pJ T0 cells with|true=>CG T0 r|false=>false
 |_::r=>CG T0 r
theorem uR{ρ:Ro}{T0:aF}:∀r:aF,jE (aU ρ T0) (aU ρ r)=CG T0 r
 | []=>rfl
 |(k,x)::r=>by cases x<;>simp only[aU,DO.v,jE,CG,sP,uR r]<;>rfl
def CH(n:Nat)(T0 T:aF):aF→Bool
 | []=>true
 |(k,_)::r=>match(lk T0 k).isSome,(lk T k).isSome,Nat.ble (k+1) n with
   |true,_,_=>CH n T0 T r
   |false,false,true=>CH n T0 T r
   |_,_,_=>false
theorem OE{ρ ρ':Ro}{n:Nat}{T0 T:aF}:∀r:aF,kB n (aU ρ T0) (aU ρ T) (aU ρ' r)=CH n T0 T r
 | []=>rfl
 |(k,x)::r=>by
   simp only[aU,kB,CH,kb,OE r];rfl
def zB(T':aF):List Nat→List Nat
 | []=>[]
 |k::ks=>match(lk T' k).isSome with|true=>zB T' ks|false=>k::zB T' ks
theorem H0{ρ:Ro}{T':aF}:∀ks:List Nat,gone (aU ρ T') ks=zB T' ks
 | []=>rfl
 |k::ks=>by simp only[gone,zB,kb,H0 ks];rfl
theorem H2{ρ:Ro}:∀T:aF,keys (aU ρ T)=dU T
 | []=>rfl
 |(k,x)::r=>by simp only[aU,keys,dU,H2 r]
def qb:List Nat→bX→bX
 | [],l=>l
 |k::ks,l=>qb ks (kK k .u (fun _=> .u) l)
def uS:List Nat→aF→aF
 | [],T=>T
 |k::ks,T=>uS ks (pX k .u (fun _=> .u) T)
theorem CI(ρ:Ro):∀(ks:List Nat) (l:bX),cV ρ (qb ks l)=kA ks (cV ρ l)
 | [],l=>rfl
 |k::ks,l=>by simp only[qb,kA,CI ρ ks,tw,dVU]
theorem H3(ρ:Ro):∀(ks:List Nat) (l:aF),aU ρ (uS ks l)=lW ks (aU ρ l)
 | [],l=>rfl
 |k::ks,l=>by simp only[uS,lW,H3 ρ ks,zd,dVU]
theorem Sw(ρ:Ro):∀(ks:List Nat) (l:aF),aU ρ (rmK ks l)=rmK ks (aU ρ l)
 | [],l=>rfl
 |k::ks,l=>by simp only[rmK,Sw ρ ks,nj]
theorem Sy(ρ:Ro):∀(a b:aF),aU ρ (app a b)=app (aU ρ a) (aU ρ b)
 | [],b=>rfl
 |(k,x)::a,b=>by simp only[app,aU,Sy ρ a b]
def Sz(T0 T':aF)(S:bX):bX:=qb (zB T' (dU T0)) S
def LX(T0 T':aF)(T:aF):aF:=app T' (uS (zB T' (dU T0)) (rmK (dU T0) T))
theorem sQ:∀(ks:List Nat) {a b:List (Nat×SV)},(∀t,lk a t=lk b t)→∀t,lk (kA ks a) t=lk (kA ks b) t
 | [],_,_,h=>h
 |k::ks,a,b,h=>sQ ks fun t=>by rw[pF,pF,h t]
theorem uT:∀(ks:List Nat) {a b:Tab},(∀t,lk a t=lk b t)→∀t,lk (lW ks a) t=lk (lW ks b) t
 | [],_,_,h=>h
 |k::ks,a,b,h=>uT ks fun t=>by rw[tA,tA,h t]
theorem Ap{α:Type}:∀(ks:List Nat) {a b:List (Nat×α)},(∀t,lk a t=lk b t)→∀t,lk (rmK ks a) t=lk (rmK ks b) t
 | [],_,_,h=>h
 |k::ks,a,b,h=>Ap ks fun t=>by rw[qS,qS,h t]
theorem H4{n:Nat}:∀(ks:List Nat) {S:bX},(∀t v,lk S t=some v→Sc n v.vars)→∀t v,lk (qb ks S) t=some v→Sc n v.vars
 | [],_,h=>h
 |k::ks,S,h=>H4 ks fun t v hl=>by
  rw[pE]at hl
  cases hq:lk S t with
  |none=>simp[hq]at hl
  |some x=>simp only[hq,Option.map_some,ZS]at hl;subst hl;exact Go.TL.qR (by simp[DV.vars,Sc.nil]) (fun _=>by simp[DV.vars,Sc.nil]) (h t x hq)
theorem CJ{n:Nat}:∀(ks:List Nat) {S:aF},(∀t v,lk S t=some v→Sc n v.vars)→∀t v,lk (uS ks S) t=some v→Sc n v.vars
 | [],_,h=>h
 |k::ks,S,h=>CJ ks fun t v hl=>by
  rw[tz]at hl
  cases hq:lk S t with
  |none=>simp[hq]at hl
  |some x=>simp only[hq,Option.map_some,ZS]at hl;subst hl;exact DO.qR (by simp[DV.vars,Sc.nil]) (fun _=>by simp[DV.vars,Sc.nil]) (h t x hq)
def Tm.vars:Tm→List Nat
 | .v k=>[k]
 | .i e=>e.vars
 | .b f=>f.vars
 | .s e=>e.vars
 | .l x=>a8 x
def Bg(n:Nat):Th→Bool
 | []=>true
 |(_,t)::r=>match scB n t.vars with|true=>Bg n r|false=>false
theorem Kb{n:Nat}:∀{θ:Th},Bg n θ=true→∀k t,lk θ k=some t→Sc n t.vars
 |(j,t0)::r,h,k,t,hl=>by
   simp only[Bg]at h
   split at h
   ·rename_i h1
    simp only[lk]at hl
    cases hb:Nat.beq j k with
    |true=>simp only[hb,ZS]at hl;subst hl;exact p7 h1
    |false=>simp only[hb]at hl;exact Kb h k t hl
   ·cases h
def zC(θ:Th):Nat→Bool
 |0=>true
 |n+1=>match lk θ n with|some _=>zC θ n|none=>false
theorem H5{θ:Th}:∀{n:Nat},zC θ n=true→∀k,k<n→∃t,lk θ k=some t
 |n+1,h,k,hk=>by
  simp only[zC]at h
  split at h
  ·rename_i t ht
   by_cases e:k=n
   ·subst e;exact⟨t,ht⟩
   ·exact H5 h k (by omega)
  ·cases h
theorem XO{n:Nat}{ρ ρ2:Ro}{θ:Th}(ha:au n ρ ρ2)(hs:Bg n θ=true){k:Nat}{t:Tm}(hl:lk θ k=some t):ap ρ2 θ k=ap ρ θ k:=by
 have h:=Kb hs k t hl
 simp only[ap,hl]
 cases t<;>simp only[Tm.vars]at h
 case v j=>exact ha j (Sc.cons.1 h).1
 case i e=>simp only[Lin.ag ha h]
 case b f=>simp only[BF.ag ha h]
 case s e=>simp only[SE.ag ha h]
 case l l=>simp only[gv ha h]
def nZ(nv nx:Nat):Nat→Th
 |0=>[]
 |w+1=>(nv+w,.v (nx+w))::nZ nv nx w
theorem yq(nv nx:Nat):∀(w k:Nat),lk (nZ nv nx w) k=if nv≤k∧k<nv+w then some (.v (nx+(k - nv)))else none
 |0,k=>by rw[if_neg (by omega)];rfl
 |w+1,k=>by
  simp only[nZ,cK,yq nv nx w k]
  by_cases e:k=nv+w
  ·subst e;rw[if_pos rfl,if_pos ⟨by omega,by omega⟩];congr 3;omega
  ·rw[if_neg e]
   by_cases h:nv≤k∧k<nv+w
   ·rw[if_pos h,if_pos ⟨h.1,by omega⟩]
   ·rw[if_neg h,if_neg (by omega)]
theorem yr{α:Type}:∀(a b:List (Nat×α)) (k:Nat),lk (a++b) k=match lk a k with|some x=>some x|none=>lk b k
 | [],b,k=>rfl
 |(j,x)::a,b,k=>by
   simp only[List.cons_append,lk]
   cases Nat.beq j k with
   |true=>rfl
   |false=>exact yr a b k
def ia(nv nx w:Nat)(ρ ρ':Ro):Ro:=fun k=>if nx≤k∧k<nx+w then ρ' (nv+(k - nx))else ρ k
theorem Fp(nv nx w:Nat)(ρ ρ':Ro):au nx ρ (ia nv nx w ρ ρ'):=fun k hk=>by unfold ia;rw[if_neg (by omega)]
theorem OF{nv nx w:Nat}{ρ ρ':Ro}{θ:Th}(ha:zC θ nv=true)(hs:Bg nx θ=true)(hag:au nv (ap ρ θ) ρ'):au (nv+w) (ap (ia nv nx w ρ ρ') (nZ nv nx w++θ)) ρ':=by
 intro k hk
 by_cases h:k<nv
 ·obtain⟨t,ht⟩:=H5 ha k h
  have e1:lk (nZ nv nx w++θ) k=some t:=by rw[yr,yq,if_neg (by omega)];exact ht
  have e2:ap (ia nv nx w ρ ρ') (nZ nv nx w++θ) k=ap (ia nv nx w ρ ρ') θ k:=by simp only[ap,e1,ht]
  rw[e2,XO (Fp nv nx w ρ ρ') hs ht];exact hag k h
 ·have e1:lk (nZ nv nx w++θ) k=some (.v (nx+(k - nv))):=by rw[yr,yq,if_pos (by omega)]
  simp only[ap,e1,ia]
  rw[if_pos (by omega)];congr 1;omega
theorem QU{nv nx w:Nat}{ρ ρ':Ro}(h:Gok ρ)(h':Gok ρ'):Gok (ia nv nx w ρ ρ'):=by
 have key:∀k,ia nv nx w ρ ρ' k=ρ' (nv+(k - nx))∨ia nv nx w ρ ρ' k=ρ k:=fun k=>by unfold ia;split<;>simp
 constructor<;>intro k<;>rcases key k with e|e<;>rw[e]
 ·exact h'.lo _
 ·exact h.lo _
 ·exact h'.hi _
 ·exact h.hi _
 ·exact h'.st _
 ·exact h.st _
 ·exact h'.ln _
 ·exact h.ln _
def uU(θ:Th):List (Nat×TypeId)→List (Nat×TypeId)
 | []=>[]
 |(k,e)::r=>match oQ θ (some k)with
   |some j=>(j,e)::uU θ r
   |none=>uU θ r
theorem yt{P:Program}{ρ:Ro}{θ:Th}:∀{l:List (Nat×TypeId)},dA P (ap ρ θ) l→dA P ρ (uU θ l)
 | [],_=>trivial
 |(k,e)::r,h=>by
   simp only[uU]
   have nH:=mj ρ θ (some k)
   simp only[lvV]at nH
   split
   ·rename_i j hj
    rw[hj]at nH
    exact⟨by have:=h.1;rw[←nH]at this;exact this,yt h.2⟩
   ·exact yt h.2
def Bh(θ:Th):List Lin→List Lin
 | []=>[]
 |e::r=>e.si θ::Bh θ r
theorem CM{ρ:Ro}{θ:Th}:∀{l:List Lin},bh (ap ρ θ) l→bh ρ (Bh θ l)
 | [],_=>trivial
 |e::r,h=>⟨by rw[Lin.gf];exact h.1,CM h.2⟩
def uV(θ:Th):List PF→List PF
 | []=>[]
 |f::r=>match f.inst θ with
  |some g=>g::uV θ r
  |none=>uV θ r
theorem yu{I:Pr}{ρ:Ro}{θ:Th}:∀{l:List PF},c5 I (ap ρ θ) l→c5 I ρ (uV θ l)
 | [],_=>trivial
 |f::r,h=>by
  simp only[uV]
  split
  ·rename_i g hg;exact⟨(PF.ml I ρ θ hg).2 h.1,yu h.2⟩
  ·exact yu h.2
def cb.vars(p:cb):List Nat:=aD p.res++(ni p.tab++(nB p.tys++(kO p.lin++nA p.prs)))
def sR(n:Nat)(σ1:DSt)(o:Oper)(T0:aF)(θ:Th)(π:Nat→Nat)(nv:Nat)(p:cb):Option DSt:=
 let θp:=nZ nv σ1.nx p.nw++θ
 let nx:=σ1.nx+p.nw
 match j7 θp π p.tab with
 |some T'=>
  let res:=(dmk p.res).inst θp π
  let tys:=uU θp p.tys
  let lin:=Bh θp p.lin
  let prs:=uV θp p.prs
  match CH n T0 σ1.tab T',scB nx (res.vars++(ni T'++(nB tys++(kO lin++nA prs)))),scB (nv+p.nw) p.vars with
  |true,true,true=>some (DSt.put ⟨Sz T0 T' σ1.ah,LX T0 T' σ1.tab,tys++σ1.tys,lin++σ1.lin,prs++σ1.prs,nx,σ1.hc⟩ o.dst res)
  |_,_,_=>none
 |none=>none
theorem Ed{n:Nat}{ρ ρ':Ro}(h:au n ρ ρ'):∀{l:aF},Sc n (ni l)→aU ρ' l=aU ρ l
 | [],_=>rfl
 |(k,x)::r,hs=>by simp only[ni,Sc.app]at hs;simp only[aU,DO.ag h hs.1,Ed h hs.2]
theorem H6{P:Program}{n:Nat}{ρ ρ':Ro}(h:au n ρ ρ'):∀{l:List (Nat×TypeId)},Sc n (nB l)→dA P ρ l→dA P ρ' l
 | [],_,_=>trivial
 |(k,e)::r,hs,hv=>by
   simp only[nB,Sc.cons]at hs
   exact⟨by rw[h k hs.1];exact hv.1,H6 h hs.2 hv.2⟩
theorem Fq{n:Nat}{ρ ρ':Ro}(h:au n ρ ρ'):∀{l:List Lin},Sc n (kO l)→bh ρ l→bh ρ' l
 | [],_,_=>trivial
 |e::r,hs,hv=>by
  simp only[kO,Sc.app]at hs
  exact⟨by rw[Lin.ag h hs.1];exact hv.1,Fq h hs.2 hv.2⟩
theorem H7{I:Pr}{n:Nat}{ρ ρ':Ro}(h:au n ρ ρ'):∀{l:List PF},Sc n (nA l)→c5 I ρ l→c5 I ρ' l
 | [],_,_=>trivial
 |e::r,hs,hv=>by
  simp only[nA,Sc.app]at hs
  exact⟨by rw[PF.ag h hs.1];exact hv.1,H7 h hs.2 hv.2⟩
theorem QV(l:List DV):(dmk l).vars=aD l:=by
 unfold dmk;split
 ·simp[aD]
 ·simp[DV.vars]
theorem au.symm{n:Nat}{ρ ρ':Ro}(h:au n ρ ρ'):au n ρ' ρ:=fun k hk=>(h k hk).symm
theorem Aq{P:Program}{I:Pr}{n nv:Nat}{σ1 σ':DSt}{o:Oper}{T0:aF}{θ:Th}{π:Nat→Nat}{p:cb}(h:sR n σ1 o T0 θ π nv p=some σ')(hs:σ1.sc)(fS:zC θ nv=true)(htm:Bg σ1.nx θ=true):
  σ'.sc∧σ1.nx≤σ'.nx∧∀ρ ρ',σ1.ok P I ρ→au nv (ap ρ θ) ρ'→(p.st nv).ok P I ρ'→
   kB n (aU ρ T0) (σ1.v ρ).tab (eo π (aU ρ' p.tab))=true∧
   ∃ρ2,au σ1.nx ρ ρ2∧σ'.ok P I ρ2∧cq ((St.after (σ1.v ρ) (aU ρ T0) (eo π (aU ρ' p.tab))).put o.dst (SV.rn π ((dmk p.res).v ρ'))) (σ'.v ρ2):=by
 unfold sR at h
 simp only at h
 split at h
 ·rename_i T' hT'
  split at h
  ·rename_i h1 h2 h3
   simp only[ZS]at h;subst h
   have h2:=p7 h2
   have h3:=p7 h3
   simp only[cb.vars,Sc.app]at h2 h3
   have hnx:σ1.nx≤σ1.nx+p.nw:=Nat.le_add_right _ _
   refine⟨?_,by rw[di];exact hnx,?_⟩
   ·refine DSt.sc.put ⟨?_,?_,?_,?_,?_⟩ o.dst h2.1
    ·exact H4 _ fun t v hl=>(hs.ah t v hl).mono hnx
    ·intro k v hl
     simp only[LX]at hl
     rw[pR]at hl
     split at hl
     ·rename_i x hx
      simp only[ZS]at hl;subst hl
      exact wA h2.2.1 k x hx
     ·exact CJ _ (fun t v hl=>(hs.tab t v (BE _ _ _ _ hl).1).mono hnx) k v hl
    ·intro k e he
     rcases Z0 he with he|he
     ·exact wC h2.2.2.1 k e he
     ·exact Nat.lt_of_lt_of_le (hs.tys k e he) hnx
    ·intro e he
     rcases Z0 he with he|he
     ·exact tX h2.2.2.2.1 e he
     ·exact(hs.lin e he).mono hnx
    ·intro e he
     rcases Z0 he with he|he
     ·exact wB h2.2.2.2.2 e he
     ·exact(hs.prs e he).mono hnx
   ·intro ρ ρ' ab hag hp
    have ha2:=Fp nv σ1.nx p.nw ρ ρ'
    have hap:=OF (w:=p.nw) fS htm hag
    have hap':=hap.symm
    have hT2:aU (ia nv σ1.nx p.nw ρ ρ') T'=eo π (aU ρ' p.tab):=by
     rw[yc _ _ π hT',Ed hap' h3.2.1]
    refine⟨?_,ia nv σ1.nx p.nw ρ ρ',ha2,?_,?_⟩
    ·rw[←hT2]
     show kB n (aU ρ T0) (aU ρ σ1.tab) _=true
     rw[OE];exact h1
    ·have hk:=ab.ag hs ha2 (QU ab.g hp.g)
     exact DSt.ok.put ⟨hk.g,pD.2 ⟨yt (H6 hap' h3.2.2.1 hp.tys),hk.tys⟩,dH (CM (Fq hap' h3.2.2.2.1 hp.lin)) hk.lin,mP.2 ⟨yu (H7 hap' h3.2.2.2.2 hp.prs),hk.prs⟩⟩ o.dst _
    ·rw[eF]
     have hr:((dmk p.res).inst (nZ nv σ1.nx p.nw++θ) π).v (ia nv σ1.nx p.nw ρ ρ')=SV.rn π ((dmk p.res).v ρ'):=by
      rw[ml,DV.ag hap' (by rw[QV];exact h3.1)]
     rw[hr]
     refine cq.put ?_ o.dst _
     have hsame:cq (σ1.v (ia nv σ1.nx p.nw ρ ρ')) (σ1.v ρ):=(DSt.fX hs ha2).symm
     constructor
     ·intro t
      simp only[St.after,DSt.v,Sz,CI,H2]
      rw[←hT2,H0]
      exact sQ _ (fun t=>(hsame.ah t).symm) t
     ·intro t
      simp only[St.after,DSt.v,LX,Sy,H3,Sw,H2]
      rw[←hT2,H0,pR,pR]
      split
      ·rfl
      ·exact uT _ (Ap _ fun t=>(hsame.tab t).symm) t
  ·cases h
 ·cases h
end Go.TL
namespace Go.TL
def qc(n:Nat)(σ1:DSt)(o:Oper)(T0:aF)(θ:Th)(π:Nat→Nat)(nv:Nat):List cb→Option (List DSt)
 | []=>some []
 |p::r=>match sR n σ1 o T0 θ π nv p,qc n σ1 o T0 θ π nv r with
  |some σ',some l=>some (σ'::l)
  |_,_=>none
theorem xh{n:Nat}{σ1:DSt}{o:Oper}{T0:aF}{θ:Th}{π:Nat→Nat}{nv:Nat}:∀{ps:List cb} {l:List DSt},qc n σ1 o T0 θ π nv ps=some l→
  (∀p∈ps,∃σ'∈l,sR n σ1 o T0 θ π nv p=some σ')∧∀σ'∈l,∃p∈ps,sR n σ1 o T0 θ π nv p=some σ'
 | [],l,h=>by simp only[qc,ZS]at h;subst h;exact⟨by simp,by simp⟩
 |p::r,l,h=>by
  simp only[qc]at h
  split at h
  ·rename_i σ' l' h1 h2
   simp only[ZS]at h;subst h
   obtain⟨a,b⟩:=xh h2
   refine⟨?_,?_⟩
   ·intro q hq
    rcases Z1 hq with rfl|hq
    ·exact⟨σ',ZW ..,h1⟩
    ·obtain⟨x,h3,h4⟩:=a q hq;exact⟨x,ZV _ h3,h4⟩
   ·intro x hx
    rcases Z1 hx with rfl|hx
    ·exact⟨p,ZW ..,h1⟩
    ·obtain⟨q,h3,h4⟩:=b x hx;exact⟨q,ZV _ h3,h4⟩
  ·cases h
def CN(T:aF):List Nat→Bool
 | []=>true
 |k::r=>match(lk T k).isSome with|true=>CN T r|false=>false
theorem CP{T:aF}:∀{l:List Nat},CN T l=true→∀k∈l,lk T k≠none
 |k::r,h,j,hj=>by
  simp only[CN]at h
  split at h
  ·rename_i h1
   rcases Z1 hj with rfl|hj
   ·intro e;rw[e]at h1;cases h1
   ·exact CP h j hj
  ·cases h
theorem Ar{α:Type}:∀{l:List (Nat×α)} {k:Nat},lk l k≠none→k∈dU l
 | [],k,h=>by simp[lk]at h
 |(j,x)::r,k,h=>by
   simp only[lk]at h
   simp only[dU,List.mem_cons]
   cases hb:Nat.beq j k with
   |true=>exact .inl (ZU hb).symm
   |false=>simp only[hb]at h;exact .inr (Ar h)
def SA(θ:Th)(e:Lin):Option Nat→List G
 |none=>[]
 |some m=>[.le (((e.si θ).aN 1).ax (-1) (Lin.at (4*m+2))),.le (Lin.scale (-1) (e.si θ)),.pf (.pr 0 [m])]
def H8(P:Program)(n:Nat)(s:Spec)(mx:Option Nat)(σ1:DSt)(o:Oper)(g:Nat)(rl:List DV)(π:Nat→Nat)(kh:List wE)(T0:aF)(θ:Th):bj:=
 match Nat.beq g s.fn,aP P s.fn,zC θ s.nv,Bg σ1.nx θ,rG θ σ1.tys s.tys with
 |true,true,true,true,true=>match D0 θ,HG θ s.prs,j7 θ π s.tab,qc n σ1 o T0 θ π s.nv s.mJ with
  |some g1,some g2,some T,some outs=>match Cg (p9 kh T0) T,CN T (dU (p9 kh T0)),Gd kh T0,nU rl (uQ kh (j6 θ π s.args))with
   |true,true,true,true=>match CG T0 T0,pJ T0 rl with
    |true,true=>some (outs,todo σ1 (g1++(F7 θ s.lin++(g2++SA θ s.kQ mx))))
    |_,_=>none
   |_,_,_,_=>none
  |_,_,_,_=>none
 |_,_,_,_,_=>none
def uW(P:Program)(I:Pr)(s:Spec):Option Nat→Prop
 |none=>VO P I s
 |some _=>∃N:Nat,(∀va:Va,I 0 [va]→rsz va.l≤N)∧ka P I N s
theorem Jl{P:Program}{I:Pr}{n:Nat}{s:Spec}{mx:Option Nat}{σ1:DSt}{o:Oper}{g:Nat}{rl:List DV}{l:List (Nat×Nat)}{kh:List wE}{ks:List Nat}{θ:Th}{outs:List DSt}{q:List Seq}
  (h:H8 P n s mx σ1 o g rl (kq l) kh (pick σ1.tab ks) θ=some (outs,q))(zX:uW P I s mx)(hc:qa P σ1 o=some (g,rl))(hV:Valid P I q):aS P I n o σ1 outs:=by
 unfold H8 at h
 split at h
 ·rename_i e1 e2 e3 e4 e5
  split at h
  ·rename_i g1 g2 T outs' f1 f2 f3 f4
   split at h
   ·rename_i k1 k2 k3 k4
    split at h
    ·rename_i k5 k6
     simp only[ZS,ZT]at h;obtain⟨rfl,rfl⟩:=h
     have:=ZU e1;subst this
     intro hs
     obtain⟨m1,m2⟩:=xh f4
     refine⟨?_,?_⟩
     ·intro σ' a7
      obtain⟨p,hp,hcp⟩:=m2 σ' a7
      have:=Aq (P:=P) (I:=I) hcp hs e3 e4
      exact⟨this.1,this.2.1⟩
     ·intro ρ ab K Q lo w0 E0 hK a w hh hd
      have hv:=jq ab hV
      rw[jm,jm,jm]at hv
      have wY:s.pre.ok P I (ap ρ θ):=⟨Om ab.g f1 hv.1,tB ab.tys e5,D2 hv.2.1,HH f2 hv.2.2.1⟩
      have hF:FnS P s.fn (dvs (ap ρ θ) s.args) (aU (ap ρ θ) s.tab) (pI P I s (ap ρ θ)):=by
       cases mx with
       |none=>exact zX _ wY
       |some m=>
        obtain⟨N,hN,hF⟩:=zX
        refine hF _ wY ?_
        have h4:=hv.2.2.2
        simp only[SA,gsV,G.v,Lin.bQ,Lin.bE,Lin.aO,Lin.gf,Lin.bN,PF.v,List.map_cons,List.map_nil,and_true]at h4
        have h5:=hN _ h4.2.2
        have h6:aV ρ (4*m+2)=(rsz (ρ m).l:Int):=by
         unfold aV
         have q1:(4*m+2) % 4=2:=by omega
         have q2:(4*m+2) / 4=m:=by omega
         simp only[q1,q2]
        have h7:=h4.1
        have h8:=h4.2.1
        rw[h6]at h7
        show(s.kQ.v (ap ρ θ)).toNat<N
        omega
      have hF1:=hF.sws l
      rw[←kN ρ θ (kq l) s.args, ←yc ρ θ (kq l) f3]at hF1
      have hT1:∀k b,lk (aU ρ T) k=some b→∃a,lk (aU ρ (p9 kh (pick σ1.tab ks))) k=some a∧∀w E lo,OR w E lo k a→OR w E lo k b:=by
       intro k b hl
       simp only[dD]at hl ⊢
       cases hq:lk T k with
       |none=>simp[hq]at hl
       |some y=>
        simp only[hq,Option.map_some,ZS]at hl;subst hl
        obtain⟨x,hx,hle⟩:=A2 k1 k y hq
        exact⟨x.v ρ,by rw[hx];rfl,fun w E lo hr=>On (ρ:=ρ) hle hr⟩
      have hT3:∀k,lk (aU ρ (p9 kh (pick σ1.tab ks))) k≠none→lk (aU ρ T) k≠none:=by
       intro k hk
       simp only[dD]at hk ⊢
       have h1:lk (p9 kh (pick σ1.tab ks)) k≠none:=by intro e;rw[e]at hk;simp at hk
       have h2:=CP k2 k (Ar h1)
       cases hq:lk T k with
       |none=>exact absurd hq h2
       |some x=>simp
      have hF2:=FnS.pre hT1 hT3 (fun _ _ _ _ h=>h) hF1
      have hF3:=FnS.kh k3 hF2
      have hF4:=FnS.pre (fun k b hl=>⟨b,hl,fun _ _ _ h=>h⟩) (fun _ h=>h) (fun w E lo vs hv=>oR (ρ:=ρ) k4 hv) hF3
      refine SZ (aU ρ (pick σ1.tab ks)) hd (Jk ρ hc) e2 ?_ ?_ ?_ hF4 hh ?_
      ·intro k ov hl
       rw[wv]at hl
       exact jk _ _ _ _ hl
      ·rw[uR];exact k5
      ·rw[sP];exact k6
      ·rintro r T' ⟨r0,T1,⟨p,hp,ρ',hag,gJ,rfl,rfl⟩,rfl,rfl⟩
       obtain⟨σ',a7,hcp⟩:=m1 p hp
       obtain⟨_,_,hgo⟩:=Aq (P:=P) (I:=I) hcp hs e3 e4
       obtain⟨fy,ρ2,ha2,oq,hsame⟩:=hgo ρ ρ' ab hag gJ
       exact⟨fy,fun a' w' hh'=>hK σ' a7 ρ2 ha2 oq a' w' (hsame.holds hh')⟩
    ·cases h
   ·cases h
  ·cases h
 ·cases h
theorem aS.co{P:Program}{I:Pr}{n:Nat}{o:Oper}{σ σ1:DSt}{outs:List DSt}(c:Co1 P n σ σ1)(h:aS P I n o σ1 outs):aS P I n o σ outs:=by
 intro hs
 obtain⟨h1,h2⟩:=h (c.sc hs)
 refine⟨fun σ' a7=>⟨(h1 σ' a7).1,c.nx▸(h1 σ' a7).2⟩,?_⟩
 intro ρ ab K Q lo w0 E0 hK a w hh hd
 exact h2 ρ (c.ok ab) K Q lo w0 E0 (fun σ' a7 ρ' ha=>hK σ' a7 ρ' (c.nx▸ha)) a w (c.imp ρ lo w0 E0 a w hh) hd
abbrev Nm:=List (Nat×Nat)
def LY(K k:Nat)(m:Nm):Nm:=match lk m K with|some _=>m|none=>(K,k)::m
mutual
def SB:DV→DV→Nm→Nm
 | .vec K,y,m=>match y with| .vec k=>LY K k m|_=>m
 | .ptr K _,y,m=>match y with| .ptr k _=>LY K k m|_=>m
 | .bn K _ _ _,y,m=>match y with| .bn k _ _ _=>LY K k m|_=>m
 | .ref K,y,m=>match y with| .ref k=>LY K k m|_=>m
 | .agg xs,y,m=>match y with| .agg ys=>sS xs ys m|_=>m
 | .bL xs,y,m=>match y with| .bL ys=>sS xs ys m|_=>m
 | .fn _ a b,y,m=>match y with| .fn _ c d=>sS b d (sS a c m)|_=>m
 | .cL _ x,y,m=>match y with| .cL _ y=>SB x y m|_=>m
 | .u,_,m=>m
 | .p _ _,_,m=>m
 | .pd _ _ _,_,m=>m
 | .pc _ _,_,m=>m
def sS:List DV→List DV→Nm→Nm
 |x::xs,ys,m=>match ys with|y::ys=>sS xs ys (SB x y m)| []=>m
 | [],_,m=>m
end
def wF(H S:aF):Nm→Nm→Nm
 | [],m=>m
 |(K,k)::r,m=>match lk H K,lk S k with
   |some (.box _ xs),some (.box _ ys)=>wF H S r (sS xs ys m)
   |_,_=>wF H S r m
def VQ(H S:aF)(m:Nm):Nm:=match wF H S m m with|m1=>wF H S m1 m1
mutual
def VS(S:aF):DV→DV→List Co→List Co
 | .p x _,y,l=>match x,y with
  | .sl _,.vec k=>jO (.fz k) l
  | .mp _ _,.ref k=>jO (.fz k) l
  |_,_=>l
 | .pc _ _,y,l=>match y with| .vec k=>jO (.fz k) l|_=>l
 | .pd _ _ _,y,l=>match y with
  | .ptr k _=>(match lk S k with|some (.box _ cells)=>F8 S k cells l|_=>l)
  |_=>l
 | .agg xs,y,l=>match y with| .agg ys=>zD S xs ys l|_=>l
 | .bL xs,y,l=>match y with| .bL ys=>zD S xs ys l|_=>l
 | .fn _ _ b,y,l=>match y with| .fn _ _ d=>zD S b d l|_=>l
 | .cL _ x,y,l=>match y with| .cL _ y=>VS S x y l|_=>l
 | .vec _,_,l=>l
 | .ptr _ _,_,l=>l
 | .u,_,l=>l
 | .bn _ _ _ _,_,l=>l
 | .ref _,_,l=>l
def zD(S:aF):List DV→List DV→List Co→List Co
 |x::xs,ys,l=>match ys with|y::ys=>zD S xs ys (VS S x y l)| []=>l
 | [],_,l=>l
end
def Ee(H S:aF):Nm→List Co→List Co
 | [],l=>l
 |(K,k)::r,l=>match lk H K,lk S k with
   |some (.box _ xs),some (.box _ ys)=>Ee H S r (zD S xs ys l)
   |_,_=>Ee H S r l
def SC:Nm→Nat→Bool
 | [],_=>false
 |(_,a)::r,k=>match Nat.beq a k with|true=>true|false=>SC r k
def OG(T:aF)(m:Nm):Nat→Nat
 |0=>0
 |k+1=>match(lk T (k+1)).isSome,SC m (k+1)with
  |false,false=>k+1
  |_,_=>OG T m k
def Ef(T:aF)(d:Nat):List Nat→Nm→Nm
 | [],m=>m
 |K::r,m=>match lk m K with
  |some _=>Ef T d r m
  |none=>Ef T d r ((K,OG T m d)::m)
def LZ:List DV→List DV→List Nat
 | .vec K::xs,.p .nl _::ys=>K::LZ xs ys
 |_::xs,_::ys=>LZ xs ys
 |_,_=>[]
def H9(k:Nat):Nat→List DV→List DV→List (Nat×Nat×Nat)
 |j,.vec K::xs,.p .nl _::ys=>(k,j,K)::H9 k (j+1) xs ys
 |j,_::xs,_::ys=>H9 k (j+1) xs ys
 |_,_,_=>[]
def L0(H S:aF):Nm→List (Nat×Nat×Nat)
 | []=>[]
 |(K,k)::r=>match lk H K,lk S k with
   |some (.box _ xs),some (.box _ ys)=>H9 k 0 xs ys++L0 H S r
   |_,_=>L0 H S r
def Eg(H:aF)(m:Nm):List (Nat×Nat×Nat)→List Co
 | []=>[]
 |(k,j,K)::r=>match lk H K,lk m K with
   |some (.vec e sz _ _),some K'=> .cell k j K' e sz::Eg H m r
   |_,_=>Eg H m r
def OH:List (Nat×Nat×Nat)→List Nat
 | []=>[]
 |(_,_,K)::r=>K::OH r
def Ia(H:aF)(m:Nm):List Nat→List wE
 | []=>[]
 |K::r=>match lk H K,lk m K with
  |some (.vec e sz _ _),some K'=>⟨K',e,sz⟩::Ia H m r
  |_,_=>Ia H m r
def Ib:List cb→List Nat
 | []=>[]
 |p::r=>dU p.tab++Ib r
def Eh(acc:Nm):Nm→Nm
 | []=>acc
 |(K,a)::r=>match kq acc K with
   |c=>match Nat.beq c a with
    |true=>Eh acc r
    |false=>Eh (acc++ [(c,a)]) r
def VT(π:Nat→Nat):List Nat→List Nat
 | []=>[]
 |k::r=>π k::VT π r
def L3(l:List wE):List Nat→List Nat
 | []=>[]
 |k::r=>match l.any (fun a=>Nat.beq a.K k)with|true=>L3 l r|false=>k::L3 l r
def Kc(P:Program)(n:Nat)(s:Spec)(mx:Option Nat)(σ1:DSt)(o:Oper)(l:Nm)(kh:List wE)(ks:List Nat):bj:=
 match qa P σ1 o with
 |some (g,rl)=>H8 P n s mx σ1 o g rl (kq l) kh (pick σ1.tab ks) (Cr 0 (p9 kh (pick σ1.tab ks)) (wu (kq l) s.tab) (sG 0 (oS (kq l) s.args) rl []))
 |none=>none
def Ke(P:Program)(n:Nat)(s:Spec)(mx:Option Nat)(σa:DSt)(o:Oper)(nk:List Nat)(ck:List (Nat×Nat×Nat))(m:Nm):bj:=
 match σa.cos n (Eg s.tab m ck)with
 |some σ1=>match Eh [] m,Ia s.tab m nk with
  |l,kh=>Kc P n s mx σ1 o l kh (L3 kh (VT (kq l) (dU s.tab)))
 |none=>none
def L4(P:Program)(n:Nat)(s:Spec)(mx:Option Nat)(σ:DSt)(o:Oper)(args:List DV):bj:=
 match VQ s.tab σ.tab (sS s.args args [])with
 |m0=>match σ.cos n (Ee s.tab σ.tab m0 (zD σ.tab s.args args []))with
  |some σa=>match LZ s.args args,L0 s.tab σa.tab m0 with
   |nk,ck=>Ke P n s mx σa o nk ck (Ef σa.tab (match o.dst with|some d=>d|none=>n - 1) (nk++(OH ck++Ib s.mJ)) m0)
  |none=>none
theorem L5{P:Program}{I:Pr}{n:Nat}{s:Spec}{mx:Option Nat}{σ:DSt}{o:Oper}{args:List DV}{outs:List DSt}{q:List Seq}(h:L4 P n s mx σ o args=some (outs,q))(zX:uW P I s mx)(hV:Valid P I q):
  aS P I n o σ outs:=by
 unfold L4 at h
 simp only at h
 split at h
 ·rename_i σa ha
  refine aS.co (sD ha) ?_
  unfold Ke at h
  split at h
  ·rename_i σ1 h1
   refine aS.co (sD h1) ?_
   simp only at h
   unfold Kc at h
   split at h
   ·rename_i g rl hc
    exact Jl h zX hc hV
   ·cases h
  ·cases h
 ·cases h
def rL(P:Program)(n:Nat)(σ:DSt)(o:Oper)(g:Nat)(args:List DV):List (Spec×Option Nat)→bj
 | []=>none
 |(s,mx)::r=>match Nat.beq s.fn g with
   |true=>match L4 P n s mx σ o args with
    |some x=>some x
    |none=>rL P n σ o g args r
   |false=>rL P n σ o g args r
def L6(P:Program)(n:Nat)(SS:List (Spec×Option Nat))(σ:DSt)(o:Oper):bj:=
 match qa P σ o with
 |some (g,args)=>rL P n σ o g args SS
 |none=>none
theorem L7{P:Program}{I:Pr}{n:Nat}{SS:List (Spec×Option Nat)}(hS:∀p∈SS,uW P I p.1 p.2):Handler P I n (L6 P n SS):=by
 intro σ o outs q h hV
 unfold L6 at h
 split at h
 ·rename_i g args hc
  have key:∀L:List (Spec×Option Nat),(∀p∈L,uW P I p.1 p.2)→rL P n σ o g args L=some (outs,q)→aS P I n o σ outs:=by
   intro L
   induction L with
   |nil=>intro _ h;simp[rL]at h
   |cons p r ih=>
    obtain⟨s,mx⟩:=p
    intro hL h
    simp only[rL]at h
    split at h
    ·split at h
     ·rename_i x hx
      simp only[ZS]at h;subst h
      exact L5 hx (hL _ (ZW ..)) hV
     ·exact ih (fun p hp=>hL p (ZV _ hp)) h
    ·exact ih (fun p hp=>hL p (ZV _ hp)) h
  exact key SS hS h
 ·cases h
end Go.TL
namespace Go.TL
def hOr(h1 h2:DSt→Oper→bj)(σ:DSt)(o:Oper):bj:=
 match h1 σ o with
 |some r=>some r
 |none=>h2 σ o
theorem sT{P:Program}{I:Pr}{n:Nat}{h1 h2:DSt→Oper→bj}(k1:Handler P I n h1)(k2:Handler P I n h2):Handler P I n (hOr h1 h2):=by
 intro σ o outs q h hV
 unfold hOr at h
 split at h
 ·rename_i r hr
  simp only[ZS]at h;subst h
  exact k1 σ o outs q hr hV
 ·exact k2 σ o outs q h hV
def qY(σ:DSt)(t:Nat)(k:IntKind)(e:Lin)(fr:Bool)(j:Nat):DSt:=
 {σ with ah:=(t,.p (.int k (Lin.lit j)) fr)::σ.ah,lin:=e.aN (-j)::(Lin.scale (-1) e).aN j::σ.lin}
def uX(P:Program)(σ:DSt)(o:Oper)(t:Nat)(k:IntKind)(e:Lin)(fr:Bool):Nat→bj
 |0=>some ([],[])
 |j+1=>match dop P (qY σ t k e fr j) o,uX P σ o t k e fr j with
  |some (σ',gs),some (l,q)=>some (σ'::l,todo (qY σ t k e fr j) gs++q)
  |_,_=>none
def Ic(P:Program)(σ:DSt)(o:Oper):bj:=
 match o.op with
 | .index xt x (.tmp t)=>match lk σ.ah t,dev σ x,P.underlying xt with
  |some (.p (.int k e) fr),.agg _,some (.array len _)=>match Nat.ble len 100 with
   |true=>match uX P σ o t k e fr len with
    |some (l,q)=>some (l,q++todo σ [.le (Lin.scale (-1) e),.le ((e.aN 1).aN (-len))])
    |none=>none
   |false=>none
  |_,_,_=>none
 |_=>none
theorem QW{σ:DSt}(hs:σ.sc){t:Nat}{k:IntKind}{e:Lin}{fr:Bool}(hl:lk σ.ah t=some (.p (.int k e) fr))(j:Nat):(qY σ t k e fr j).sc:=by
 have he:Sc σ.nx e.vars:=by have:=hs.ah t _ hl;simpa[DV.vars,DP.vars]using this
 refine⟨?_,hs.tab,hs.tys,?_,hs.prs⟩
 ·intro t' v h
  simp only[qY,cK]at h
  split at h
  ·simp only[ZS]at h;subst h;simp[DV.vars,DP.vars,Lin.lit,Lin.vars,dS,Sc.nil]
  ·exact hs.ah t' v h
 ·intro x hx
  simp only[qY,List.mem_cons]at hx
  rcases hx with rfl|rfl|hx
  ·exact Lin.bI he
  ·exact Lin.bI (Lin.dW he)
  ·exact hs.lin x hx
theorem QX{P:Program}{I:Pr}{σ:DSt}{ρ:Ro}(ab:σ.ok P I ρ){t:Nat}{k:IntKind}{e:Lin}{fr:Bool}{j:Nat}(he:e.v ρ=j):(qY σ t k e fr j).ok P I ρ:=by
 refine⟨ab.g,ab.tys,⟨?_,?_,ab.lin⟩,ab.prs⟩
 ·rw[Lin.aO];omega
 ·rw[Lin.aO,Lin.bE];omega
theorem L8{σ:DSt}{ρ:Ro}{t:Nat}{k:IntKind}{e:Lin}{fr:Bool}{j:Nat}(hl:lk σ.ah t=some (.p (.int k e) fr))(he:e.v ρ=j):cq (σ.v ρ) ((qY σ t k e fr j).v ρ):=by
 refine⟨fun t'=>?_,fun _=>rfl⟩
 simp only[qY,DSt.v,cV,cK]
 split
 ·rename_i h;subst h
  simp only[fQ,hl,Option.map_some,DV.v,DP.v,he,Lin.cT]
 ·rfl
theorem Ie{P:Program}{I:Pr}{n:Nat}{σ:DSt}{o:Oper}{t:Nat}{k:IntKind}{e:Lin}{fr:Bool}(hl:lk σ.ah t=some (.p (.int k e) fr)):∀(m:Nat) (l:List DSt) (q:List Seq),uX P σ o t k e fr m=some (l,q)→Valid P I q→
  σ.sc→(∀σ'∈l,σ'.sc∧σ.nx≤σ'.nx)∧∀ρ,σ.ok P I ρ→0≤e.v ρ→e.v ρ<m→∀(K:Act→World→Prop) (Q:Exit→Act→World→Prop) (lo:Nat) (w0:World) (E0:Env),
   (∀σ'∈l,∀ρ',au σ.nx ρ ρ'→σ'.ok P I ρ'→∀a' w',Holds (mkC P n lo w0 E0) (σ'.v ρ') a' w'→K a' w')→
   ∀a w,Holds (mkC P n lo w0 E0) (σ.v ρ) a w→(∀d,o.dst=some d→d<n)→o.wp P a w K Q:=by
 intro m
 induction m with
 |zero=>
  intro l q h hV hs
  simp only[uX,ZS,ZT]at h;obtain⟨rfl,rfl⟩:=h
  refine⟨by simp,?_⟩
  intro ρ ab h0 h1
  exact absurd h1 (by have:((0:Nat):Int)=0:=rfl;omega)
 |succ m ih=>
  intro l q h hV hs
  simp only[uX]at h
  split at h
  ·rename_i σ1 gs l1 q1 h1 h2
   simp only[ZS,ZT]at h;obtain⟨rfl,rfl⟩:=h
   have V1:Valid P I (todo (qY σ t k e fr m) gs):=fun s hs=>hV s (ZZ (.inl hs))
   have V2:Valid P I q1:=fun s hs=>hV s (ZZ (.inr hs))
   obtain⟨i1,i2⟩:=ih l1 q1 h2 V2 hs
   obtain⟨d1,d2⟩:=A9 (n:=n) h1 V1 (QW hs hl m)
   refine⟨?_,?_⟩
   ·intro σ' a7
    rcases Z1 a7 with rfl|a7
    ·exact d1 _ (by simp)
    ·exact i1 σ' a7
   ·intro ρ ab h0 av K Q lo w0 E0 hK a w hh hd
    by_cases he:e.v ρ=m
    ·refine d2 ρ (QX ab he) K Q lo w0 E0 ?_ a w ((L8 hl he).holds hh) hd
     intro σ' a7 ρ' ha cR a' w' hh'
     simp only[List.mem_singleton]at a7;subst a7
     exact hK _ (ZW ..) ρ' ha cR a' w' hh'
    ·exact i2 ρ ab h0 (by omega) K Q lo w0 E0 (fun σ' a7=>hK σ' (ZV _ a7)) a w hh hd
  ·cases h
theorem Jm{P:Program}{I:Pr}{n:Nat}:Handler P I n (Ic P):=by
 intro σ o outs q h hV
 unfold Ic at h
 split at h
 ·rename_i xt x t kU
  split at h
  ·rename_i k e fr xs len et hl hx hu
   split at h
   ·split at h
    ·rename_i l q1 hg
     simp only[ZS,ZT]at h;obtain⟨rfl,rfl⟩:=h
     have V1:Valid P I q1:=fun s hs=>hV s (ZZ (.inl hs))
     have V2:Valid P I (todo σ [.le (Lin.scale (-1) e),.le ((e.aN 1).aN (-len))]):=fun s hs=>hV s (ZZ (.inr hs))
     intro hs
     obtain⟨h1,h2⟩:=Ie (n:=n) hl len l q1 hg V1 hs
     refine⟨h1,?_⟩
     intro ρ ab
     have hv:=jq ab V2
     simp only[gsV,G.v,Lin.bE,Lin.aO,and_true]at hv
     exact h2 ρ ab (by omega) (by omega)
    ·cases h
   ·cases h
  ·cases h
 ·cases h
end Go.TL
namespace Go.TL
def aI:Pr:=fun id vs=>
 match id % 16,vs with
 |15,l=>match id / 16,l with
  |4,[l]=>∀row∈l.l,∃(k:Int) (r:List PV),row= .v (.int .i64 k)::r∧(k=1∨k=3)
  |5,[b,k,s]=>b.b=((k.n==8) && (s.s.toList==(⟨#[125]⟩:ByteArray).toList))
  |_,_=>True
 |_,_=>True
structure VU(I:Pr):Prop where
 eq:∀id vs,id≠0→I id vs=aI id vs
end Go.TL
namespace Go.TL
theorem QY{C:Ctx}{E:Env}{σ:St}{a:Act}{w:World}{o:Oper}{tx ty:TypeId}{x y:Operand}{b c:Bool}(ho:o.op= .binOp .neq tx x y ty)(hu:C.P.underlying tx=some .bool)(ex:a.eval x= .bool b)(ey:a.eval y= .bool c)(h:aC C E σ a w)(hd:bA C o):
  bR C o (σ.put o.dst (.p (.v (.bool (b !=c))) true)) a w:=by
 refine cn h hd (v:= .bool (b !=c)) ?_ (dR true rfl)
 refine dV ho (by rw[ex];simp[eqGuard]) ?_
 rw[ex,ey]
 simp only[binOp,Sem.run_bind,run_equal_bool w tx b c hu,Result.andThen_ok,Sem.run_pure]
 cases b<;>cases c<;>rfl
theorem QZ{C:Ctx}{E:Env}{σ:St}{a:Act}{w:World}{o:Oper}{tx ty:TypeId}{x y:Operand}{b c:Bool}(ho:o.op= .binOp .eql tx x y ty)(hu:C.P.underlying tx=some .bool)(ex:a.eval x= .bool b)(ey:a.eval y= .bool c)(h:aC C E σ a w)(hd:bA C o):
  bR C o (σ.put o.dst (.p (.v (.bool (b==c))) true)) a w:=by
 refine cn h hd (v:= .bool (b==c)) ?_ (dR true rfl)
 refine dV ho (by rw[ex];simp[eqGuard]) ?_
 rw[ex,ey]
 simp only[binOp,Sem.run_bind,run_equal_bool w tx b c hu,Result.andThen_ok,Sem.run_pure]
def zE(f g:BF):BF:= .or (.and f g) (.and (.not f) (.not g))
theorem Kf(ρ:Ro)(f g:BF):(zE f g).v ρ=(f.v ρ==g.v ρ):=by simp only[zE,BF.v];cases f.v ρ<;>cases g.v ρ<;>rfl
def Ei(P:Program)(t:TypeId):Bool:=match P.underlying t with|some .bool=>true|_=>false
theorem L9{P:Program}{t:TypeId}(h:Ei P t=true):P.underlying t=some .bool:=by
 unfold Ei at h;split at h
 ·assumption
 ·cases h
def Ma(P:Program)(σ:DSt)(o:Oper):bj:=
 match o.op with
 | .binOp op tx x y _=>match Ei P tx,qX σ x,qX σ y with
  |true,some f,some g=>match op with
   | .eql=>some ([σ.put o.dst (.p (.bl (zE f g)) true)],[])
   | .neq=>some ([σ.put o.dst (.p (.bl (.not (zE f g))) true)],[])
   |_=>none
  |_,_,_=>none
 |_=>none
theorem Mb{P:Program}{I:Pr}{n:Nat}:Handler P I n (Ma P):=by
 intro σ o outs q h hV hs
 unfold Ma at h
 split at h
 ·rename_i op tx x y ty ho
  split at h
  ·rename_i f g hb hf hg
   have hu:=L9 hb
   have sf:=Bb hs hf
   have sg:=Bb hs hg
   have ssc:Sc σ.nx (zE f g).vars:=by simp only[zE,BF.vars,Sc.app];exact⟨⟨sf,sg⟩,sf,sg⟩
   have step:∀(r:BF) (hr:Sc σ.nx r.vars),(∀ρ,∀C:Ctx,C.P=P→∀E a w,aC C E (σ.v ρ) a w→bA C o→bR C o ((σ.v ρ).put o.dst (.p (.v (.bool (r.v ρ))) true)) a w)→
     (∀σ'∈ [σ.put o.dst (.p (.bl r) true)],σ'.sc∧σ.nx≤σ'.nx)∧∀ρ,σ.ok P I ρ→∀(K:Act→World→Prop) (Q:Exit→Act→World→Prop) (lo:Nat) (w0:World) (E0:Env),
      (∀σ'∈ [σ.put o.dst (.p (.bl r) true)],∀ρ',au σ.nx ρ ρ'→σ'.ok P I ρ'→∀a' w',Holds (mkC P n lo w0 E0) (σ'.v ρ') a' w'→K a' w')→
      ∀a w,Holds (mkC P n lo w0 E0) (σ.v ρ) a w→(∀d,o.dst=some d→d<n)→o.wp P a w K Q:=by
    intro r hr aW
    refine⟨?_,?_⟩
    ·intro σ' a7
     simp only[List.mem_singleton]at a7;subst a7
     exact⟨hs.put o.dst (by simpa[DV.vars,DP.vars]using hr),by rw[di];exact Nat.le_refl _⟩
    ·intro ρ ab K Q lo w0 E0 hK a w ⟨E,hh⟩ hd
     obtain⟨v,w',hx,hH⟩:=aW ρ (mkC P n lo w0 E0) rfl E a w hh hd
     unfold Oper.wp
     have hH':Holds (mkC P n lo w0 E0) ((σ.put o.dst (.p (.bl r) true)).v ρ) (a.put o.dst v) w':=by rw[eF];exact hH
     rcases hx with hx|⟨hx,rfl⟩
     ·change Sem.run P _ _=_ at hx
      rw[hx];exact hK _ (by simp) ρ (au.refl _ _) (ab.put _ _) _ _ hH'
     ·change Sem.run P _ _=_ at hx
      rw[hx];exact hK _ (by simp) ρ (au.refl _ _) (ab.put _ _) _ _ hH'
   split at h
   ·simp only[ZS,ZT]at h;obtain⟨rfl,rfl⟩:=h
    refine step _ ssc fun ρ C hC E a w hh hd=>?_
    have:=QZ ho (by rw[hC];exact hu) (pP ⟨E,hh⟩ (uO ρ hf)) (pP ⟨E,hh⟩ (uO ρ hg)) hh hd
    rw[Kf];exact this
   ·simp only[ZS,ZT]at h;obtain⟨rfl,rfl⟩:=h
    refine step _ ssc fun ρ C hC E a w hh hd=>?_
    have:=QY ho (by rw[hC];exact hu) (pP ⟨E,hh⟩ (uO ρ hf)) (pP ⟨E,hh⟩ (uO ρ hg)) hh hd
    simp only[BF.v,Kf];exact this
   ·cases h
  ·cases h
 ·cases h
end Go.TL
