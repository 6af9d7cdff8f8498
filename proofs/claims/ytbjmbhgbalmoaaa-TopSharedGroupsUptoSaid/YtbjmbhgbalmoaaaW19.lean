/- States seen otherwise: objects frozen, renamed, put away; nil lists that become lists of one's own. -/
import Derived.Test.YtbjmbhgbalmoaaaW18
namespace Go.TL
mutual
def DV.rn(π:Nat→Nat):DV→DV
 | .vec j=> .vec (π j)
 | .ptr j off=> .ptr (π j) off
 | .aY j sz i off=> .aY (π j) sz i off
 | .ref j=> .ref (π j)
 | .agg xs=> .agg (je π xs)
 | .bB xs=> .bB (je π xs)
 | .fn f first aL=> .fn f (je π first) (je π aL)
 | .bH t x=> .bH t (DV.rn π x)
 | .u=> .u
 | .p x fr=> .p x fr
 | .pd row off fr=> .pd row off fr
 | .pc rows fr=> .pc rows fr
def je(π:Nat→Nat):List DV→List DV
 | []=>[]
 |x::xs=>DV.rn π x::je π xs
end
mutual
theorem oX(ρ:Ro)(π:Nat→Nat):∀x:DV,(x.rn π).v ρ=SV.rn π (x.v ρ)
 | .vec _=>by simp[DV.rn,DV.v,SV.rn]
 | .ptr _ _=>by simp[DV.rn,DV.v,SV.rn]
 | .aY _ _ _ _=>by simp[DV.rn,DV.v,SV.rn]
 | .ref _=>by simp[DV.rn,DV.v,SV.rn]
 | .agg xs=>by simp only[DV.rn,DV.v,SV.rn,mF ρ π xs]
 | .bB xs=>by simp only[DV.rn,DV.v,SV.rn,mF ρ π xs]
 | .fn f first aL=>by simp only[DV.rn,DV.v,SV.rn,mF ρ π first,mF ρ π aL]
 | .bH t x=>by simp only[DV.rn,DV.v,SV.rn,oX ρ π x]
 | .u=>by simp[DV.rn,DV.v,SV.rn]
 | .p _ _=>by simp[DV.rn,DV.v,SV.rn]
 | .pd _ _ _=>by simp[DV.rn,DV.v,SV.rn]
 | .pc _ _=>by simp[DV.rn,DV.v,SV.rn]
theorem mF(ρ:Ro)(π:Nat→Nat):∀x:List DV,dvs ρ (je π x)=rns π (dvs ρ x)
 | []=>by simp[je,dvs,rns]
 |x::xs=>by simp only[je,dvs,rns,oX ρ π x,mF ρ π xs]
end
mutual
theorem kG(π:Nat→Nat):∀x:DV,(x.rn π).vars=x.vars
 | .vec _=>by simp[DV.rn,DV.vars]
 | .ptr _ _=>by simp[DV.rn,DV.vars]
 | .aY _ _ _ _=>by simp[DV.rn,DV.vars]
 | .ref _=>by simp[DV.rn,DV.vars]
 | .agg xs=>by simp only[DV.rn,DV.vars,iH π xs]
 | .bB xs=>by simp only[DV.rn,DV.vars,iH π xs]
 | .fn f first aL=>by simp only[DV.rn,DV.vars,iH π first,iH π aL]
 | .bH t x=>by simp only[DV.rn,DV.vars,kG π x]
 | .u=>by simp[DV.rn,DV.vars]
 | .p _ _=>by simp[DV.rn,DV.vars]
 | .pd _ _ _=>by simp[DV.rn,DV.vars]
 | .pc _ _=>by simp[DV.rn,DV.vars]
theorem iH(π:Nat→Nat):∀x:List DV,bS (je π x)=bS x
 | []=>by simp[je,bS]
 |x::xs=>by simp only[je,bS,kG π x,iH π xs]
end
def DO.rn(π:Nat→Nat):DO→DO
 | .box t cells=> .box t (je π cells)
 |o=>o
theorem DO.oX(ρ:Ro)(π:Nat→Nat)(o:DO):(o.rn π).v ρ=OV.rn π (o.v ρ):=by
 cases o<;>simp[DO.rn,DO.v,OV.rn,mF]
theorem DO.kG(π:Nat→Nat)(o:DO):(o.rn π).vars=o.vars:=by
 cases o<;>simp[DO.rn,DO.vars,iH]
def jz(π:Nat→Nat):fK→fK
 | []=>[]
 |(t,x)::r=>(t,x.rn π)::jz π r
def mG(π:Nat→Nat):bY→bY
 | []=>[]
 |(t,x)::r=>(π t,x.rn π)::mG π r
theorem pY(ρ:Ro)(π:Nat→Nat):∀l:fK,iS ρ (jz π l)=mj π (iS ρ l)
 | []=>rfl
 |(t,x)::r=>by simp only[jz,iS,mj,oX,pY ρ π r]
theorem sH(ρ:Ro)(π:Nat→Nat):∀l:bY,dw ρ (mG π l)=gD π (dw ρ l)
 | []=>rfl
 |(t,x)::r=>by simp only[mG,dw,gD,DO.oX,sH ρ π r]
def DSt.rn(σ:DSt)(k k':Nat):DSt:={σ with az:=jz (sw k k') σ.az,tab:=mG (sw k k') σ.tab}
theorem DSt.oX(ρ:Ro)(σ:DSt)(k k':Nat):(σ.rn k k').v ρ=(σ.v ρ).rn k k':=by
 simp only[DSt.rn,DSt.v,St.rn,pY,sH]
structure DSt.Cf(σ:DSt):Prop where
 az:∀p∈σ.az,Sc σ.nx p.2.vars
 tab:∀p∈σ.tab,Sc σ.nx p.2.vars
theorem oq(π:Nat→Nat):∀(l:fK) (t:Nat),lk (jz π l) t=(lk l t).map (DV.rn π)
 | [],_=>rfl
 |(j,x)::r,t=>by simp only[jz,lk];cases Nat.beq j t<;>simp[oq π r t]
theorem q9(a b:Nat):∀(l:bY) (t:Nat),lk (mG (sw a b) l) t=(lk l (sw a b t)).map (DO.rn (sw a b))
 | [],_=>rfl
 |(j,x)::r,t=>by
   simp only[mG,lk]
   have hb:Nat.beq (sw a b j) t=Nat.beq j (sw a b t):=by
    rw[Bool.eq_iff_iff]
    constructor
    ·intro h;have:=Cv h;subst this;rw[dr];exact Nat.beq_refl _
    ·intro h;have:=Cv h;subst this;rw[dr];exact Nat.beq_refl _
   rw[hb]
   cases Nat.beq j (sw a b t)<;>simp[q9 a b r t]
theorem DSt.sc.rn{σ:DSt}(hs:σ.sc)(k k':Nat):(σ.rn k k').sc:=by
 refine⟨?_,?_,hs.tys,hs.lin,hs.prs⟩
 ·intro t v hl
  simp only[DSt.rn,oq]at hl
  cases hq:lk σ.az t with
  |none=>simp[hq]at hl
  |some x=>simp only[hq,Option.map_some,Ct]at hl;subst hl;rw[kG];exact hs.az t x hq
 ·intro t v hl
  simp only[DSt.rn,q9]at hl
  cases hq:lk σ.tab (sw k k' t)with
  |none=>simp[hq]at hl
  |some x=>simp only[hq,Option.map_some,Ct]at hl;subst hl;rw[DO.kG];exact hs.tab _ x hq
def DSt.fz(k:Nat)(vc:DV)(pd:Nat→DV)(σ:DSt):DSt:={σ with az:=gK k vc pd σ.az,tab:=jK k vc pd (rm σ.tab k)}
theorem DSt.tO(ρ:Ro)(k:Nat)(vc:DV)(pd:Nat→DV)(σ:DSt):(DSt.fz k vc pd σ).v ρ=St.fz k (vc.v ρ) (fun n=>(pd n).v ρ) (σ.v ρ):=by
 simp only[DSt.fz,DSt.v,St.fz,pV,sF,oQ]
theorem DSt.sc.fz{σ:DSt}(hs:σ.sc){k:Nat}{vc:DV}{pd:Nat→DV}(hv:Sc σ.nx vc.vars)(hp:∀j,Sc σ.nx (pd j).vars):(DSt.fz k vc pd σ).sc:=by
 refine⟨?_,?_,hs.tys,hs.lin,hs.prs⟩
 ·intro t v hl
  simp only[DSt.fz,j8]at hl
  cases hq:lk σ.az t with
  |none=>simp[hq]at hl
  |some x=>simp only[hq,Option.map_some,Ct]at hl;subst hl;exact Go.TL.k9 hv hp (hs.az t x hq)
 ·intro t v hl
  simp only[DSt.fz,lY,qq]at hl
  split at hl
  ·simp at hl
  ·cases hq:lk σ.tab t with
   |none=>simp[hq]at hl
   |some x=>simp only[hq,Option.map_some,Ct]at hl;subst hl;exact DO.k9 hv hp (hs.tab t x hq)
def DSt.nL:List Nat→DSt→DSt
 | [],σ=>σ
 |k::ks,σ=>DSt.nL ks (DSt.fz k .u (fun _=> .u) σ)
def oY(LT:List Nat):bY→List Nat
 | []=>[]
 |(k,_)::r=>match LT.any (Nat.beq k)with|true=>oY LT r|false=>k::oY LT r
def DSt.keep(L LT:List Nat)(σ:DSt):DSt:=
 let σ1:=σ.nL (oY LT σ.tab)
 {σ1 with az:=pick σ1.az L,tab:=pick σ1.tab LT}
structure Co1(P:Program)(n:Nat)(σ σ':DSt):Prop where
 sc:σ.sc→σ'.sc
 nx:σ'.nx=σ.nx
 tys:σ'.tys=σ.tys
 lin:σ'.lin=σ.lin
 prs:σ'.prs=σ.prs
 imp:∀ρ,Imp P n (σ.v ρ) (σ'.v ρ)
theorem Co1.ok{P:Program}{I:Pr}{n:Nat}{σ σ':DSt}{ρ:Ro}(h:Co1 P n σ σ')(k:σ.ok P I ρ):σ'.ok P I ρ:=
 ⟨k.g,h.tys▸k.tys,h.lin▸k.lin,h.prs▸k.prs⟩
theorem Co1.refl{P:Program}{n:Nat}{σ:DSt}:Co1 P n σ σ:=⟨id,rfl,rfl,rfl,rfl,fun _=>Imp.refl⟩
theorem Co1.trans{P:Program}{n:Nat}{σ σ1 σ2:DSt}(h:Co1 P n σ σ1)(k:Co1 P n σ1 σ2):Co1 P n σ σ2:=
 ⟨fun x=>k.sc (h.sc x),k.nx.trans h.nx,k.tys.trans h.tys,k.lin.trans h.lin,k.prs.trans h.prs,fun ρ=>(h.imp ρ).trans (k.imp ρ)⟩
def DSt.r7(k:Nat)(σ:DSt):Option DSt:=
 match lk σ.tab k with
 |some (.vec _ _ l fr)=>some (DSt.fz k (.p (.sl l) fr) (fun _=> .u) σ)
 |some (.mp a l fr)=>some (DSt.fz k (.p (.mp a l) fr) (fun _=> .u) σ)
 |some (.box _ cells)=>match vr cells with
  |some (row,fr)=>match vv row with
   |true=>some (DSt.fz k .u (fun off=> .pd row off fr) σ)
   |false=>none
  |none=>none
 |_=>none
inductive Co where
 |fz(k:Nat)
 |rn(k k':Nat)
 |nil(t K:Nat)(e:TypeId)(sz:Nat)
 |cell(k j K:Nat)(e:TypeId)(sz:Nat)
def DSt.co(n:Nat)(σ:DSt):Co→Option DSt
 | .fz k=>σ.r7 k
 | .rn k k'=>match(lk σ.tab k').isSome,Nat.ble (k'+1) n with
  |false,true=>some (σ.rn k k')
  |_,_=>none
 | .nil t K e sz=>match lk σ.az t,(lk σ.tab K).isSome,Nat.ble (K+1) n,Nat.ble 1 sz with
  |some (.p .nl _),false,true,true=>some {σ with az:=(t,.vec K)::rm σ.az t,tab:=(K,.vec e sz none true)::σ.tab}
  |_,_,_,_=>none
 | .cell k j K e sz=>match lk σ.tab k,(lk σ.tab K).isSome,Nat.ble (K+1) n,Nat.ble 1 sz with
  |some (.box t cells),false,true,true=>match cells[j]? with
   |some (.p .nl _)=>some {σ with tab:=(K,.vec e sz none true)::(k,.box t (cells.set j (.vec K)))::rm σ.tab k}
   |_=>none
  |_,_,_,_=>none
end Go.TL
namespace Go.TL
structure Seq where
 tys:List (Nat×TypeId)
 lin:List Lin
 prs:List PF
 goal:G
def Seq.valid(P:Program)(I:Pr)(s:Seq):Prop:=∀ρ,Gok ρ→df P ρ s.tys→bR ρ s.lin→fp I ρ s.prs→s.goal.v I ρ
def Valid(P:Program)(I:Pr)(l:List Seq):Prop:=∀s∈l,s.valid P I
theorem Valid.app{P:Program}{I:Pr}{a b:List Seq}:Valid P I (a++b) ↔ Valid P I a∧Valid P I b:=by
 unfold Valid;simp only[List.mem_append]
 exact⟨fun h=>⟨fun s hs=>h s (.inl hs),fun s hs=>h s (.inr hs)⟩,fun h s hs=>hs.elim (h.1 s) (h.2 s)⟩
theorem Valid.nil{P:Program}{I:Pr}:Valid P I []:=by intro s hs;simp at hs
def wZ:PF→PF→Bool
 | .pr id a,.pr id' a'=>Nat.beq id id' && qZ.natsEq a a'
 | .tru f,.tru g=>f.beq g
 | .sub s a lo hi,.sub s' a' fC hi'=>(Nat.beq s s' && Nat.beq a a') && (lo.beq fC && hi.beq hi')
 | .row l i c,.row l' i' c'=>(Nat.beq l l' && i.beq i') && jY c c'
 | .app l a b,.app l' a' b'=>Nat.beq l l' && (fM a a' && fM b b')
 |_,_=>false
theorem yK{a b:PF}(h:wZ a b=true):a=b:=by
 unfold wZ at h
 split at h
 ·simp only[Bool.and_eq_true]at h;rw[Cv h.1,pX h.2]
 ·rw[BF.beq_eq h]
 ·simp only[Bool.and_eq_true]at h;rw[Cv h.1.1,Cv h.1.2,Lin.beq_eq h.2.1,Lin.beq_eq h.2.2]
 ·simp only[Bool.and_eq_true]at h;rw[Cv h.1.1,Lin.beq_eq h.1.2,la h.2]
 ·simp only[Bool.and_eq_true]at h;rw[Cv h.1,gW h.2.1,gW h.2.2]
 ·cases h
def iN(f:PF):List PF→Bool
 | []=>false
 |g::r=>match wZ f g with|true=>true|false=>iN f r
theorem fT{I:Pr}{ρ:Ro}{f:PF}:∀{l:List PF},iN f l=true→fp I ρ l→f.v I ρ
 |g::r,h,hv=>by
  simp only[iN]at h
  split at h
  ·rename_i h1;rw[yK h1];exact hv.1
  ·exact fT h hv.2
def iV(e:Lin):Lin:=(Lin.scale (-1) e).cR 1
def j9(σ:DSt):BF→Option Bool
 | .lit b=>some b
 | .le e=>match ek σ e with
  |true=>some true
  |false=>match ek σ (iV e)with|true=>some false|false=>none
 | .not f=>match j9 σ f with|some b=>some (!b)|none=>none
 | .eq e=>match ek σ e,ek σ (Lin.scale (-1) e)with
  |true,true=>some true
  |true,false=>match ek σ (e.cR 1)with
   |true=>some false
   |false=>match iN (.tru (.not (.eq e))) σ.prs with|true=>some false|false=>none
  |false,true=>match ek σ (iV e)with
   |true=>some false
   |false=>match iN (.tru (.not (.eq e))) σ.prs with|true=>some false|false=>none
  |false,false=>match iN (.tru (.eq e)) σ.prs with
   |true=>some true
   |false=>match iN (.tru (.not (.eq e))) σ.prs with|true=>some false|false=>none
 |f=>match iN (.tru f) σ.prs with
  |true=>some true
  |false=>match iN (.tru (.not f)) σ.prs with|true=>some false|false=>none
theorem rf{P:Program}{I:Pr}{σ:DSt}{ρ:Ro}(aC:σ.ok P I ρ):∀{f:BF} {b:Bool},j9 σ f=some b→f.v ρ=b
 | .lit c,b,h=>by simp only[j9,Ct]at h;subst h;rfl
 | .le e,b,h=>by
  simp only[j9]at h
  split at h
  ·rename_i hp
   simp only[Ct]at h;subst h
   have:=dY aC hp;simp[BF.v,this]
  ·split at h
   ·rename_i hp
    simp only[Ct]at h;subst h
    have:=dY aC hp
    simp only[iV,Lin.ca,Lin.ez]at this
    simp only[BF.v,decide_eq_false_iff_not];omega
   ·cases h
 | .not f,b,h=>by
  simp only[j9]at h
  split at h
  ·rename_i c hc
   simp only[Ct]at h;subst h
   simp only[BF.v,rf aC hc]
  ·cases h
 | .var k,b,h=>by
  simp only[j9]at h
  split at h
  ·rename_i hp
   simp only[Ct]at h;subst h
   exact fT hp aC.prs
  ·split at h
   ·rename_i hp
    simp only[Ct]at h;subst h
    have:=fT hp aC.prs
    simpa[PF.v,BF.v]using this
   ·cases h
 | .eq e,b,h=>by
  have neg:∀c,(match iN (.tru (.not (.eq e))) σ.prs with|true=>some false|false=>none)=some c→(BF.eq e).v ρ=c:=by
   intro c h
   split at h
   ·rename_i hp
    simp only[Ct]at h;subst h
    have:=fT hp aC.prs
    simpa[PF.v,BF.v]using this
   ·cases h
  simp only[j9]at h
  split at h
  ·rename_i h1 h2
   simp only[Ct]at h;subst h
   have a1:=dY aC h1
   have a2:=dY aC h2
   rw[Lin.ez]at a2
   simp only[BF.v,decide_eq_true_eq];omega
  ·split at h
   ·rename_i h1
    simp only[Ct]at h;subst h
    have a1:=dY aC h1
    rw[Lin.ca]at a1
    simp only[BF.v,decide_eq_false_iff_not];omega
   ·exact neg b h
  ·split at h
   ·rename_i h1
    simp only[Ct]at h;subst h
    have a1:=dY aC h1
    simp only[iV,Lin.ca,Lin.ez]at a1
    simp only[BF.v,decide_eq_false_iff_not];omega
   ·exact neg b h
  ·split at h
   ·rename_i hp
    simp only[Ct]at h;subst h
    exact fT hp aC.prs
   ·exact neg b h
 | .and f g,b,h=>by
  simp only[j9]at h
  split at h
  ·rename_i hp
   simp only[Ct]at h;subst h
   exact fT hp aC.prs
  ·split at h
   ·rename_i hp
    simp only[Ct]at h;subst h
    have:=fT hp aC.prs
    simp only[PF.v,BF.v]at this ⊢
    exact(Bool.not_eq_true' _).mp this
   ·cases h
 | .or f g,b,h=>by
  simp only[j9]at h
  split at h
  ·rename_i hp
   simp only[Ct]at h;subst h
   exact fT hp aC.prs
  ·split at h
   ·rename_i hp
    simp only[Ct]at h;subst h
    have:=fT hp aC.prs
    simp only[PF.v,BF.v]at this ⊢
    exact(Bool.not_eq_true' _).mp this
   ·cases h
mutual
theorem xY:∀x:SV,SV.rn (fun k=>k) x=x
 | .vec _=>by simp[SV.rn]
 | .ptr _ _=>by simp[SV.rn]
 | .aY _ _ _ _=>by simp[SV.rn]
 | .ref _=>by simp[SV.rn]
 | .agg xs=>by simp only[SV.rn,l4 xs]
 | .bB xs=>by simp only[SV.rn,l4 xs]
 | .fn f first aL=>by simp only[SV.rn,l4 first,l4 aL]
 | .bH t x=>by simp only[SV.rn,xY x]
 | .u=>by simp[SV.rn]
 | .p _ _=>by simp[SV.rn]
 | .pd _ _ _=>by simp[SV.rn]
 | .pc _ _=>by simp[SV.rn]
theorem l4:∀x:List SV,rns (fun k=>k) x=x
 | []=>by simp[rns]
 |x::xs=>by simp only[rns,xY x,l4 xs]
end
structure Ca(P:Program)(I:Pr)(n n0:Nat)(σ T:DSt)(ρ ρ':Ro):Prop where
 ag:aS n0 ρ ρ'
 g:Gok ρ'
 tys:df P ρ' T.tys
 lin:bR ρ' T.lin
 prs:fp I ρ' T.prs
 imp:Imp P n (σ.v ρ) (T.v ρ')
def isVar(e:Lin):Option Nat:=
 match isZ e.c,e.t with
 |true,[(a,c)]=>match qn c,Nat.beq (a % 4) 0 with|true,true=>some (a / 4)|_,_=>none
 |_,_=>none
def zW(e:Lin):Tm:=match isVar e with|some j=> .v j|none=> .i e
def gG(n0 k:Nat)(tm:Tm)(θ:Th):Th:=
 match Nat.ble n0 k with
 |true=>match lk θ k with|some _=>θ|none=>(k,tm)::θ
 |false=>θ
def xZ(n0:Nat):DP→DP→Th→Th
 | .int _ e,.int _ e',θ=>match isVar e with|some k=>gG n0 k (zW e') θ|none=>θ
 | .bl (.var k),.bl f,θ=>gG n0 k (match f with| .var j=> .v j|f=> .b f) θ
 | .st (.var k),.st e,θ=>gG n0 k (match e with| .var j=> .v j|e=> .s e) θ
 | .sl (some k),.sl l,θ=>gG n0 k (match l with|some j=> .v j|none=> .l none) θ
 | .sl (some k),.nl,θ=>gG n0 k (.l none) θ
 | .ls (some k),.ls l,θ=>gG n0 k (match l with|some j=> .v j|none=> .l none) θ
 | .mp _ (some k),.mp _ l,θ=>gG n0 k (match l with|some j=> .v j|none=> .l none) θ
 | .ls (some k),.cst _,θ=>gG n0 k (.l none) θ
 | .mp _ (some k),.cst _,θ=>gG n0 k (.l none) θ
 |_,_,θ=>θ
def rh(n0:Nat):List DP→List DP→Th→Th
 |x::xs,y::ys,θ=>rh n0 xs ys (xZ n0 x y θ)
 |_,_,θ=>θ
def x0(n0:Nat):LV→LV→Th→Th
 |some k,some j,θ=>gG n0 k (.v j) θ
 |some k,none,θ=>gG n0 k (.l none) θ
 |none,_,θ=>θ
mutual
def x5(n0:Nat):DV→DV→Th→Th
 | .p x _,y,θ=>match y with
  | .p y _=>xZ n0 x y θ
  | .pc l _=>match x with| .sl k=>x0 n0 k l θ|_=>θ
  |_=>θ
 | .aY _ _ i _,y,θ=>match y with
  | .aY _ _ i' _=>(match isVar i with|some k=>gG n0 k (zW i') θ|none=>θ)
  |_=>θ
 | .pd r o _,y,θ=>match y with
  | .pd r' o' _=>(match Nat.beq o o' with|true=>rh n0 r r' θ|false=>rh n0 r (r'.drop o') θ)
  |_=>θ
 | .pc l _,y,θ=>match y with| .pc l' _=>x0 n0 l l' θ|_=>θ
 | .agg xs,y,θ=>match y with| .agg ys=>l5 n0 xs ys θ|_=>θ
 | .bB xs,y,θ=>match y with| .bB ys=>l5 n0 xs ys θ|_=>θ
 | .fn _ a b,y,θ=>match y with| .fn _ c d=>l5 n0 b d (l5 n0 a c θ)|_=>θ
 | .bH _ x,y,θ=>match y with| .bH _ y=>x5 n0 x y θ|_=>θ
 | .u,_,θ=>θ
 | .ptr _ _,_,θ=>θ
 | .vec _,_,θ=>θ
 | .ref _,_,θ=>θ
def l5(n0:Nat):List DV→List DV→Th→Th
 |x::xs,ys,θ=>match ys with|y::ys=>l5 n0 xs ys (x5 n0 x y θ)| []=>θ
 | [],_,θ=>θ
end
def oZ(c:Co):List Co→Bool
 | []=>false
 |d::r=>match c,d with
  | .fz k,.fz k'=>Nat.beq k k'||oZ c r
  | .rn k _,.rn k' _=>Nat.beq k k'||oZ c r
  | .nil t _ _ _,.nil t' _ _ _=>Nat.beq t t'||oZ c r
  | .cell k j _ _ _,.cell k' j' _ _ _=>(Nat.beq k k' && Nat.beq j j')||oZ c r
  |_,_=>oZ c r
def gH(c:Co)(l:List Co):List Co:=match oZ c l with|true=>l|false=>l++ [c]
def qs(S:bY)(k:Nat):List DV→List Co→List Co
 | [],l=>gH (.fz k) l
 | .vec j::r,l=>qs S k r (gH (.fz j) l)
 |_::r,l=>qs S k r l
mutual
def zX(H S:bY)(t:Option Nat):DV→DV→List Co→List Co
 | .p x _,y,l=>match x,y with
  | .sl _,.vec k=>gH (.fz k) l
  | .mp _ _,.ref k=>gH (.fz k) l
  |_,_=>l
 | .pc _ _,y,l=>match y with| .vec k=>gH (.fz k) l|_=>l
 | .pd _ _ _,y,l=>match y with
  | .ptr k _=>(match lk S k with|some (.box _ cells)=>qs S k cells l|_=>l)
  |_=>l
 | .vec K,y,l=>match y with
  | .p .nl _=>(match t,lk H K with|some t,some (.vec e sz _ _)=>gH (.nil t K e sz) l|_,_=>l)
  | .vec k=>(match Nat.beq k K with|true=>l|false=>gH (.rn k K) l)
  |_=>l
 | .ptr K _,y,l=>match y with
  | .ptr k _=>(match Nat.beq k K with|true=>l|false=>gH (.rn k K) l)
  |_=>l
 | .agg xs,y,l=>match y with| .agg ys=>qu H S xs ys l|_=>l
 | .bB xs,y,l=>match y with| .bB ys=>qu H S xs ys l|_=>l
 | .fn _ _ b,y,l=>match y with| .fn _ _ d=>qu H S b d l|_=>l
 | .bH _ x,y,l=>match y with| .bH _ y=>zX H S none x y l|_=>l
 | .u,_,l=>l
 | .ref K,y,l=>match y with
  | .ref k=>(match Nat.beq k K with|true=>l|false=>gH (.rn k K) l)
  |_=>l
 | .aY _ _ _ _,_,l=>l
def qu(H S:bY):List DV→List DV→List Co→List Co
 |x::xs,ys,l=>match ys with|y::ys=>qu H S xs ys (zX H S none x y l)| []=>l
 | [],_,l=>l
end
end Go.TL
namespace Go.TL
structure GOk(P:Program)(I:Pr)(σ σ':DSt):Prop where
 sc:σ.sc→σ'.sc
 nx:σ.nx≤σ'.nx
 run:σ.sc→∀ρ,σ.ok P I ρ→∃ρ',aS σ.nx ρ ρ'∧σ'.ok P I ρ'∧cS (σ.v ρ) (σ'.v ρ')
theorem GOk.refl{P:Program}{I:Pr}{σ:DSt}:GOk P I σ σ:=⟨id,Nat.le_refl _,fun _ ρ aC=>⟨ρ,aS.refl _ _,aC,cS.refl _⟩⟩
theorem cS.trans{s s' s'':St}(h:cS s s')(k:cS s' s''):cS s s'':=⟨fun t=>(h.az t).trans (k.az t),fun t=>(h.tab t).trans (k.tab t)⟩
theorem GOk.trans{P:Program}{I:Pr}{σ σ1 σ2:DSt}(h:GOk P I σ σ1)(k:GOk P I σ1 σ2):GOk P I σ σ2:=by
 refine⟨fun hs=>k.sc (h.sc hs),Nat.le_trans h.nx k.nx,?_⟩
 intro hs ρ aC
 obtain⟨ρ1,a1,o1,s1⟩:=h.run hs ρ aC
 obtain⟨ρ2,a2,o2,s2⟩:=k.run (h.sc hs) ρ1 o1
 exact⟨ρ2,a1.trans a2 h.nx,o2,s1.trans s2⟩
end Go.TL
