/- States seen otherwise: objects frozen, renamed, put away; nil lists that become lists of one's own. -/
import Derived.Test.YtpoamlpahljebaaGreatDoorW17
namespace Go.TL
mutual
def DV.rn(π:Nat→Nat):DV→DV
 | .vec j=> .vec (π j)
 | .ptr j off=> .ptr (π j) off
 | .bn j sz i off=> .bn (π j) sz i off
 | .ref j=> .ref (π j)
 | .agg xs=> .agg (oS π xs)
 | .bL xs=> .bL (oS π xs)
 | .fn f first aQ=> .fn f (oS π first) (oS π aQ)
 | .cL t x=> .cL t (DV.rn π x)
 | .u=> .u
 | .p x fr=> .p x fr
 | .pd row off fr=> .pd row off fr
 | .pc rows fr=> .pc rows fr
def oS(π:Nat→Nat):List DV→List DV
 | []=>[]
 |x::xs=>DV.rn π x::oS π xs
end
mutual
theorem A3(ρ:Ro)(π:Nat→Nat):∀x:DV,(x.rn π).v ρ=SV.rn π (x.v ρ)
 | .vec _=>by simp[DV.rn,DV.v,SV.rn]
 | .ptr _ _=>by simp[DV.rn,DV.v,SV.rn]
 | .bn _ _ _ _=>by simp[DV.rn,DV.v,SV.rn]
 | .ref _=>by simp[DV.rn,DV.v,SV.rn]
 | .agg xs=>by simp only[DV.rn,DV.v,SV.rn,zk ρ π xs]
 | .bL xs=>by simp only[DV.rn,DV.v,SV.rn,zk ρ π xs]
 | .fn f first aQ=>by simp only[DV.rn,DV.v,SV.rn,zk ρ π first,zk ρ π aQ]
 | .cL t x=>by simp only[DV.rn,DV.v,SV.rn,A3 ρ π x]
 | .u=>by simp[DV.rn,DV.v,SV.rn]
 | .p _ _=>by simp[DV.rn,DV.v,SV.rn]
 | .pd _ _ _=>by simp[DV.rn,DV.v,SV.rn]
 | .pc _ _=>by simp[DV.rn,DV.v,SV.rn]
theorem zk(ρ:Ro)(π:Nat→Nat):∀x:List DV,dvs ρ (oS π x)=rns π (dvs ρ x)
 | []=>by simp[oS,dvs,rns]
 |x::xs=>by simp only[oS,dvs,rns,A3 ρ π x,zk ρ π xs]
end
mutual
theorem uK(π:Nat→Nat):∀x:DV,(x.rn π).vars=x.vars
 | .vec _=>by simp[DV.rn,DV.vars]
 | .ptr _ _=>by simp[DV.rn,DV.vars]
 | .bn _ _ _ _=>by simp[DV.rn,DV.vars]
 | .ref _=>by simp[DV.rn,DV.vars]
 | .agg xs=>by simp only[DV.rn,DV.vars,oU π xs]
 | .bL xs=>by simp only[DV.rn,DV.vars,oU π xs]
 | .fn f first aQ=>by simp only[DV.rn,DV.vars,oU π first,oU π aQ]
 | .cL t x=>by simp only[DV.rn,DV.vars,uK π x]
 | .u=>by simp[DV.rn,DV.vars]
 | .p _ _=>by simp[DV.rn,DV.vars]
 | .pd _ _ _=>by simp[DV.rn,DV.vars]
 | .pc _ _=>by simp[DV.rn,DV.vars]
theorem oU(π:Nat→Nat):∀x:List DV,aD (oS π x)=aD x
 | []=>by simp[oS,aD]
 |x::xs=>by simp only[oS,aD,uK π x,oU π xs]
end
def DO.rn(π:Nat→Nat):DO→DO
 | .box t cells=> .box t (oS π cells)
 |o=>o
theorem DO.A3(ρ:Ro)(π:Nat→Nat)(o:DO):(o.rn π).v ρ=OV.rn π (o.v ρ):=by
 cases o<;>simp[DO.rn,DO.v,OV.rn,zk]
theorem DO.uK(π:Nat→Nat)(o:DO):(o.rn π).vars=o.vars:=by
 cases o<;>simp[DO.rn,DO.vars,oU]
def rH(π:Nat→Nat):bX→bX
 | []=>[]
 |(t,x)::r=>(t,x.rn π)::rH π r
def wu(π:Nat→Nat):aF→aF
 | []=>[]
 |(t,x)::r=>(π t,x.rn π)::wu π r
theorem Ff(ρ:Ro)(π:Nat→Nat):∀l:bX,cV ρ (rH π l)=rC π (cV ρ l)
 | []=>rfl
 |(t,x)::r=>by simp only[rH,cV,rC,A3,Ff ρ π r]
theorem J8(ρ:Ro)(π:Nat→Nat):∀l:aF,aU ρ (wu π l)=eo π (aU ρ l)
 | []=>rfl
 |(t,x)::r=>by simp only[wu,aU,eo,DO.A3,J8 ρ π r]
def DSt.rn(σ:DSt)(k k':Nat):DSt:={σ with ah:=rH (sw k k') σ.ah,tab:=wu (sw k k') σ.tab}
theorem DSt.A3(ρ:Ro)(σ:DSt)(k k':Nat):(σ.rn k k').v ρ=(σ.v ρ).rn k k':=by
 simp only[DSt.rn,DSt.v,St.rn,Ff,J8]
structure DSt.ZO(σ:DSt):Prop where
 ah:∀p∈σ.ah,Sc σ.nx p.2.vars
 tab:∀p∈σ.tab,Sc σ.nx p.2.vars
theorem Cj(π:Nat→Nat):∀(l:bX) (t:Nat),lk (rH π l) t=(lk l t).map (DV.rn π)
 | [],_=>rfl
 |(j,x)::r,t=>by simp only[rH,lk];cases Nat.beq j t<;>simp[Cj π r t]
theorem HE(a b:Nat):∀(l:aF) (t:Nat),lk (wu (sw a b) l) t=(lk l (sw a b t)).map (DO.rn (sw a b))
 | [],_=>rfl
 |(j,x)::r,t=>by
   simp only[wu,lk]
   have hb:Nat.beq (sw a b j) t=Nat.beq j (sw a b t):=by
    rw[Bool.eq_iff_iff]
    constructor
    ·intro h;have:=ZU h;subst this;rw[fT];exact Nat.beq_refl _
    ·intro h;have:=ZU h;subst this;rw[fT];exact Nat.beq_refl _
   rw[hb]
   cases Nat.beq j (sw a b t)<;>simp[HE a b r t]
theorem DSt.sc.rn{σ:DSt}(hs:σ.sc)(k k':Nat):(σ.rn k k').sc:=by
 refine⟨?_,?_,hs.tys,hs.lin,hs.prs⟩
 ·intro t v hl
  simp only[DSt.rn,Cj]at hl
  cases hq:lk σ.ah t with
  |none=>simp[hq]at hl
  |some x=>simp only[hq,Option.map_some,ZS]at hl;subst hl;rw[uK];exact hs.ah t x hq
 ·intro t v hl
  simp only[DSt.rn,HE]at hl
  cases hq:lk σ.tab (sw k k' t)with
  |none=>simp[hq]at hl
  |some x=>simp only[hq,Option.map_some,ZS]at hl;subst hl;rw[DO.uK];exact hs.tab _ x hq
def DSt.fz(k:Nat)(vc:DV)(pd:Nat→DV)(σ:DSt):DSt:={σ with ah:=kK k vc pd σ.ah,tab:=pX k vc pd (rm σ.tab k)}
theorem DSt.x6(ρ:Ro)(k:Nat)(vc:DV)(pd:Nat→DV)(σ:DSt):(DSt.fz k vc pd σ).v ρ=St.fz k (vc.v ρ) (fun n=>(pd n).v ρ) (σ.v ρ):=by
 simp only[DSt.fz,DSt.v,St.fz,tw,zd,nj]
theorem DSt.sc.fz{σ:DSt}(hs:σ.sc){k:Nat}{vc:DV}{pd:Nat→DV}(hv:Sc σ.nx vc.vars)(hp:∀j,Sc σ.nx (pd j).vars):(DSt.fz k vc pd σ).sc:=by
 refine⟨?_,?_,hs.tys,hs.lin,hs.prs⟩
 ·intro t v hl
  simp only[DSt.fz,pE]at hl
  cases hq:lk σ.ah t with
  |none=>simp[hq]at hl
  |some x=>simp only[hq,Option.map_some,ZS]at hl;subst hl;exact Go.TL.qR hv hp (hs.ah t x hq)
 ·intro t v hl
  simp only[DSt.fz,tz,qS]at hl
  split at hl
  ·simp at hl
  ·cases hq:lk σ.tab t with
   |none=>simp[hq]at hl
   |some x=>simp only[hq,Option.map_some,ZS]at hl;subst hl;exact DO.qR hv hp (hs.tab t x hq)
def DSt.eM:List Nat→DSt→DSt
 | [],σ=>σ
 |k::ks,σ=>DSt.eM ks (DSt.fz k .u (fun _=> .u) σ)
theorem J9(ρ:Ro):∀(ks:List Nat) (σ:DSt),(σ.eM ks).v ρ=(σ.v ρ).eM ks
 | [],_=>rfl
 |k::ks,σ=>by
  simp only[DSt.eM,St.eM,J9 ρ ks,DSt.x6,dVU,St.kill]
theorem HF:∀(ks:List Nat) {σ:DSt},σ.sc→(σ.eM ks).sc∧(σ.eM ks).nx=σ.nx∧(σ.eM ks).tys=σ.tys∧(σ.eM ks).lin=σ.lin∧(σ.eM ks).prs=σ.prs
 | [],_,h=>⟨h,rfl,rfl,rfl,rfl⟩
 |k::ks,σ,h=>HF ks (h.fz (k:=k) (by simp[DV.vars,Sc.nil]) (fun _=>by simp[DV.vars,Sc.nil]))
def jo(LT:List Nat):aF→List Nat
 | []=>[]
 |(k,_)::r=>match LT.any (Nat.beq k)with|true=>jo LT r|false=>k::jo LT r
theorem Fg(ρ:Ro)(LT:List Nat):∀T:aF,others LT (aU ρ T)=jo LT T
 | []=>rfl
 |(k,x)::r=>by
   simp only[aU,others,jo,Fg ρ LT r]
   cases LT.any (Nat.beq k)<;>rfl
def DSt.keep(L LT:List Nat)(σ:DSt):DSt:=
 let σ1:=σ.eM (jo LT σ.tab)
 {σ1 with ah:=pick σ1.ah L,tab:=pick σ1.tab LT}
theorem qU(ρ:Ro)(S:bX):∀L:List Nat,cV ρ (pick S L)=pick (cV ρ S) L
 | []=>rfl
 |k::ks=>by
  simp only[pick,fQ]
  cases lk S k with
  |none=>simp only[Option.map_none];exact qU ρ S ks
  |some x=>simp only[Option.map_some,cV,qU ρ S ks]
theorem wv(ρ:Ro)(S:aF):∀L:List Nat,aU ρ (pick S L)=pick (aU ρ S) L
 | []=>rfl
 |k::ks=>by
  simp only[pick,dD]
  cases lk S k with
  |none=>simp only[Option.map_none];exact wv ρ S ks
  |some x=>simp only[Option.map_some,aU,wv ρ S ks]
theorem VI(ρ:Ro)(L LT:List Nat)(σ:DSt):(σ.keep L LT).v ρ=(σ.v ρ).keep L LT:=by
 have h1:=J9 ρ (jo LT σ.tab) σ
 have h2:others LT (σ.v ρ).tab=jo LT σ.tab:=Fg ρ LT σ.tab
 have h3:(σ.v ρ).keep L LT=⟨pick ((σ.v ρ).eM (jo LT σ.tab)).ah L,pick ((σ.v ρ).eM (jo LT σ.tab)).tab LT⟩:=by simp only[St.keep,h2]
 rw[h3, ←h1]
 simp only[DSt.keep,DSt.v,qU,wv]
structure Co1(P:Program)(n:Nat)(σ σ':DSt):Prop where
 sc:σ.sc→σ'.sc
 nx:σ'.nx=σ.nx
 tys:σ'.tys=σ.tys
 lin:σ'.lin=σ.lin
 prs:σ'.prs=σ.prs
 imp:∀ρ,Imp P n (σ.v ρ) (σ'.v ρ)
theorem Co1.ok{P:Program}{I:Pr}{n:Nat}{σ σ':DSt}{ρ:Ro}(h:Co1 P n σ σ')(k:σ.ok P I ρ):σ'.ok P I ρ:=
 ⟨k.g,h.tys▸k.tys,h.lin▸k.lin,h.prs▸k.prs⟩
theorem Co1.refl{P:Program}{n:Nat}{σ:DSt}:Co1 P n σ σ:=⟨id,rfl,rfl,rfl,rfl,fun _=>Imp.refl⟩
theorem Co1.trans{P:Program}{n:Nat}{σ σ1 σ2:DSt}(h:Co1 P n σ σ1)(k:Co1 P n σ1 σ2):Co1 P n σ σ2:=
 ⟨fun x=>k.sc (h.sc x),k.nx.trans h.nx,k.tys.trans h.tys,k.lin.trans h.lin,k.prs.trans h.prs,fun ρ=>(h.imp ρ).trans (k.imp ρ)⟩
theorem D1{P:Program}{n:Nat}(L LT:List Nat)(σ:DSt):Co1 P n σ (σ.keep L LT):=by
 have hk:∀(ks:List Nat) (σ:DSt),(σ.eM ks).nx=σ.nx∧(σ.eM ks).tys=σ.tys∧(σ.eM ks).lin=σ.lin∧(σ.eM ks).prs=σ.prs:=by
  intro ks
  induction ks with
  |nil=>intro σ;exact⟨rfl,rfl,rfl,rfl⟩
  |cons k ks ih=>intro σ;exact ih (DSt.fz k .u (fun _=> .u) σ)
 have h1:=hk (jo LT σ.tab) σ
 refine⟨fun hs=>?_,h1.1,h1.2.1,h1.2.2.1,h1.2.2.2,fun ρ=>?_⟩
 ·have h2:=(HF (jo LT σ.tab) hs).1
  exact⟨fun t v hl=>h2.ah t v (jk _ _ _ _ hl),fun t v hl=>h2.tab t v (jk _ _ _ _ hl),h2.tys,h2.lin,h2.prs⟩
 ·exact PQ L LT (VI ρ L LT σ).symm
def DSt.jh(k:Nat)(σ:DSt):Option DSt:=
 match lk σ.tab k with
 |some (.vec _ _ l fr)=>some (DSt.fz k (.p (.sl l) fr) (fun _=> .u) σ)
 |some (.mp a l fr)=>some (DSt.fz k (.p (.mp a l) fr) (fun _=> .u) σ)
 |some (.box _ cells)=>match jV cells with
  |some (row,fr)=>match pY row with
   |true=>some (DSt.fz k .u (fun off=> .pd row off fr) σ)
   |false=>none
  |none=>none
 |_=>none
theorem Lv{P:Program}{n k:Nat}{σ σ':DSt}(h:σ.jh k=some σ'):Co1 P n σ σ':=by
 unfold DSt.jh at h
 split at h
 ·rename_i t sz l fr hk
  simp only[ZS]at h;subst h
  refine⟨fun hs=>hs.fz (by have:=hs.tab k _ hk;simpa[DV.vars,DP.vars,DO.vars]using this) (fun _=>by simp[DV.vars,Sc.nil]),rfl,rfl,rfl,rfl,fun ρ=>?_⟩
  refine vK [k] ?_
  simp only[St.freeze,St.jh,dJ hk,DO.v,DSt.x6,DV.v,DP.v]
 ·rename_i a l fr hk
  simp only[ZS]at h;subst h
  refine⟨fun hs=>hs.fz (by have:=hs.tab k _ hk;simpa[DV.vars,DP.vars,DO.vars]using this) (fun _=>by simp[DV.vars,Sc.nil]),rfl,rfl,rfl,rfl,fun ρ=>?_⟩
  refine vK [k] ?_
  simp only[St.freeze,St.jh,dJ hk,DO.v,DSt.x6,DV.v,DP.v]
 ·rename_i t cells hk
  split at h
  ·rename_i row fr a6
   split at h
   ·rename_i hc
    simp only[ZS]at h;subst h
    refine⟨fun hs=>hs.fz (by simp[DV.vars,Sc.nil]) (fun _=>by simp only[DV.vars];exact pZ a6 (by have:=hs.tab k _ hk;simpa[DO.vars]using this)),rfl,rfl,rfl,rfl,fun ρ=>?_⟩
    refine vK [k] ?_
    simp only[St.freeze,St.jh,dJ hk,DO.v,oP a6 hc,DSt.x6,DV.v]
   ·cases h
  ·cases h
 ·cases h
inductive Co where
 |fz(k:Nat)
 |rn(k k':Nat)
 |nil(t K:Nat)(e:TypeId)(sz:Nat)
 |cell(k j K:Nat)(e:TypeId)(sz:Nat)
def DSt.co(n:Nat)(σ:DSt):Co→Option DSt
 | .fz k=>σ.jh k
 | .rn k k'=>match(lk σ.tab k').isSome,Nat.ble (k'+1) n with
  |false,true=>some (σ.rn k k')
  |_,_=>none
 | .nil t K e sz=>match lk σ.ah t,(lk σ.tab K).isSome,Nat.ble (K+1) n,Nat.ble 1 sz with
  |some (.p .nl _),false,true,true=>some {σ with ah:=(t,.vec K)::rm σ.ah t,tab:=(K,.vec e sz none true)::σ.tab}
  |_,_,_,_=>none
 | .cell k j K e sz=>match lk σ.tab k,(lk σ.tab K).isSome,Nat.ble (K+1) n,Nat.ble 1 sz with
  |some (.box t cells),false,true,true=>match cells[j]? with
   |some (.p .nl _)=>some {σ with tab:=(K,.vec e sz none true)::(k,.box t (cells.set j (.vec K)))::rm σ.tab k}
   |_=>none
  |_,_,_,_=>none
theorem XK{P:Program}{n:Nat}{σ σ':DSt}{c:Co}(h:σ.co n c=some σ'):Co1 P n σ σ':=by
 cases c with
 |fz k=>exact Lv h
 |rn k k'=>
  simp only[DSt.co]at h
  split at h
  ·rename_i h1 h2
   simp only[ZS]at h;subst h
   refine⟨fun hs=>hs.rn k k',rfl,rfl,rfl,rfl,fun ρ=>?_⟩
   refine U6 k k' ?_ h2 (DSt.A3 ρ σ k k').symm
   simp only[DSt.v,dD,Option.isSome_map];exact h1
  ·cases h
 |nil t K e sz=>
  simp only[DSt.co]at h
  split at h
  ·rename_i fr hl hK hKn bf
   simp only[ZS]at h;subst h
   refine⟨fun hs=>⟨?_,?_,hs.tys,hs.lin,hs.prs⟩,rfl,rfl,rfl,rfl,fun ρ=>?_⟩
   ·intro t' v fg
    simp only[cK]at fg
    split at fg
    ·simp only[ZS]at fg;subst fg;simp[DV.vars,Sc.nil]
    ·rw[qS]at fg
     split at fg
     ·cases fg
     ·exact hs.ah t' v fg
   ·intro t' v fg
    simp only[cK]at fg
    split at fg
    ·simp only[ZS]at fg;subst fg;simp[DO.vars,a8,Sc.nil]
    ·exact hs.tab t' v fg
   ·refine KU t K e sz ?_ ?_ hKn bf ?_
    ·simp only[PT,DSt.v,fQ,hl,Option.map_some,DV.v,DP.v]
    ·simp only[DSt.v,dD,Option.isSome_map];exact hK
    ·simp only[St.r9,DSt.v,cV,aU,xP,DV.v,DO.v,lvV]
  ·cases h
 |cell k j K e sz=>
  simp only[DSt.co]at h
  split at h
  ·rename_i t cells hk hK hKn bf
   split at h
   ·rename_i fr hj
    simp only[ZS]at h;subst h
    refine⟨fun hs=>⟨hs.ah,?_,hs.tys,hs.lin,hs.prs⟩,rfl,rfl,rfl,rfl,fun ρ=>?_⟩
    ·intro t' v fg
     simp only[cK]at fg
     split at fg
     ·simp only[ZS]at fg;subst fg;simp[DO.vars,a8,Sc.nil]
     ·split at fg
      ·simp only[ZS]at fg;subst fg
       have:=hs.tab k _ hk
       simp only[DO.vars,su]at this ⊢
       intro x hx
       rcases List.mem_or_eq_of_mem_set hx with hx|rfl
       ·exact this x hx
       ·simp[DV.vars,Sc.nil]
      ·rw[qS]at fg
       split at fg
       ·cases fg
       ·exact hs.tab t' v fg
    ·refine I8 k j K e sz ?_ hKn bf ?_
     ·simp only[DSt.v,dD,Option.isSome_map];exact hK
     ·simp only[St.Dz,dJ hk,DO.v,gF,List.getElem?_map,hj,Option.map_some,DV.v,DP.v,FX,gR]
      simp only[DSt.v,aU,DO.v,nj,gF,List.map_set,DV.v,lvV]
   ·cases h
  ·cases h
def DSt.cos(n:Nat)(σ:DSt):List Co→Option DSt
 | []=>some σ
 |c::cs=>match σ.co n c with
  |some σ'=>σ'.cos n cs
  |none=>none
theorem sD{P:Program}{n:Nat}:∀{cs:List Co} {σ σ':DSt},σ.cos n cs=some σ'→Co1 P n σ σ'
 | [],σ,σ',h=>by simp only[DSt.cos,ZS]at h;subst h;exact Co1.refl
 |c::cs,σ,σ',h=>by
  simp only[DSt.cos]at h
  split at h
  ·rename_i σ1 h1;exact(XK h1).trans (sD h)
  ·cases h
end Go.TL
namespace Go.TL
structure Seq where
 tys:List (Nat×TypeId)
 lin:List Lin
 prs:List PF
 goal:G
def Seq.valid(P:Program)(I:Pr)(s:Seq):Prop:=∀ρ,Gok ρ→dA P ρ s.tys→bh ρ s.lin→c5 I ρ s.prs→s.goal.v I ρ
def Valid(P:Program)(I:Pr)(l:List Seq):Prop:=∀s∈l,s.valid P I
theorem Valid.app{P:Program}{I:Pr}{a b:List Seq}:Valid P I (a++b) ↔ Valid P I a∧Valid P I b:=by
 unfold Valid;simp only[List.mem_append]
 exact⟨fun h=>⟨fun s hs=>h s (.inl hs),fun s hs=>h s (.inr hs)⟩,fun h s hs=>hs.elim (h.1 s) (h.2 s)⟩
theorem Valid.nil{P:Program}{I:Pr}:Valid P I []:=by intro s hs;simp at hs
def QH:PF→PF→Bool
 | .pr id a,.pr id' a'=>Nat.beq id id' && wq.natsEq a a'
 | .je f,.je g=>f.beq g
 | .sub s a lo hi,.sub s' a' jb ea=>(Nat.beq s s' && Nat.beq a a') && (lo.beq jb && hi.beq ea)
 | .row l i c,.row l' i' c'=>(Nat.beq l l' && i.beq i') && qT c c'
 | .app l a b,.app l' a' b'=>Nat.beq l l' && (gw a a' && gw b b')
 |_,_=>false
theorem Tq{a b:PF}(h:QH a b=true):a=b:=by
 unfold QH at h
 split at h
 ·simp only[Bool.and_eq_true]at h;rw[ZU h.1,Fe h.2]
 ·rw[BF.beq_eq h]
 ·simp only[Bool.and_eq_true]at h;rw[ZU h.1.1,ZU h.1.2,Lin.beq_eq h.2.1,Lin.beq_eq h.2.2]
 ·simp only[Bool.and_eq_true]at h;rw[ZU h.1.1,Lin.beq_eq h.1.2,sB h.2]
 ·simp only[Bool.and_eq_true]at h;rw[ZU h.1,eH h.2.1,eH h.2.2]
 ·cases h
def nV(f:PF):List PF→Bool
 | []=>false
 |g::r=>match QH f g with|true=>true|false=>nV f r
theorem j8{I:Pr}{ρ:Ro}{f:PF}:∀{l:List PF},nV f l=true→c5 I ρ l→f.v I ρ
 |g::r,h,hv=>by
  simp only[nV]at h
  split at h
  ·rename_i h1;rw[Tq h1];exact hv.1
  ·exact j8 h hv.2
def p5(e:Lin):Lin:=(Lin.scale (-1) e).aN 1
def sE(σ:DSt):BF→Option Bool
 | .lit b=>some b
 | .le e=>match cW σ e with
  |true=>some true
  |false=>match cW σ (p5 e)with|true=>some false|false=>none
 | .not f=>match sE σ f with|some b=>some (!b)|none=>none
 | .eq e=>match cW σ e,cW σ (Lin.scale (-1) e)with
  |true,true=>some true
  |true,false=>match cW σ (e.aN 1)with
   |true=>some false
   |false=>match nV (.je (.not (.eq e))) σ.prs with|true=>some false|false=>none
  |false,true=>match cW σ (p5 e)with
   |true=>some false
   |false=>match nV (.je (.not (.eq e))) σ.prs with|true=>some false|false=>none
  |false,false=>match nV (.je (.eq e)) σ.prs with
   |true=>some true
   |false=>match nV (.je (.not (.eq e))) σ.prs with|true=>some false|false=>none
 |f=>match nV (.je f) σ.prs with
  |true=>some true
  |false=>match nV (.je (.not f)) σ.prs with|true=>some false|false=>none
theorem Ck{P:Program}{I:Pr}{σ:DSt}{ρ:Ro}(ab:σ.ok P I ρ):∀{f:BF} {b:Bool},sE σ f=some b→f.v ρ=b
 | .lit c,b,h=>by simp only[sE,ZS]at h;subst h;rfl
 | .le e,b,h=>by
  simp only[sE]at h
  split at h
  ·rename_i hp
   simp only[ZS]at h;subst h
   have:=cB ab hp;simp[BF.v,this]
  ·split at h
   ·rename_i hp
    simp only[ZS]at h;subst h
    have:=cB ab hp
    simp only[p5,Lin.aO,Lin.bE]at this
    simp only[BF.v,decide_eq_false_iff_not];omega
   ·cases h
 | .not f,b,h=>by
  simp only[sE]at h
  split at h
  ·rename_i c hc
   simp only[ZS]at h;subst h
   simp only[BF.v,Ck ab hc]
  ·cases h
 | .var k,b,h=>by
  simp only[sE]at h
  split at h
  ·rename_i hp
   simp only[ZS]at h;subst h
   exact j8 hp ab.prs
  ·split at h
   ·rename_i hp
    simp only[ZS]at h;subst h
    have:=j8 hp ab.prs
    simpa[PF.v,BF.v]using this
   ·cases h
 | .eq e,b,h=>by
  have neg:∀c,(match nV (.je (.not (.eq e))) σ.prs with|true=>some false|false=>none)=some c→(BF.eq e).v ρ=c:=by
   intro c h
   split at h
   ·rename_i hp
    simp only[ZS]at h;subst h
    have:=j8 hp ab.prs
    simpa[PF.v,BF.v]using this
   ·cases h
  simp only[sE]at h
  split at h
  ·rename_i h1 h2
   simp only[ZS]at h;subst h
   have a1:=cB ab h1
   have a2:=cB ab h2
   rw[Lin.bE]at a2
   simp only[BF.v,decide_eq_true_eq];omega
  ·split at h
   ·rename_i h1
    simp only[ZS]at h;subst h
    have a1:=cB ab h1
    rw[Lin.aO]at a1
    simp only[BF.v,decide_eq_false_iff_not];omega
   ·exact neg b h
  ·split at h
   ·rename_i h1
    simp only[ZS]at h;subst h
    have a1:=cB ab h1
    simp only[p5,Lin.aO,Lin.bE]at a1
    simp only[BF.v,decide_eq_false_iff_not];omega
   ·exact neg b h
  ·split at h
   ·rename_i hp
    simp only[ZS]at h;subst h
    exact j8 hp ab.prs
   ·exact neg b h
 | .and f g,b,h=>by
  simp only[sE]at h
  split at h
  ·rename_i hp
   simp only[ZS]at h;subst h
   exact j8 hp ab.prs
  ·split at h
   ·rename_i hp
    simp only[ZS]at h;subst h
    have:=j8 hp ab.prs
    simp only[PF.v,BF.v]at this ⊢
    exact(Bool.not_eq_true' _).mp this
   ·cases h
 | .or f g,b,h=>by
  simp only[sE]at h
  split at h
  ·rename_i hp
   simp only[ZS]at h;subst h
   exact j8 hp ab.prs
  ·split at h
   ·rename_i hp
    simp only[ZS]at h;subst h
    have:=j8 hp ab.prs
    simp only[PF.v,BF.v]at this ⊢
    exact(Bool.not_eq_true' _).mp this
   ·cases h
def QI(σ:DSt):PF→Bool
 | .je f=>match sE σ f with|some true=>true|_=>false
 |_=>false
theorem VJ{P:Program}{I:Pr}{σ:DSt}{ρ:Ro}(ab:σ.ok P I ρ){f:PF}(h:QI σ f=true):f.v I ρ:=by
 unfold QI at h
 split at h
 ·split at h
  ·rename_i hd;exact Ck ab hd
  ·cases h
 ·cases h
def Oo(σ:DSt):G→Bool
 | .le e=>cW σ e
 | .pf f=>match nV f σ.prs with|true=>true|false=>QI σ f
def todo(σ:DSt):List G→List Seq
 | []=>[]
 |g::r=>match Oo σ g with
  |true=>todo σ r
  |false=>⟨σ.tys,σ.lin,σ.prs,g⟩::todo σ r
theorem jq{P:Program}{I:Pr}{σ:DSt}{ρ:Ro}(ab:σ.ok P I ρ):∀{gs:List G},Valid P I (todo σ gs)→gsV I ρ gs
 | [],_=>trivial
 |g::r,h=>by
  simp only[todo]at h
  split at h
  ·rename_i hs
   refine⟨?_,jq ab h⟩
   cases g with
   |le e=>exact cB ab hs
   |pf f=>
    simp only[Oo]at hs
    split at hs
    ·rename_i hm;exact j8 hm ab.prs
    ·exact VJ ab hs
  ·exact⟨h _ (ZW ..) ρ ab.g ab.tys ab.lin ab.prs,jq ab fun s hs=>h s (ZV _ hs)⟩
mutual
theorem F6:∀x:SV,SV.rn (fun k=>k) x=x
 | .vec _=>by simp[SV.rn]
 | .ptr _ _=>by simp[SV.rn]
 | .bn _ _ _ _=>by simp[SV.rn]
 | .ref _=>by simp[SV.rn]
 | .agg xs=>by simp only[SV.rn,sF xs]
 | .bL xs=>by simp only[SV.rn,sF xs]
 | .fn f first aQ=>by simp only[SV.rn,sF first,sF aQ]
 | .cL t x=>by simp only[SV.rn,F6 x]
 | .u=>by simp[SV.rn]
 | .p _ _=>by simp[SV.rn]
 | .pd _ _ _=>by simp[SV.rn]
 | .pc _ _=>by simp[SV.rn]
theorem sF:∀x:List SV,rns (fun k=>k) x=x
 | []=>by simp[rns]
 |x::xs=>by simp only[rns,F6 x,sF xs]
end
theorem Oq(o:OV):OV.rn (fun k=>k) o=o:=by cases o<;>simp[OV.rn,sF]
theorem A4:∀T:Tab,eo (fun k=>k) T=T
 | []=>rfl
 |(k,x)::r=>by simp only[eo,Oq,A4 r]
def zl(θ:Th):bX→bX
 | []=>[]
 |(t,x)::r=>(t,x.inst θ (fun k=>k))::zl θ r
theorem Cl(θ:Th):∀(l:bX) (t:Nat),lk (zl θ l) t=(lk l t).map fun x=>x.inst θ (fun k=>k)
 | [],_=>rfl
 |(j,x)::r,t=>by simp only[zl,lk];cases Nat.beq j t<;>simp[Cl θ r t]
theorem Cm{θ:Th}:∀{l T:aF},j7 θ (fun k=>k) l=some T→∀k,(∀x,lk l k=some x→∃y,lk T k=some y∧x.inst θ (fun k=>k)=some y)∧(lk l k=none→lk T k=none)
 | [],T,h,k=>by simp only[j7,ZS]at h;subst h;exact⟨by simp[lk],fun _=>rfl⟩
 |(j,z)::r,T,h,k=>by
   simp only[j7]at h
   split at h
   ·rename_i y r' h1 h2
    simp only[ZS]at h;subst h
    simp only[lk]
    cases Nat.beq j k with
    |true=>exact⟨fun x hx=>by simp only[ZS]at hx;subst hx;exact⟨y,rfl,h1⟩,by simp⟩
    |false=>exact Cm h2 k
   ·cases h
def Lw(n:Nat):Th→Bool
 | []=>true
 |(k,_)::r=>match Nat.ble n k with|true=>Lw n r|false=>false
theorem Tr{n:Nat}{ρ:Ro}:∀{θ:Th},Lw n θ=true→au n ρ (ap ρ θ):=by
 intro θ h k hk
 have:lk θ k=none:=by
  induction θ with
  |nil=>rfl
  |cons p r ih=>
   obtain⟨j,t⟩:=p
   simp only[Lw]at h
   split at h
   ·rename_i hj
    have:=ZX hj
    simp only[lk]
    cases hb:Nat.beq j k with
    |true=>have:=ZU hb;omega
    |false=>exact ih h
   ·cases h
 simp only[ap,this]
def F7(θ:Th):List Lin→List G
 | []=>[]
 |e::r=> .le (e.si θ)::F7 θ r
def HG(θ:Th):List PF→Option (List G)
 | []=>some []
 |f::r=>match f.inst θ,HG θ r with
  |some g,some gs=>some (.pf g::gs)
  |_,_=>none
theorem D2{I:Pr}{ρ:Ro}{θ:Th}:∀{l:List Lin},gsV I ρ (F7 θ l)→bh (ap ρ θ) l
 | [],_=>trivial
 |e::r,h=>⟨by have:=h.1;simp only[G.v,Lin.gf]at this;exact this,D2 h.2⟩
theorem HH{I:Pr}{ρ:Ro}{θ:Th}:∀{l:List PF} {gs:List G},HG θ l=some gs→gsV I ρ gs→c5 I (ap ρ θ) l
 | [],_,_,_=>trivial
 |f::r,gs,h,hv=>by
  simp only[HG]at h
  split at h
  ·rename_i g gs' h1 h2
   simp only[ZS]at h;subst h
   exact⟨(PF.ml I ρ θ h1).1 hv.1,HH h2 hv.2⟩
  ·cases h
def dU{α:Type}:List (Nat×α)→List Nat
 | []=>[]
 |(k,_)::r=>k::dU r
theorem Cn{α:Type}:∀{l:List (Nat×α)} {k:Nat},k∈dU l→lk l k≠none
 |(j,x)::r,k,h=>by
   simp only[lk]
   cases hb:Nat.beq j k with
   |true=>simp
   |false=>
    simp only[dU,List.mem_cons]at h
    rcases h with rfl|h
    ·simp[Nat.beq_refl]at hb
    ·exact Cn h
theorem A5{α:Type}(l:List (Nat×α)):∀(ks:List Nat) (t:Nat),lk (pick l ks) t≠none→t∈ks
 | [],t,h=>by simp[pick,lk]at h
 |k::ks,t,h=>by
  simp only[pick]at h
  split at h
  ·simp only[lk]at h
   cases hb:Nat.beq k t with
   |true=>rw[ZU hb];exact ZW ..
   |false=>simp only[hb]at h;exact ZV _ (A5 l ks t h)
  ·exact ZV _ (A5 l ks t h)
def core(n0:Nat)(σ T:DSt)(θ:Th):Option (List G):=
 match Lw n0 θ,D0 θ,rG θ σ.tys T.tys,HG θ T.prs with
 |true,some g1,true,some g2=>match zj σ.ah (zl θ T.ah),j7 θ (fun k=>k) T.tab with
  |true,some tb=>match Cg σ.tab tb with
   |true=>some (g1++(F7 θ T.lin++g2))
   |false=>none
  |_,_=>none
 |_,_,_,_=>none
structure Cp(P:Program)(I:Pr)(n n0:Nat)(σ T:DSt)(ρ ρ':Ro):Prop where
 ag:au n0 ρ ρ'
 g:Gok ρ'
 tys:dA P ρ' T.tys
 lin:bh ρ' T.lin
 prs:c5 I ρ' T.prs
 imp:Imp P n (σ.v ρ) (T.v ρ')
theorem Ts{P:Program}{I:Pr}{n n0:Nat}{σ T:DSt}{θ:Th}{gs:List G}{ρ:Ro}(h:core n0 σ T θ=some gs)(hkeys:∀k,lk σ.tab k≠none→lk T.tab k≠none)(ab:σ.ok P I ρ)(hv:gsV I ρ gs):
  Cp P I n n0 σ T ρ (ap ρ θ):=by
 unfold core at h
 split at h
 ·rename_i g1 g2 h1 h2 h3 h4
  split at h
  ·rename_i tb h5 h6
   split at h
   ·rename_i h7
    simp only[ZS]at h;subst h
    rw[jm,jm]at hv
    refine⟨Tr h1,Om ab.g h2 hv.1,tB ab.tys h3,D2 hv.2.1,HH h4 hv.2.2,?_⟩
    refine HD ?_ ?_ ?_
    ·intro t b hl
     simp only[DSt.v,fQ]at hl ⊢
     cases hq:lk T.ah t with
     |none=>simp[hq]at hl
     |some y=>
      simp only[hq,Option.map_some,ZS]at hl;subst hl
      obtain⟨x,hx,hle⟩:=Ci h5 t (y.inst θ (fun k=>k)) (by rw[Cl,hq];rfl)
      refine⟨x.v ρ,by rw[hx];rfl,fun w E lo v hr=>?_⟩
      have:=HC (ρ:=ρ) hle hr
      rw[ml,F6]at this;exact this
    ·intro k b hl
     simp only[DSt.v,dD]at hl ⊢
     cases hq:lk T.tab k with
     |none=>simp[hq]at hl
     |some y=>
      simp only[hq,Option.map_some,ZS]at hl;subst hl
      obtain⟨y',hy1,hy2⟩:=(Cm h6 k).1 y hq
      obtain⟨x,hx,hle⟩:=A2 h7 k y' hy1
      refine⟨x.v ρ,by rw[hx];rfl,fun w E lo hr=>?_⟩
      have:=On (ρ:=ρ) hle hr
      rw[DO.ml ρ θ _ hy2,Oq]at this;exact this
    ·intro k hk
     simp only[DSt.v,dD]at hk ⊢
     have:lk σ.tab k≠none:=by intro e;rw[e]at hk;simp at hk
     have:=hkeys k this
     cases hq:lk T.tab k with
     |none=>exact absurd hq this
     |some y=>simp
   ·cases h
  ·cases h
 ·cases h
def isVar(e:Lin):Option Nat:=
 match isZ e.c,e.t with
 |true,[(a,c)]=>match y5 c,Nat.beq (a % 4) 0 with|true,true=>some (a / 4)|_,_=>none
 |_,_=>none
def QJ(e:Lin):Tm:=match isVar e with|some j=> .v j|none=> .i e
def kp(n0 k:Nat)(tm:Tm)(θ:Th):Th:=
 match Nat.ble n0 k with
 |true=>match lk θ k with|some _=>θ|none=>(k,tm)::θ
 |false=>θ
def Sk(n0:Nat):DP→DP→Th→Th
 | .int _ e,.int _ e',θ=>match isVar e with|some k=>kp n0 k (QJ e') θ|none=>θ
 | .bl (.var k),.bl f,θ=>kp n0 k (match f with| .var j=> .v j|f=> .b f) θ
 | .st (.var k),.st e,θ=>kp n0 k (match e with| .var j=> .v j|e=> .s e) θ
 | .sl (some k),.sl l,θ=>kp n0 k (match l with|some j=> .v j|none=> .l none) θ
 | .sl (some k),.nl,θ=>kp n0 k (.l none) θ
 | .ls (some k),.ls l,θ=>kp n0 k (match l with|some j=> .v j|none=> .l none) θ
 | .mp _ (some k),.mp _ l,θ=>kp n0 k (match l with|some j=> .v j|none=> .l none) θ
 | .ls (some k),.ej _,θ=>kp n0 k (.l none) θ
 | .mp _ (some k),.ej _,θ=>kp n0 k (.l none) θ
 |_,_,θ=>θ
def Cq(n0:Nat):List DP→List DP→Th→Th
 |x::xs,y::ys,θ=>Cq n0 xs ys (Sk n0 x y θ)
 |_,_,θ=>θ
def zm(n0:Nat):LV→LV→Th→Th
 |some k,some j,θ=>kp n0 k (.v j) θ
 |some k,none,θ=>kp n0 k (.l none) θ
 |none,_,θ=>θ
mutual
def Lx(n0:Nat):DV→DV→Th→Th
 | .p x _,y,θ=>match y with
  | .p y _=>Sk n0 x y θ
  | .pc l _=>match x with| .sl k=>zm n0 k l θ|_=>θ
  |_=>θ
 | .bn _ _ i _,y,θ=>match y with
  | .bn _ _ i' _=>(match isVar i with|some k=>kp n0 k (QJ i') θ|none=>θ)
  |_=>θ
 | .pd r o _,y,θ=>match y with
  | .pd r' o' _=>(match Nat.beq o o' with|true=>Cq n0 r r' θ|false=>Cq n0 r (r'.drop o') θ)
  |_=>θ
 | .pc l _,y,θ=>match y with| .pc l' _=>zm n0 l l' θ|_=>θ
 | .agg xs,y,θ=>match y with| .agg ys=>sG n0 xs ys θ|_=>θ
 | .bL xs,y,θ=>match y with| .bL ys=>sG n0 xs ys θ|_=>θ
 | .fn _ a b,y,θ=>match y with| .fn _ c d=>sG n0 b d (sG n0 a c θ)|_=>θ
 | .cL _ x,y,θ=>match y with| .cL _ y=>Lx n0 x y θ|_=>θ
 | .u,_,θ=>θ
 | .ptr _ _,_,θ=>θ
 | .vec _,_,θ=>θ
 | .ref _,_,θ=>θ
def sG(n0:Nat):List DV→List DV→Th→Th
 |x::xs,ys,θ=>match ys with|y::ys=>sG n0 xs ys (Lx n0 x y θ)| []=>θ
 | [],_,θ=>θ
end
def XL(n0:Nat):DO→DO→Th→Th
 | .box _ xs,.box _ ys,θ=>sG n0 xs ys θ
 | .vec _ _ l _,.vec _ _ l' _,θ=>zm n0 l l' θ
 | .mp _ l _,.mp _ l' _,θ=>zm n0 l l' θ
 | .it _ l _ n _,.it _ l' _ n' _,θ=>match isVar n with|some k=>kp n0 k (QJ n') (zm n0 l l' θ)|none=>zm n0 l l' θ
 |_,_,θ=>θ
def A6(n0:Nat)(S:bX):bX→Th→Th
 | [],θ=>θ
 |(t,x)::r,θ=>match lk S t with
   |some y=>A6 n0 S r (Lx n0 x y θ)
   |none=>A6 n0 S r θ
def Cr(n0:Nat)(S:aF):aF→Th→Th
 | [],θ=>θ
 |(t,x)::r,θ=>match lk S t with
   |some y=>Cr n0 S r (XL n0 x y θ)
   |none=>Cr n0 S r θ
def D3(a:Nat)(lo hi:Lin):List PF→Option Nat
 | []=>none
 | .sub s a' jb ea::r=>match Nat.beq a a',lo.beq jb,hi.beq ea with
  |true,true,true=>some s
  |_,_,_=>D3 a lo hi r
 |_::r=>D3 a lo hi r
def D4(a:Nat)(i:Lin):List PF→Option (List DP)
 | []=>none
 | .row a' i' c::r=>match Nat.beq a a',i.beq i' with|true,true=>some c|_,_=>D4 a i r
 |_::r=>D4 a i r
def Ly(a:Nat)(k:Int):List (Nat×Int)→Bool
 | []=>false
 |(b,j)::r=>match Nat.beq a b with|true=>decide (k=j)|false=>Ly a k r
def QK(j:Nat):Th→Bool
 | []=>false
 |(_,.v i)::r=>match Nat.beq i j with|true=>true|false=>QK j r
 |_::r=>QK j r
def Ot(n0:Nat)(θ:Th)(m:Nat)(k:Int):List (Nat×Int)→Option Nat
 | []=>none
 |(b,j)::r=>match Nat.ble n0 (b / 4),Nat.beq (b % 4) m,decide (k=j),QK (b / 4) θ with
   |true,true,true,false=>some (b / 4)
   |_,_,_,_=>Ot n0 θ m k r
def p6(n0:Nat)(S:List PF):List PF→Th→Th
 | [],θ=>θ
 | .sub s a lo hi::r,θ=>match tV θ a with
  |some a'=>match D3 a' (lo.si θ) (hi.si θ) S with
   |some s'=>p6 n0 S r (kp n0 s (.v s') θ)
   |none=>p6 n0 S r θ
  |none=>p6 n0 S r θ
 | .row a i c::r,θ=>match tV θ a with
  |some a'=>match D4 a' (i.si θ) S with
   |some c'=>p6 n0 S r (Cq n0 c c' θ)
   |none=>p6 n0 S r θ
  |none=>p6 n0 S r θ
 |_::r,θ=>p6 n0 S r θ
def Ct(n0:Nat)(θ:Th):List (Nat×Int)→List (Nat×Int)→Option (Nat×Nat)→Option (Nat×Nat)
 | [],_,u=>u
 |(a,k)::r,f,u=>match Nat.ble n0 (a / 4),lk θ (a / 4)with
   |true,none=>match u with
    |some _=>none
    |none=>match Ot n0 θ (a % 4) k f with|some b=>Ct n0 θ r f (some (a / 4,b))|none=>none
   |true,some (.v j)=>match Ly (4*j+a % 4) k f with|true=>Ct n0 θ r f u|false=>none
   |true,some _=>none
   |false,_=>match Ly a k f with|true=>Ct n0 θ r f u|false=>none
def HI(n0:Nat)(θ:Th):List (Nat×Int)→Nat
 | []=>0
 |(a,_)::r=>match Nat.ble n0 (a / 4),lk θ (a / 4)with|true,none=>HI n0 θ r+1|_,_=>HI n0 θ r
def Lz(n0:Nat)(θ:Th)(e:Lin):List Lin→Option (Nat×Nat)
 | []=>none
 |f::r=>match decide (e.c=f.c),Nat.beq e.t.length f.t.length with
  |true,true=>match Ct n0 θ e.t f.t none with|some p=>some p|none=>Lz n0 θ e r
  |_,_=>Lz n0 θ e r
def rI(n0:Nat)(S:List Lin):List Lin→Th→Th
 | [],θ=>θ
 |e::r,θ=>match HI n0 θ e.t with
  |1=>match Lz n0 θ e S with
   |some (k,j)=>rI n0 S r ((k,.v j)::θ)
   |none=>rI n0 S r θ
  |_=>rI n0 S r θ
def D5(c:Co):List Co→Bool
 | []=>false
 |d::r=>match c,d with
  | .fz k,.fz k'=>Nat.beq k k'||D5 c r
  | .rn k _,.rn k' _=>Nat.beq k k'||D5 c r
  | .nil t _ _ _,.nil t' _ _ _=>Nat.beq t t'||D5 c r
  | .cell k j _ _ _,.cell k' j' _ _ _=>(Nat.beq k k' && Nat.beq j j')||D5 c r
  |_,_=>D5 c r
def jO(c:Co)(l:List Co):List Co:=match D5 c l with|true=>l|false=>l++ [c]
def F8(S:aF)(k:Nat):List DV→List Co→List Co
 | [],l=>jO (.fz k) l
 | .vec j::r,l=>F8 S k r (jO (.fz j) l)
 |_::r,l=>F8 S k r l
mutual
def LB(H S:aF)(t:Option Nat):DV→DV→List Co→List Co
 | .p x _,y,l=>match x,y with
  | .sl _,.vec k=>jO (.fz k) l
  | .mp _ _,.ref k=>jO (.fz k) l
  |_,_=>l
 | .pc _ _,y,l=>match y with| .vec k=>jO (.fz k) l|_=>l
 | .pd _ _ _,y,l=>match y with
  | .ptr k _=>(match lk S k with|some (.box _ cells)=>F8 S k cells l|_=>l)
  |_=>l
 | .vec K,y,l=>match y with
  | .p .nl _=>(match t,lk H K with|some t,some (.vec e sz _ _)=>jO (.nil t K e sz) l|_,_=>l)
  | .vec k=>(match Nat.beq k K with|true=>l|false=>jO (.rn k K) l)
  |_=>l
 | .ptr K _,y,l=>match y with
  | .ptr k _=>(match Nat.beq k K with|true=>l|false=>jO (.rn k K) l)
  |_=>l
 | .agg xs,y,l=>match y with| .agg ys=>F9 H S xs ys l|_=>l
 | .bL xs,y,l=>match y with| .bL ys=>F9 H S xs ys l|_=>l
 | .fn _ _ b,y,l=>match y with| .fn _ _ d=>F9 H S b d l|_=>l
 | .cL _ x,y,l=>match y with| .cL _ y=>LB H S none x y l|_=>l
 | .u,_,l=>l
 | .ref K,y,l=>match y with
  | .ref k=>(match Nat.beq k K with|true=>l|false=>jO (.rn k K) l)
  |_=>l
 | .bn _ _ _ _,_,l=>l
def F9(H S:aF):List DV→List DV→List Co→List Co
 |x::xs,ys,l=>match ys with|y::ys=>F9 H S xs ys (LB H S none x y l)| []=>l
 | [],_,l=>l
end
def D6(H S:aF)(Sl:bX):bX→List Co→List Co
 | [],l=>l
 |(t,x)::r,l=>match lk Sl t with
   |some y=>D6 H S Sl r (LB H S (some t) x y l)
   |none=>D6 H S Sl r l
def Ka(H S:aF)(k:Nat):Nat→List DV→List DV→List Co→List Co
 |j,x::xs,y::ys,l=>Ka H S k (j+1) xs ys (match x,y with
  | .vec K,.p .nl _=>(match lk H K with|some (.vec e sz _ _)=>jO (.cell k j K e sz) l|_=>l)
  |x,y=>LB H S none x y l)
 |_,_,_,l=>l
def LD(H S:aF):aF→List Co→List Co
 | [],l=>l
 |(k,x)::r,l=>match x,lk S k with
   | .box _ xs,some (.box _ ys)=>LD H S r (Ka H S k 0 xs ys l)
   |_,_=>LD H S r l
def Sm(n0:Nat)(σ2 T:DSt)(θ:Th)(ex:Th→List G):Option (List Seq):=
 match core n0 σ2 T θ with
 |some gs=>some (todo σ2 (gs++ex θ))
 |none=>none
def wx(n n0:Nat)(σ T:DSt)(ex:Th→List G):Option (List Seq):=
 match σ.cos n (LD T.tab σ.tab T.tab (D6 T.tab σ.tab σ.ah T.ah []))with
 |none=>none
 |some σ1=>match σ1.keep (dU T.ah) (dU T.tab)with
  |σ2=>Sm n0 σ2 T (rI n0 σ2.lin T.lin (rI n0 σ2.lin T.lin (p6 n0 σ2.prs T.prs (Cr n0 σ2.tab T.tab (A6 n0 σ2.ah T.ah []))))) ex
def LG(n:Nat)(σ0 σ T:DSt):Option (List Seq):=wx n σ0.nx σ T fun _=>[]
theorem A7{P:Program}{I:Pr}{n n0:Nat}{σ T:DSt}{ex:Th→List G}{seqs:List Seq}(h:wx n n0 σ T ex=some seqs)(hV:Valid P I seqs):
  ∀ρ,σ.ok P I ρ→∃θ,Cp P I n n0 σ T ρ (ap ρ θ)∧gsV I ρ (ex θ):=by
 unfold wx at h
 split at h
 ·cases h
 ·rename_i σ1 h1
  simp only at h
  generalize rI n0 _ _ _=θ at h
  unfold Sm at h
  split at h
  ·rename_i gs hc
   simp only[ZS]at h;subst h
   intro ρ ab
   have c1:=sD (P:=P) h1
   have c2:=D1 (P:=P) (n:=n) (dU T.ah) (dU T.tab) σ1
   have oq:=c2.ok (c1.ok ab)
   have hk:∀k,lk (σ1.keep (dU T.ah) (dU T.tab)).tab k≠none→lk T.tab k≠none:=fun k hk=>Cn (A5 _ _ _ hk)
   have hg:=jm.1 (jq oq hV)
   have r:=Ts (n:=n) hc hk oq hg.1
   exact⟨_,⟨r.ag,r.g,r.tys,r.lin,r.prs,((c1.imp ρ).trans (c2.imp ρ)).trans r.imp⟩,hg.2⟩
  ·cases h
theorem D7{P:Program}{I:Pr}{n:Nat}{σ0 σ T:DSt}{seqs:List Seq}(h:LG n σ0 σ T=some seqs)(hV:Valid P I seqs):
  ∀ρ,σ.ok P I ρ→∃ρ',Cp P I n σ0.nx σ T ρ ρ':=fun ρ ab=>by
 obtain⟨θ,h1,_⟩:=A7 h hV ρ ab
 exact⟨_,h1⟩
end Go.TL
namespace Go.TL
structure GOk(P:Program)(I:Pr)(σ σ':DSt):Prop where
 sc:σ.sc→σ'.sc
 nx:σ.nx≤σ'.nx
 run:σ.sc→∀ρ,σ.ok P I ρ→∃ρ',au σ.nx ρ ρ'∧σ'.ok P I ρ'∧cq (σ.v ρ) (σ'.v ρ')
theorem GOk.refl{P:Program}{I:Pr}{σ:DSt}:GOk P I σ σ:=⟨id,Nat.le_refl _,fun _ ρ ab=>⟨ρ,au.refl _ _,ab,cq.refl _⟩⟩
theorem cq.trans{s s' s'':St}(h:cq s s')(k:cq s' s''):cq s s'':=⟨fun t=>(h.ah t).trans (k.ah t),fun t=>(h.tab t).trans (k.tab t)⟩
theorem GOk.trans{P:Program}{I:Pr}{σ σ1 σ2:DSt}(h:GOk P I σ σ1)(k:GOk P I σ1 σ2):GOk P I σ σ2:=by
 refine⟨fun hs=>k.sc (h.sc hs),Nat.le_trans h.nx k.nx,?_⟩
 intro hs ρ ab
 obtain⟨ρ1,a1,o1,s1⟩:=h.run hs ρ ab
 obtain⟨ρ2,a2,o2,s2⟩:=k.run (h.sc hs) ρ1 o1
 exact⟨ρ2,a1.trans a2 h.nx,o2,s1.trans s2⟩
theorem HJ{P:Program}{I:Pr}{σ:DSt}{e:TypeId}{lin:List Lin}{prs:List PF}(hg:σ.sc→jT (σ.nx+1) [(σ.nx,e)] lin prs)
  (h:σ.sc→∀ρ,σ.ok P I ρ→∃l:List (List PV),bK P e l∧∀ρ',au σ.nx ρ ρ'→(ρ' σ.nx).l=l→bh ρ' lin∧c5 I ρ' prs):GOk P I σ (σ.grow 1 [(σ.nx,e)] lin prs):=by
 refine⟨fun hs=>hs.grow (hg hs),Nat.le_succ _,?_⟩
 intro hs ρ ab
 obtain⟨l,hl,hr⟩:=h hs ρ ab
 let ρ':Ro:=fun k=>if k=σ.nx then vaL l else ρ k
 have ha:au σ.nx ρ ρ':=fun k hk=>by simp only[ρ'];rw[if_neg (by omega)]
 have hvl:(ρ' σ.nx).l=l:=by simp only[ρ',if_true];rfl
 have hgk:Gok ρ':=by
  have key:∀k,mQ (ρ' k):=by
   intro k
   simp only[ρ']
   split
   ·exact jU hl.len
   ·exact⟨ab.g.lo k,ab.g.hi k,ab.g.st k,ab.g.ln k⟩
  exact⟨fun k=>(key k).lo,fun k=>(key k).hi,fun k=>(key k).st,fun k=>(key k).ln⟩
 obtain⟨h1,h2⟩:=hr ρ' ha hvl
 exact⟨ρ',ha,ab.grow hs ha hgk ⟨by rw[hvl];exact hl,trivial⟩ h1 h2,DSt.fX hs ha⟩
def LH(σ:DSt)(l:Nat):DSt:=
 match lk σ.tys l,Nat.ble (l+1) σ.nx with
 |some e,true=>σ.grow 1 [(σ.nx,e)] [(Lin.at (4*σ.nx+1)).ax (-1) (Lin.at (4*l+1)),(Lin.at (4*l+1)).ax (-1) (Lin.at (4*σ.nx+1)),(Lin.at (4*σ.nx+2)).ax (-1) (Lin.at (4*l+2)),(Lin.at (4*l+2)).ax (-1) (Lin.at (4*σ.nx+2))]
   [.sub σ.nx l (Lin.lit 0) (Lin.at (4*l+1))]
 |_,_=>σ
theorem QL{P:Program}{I:Pr}{σ:DSt}{l:Nat}:GOk P I σ (LH σ l):=by
 unfold LH
 split
 ·rename_i e he hl
  have fg:=ZX hl
  have q:∀t,t<4→(4*l+t) / 4<σ.nx+1:=fun t ht=>by omega
  have q':∀t,t<4→(4*σ.nx+t) / 4<σ.nx+1:=fun t ht=>by omega
  refine HJ ?_ ?_
  ·intro hs
   refine⟨by simp,?_,?_⟩
   ·intro x hx
    simp only[List.mem_cons,List.mem_nil_iff,or_false]at hx
    rcases hx with rfl|rfl|rfl|rfl
    ·exact Lin.aE (Lin.bC (q' 1 (by omega))) (Lin.bC (q 1 (by omega)))
    ·exact Lin.aE (Lin.bC (q 1 (by omega))) (Lin.bC (q' 1 (by omega)))
    ·exact Lin.aE (Lin.bC (q' 2 (by omega))) (Lin.bC (q 2 (by omega)))
    ·exact Lin.aE (Lin.bC (q 2 (by omega))) (Lin.bC (q' 2 (by omega)))
   ·intro x hx
    simp only[List.mem_singleton]at hx;subst hx
    simp only[PF.vars,Sc.cons,Sc.app]
    exact⟨by omega,by omega,Lin.eg,Lin.bC (q 1 (by omega))⟩
  ·intro hs ρ ab
   refine⟨(ρ l).l,eE ab.tys he,?_⟩
   intro ρ' ha dQ
   have jd:(ρ' l).l=(ρ l).l:=by rw[ha l fg]
   simp only[bh,Lin.bQ,Lin.bN,dI,fa,dQ,jd,c5,PF.v,Lin.cT]
   refine⟨⟨by omega,by omega,by omega,by omega,trivial⟩,?_,trivial⟩
   simp
 ·exact GOk.refl
def oV:List DP→Bool
 | []=>true
 | .ej _::_=>false
 |_::r=>oV r
theorem Fh{ρ:Ro}(hg:Gok ρ):∀{xs:List DP},oV xs=true→(drz xs).v ρ=(rz (ar ρ xs):Int)
 | [],_=>by simp[drz,ar,rz,Lin.cT]
 |x::xs,h=>by
  have hr:oV xs=true:=by cases x<;>first|exact h|(simp[oV]at h)
  have hx:∀v,x= .ej v→∀s,v≠ .string s:=by cases x<;>first|(simp[oV]at h;done)|simp
  simp only[drz,ar,eA,Lin.K8,Sj hg x hx,Fh hg hr]
  omega
def lA(l:Nat)(i:Lin):List PF→Option (Nat×Lin)
 | []=>none
 | .sub s a lo hi::r=>match Nat.beq a l,lo.beq i with
  |true,true=>some (s,hi)
  |_,_=>lA l i r
 |_::r=>lA l i r
theorem hY{I:Pr}{ρ:Ro}{l:Nat}{i:Lin}{s:Nat}{hi:Lin}:∀{r:List PF},lA l i r=some (s,hi)→c5 I ρ r→(PF.sub s l i hi).v I ρ∧PF.sub s l i hi∈r
 | .sub s' a lo ea::r,h,hv=>by
  simp only[lA]at h
  split at h
  ·rename_i h1 h2
   simp only[ZS,ZT]at h;obtain⟨rfl,rfl⟩:=h
   have:=ZU h1;subst this
   have:=Lin.beq_eq h2;subst this
   exact⟨hv.1,ZW ..⟩
  ·have:=hY h hv.2;exact⟨this.1,ZV _ this.2⟩
 | .row _ _ _::r,h,hv=>by have:=hY (r:=r) h hv.2;exact⟨this.1,ZV _ this.2⟩
 | .app _ _ _::r,h,hv=>by have:=hY (r:=r) h hv.2;exact⟨this.1,ZV _ this.2⟩
 | .lit _ _::r,h,hv=>by have:=hY (r:=r) h hv.2;exact⟨this.1,ZV _ this.2⟩
 | .set _ _ _ _::r,h,hv=>by have:=hY (r:=r) h hv.2;exact⟨this.1,ZV _ this.2⟩
 | .je _::r,h,hv=>by have:=hY (r:=r) h hv.2;exact⟨this.1,ZV _ this.2⟩
 | .cat _ _ _::r,h,hv=>by have:=hY (r:=r) h hv.2;exact⟨this.1,ZV _ this.2⟩
 | .pr _ _::r,h,hv=>by have:=hY (r:=r) h hv.2;exact⟨this.1,ZV _ this.2⟩
def Ga(σ:DSt):DSt:=
 match σ.prs with
 | .row l i cells::rest=>match lA l i rest,lA l (i.aN 1) rest with
  |some (s,hi),none=>match lk σ.tys l,cW σ ((i.ax (-1) hi).aN 1),oV cells with
   |some e,true,true=>σ.grow 1 [(σ.nx,e)]
     [(((Lin.at (4*s+2)).ax (-1) (Lin.at (4*σ.nx+2))).ax (-1) (drz cells)).aN (-1),((((Lin.at (4*σ.nx+2)).ax 1 (drz cells)).ax (-1) (Lin.at (4*s+2))).aN 1),
      ((Lin.at (4*s+1)).ax (-1) (Lin.at (4*σ.nx+1))).aN (-1),(((Lin.at (4*σ.nx+1)).ax (-1) (Lin.at (4*s+1))).aN 1)]
     [.sub σ.nx l (i.aN 1) hi]
   |_,_,_=>σ
  |_,_=>σ
 |_=>σ
theorem QM{P:Program}{I:Pr}{σ:DSt}:GOk P I σ (Ga σ):=by
 unfold Ga
 split
 ·rename_i l i cells rest hp
  split
  ·rename_i s hi hf _
   split
   ·rename_i e he av fI
    have q':∀t,t<4→(4*σ.nx+t) / 4<σ.nx+1:=fun t ht=>by omega
    refine HJ ?_ ?_
    ·intro hs
     have h1:=hs.prs (.row l i cells) (by rw[hp];simp)
     have h2:PF.sub s l i hi∈rest:=by
      have:∀r:List PF,lA l i r=some (s,hi)→PF.sub s l i hi∈r:=by
       intro r
       induction r with
       |nil=>intro h;simp[lA]at h
       |cons f r ih=>
        intro h
        cases f with
        |sub s' a lo ea=>
         simp only[lA]at h
         split at h
         ·rename_i g1 g2
          simp only[ZS,ZT]at h;obtain⟨rfl,rfl⟩:=h
          rw[ZU g1,Lin.beq_eq g2];exact ZW ..
         ·exact ZV _ (ih h)
        |_=>exact ZV _ (ih h)
      exact this rest hf
     have h3:=hs.prs _ (by rw[hp];exact ZV _ h2)
     simp only[PF.vars,Sc.cons,Sc.app]at h1 h3
     have q:∀t,t<4→(4*s+t) / 4<σ.nx+1:=fun t ht=>by omega
     have hz:=(uB h1.2.2).mono (Nat.le_succ σ.nx)
     refine⟨by simp,?_,?_⟩
     ·intro x hx
      simp only[List.mem_cons,List.mem_nil_iff,or_false]at hx
      rcases hx with rfl|rfl|rfl|rfl
      ·exact Lin.bI (Lin.aE (Lin.aE (Lin.bC (q 2 (by omega))) (Lin.bC (q' 2 (by omega)))) hz)
      ·exact Lin.bI (Lin.aE (Lin.aE (Lin.bC (q' 2 (by omega))) hz) (Lin.bC (q 2 (by omega))))
      ·exact Lin.bI (Lin.aE (Lin.bC (q 1 (by omega))) (Lin.bC (q' 1 (by omega))))
      ·exact Lin.bI (Lin.aE (Lin.bC (q' 1 (by omega))) (Lin.bC (q 1 (by omega))))
     ·intro x hx
      simp only[List.mem_singleton]at hx;subst hx
      simp only[PF.vars,Sc.cons,Sc.app]
      exact⟨by omega,by omega,Lin.bI (h1.2.1.mono (Nat.le_succ _)),h3.2.2.2.mono (Nat.le_succ _)⟩
    ·intro hs ρ ab
     have hpv:=ab.prs
     rw[hp]at hpv
     obtain⟨a6,hrest⟩:=hpv
     obtain⟨oA,gx⟩:=hY hf hrest
     have h1:=hs.prs (.row l i cells) (by rw[hp];simp)
     have h3:=hs.prs _ (by rw[hp];exact ZV _ gx)
     simp only[PF.vars,Sc.cons,Sc.app]at h1 h3
     simp only[PF.v]at a6 oA
     have tZ:=cB ab av
     simp only[Lin.aO,Lin.bQ]at tZ
     refine⟨((ρ l).l.take (hi.v ρ).toNat).drop ((i.v ρ).toNat+1),(eE ab.tys he).sub _ _,?_⟩
     intro ρ' ha dQ
     have hi1:i.v ρ'=i.v ρ:=Lin.ag ha h1.2.1
     have hi2:hi.v ρ'=hi.v ρ:=Lin.ag ha h3.2.2.2
     have ig:(ρ' l).l=(ρ l).l:=by rw[ha l h1.1]
     have hs1:(ρ' s).l=(ρ s).l:=by rw[ha s h3.1]
     have hz1:(drz cells).v ρ'=(rz (ar ρ cells):Int):=by rw[Lin.ag ha (uB h1.2.2)];exact Fh ab.g fI
     have hcons:(ρ s).l=ar ρ cells::((ρ l).l.take (hi.v ρ).toNat).drop ((i.v ρ).toNat+1):=by
      rw[oA]
      have dC:((ρ l).l.take (hi.v ρ).toNat)[(i.v ρ).toNat]? =some (ar ρ cells):=by
       rw[List.getElem?_take,if_pos (by omega)];exact a6.2
      obtain⟨hlt2,heq⟩:=ZY dC
      rw[List.drop_eq_getElem_cons hlt2,heq]
     have hn:(i.v ρ+1).toNat=(i.v ρ).toNat+1:=by omega
     simp only[bh,Lin.bQ,Lin.aO,Lin.bN,dI,fa,dQ,ig,hs1,hz1,c5,PF.v,hi1,hi2,hn,hcons,eY,List.length_cons]
     refine⟨⟨by omega,by omega,by omega,by omega,trivial⟩,?_,trivial⟩
     trivial
   ·exact GOk.refl
  ·exact GOk.refl
 ·exact GOk.refl
end Go.TL
