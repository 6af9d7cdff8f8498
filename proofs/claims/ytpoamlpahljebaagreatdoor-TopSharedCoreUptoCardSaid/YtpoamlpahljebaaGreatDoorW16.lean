/- Objects that are put away or frozen. -/
import Derived.Test.YtpoamlpahljebaaGreatDoorW15
namespace Go.TL
mutual
def DV.fz(k:Nat)(vc:DV)(pd:Nat→DV):DV→DV
 | .vec j=>match Nat.beq j k with|true=>vc|false=> .vec j
 | .ptr j off=>match Nat.beq j k with|true=>pd off|false=> .ptr j off
 | .bn j sz i off=>match Nat.beq j k with|true=> .u|false=> .bn j sz i off
 | .ref j=>match Nat.beq j k with|true=>vc|false=> .ref j
 | .agg xs=> .agg (qk k vc pd xs)
 | .bL xs=> .bL (qk k vc pd xs)
 | .fn f first aQ=> .fn f (qk k vc pd first) (qk k vc pd aQ)
 | .cL t x=> .cL t (DV.fz k vc pd x)
 | .u=> .u
 | .p x fr=> .p x fr
 | .pd row off fr=> .pd row off fr
 | .pc l fr=> .pc l fr
def qk(k:Nat)(vc:DV)(pd:Nat→DV):List DV→List DV
 | []=>[]
 |x::xs=>DV.fz k vc pd x::qk k vc pd xs
end
mutual
theorem x6(ρ:Ro)(k:Nat)(vc:DV)(pd:Nat→DV):∀x:DV,(DV.fz k vc pd x).v ρ=SV.fz k (vc.v ρ) (fun n=>(pd n).v ρ) (x.v ρ)
 | .vec j=>by simp only[DV.fz,DV.v,SV.fz];cases Nat.beq j k<;>simp[DV.v]
 | .ptr j off=>by simp only[DV.fz,DV.v,SV.fz];cases Nat.beq j k<;>simp[DV.v]
 | .bn j sz i off=>by simp only[DV.fz,DV.v,SV.fz];cases Nat.beq j k<;>simp[DV.v]
 | .ref j=>by simp only[DV.fz,DV.v,SV.fz];cases Nat.beq j k<;>simp[DV.v]
 | .agg xs=>by simp only[DV.fz,DV.v,SV.fz,zb ρ k vc pd xs]
 | .bL xs=>by simp only[DV.fz,DV.v,SV.fz,zb ρ k vc pd xs]
 | .fn f first aQ=>by simp only[DV.fz,DV.v,SV.fz,zb ρ k vc pd first,zb ρ k vc pd aQ]
 | .cL t x=>by simp only[DV.fz,DV.v,SV.fz,x6 ρ k vc pd x]
 | .u=>by simp[DV.fz,DV.v,SV.fz]
 | .p x fr=>by simp[DV.fz,DV.v,SV.fz]
 | .pd row off fr=>by simp[DV.fz,DV.v,SV.fz]
 | .pc l fr=>by simp[DV.fz,DV.v,SV.fz]
theorem zb(ρ:Ro)(k:Nat)(vc:DV)(pd:Nat→DV):∀xs:List DV,dvs ρ (qk k vc pd xs)=fzs k (vc.v ρ) (fun n=>(pd n).v ρ) (dvs ρ xs)
 | []=>by simp[qk,dvs,fzs]
 |x::xs=>by simp only[qk,dvs,fzs,x6 ρ k vc pd x,zb ρ k vc pd xs]
end
mutual
theorem qR{n:Nat}{k:Nat}{vc:DV}{pd:Nat→DV}(hv:Sc n vc.vars)(hp:∀j,Sc n (pd j).vars):∀{x:DV},Sc n x.vars→Sc n (DV.fz k vc pd x).vars
 | .vec j,_=>by simp only[DV.fz];cases Nat.beq j k with|true=>exact hv|false=>simp[DV.vars,Sc.nil]
 | .ptr j off,_=>by simp only[DV.fz];cases Nat.beq j k with|true=>exact hp off|false=>simp[DV.vars,Sc.nil]
 | .bn j sz i off,h=>by simp only[DV.fz];cases Nat.beq j k with|true=>simp[DV.vars,Sc.nil]|false=>exact h
 | .ref j,_=>by simp only[DV.fz];cases Nat.beq j k with|true=>exact hv|false=>simp[DV.vars,Sc.nil]
 | .agg xs,h=>by simp only[DV.fz,DV.vars]at h ⊢;exact uI hv hp h
 | .bL xs,h=>by simp only[DV.fz,DV.vars]at h ⊢;exact uI hv hp h
 | .fn f first aQ,h=>by simp only[DV.fz,DV.vars,Sc.app]at h ⊢;exact⟨uI hv hp h.1,uI hv hp h.2⟩
 | .cL t x,h=>by simp only[DV.fz,DV.vars]at h ⊢;exact qR hv hp h
 | .u,_=>by simp[DV.fz,DV.vars,Sc.nil]
 | .p x fr,h=>by simpa only[DV.fz]using h
 | .pd row off fr,h=>by simpa only[DV.fz]using h
 | .pc l fr,h=>by simpa only[DV.fz]using h
theorem uI{n:Nat}{k:Nat}{vc:DV}{pd:Nat→DV}(hv:Sc n vc.vars)(hp:∀j,Sc n (pd j).vars):∀{xs:List DV},Sc n (aD xs)→Sc n (aD (qk k vc pd xs))
 | [],_=>by simp[qk,aD,Sc.nil]
 |x::xs,h=>by simp only[qk,aD,Sc.app]at h ⊢;exact⟨qR hv hp h.1,uI hv hp h.2⟩
end
def kK(k:Nat)(vc:DV)(pd:Nat→DV):bX→bX
 | []=>[]
 |(t,x)::r=>(t,DV.fz k vc pd x)::kK k vc pd r
def DO.fz(k:Nat)(vc:DV)(pd:Nat→DV):DO→DO
 | .box t cells=> .box t (qk k vc pd cells)
 |o=>o
def pX(k:Nat)(vc:DV)(pd:Nat→DV):aF→aF
 | []=>[]
 |(t,x)::r=>(t,DO.fz k vc pd x)::pX k vc pd r
theorem tw(ρ:Ro)(k:Nat)(vc:DV)(pd:Nat→DV):∀l:bX,cV ρ (kK k vc pd l)=gP k (vc.v ρ) (fun n=>(pd n).v ρ) (cV ρ l)
 | []=>rfl
 |(t,x)::r=>by simp only[kK,cV,gP,x6,tw ρ k vc pd r]
theorem VF(ρ:Ro)(k:Nat)(vc:DV)(pd:Nat→DV)(o:DO):(o.fz k vc pd).v ρ=(o.v ρ).fz k (vc.v ρ) (fun n=>(pd n).v ρ):=by
 cases o<;>simp[DO.fz,DO.v,OV.fz,zb]
theorem zd(ρ:Ro)(k:Nat)(vc:DV)(pd:Nat→DV):∀l:aF,aU ρ (pX k vc pd l)=nK k (vc.v ρ) (fun n=>(pd n).v ρ) (aU ρ l)
 | []=>rfl
 |(t,x)::r=>by simp only[pX,aU,nK,VF,zd ρ k vc pd r]
theorem pE(k:Nat)(vc:DV)(pd:Nat→DV):∀(l:bX) (t:Nat),lk (kK k vc pd l) t=(lk l t).map (DV.fz k vc pd)
 | [],_=>rfl
 |(j,x)::r,t=>by simp only[kK,lk];cases Nat.beq j t<;>simp[pE k vc pd r t]
theorem tz(k:Nat)(vc:DV)(pd:Nat→DV):∀(l:aF) (t:Nat),lk (pX k vc pd l) t=(lk l t).map (DO.fz k vc pd)
 | [],_=>rfl
 |(j,x)::r,t=>by simp only[pX,lk];cases Nat.beq j t<;>simp[tz k vc pd r t]
theorem pF(k:Nat)(vc:SV)(pd:Nat→SV):∀(l:List (Nat×SV)) (t:Nat),lk (gP k vc pd l) t=(lk l t).map (SV.fz k vc pd)
 | [],_=>rfl
 |(j,x)::r,t=>by simp only[gP,lk];cases Nat.beq j t<;>simp[pF k vc pd r t]
theorem tA(k:Nat)(vc:SV)(pd:Nat→SV):∀(l:Tab) (t:Nat),lk (nK k vc pd l) t=(lk l t).map (OV.fz k vc pd)
 | [],_=>rfl
 |(j,x)::r,t=>by simp only[nK,lk];cases Nat.beq j t<;>simp[tA k vc pd r t]
theorem qS{α:Type}(l:List (Nat×α))(n m:Nat):lk (rm l n) m=if m=n then none else lk l m:=by
 by_cases h:m=n
 ·subst h;rw[lp,if_pos rfl]
 ·rw[cM _ _ _ h,if_neg h]
theorem cK{α:Type}(l:List (Nat×α))(n m:Nat)(x:α):lk ((n,x)::l) m=if m=n then some x else lk l m:=by
 by_cases h:m=n
 ·subst h;rw[aB,if_pos rfl]
 ·rw[aw _ _ _ _ h,if_neg h]
def DSt.re(σ:DSt)(k d:Nat)(ov:DO):DSt:=
 {σ with ah:=(d,.vec d)::kK k .u (fun _=> .u) σ.ah,tab:=(d,ov)::pX k .u (fun _=> .u) (rm σ.tab k)}
theorem YK(ρ:Ro)(σ:DSt)(k d:Nat)(ov:DO):(σ.re k d ov).v ρ=(σ.v ρ).re k d (ov.v ρ):=by
 simp only[DSt.re,DSt.v,St.re,cV,aU,tw,zd,nj,DV.v]
theorem cq.re{s s':St}(h:cq s s')(k d:Nat)(ov:OV):cq (s.re k d ov) (s'.re k d ov):=by
 constructor
 ·intro t
  simp only[St.re,cK,pF,h.ah t]
 ·intro t
  simp only[St.re,cK,tA,qS,h.tab t]
theorem DO.qR{n k:Nat}{vc:DV}{pd:Nat→DV}(hv:Sc n vc.vars)(hp:∀j,Sc n (pd j).vars){o:DO}(h:Sc n o.vars):Sc n (o.fz k vc pd).vars:=by
 cases o with
 |box t cells=>simp only[DO.fz,DO.vars]at h ⊢;exact uI hv hp h
 |vec t sz l fr=>exact h
 |mp a l fr=>exact h
 |it a l fr n on=>exact h
theorem DSt.sc.re{σ:DSt}(hs:σ.sc)(k d:Nat){ov:DO}(ho:Sc σ.nx ov.vars):(σ.re k d ov).sc:=by
 have hu:Sc σ.nx DV.u.vars:=by simp[DV.vars,Sc.nil]
 refine⟨?_,?_,hs.tys,hs.lin,hs.prs⟩
 ·intro t v hl
  simp only[DSt.re,cK]at hl
  split at hl
  ·simp only[ZS]at hl;subst hl;simp[DV.vars,Sc.nil]
  ·rw[pE]at hl
   cases hq:lk σ.ah t with
   |none=>simp[hq]at hl
   |some x=>simp only[hq,Option.map_some,ZS]at hl;subst hl;exact Go.TL.qR hu (fun _=>hu) (hs.ah t x hq)
 ·intro t v hl
  simp only[DSt.re,cK]at hl
  split at hl
  ·simp only[ZS]at hl;subst hl;exact ho
  ·rw[tz]at hl
   cases hq:lk (rm σ.tab k) t with
   |none=>simp[hq]at hl
   |some x=>
    simp only[hq,Option.map_some,ZS]at hl;subst hl
    rw[qS]at hq
    split at hq
    ·cases hq
    ·exact DO.qR hu (fun _=>hu) (hs.tab t x hq)
theorem DQ{P:Program}{I:Pr}{σ:DSt}{o:Oper}{gs:List G}{k d n:Nat}{ov:DO}{tys:List (Nat×TypeId)}{lin:List Lin}{prs:List PF}(hov:σ.sc→Sc (σ.nx+n) ov.vars)
  (hg:σ.sc→jT (σ.nx+n) tys lin prs)
  (h:∀ρ,σ.sc→σ.ok P I ρ→gsV I ρ gs→∃ρ',au σ.nx ρ ρ'∧Gok ρ'∧dA P ρ' tys∧bh ρ' lin∧c5 I ρ' prs∧
   ∃(H:Hint) (ps:List Prop),aop P H (σ.v ρ) o=some ((σ.v ρ).re k d (ov.v ρ'),ps)∧lM ps):Good P I σ o ((σ.grow n tys lin prs).re k d ov) gs:=by
 intro hs
 have fm:=hs.grow (hg hs)
 refine⟨fm.re k d (hov hs),Nat.le_add_right _ _,?_⟩
 intro ρ ab hgs
 obtain⟨ρ',ha,hgk,h1,h2,h3,H,ps,h4,h5⟩:=h ρ hs ab hgs
 have cR:=ab.grow (n:=n) hs ha hgk h1 h2 h3
 refine⟨ρ',ha,⟨cR.g,cR.tys,cR.lin,cR.prs⟩,H,_,ps,h4,h5,?_⟩
 rw[YK]
 exact cq.re (DSt.fX hs ha) _ _ _
end Go.TL
namespace Go.TL
def wk(σ:DSt)(d:Nat):DV→Option (LV×Bool×Nat×Option (TypeId×Nat))
 | .vec k=>match lk σ.tab k with
  |some (.vec t sz l fr)=>some (l,fr,k,some (t,sz))
  |_=>none
 | .p .nl _=>some (none,true,d,none)
 |_=>none
def DS(σ:DSt):DV→Option (LV×Bool)
 | .vec k=>match lk σ.tab k with
  |some (.vec _ _ l fr)=>some (l,fr)
  |_=>none
 | .p (.sl l) fr=>some (l,fr)
 | .p .nl _=>some (none,true)
 | .pc l fr=>some (l,fr)
 |_=>none
theorem Tl{σ:DSt}{d:Nat}{x:DV}{l:LV}{fr:Bool}{k:Nat}{ts:Option (TypeId×Nat)}(ρ:Ro)(h:wk σ d x=some (l,fr,k,ts)):
  xu (σ.v ρ).tab d (x.v ρ)=some (lvV ρ l,fr,k,ts):=by
 unfold wk at h
 split at h
 ·split at h
  ·rename_i hk
   simp only[ZS,ZT]at h;obtain⟨rfl,rfl,rfl,rfl⟩:=h
   simp only[DV.v,xu,dJ hk,DO.v]
  ·cases h
 ·simp only[ZS,ZT]at h;obtain⟨rfl,rfl,rfl,rfl⟩:=h
  simp[DV.v,DP.v,xu,lvV]
 ·cases h
theorem Qx{σ:DSt}{d:Nat}{x:DV}{l:LV}{fr:Bool}{k:Nat}{ts:Option (TypeId×Nat)}(ρ:Ro)(h:wk σ d x=some (l,fr,k,ts)):PI (x.v ρ)=false:=by
 unfold wk at h
 split at h
 ·rfl
 ·rfl
 ·cases h
theorem Oh{σ:DSt}{x:DV}{l:LV}{fr:Bool}(ρ:Ro)(h:DS σ x=some (l,fr)):qz (σ.v ρ).tab (x.v ρ)=some (lvV ρ l,fr):=by
 unfold DS at h
 split at h
 ·split at h
  ·rename_i hk
   simp only[ZS,ZT]at h;obtain⟨rfl,rfl⟩:=h
   simp only[DV.v,qz,dJ hk,DO.v]
  ·cases h
 ·simp only[ZS,ZT]at h;obtain⟨rfl,rfl⟩:=h
  simp[DV.v,DP.v,qz]
 ·simp only[ZS,ZT]at h;obtain⟨rfl,rfl⟩:=h
  simp[DV.v,DP.v,qz,lvV]
 ·simp only[ZS,ZT]at h;obtain⟨rfl,rfl⟩:=h
  simp[DV.v,qz]
 ·cases h
theorem Qy{σ:DSt}(hs:σ.sc){d:Nat}{x:DV}{l:LV}{fr:Bool}{k:Nat}{ts:Option (TypeId×Nat)}(h:wk σ d x=some (l,fr,k,ts)):Sc σ.nx (a8 l):=by
 unfold wk at h
 split at h
 ·split at h
  ·rename_i hk
   simp only[ZS,ZT]at h;obtain⟨rfl,rfl,rfl,rfl⟩:=h
   simpa[DO.vars]using hs.tab _ _ hk
  ·cases h
 ·simp only[ZS,ZT]at h;obtain⟨rfl,rfl,rfl,rfl⟩:=h
  exact Sc.nil
 ·cases h
theorem J1{σ:DSt}(hs:σ.sc){x:DV}(hx:Sc σ.nx x.vars){l:LV}{fr:Bool}(h:DS σ x=some (l,fr)):Sc σ.nx (a8 l):=by
 unfold DS at h
 split at h
 ·split at h
  ·rename_i hk
   simp only[ZS,ZT]at h;obtain⟨rfl,rfl⟩:=h
   simpa[DO.vars]using hs.tab _ _ hk
  ·cases h
 ·simp only[ZS,ZT]at h;obtain⟨rfl,rfl⟩:=h
  simpa[DV.vars,DP.vars]using hx
 ·simp only[ZS,ZT]at h;obtain⟨rfl,rfl⟩:=h
  exact Sc.nil
 ·simp only[ZS,ZT]at h;obtain⟨rfl,rfl⟩:=h
  simpa[DV.vars]using hx
 ·cases h
def Ca(n:Nat)(a b:LV):List Lin:=
 [((Lin.at (4*n+1)).ax (-1) (bJ a)).ax (-1) (bJ b),((bJ a).ax 1 (bJ b)).ax (-1) (Lin.at (4*n+1)),
  ((Lin.at (4*n+2)).ax (-1) (gL a)).ax (-1) (gL b),((gL a).ax 1 (gL b)).ax (-1) (Lin.at (4*n+2))]
def Qz(σ:DSt)(d:Nat)(e:TypeId)(i:TypeInfo):Option (TypeId×Nat)→Bool
 |some (t',sz)=>Nat.beq t' e && Nat.beq sz i.size
 |none=>(lk σ.tab d).isNone
def DT(P:Program)(σ:DSt)(o:Oper)(s x:Operand)(t:TypeId):DR:=
 match o.dst,gy P t with
 |some d,some (e,i)=>match wk σ d (dev σ s),DS σ (dev σ x),i.zero with
  |some (a,fr,k,ts),some (b,jX),some z=>match lk (rm σ.tab k) d,Nat.beq z.cells.size i.size,Nat.beq i.size 0,Qz σ d e i ts,(pW P σ e i a && pW P σ e i b) && Nat.ble (2097152*max i.bytes 1) 140737488355328 with
   |none,true,false,true,true=>some ((σ.grow 1 [(σ.nx,e)] (Ca σ.nx a b) [.app σ.nx a b]).re k d (.vec e i.size (some σ.nx) (fr && jX)),[.le (((bJ a).ax 1 (bJ b)).aN (-2097152))])
   |_,_,_,_,_=>none
  |_,_,_=>none
 |_,_=>none
theorem J2{σ:DSt}{ρ:Ro}{k d:Nat}(h:lk (rm σ.tab k) d=none):lk (rm (σ.v ρ).tab k) d=none:=by
 simp only[DSt.v,nj,dD,h,Option.map_none]
theorem Hv{P:Program}{I:Pr}{σ σ':DSt}{o:Oper}{s x:Operand}{t:TypeId}{gs:List G}(ho:o.op= .call {callee:= .builtin .append,args:= #[s,x],argTypes:= #[t,t]})
  (h:DT P σ o s x t=some (σ',gs)):Good P I σ o σ' gs:=by
 unfold DT at h
 split at h
 ·rename_i d e i hd oh
  split at h
  ·rename_i a fr k ts b jX z hb hsr hz
   split at h
   ·rename_i fM mu bf hts fS
    simp only[Bool.and_eq_true]at fS
    obtain⟨⟨hoa,hob⟩,kx⟩:=fS
    simp only[ZS,ZT]at h;obtain⟨rfl,rfl⟩:=h
    have kW:σ.sc→Sc σ.nx (a8 a):=fun hs=>Qy hs hb
    have bsc:σ.sc→Sc σ.nx (a8 b):=fun hs=>J1 hs (hs.dev x) hsr
    refine DQ (fun hs=>by simp only[DO.vars,a8,Sc.cons];exact⟨Nat.lt_succ_self _,Sc.nil⟩) (fun hs=>⟨by simp,fun q hq=>?_,fun f hf=>?_⟩) ?_
    ·have a1:=(dX (kW hs)).mono (Nat.le_succ σ.nx)
     have a2:=(dX (bsc hs)).mono (Nat.le_succ σ.nx)
     have a3:=(jN (kW hs)).mono (Nat.le_succ σ.nx)
     have a4:=(jN (bsc hs)).mono (Nat.le_succ σ.nx)
     have n1:Sc (σ.nx+1) (Lin.at (4*σ.nx+1)).vars:=Lin.bC (by omega)
     have n2:Sc (σ.nx+1) (Lin.at (4*σ.nx+2)).vars:=Lin.bC (by omega)
     simp only[Ca,List.mem_cons,List.mem_nil_iff,or_false]at hq
     rcases hq with rfl|rfl|rfl|rfl
     ·exact Lin.aE (Lin.aE n1 a1) a2
     ·exact Lin.aE (Lin.aE a1 a2) n1
     ·exact Lin.aE (Lin.aE n2 a3) a4
     ·exact Lin.aE (Lin.aE a3 a4) n2
    ·simp only[List.mem_singleton]at hf;subst hf
     simp only[PF.vars,Sc.cons,Sc.app]
     exact⟨Nat.lt_succ_self _,(kW hs).mono (Nat.le_succ _),(bsc hs).mono (Nat.le_succ _)⟩
    ·intro ρ hs ab hg
     simp only[gsV,G.v,Lin.aO,Lin.bQ,eG,and_true]at hg
     obtain⟨ta,la⟩:=oO ab hoa
     obtain⟨tb,lb⟩:=oO ab hob
     have hlen:(lvV ρ a++lvV ρ b).length≤dy:=by rw[List.length_append];unfold dy;omega
     have hroom':=ZX kx
     refine⟨up ρ σ.nx (vaL (lvV ρ a++lvV ρ b)),da _ _ _ _ (Nat.le_refl _),ab.g.up _ (uA hlen),?_,?_,?_,⟨[],[]⟩,[(∀row∈lvV ρ b,row.length=i.size)∧((lvV ρ a).length+(lvV ρ b).length)*max i.bytes 1≤140737488355328],?_,⟨⟨lb,?_⟩,trivial⟩⟩
     ·refine⟨?_,trivial⟩
      rw[bg];exact .of hlen (ta.2.append tb.2)
     ·have ha:=da ρ σ.nx σ.nx (vaL (lvV ρ a++lvV ρ b)) (Nat.le_refl _)
      have hn:((up ρ σ.nx (vaL (lvV ρ a++lvV ρ b))) σ.nx).l=lvV ρ a++lvV ρ b:=by rw[bg];rfl
      have e1:=gv ha (kW hs)
      have e2:=gv ha (bsc hs)
      refine⟨?_,?_,?_,?_,trivial⟩<;>simp only[Lin.bQ,Lin.bN,dI,fa,hn,eG,nq,e1,e2,List.length_append,BH]<;>omega
     ·have ha:=da ρ σ.nx σ.nx (vaL (lvV ρ a++lvV ρ b)) (Nat.le_refl _)
      have hn:((up ρ σ.nx (vaL (lvV ρ a++lvV ρ b))) σ.nx).l=lvV ρ a++lvV ρ b:=by rw[bg];rfl
      refine⟨?_,trivial⟩
      simp only[PF.v,hn,gv ha (kW hs),gv ha (bsc hs)]
     ·have hn:((up ρ σ.nx (vaL (lvV ρ a++lvV ρ b))) σ.nx).l=lvV ρ a++lvV ρ b:=by rw[bg];rfl
      have ox:lvV (up ρ σ.nx (vaL (lvV ρ a++lvV ρ b))) (some σ.nx)=lvV ρ a++lvV ρ b:=hn
      have h1:=Tl ρ hb
      have h2:=Oh ρ hsr
      unfold aop
      simp only[ho,Nat.beq_refl,Qx ρ hb,vA,hd,oh,aK,h1,h2,hz,J2 fM,mu,bf]
      cases ts with
      |some p=>simp only[Qz]at hts;simp only[hts,nt,DO.v,ox]
      |none=>
       have hts':(lk (σ.v ρ).tab d).isNone=true:=by
        simp only[Qz]at hts;simp only[DSt.v,dD];cases hq:lk σ.tab d with
        |none=>rfl
        |some _=>simp[hq]at hts
       simp only[hts',nt,DO.v,ox]
     ·refine Nat.le_trans (Nat.mul_le_mul_right _ ?_) hroom'
      omega
   ·cases h
  ·cases h
 ·cases h
def AY(P:Program)(σ:DSt)(o:Oper)(s x:Operand)(t:TypeId):DR:=
 match o.dst,gy P t with
 |some d,some (e,i)=>match dev σ s,DS σ (dev σ x),i.zero with
  | .pc a fr,some (b,jX),some z=>match lk σ.tab d,Nat.beq z.cells.size i.size,Nat.beq i.size 0,(pW P σ e i a && pW P σ e i b) && Nat.ble (2097152*max i.bytes 1) 140737488355328 with
   |none,true,false,true=>some ((σ.grow 1 [(σ.nx,e)] (Ca σ.nx a b) [.app σ.nx a b]).re d d (.vec e i.size (some σ.nx) (fr && jX)),[.le (((bJ a).ax 1 (bJ b)).aN (-2097152)),.le ((Lin.scale (-1) (bJ b)).aN 1)])
   |_,_,_,_=>none
  |_,_,_=>none
 |_,_=>none
theorem FL{P:Program}{I:Pr}{σ σ':DSt}{o:Oper}{s x:Operand}{t:TypeId}{gs:List G}(ho:o.op= .call {callee:= .builtin .append,args:= #[s,x],argTypes:= #[t,t]})
  (h:AY P σ o s x t=some (σ',gs)):Good P I σ o σ' gs:=by
 unfold AY at h
 split at h
 ·rename_i d e i hd oh
  split at h
  ·rename_i a fr b jX z hb hsr hz
   split at h
   ·rename_i fM mu bf fS
    simp only[Bool.and_eq_true]at fS
    obtain⟨⟨hoa,hob⟩,kx⟩:=fS
    simp only[ZS,ZT]at h;obtain⟨rfl,rfl⟩:=h
    have kW:σ.sc→Sc σ.nx (a8 a):=fun hs=>by
     have:=hs.dev s
     rw[hb]at this;simpa only[DV.vars]using this
    have bsc:σ.sc→Sc σ.nx (a8 b):=fun hs=>J1 hs (hs.dev x) hsr
    refine DQ (fun hs=>by simp only[DO.vars,a8,Sc.cons];exact⟨Nat.lt_succ_self _,Sc.nil⟩) (fun hs=>⟨by simp,fun q hq=>?_,fun f hf=>?_⟩) ?_
    ·have a1:=(dX (kW hs)).mono (Nat.le_succ σ.nx)
     have a2:=(dX (bsc hs)).mono (Nat.le_succ σ.nx)
     have a3:=(jN (kW hs)).mono (Nat.le_succ σ.nx)
     have a4:=(jN (bsc hs)).mono (Nat.le_succ σ.nx)
     have n1:Sc (σ.nx+1) (Lin.at (4*σ.nx+1)).vars:=Lin.bC (by omega)
     have n2:Sc (σ.nx+1) (Lin.at (4*σ.nx+2)).vars:=Lin.bC (by omega)
     simp only[Ca,List.mem_cons,List.mem_nil_iff,or_false]at hq
     rcases hq with rfl|rfl|rfl|rfl
     ·exact Lin.aE (Lin.aE n1 a1) a2
     ·exact Lin.aE (Lin.aE a1 a2) n1
     ·exact Lin.aE (Lin.aE n2 a3) a4
     ·exact Lin.aE (Lin.aE a3 a4) n2
    ·simp only[List.mem_singleton]at hf;subst hf
     simp only[PF.vars,Sc.cons,Sc.app]
     exact⟨Nat.lt_succ_self _,(kW hs).mono (Nat.le_succ _),(bsc hs).mono (Nat.le_succ _)⟩
    ·intro ρ hs ab hg
     simp only[gsV,G.v,Lin.aO,Lin.bQ,Lin.bE,eG,and_true]at hg
     obtain⟨hg,hg2⟩:=hg
     obtain⟨ta,la⟩:=oO ab hoa
     obtain⟨tb,lb⟩:=oO ab hob
     have hlen:(lvV ρ a++lvV ρ b).length≤dy:=by rw[List.length_append];unfold dy;omega
     have hroom':=ZX kx
     refine⟨up ρ σ.nx (vaL (lvV ρ a++lvV ρ b)),da _ _ _ _ (Nat.le_refl _),ab.g.up _ (uA hlen),?_,?_,?_,⟨[],[]⟩,[(∀row∈lvV ρ a,row.length=i.size)∧(∀row∈lvV ρ b,row.length=i.size)∧0<(lvV ρ b).length∧((lvV ρ a).length+(lvV ρ b).length)*max i.bytes 1≤140737488355328],?_,⟨⟨la,lb,by omega,?_⟩,trivial⟩⟩
     ·refine⟨?_,trivial⟩
      rw[bg];exact .of hlen (ta.2.append tb.2)
     ·have ha:=da ρ σ.nx σ.nx (vaL (lvV ρ a++lvV ρ b)) (Nat.le_refl _)
      have hn:((up ρ σ.nx (vaL (lvV ρ a++lvV ρ b))) σ.nx).l=lvV ρ a++lvV ρ b:=by rw[bg];rfl
      have e1:=gv ha (kW hs)
      have e2:=gv ha (bsc hs)
      refine⟨?_,?_,?_,?_,trivial⟩<;>simp only[Lin.bQ,Lin.bN,dI,fa,hn,eG,nq,e1,e2,List.length_append,BH]<;>omega
     ·have ha:=da ρ σ.nx σ.nx (vaL (lvV ρ a++lvV ρ b)) (Nat.le_refl _)
      have hn:((up ρ σ.nx (vaL (lvV ρ a++lvV ρ b))) σ.nx).l=lvV ρ a++lvV ρ b:=by rw[bg];rfl
      refine⟨?_,trivial⟩
      simp only[PF.v,hn,gv ha (kW hs),gv ha (bsc hs)]
     ·have hn:((up ρ σ.nx (vaL (lvV ρ a++lvV ρ b))) σ.nx).l=lvV ρ a++lvV ρ b:=by rw[bg];rfl
      have ox:lvV (up ρ σ.nx (vaL (lvV ρ a++lvV ρ b))) (some σ.nx)=lvV ρ a++lvV ρ b:=hn
      have h1:(dev σ s).v ρ= .pc (lvV ρ a) fr:=by rw[hb];rfl
      have h2:=Oh ρ hsr
      have h3:lk (σ.v ρ).tab d=none:=by simp only[DSt.v,dD,fM,Option.map_none]
      unfold aop
      simp only[ho,Nat.beq_refl,PI,s8,hd,oh,aK,h1,h2,hz,h3,mu,bf,nt,DO.v,ox]
     ·refine Nat.le_trans (Nat.mul_le_mul_right _ ?_) hroom'
      omega
   ·cases h
  ·cases h
 ·cases h
def ze(σ:DSt)(o:Oper)(mx:Bool)(x y:Operand):DR:=
 match jn (dev σ x),jn (dev σ y)with
 |some (k,a),some (k',b)=>match decide (k=k')with
  |true=>match cW σ (a.ax (-1) b),cW σ (b.ax (-1) a)with
   |true,_=>some (σ.put o.dst (.p (.int k (match mx with|true=>b|false=>a)) true),[])
   |_,true=>some (σ.put o.dst (.p (.int k (match mx with|true=>a|false=>b)) true),[])
   |_,_=>match qN k with
    |true=>none
    |false=>match mx with
     |true=>some ((σ.grow 1 [] (oM k σ.nx++ [a.ax (-1) (Lin.at (4*σ.nx)),b.ax (-1) (Lin.at (4*σ.nx))]) []).put o.dst (.p (.int k (Lin.at (4*σ.nx))) true),[.le (a.aN (-k.max)),.le (b.aN (-k.max)),.le ((Lin.scale (-1) a).aN k.min),.le ((Lin.scale (-1) b).aN k.min)])
     |false=>some ((σ.grow 1 [] (oM k σ.nx++ [(Lin.at (4*σ.nx)).ax (-1) a,(Lin.at (4*σ.nx)).ax (-1) b]) []).put o.dst (.p (.int k (Lin.at (4*σ.nx))) true),[.le (a.aN (-k.max)),.le (b.aN (-k.max)),.le ((Lin.scale (-1) a).aN k.min),.le ((Lin.scale (-1) b).aN k.min)])
  |false=>none
 |_,_=>none
theorem Cb{P:Program}{H:Hint}{s:St}{o:Oper}{x y:Operand}{ts:Array TypeId}{k:IntKind}{a b:Int}(mx:Bool)(ho:o.op= .call {callee:= .builtin (match mx with|true=> .max|false=> .min),args:= #[x,y],argTypes:=ts})
  (hx:isInt (ev s x)=some (k,a))(hy:isInt (ev s y)=some (k,b)):
  aop P H s o=some (s.put o.dst (.p (.v (.int k (match mx with|true=>(if b>a then b else a)|false=>(if b<a then b else a)))) true),[]):=by
 unfold aop
 cases mx<;>simp only[ho,mM,hx,hy,tr]
theorem x7{P:Program}{I:Pr}{σ σ':DSt}{o:Oper}{x y:Operand}{ts:Array TypeId}{gs:List G}(mx:Bool)(ho:o.op= .call {callee:= .builtin (match mx with|true=> .max|false=> .min),args:= #[x,y],argTypes:=ts})
  (h:ze σ o mx x y=some (σ',gs)):Good P I σ o σ' gs:=by
 unfold ze at h
 split at h
 ·rename_i k a k' b hx hy
  split at h
  ·rename_i hk
   have:=of_decide_eq_true hk;subst this
   have ex:∀ρ,isInt (ev (σ.v ρ) x)=some (k,a.v ρ):=fun ρ=>by rw[aK];exact(gk hx).1
   have ey:∀ρ,isInt (ev (σ.v ρ) y)=some (k,b.v ρ):=fun ρ=>by rw[aK];exact(gk hy).1
   have kW:σ.sc→Sc σ.nx a.vars:=fun hs=>fY hx (hs.dev x)
   have bsc:σ.sc→Sc σ.nx b.vars:=fun hs=>fY hy (hs.dev y)
   split at h
   ·rename_i hp
    simp only[ZS,ZT]at h;obtain⟨rfl,rfl⟩:=h
    refine bS (fun hs=>by simp only[DV.vars,DP.vars];cases mx;exact kW hs;exact bsc hs) fun ρ hs ab _=>⟨⟨[],[]⟩,[],?_,trivial⟩
    have:=cB ab hp
    rw[Lin.bQ]at this
    rw[Cb mx ho (ex ρ) (ey ρ)]
    cases mx with
    |true=>
     have e:(if b.v ρ>a.v ρ then b.v ρ else a.v ρ)=b.v ρ:=by split<;>omega
     simp[DV.v,DP.v,e]
    |false=>
     have e:(if b.v ρ<a.v ρ then b.v ρ else a.v ρ)=a.v ρ:=by split<;>omega
     simp[DV.v,DP.v,e]
   ·rename_i hp _
    simp only[ZS,ZT]at h;obtain⟨rfl,rfl⟩:=h
    refine bS (fun hs=>by simp only[DV.vars,DP.vars];cases mx;exact bsc hs;exact kW hs) fun ρ hs ab _=>⟨⟨[],[]⟩,[],?_,trivial⟩
    have:=cB ab hp
    rw[Lin.bQ]at this
    rw[Cb mx ho (ex ρ) (ey ρ)]
    cases mx with
    |true=>
     have e:(if b.v ρ>a.v ρ then b.v ρ else a.v ρ)=a.v ρ:=by split<;>omega
     simp[DV.v,DP.v,e]
    |false=>
     have e:(if b.v ρ<a.v ρ then b.v ρ else a.v ρ)=b.v ρ:=by split<;>omega
     simp[DV.v,DP.v,e]
   ·split at h
    ·cases h
    ·rename_i hk64
     have nsc:Sc (σ.nx+1) (Lin.at (4*σ.nx)).vars:=xY (Nat.lt_succ_self _)
     split at h
     ·simp only[ZS,ZT]at h;obtain⟨rfl,rfl⟩:=h
      refine oN hk64 (fun hs e he=>?_) fun ρ hs ab hg=>?_
      ·simp only[List.mem_cons,List.mem_nil_iff,or_false]at he
       rcases he with rfl|rfl
       ·exact Lin.aE ((kW hs).mono (Nat.le_succ _)) nsc
       ·exact Lin.aE ((bsc hs).mono (Nat.le_succ _)) nsc
      ·simp only[gsV,G.v,Lin.aO,Lin.bE,and_true]at hg
       refine⟨if b.v ρ>a.v ρ then b.v ρ else a.v ρ,by split<;>omega,by split<;>omega,?_,⟨[],[]⟩,[],?_,trivial⟩
       ·rintro ρ' rfl
        have ha:=da ρ σ.nx σ.nx (vaN (if b.v ρ>a.v ρ then b.v ρ else a.v ρ)) (Nat.le_refl _)
        have hn:((up ρ σ.nx (vaN (if b.v ρ>a.v ρ then b.v ρ else a.v ρ))) σ.nx).n=if b.v ρ>a.v ρ then b.v ρ else a.v ρ:=by rw[bg];rfl
        refine⟨?_,?_,trivial⟩<;>simp only[Lin.bQ,Lin.bN,me,hn,Lin.ag ha (kW hs),Lin.ag ha (bsc hs)]<;>split<;>omega
       ·rw[Cb true ho (ex ρ) (ey ρ)]
     ·simp only[ZS,ZT]at h;obtain⟨rfl,rfl⟩:=h
      refine oN hk64 (fun hs e he=>?_) fun ρ hs ab hg=>?_
      ·simp only[List.mem_cons,List.mem_nil_iff,or_false]at he
       rcases he with rfl|rfl
       ·exact Lin.aE nsc ((kW hs).mono (Nat.le_succ _))
       ·exact Lin.aE nsc ((bsc hs).mono (Nat.le_succ _))
      ·simp only[gsV,G.v,Lin.aO,Lin.bE,and_true]at hg
       refine⟨if b.v ρ<a.v ρ then b.v ρ else a.v ρ,by split<;>omega,by split<;>omega,?_,⟨[],[]⟩,[],?_,trivial⟩
       ·rintro ρ' rfl
        have ha:=da ρ σ.nx σ.nx (vaN (if b.v ρ<a.v ρ then b.v ρ else a.v ρ)) (Nat.le_refl _)
        have hn:((up ρ σ.nx (vaN (if b.v ρ<a.v ρ then b.v ρ else a.v ρ))) σ.nx).n=if b.v ρ<a.v ρ then b.v ρ else a.v ρ:=by rw[bg];rfl
        refine⟨?_,?_,trivial⟩<;>simp only[Lin.bQ,Lin.bN,me,hn,Lin.ag ha (kW hs),Lin.ag ha (bsc hs)]<;>split<;>omega
       ·rw[Cb false ho (ex ρ) (ey ρ)]
  ·cases h
 ·cases h
end Go.TL
namespace Go.TL
def zf:DV→Option (DP×Bool)
 | .p .nl _=>some (.sl none,true)
 | .p (.sl l) fr=>some (.sl l,fr)
 | .p (.ls l) fr=>some (.ls l,fr)
 | .p (.mp a l) fr=>some (.mp a l,fr)
 | .p x _=>some (x,true)
 | .pc l fr=>some (.sl l,fr)
 | .fn _ _ _=>some (.un,true)
 |_=>none
def jV:List DV→Option (List DP×Bool)
 | []=>some ([],true)
 |x::xs=>match zf x,jV xs with
  |some (y,f),some (ys,fs)=>some (y::ys,f && fs)
  |_,_=>none
def F5:DP→Bool
 | .ej (.slice none 0 0)=>false
 |_=>true
def pY:List DP→Bool
 | []=>true
 |x::xs=>match F5 x with|true=>pY xs|false=>false
theorem J3{ρ:Ro}{x:DV}{y:DP}{fr:Bool}(h:zf x=some (y,fr))(hc:F5 y=true):xk (x.v ρ)=some (y.v ρ,fr):=by
 unfold zf at h
 split at h<;>first|(cases h;done)|(simp only[ZS,ZT]at h;obtain⟨rfl,rfl⟩:=h)<;>try (simp[DV.v,DP.v,xk,lvV];done)
 rename_i z fr' h1 h2 h3 h4
 cases z<;>first|exact absurd rfl h1|exact absurd rfl (h2 _)|exact absurd rfl (h3 _)|exact absurd rfl (h4 _ _)|(simp[DV.v,DP.v,xk];done)|skip
 rename_i v
 simp only[DV.v,DP.v]
 unfold xk
 split<;>first
  |(rename_i e;simp at e;done)
  |(rename_i e;simp only[SV.p.injEq,PV.v.injEq]at e;rw[e.1]at hc;simp[F5]at hc;done)
  |(rename_i e;simp only[SV.p.injEq,PV.v.injEq]at e;rw[e.1];done)
  |(rename_i h _ _ _ _ _ _ _;exact absurd rfl (h v fr'))
theorem oP{ρ:Ro}:∀{xs:List DV} {ys:List DP} {fr:Bool},jV xs=some (ys,fr)→pY ys=true→lq (dvs ρ xs)=some (ar ρ ys,fr)
 | [],ys,fr,h,_=>by simp only[jV,ZS,ZT]at h;obtain⟨rfl,rfl⟩:=h;simp[dvs,lq,ar]
 |x::xs,ys,fr,h,hc=>by
  simp only[jV]at h
  split at h
  ·rename_i y f ys' fs h1 h2
   simp only[ZS,ZT]at h;obtain⟨rfl,rfl⟩:=h
   simp only[pY]at hc
   split at hc
   ·rename_i hc1
    simp only[dvs,lq,J3 h1 hc1,oP h2 hc,ar]
   ·cases hc
  ·cases h
theorem QA{n:Nat}{x:DV}{y:DP}{fr:Bool}(h:zf x=some (y,fr))(hx:Sc n x.vars):Sc n y.vars:=by
 unfold zf at h
 split at h<;>first|(cases h;done)|(simp only[ZS,ZT]at h;obtain⟨rfl,rfl⟩:=h;first|exact hx|exact Sc.nil)
theorem pZ{n:Nat}:∀{xs:List DV} {ys:List DP} {fr:Bool},jV xs=some (ys,fr)→Sc n (aD xs)→Sc n (bP ys)
 | [],ys,fr,h,_=>by simp only[jV,ZS,ZT]at h;obtain⟨rfl,rfl⟩:=h;exact Sc.nil
 |x::xs,ys,fr,h,hx=>by
  simp only[jV]at h
  split at h
  ·rename_i y f ys' fs h1 h2
   simp only[ZS,ZT]at h;obtain⟨rfl,rfl⟩:=h
   simp only[aD,Sc.app]at hx
   simp only[bP,Sc.app]
   exact⟨QA h1 hx.1,pZ h2 hx.2⟩
  ·cases h
def dT(sz:Nat):Nat→List DP→List (List DP)
 |0,_=>[]
 |n+1,xs=>xs.take sz::dT sz n (xs.drop sz)
theorem Hw(ρ:Ro)(sz:Nat):∀(n:Nat) (xs:List DP),dZ ρ (dT sz n xs)=chunk sz n (ar ρ xs)
 |0,_=>rfl
 |n+1,xs=>by simp only[dT,dZ,chunk,kH,np,Hw ρ sz n]
theorem wm(sz:Nat):∀(n:Nat) (xs:List DP),(dT sz n xs).length=n
 |0,_=>rfl
 |n+1,xs=>by simp[dT,wm sz n]
theorem E9{m:Nat}(sz:Nat):∀(n:Nat) (xs:List DP),Sc m (bP xs)→Sc m (jK (dT sz n xs))
 |0,_,_=>Sc.nil
 |n+1,xs,h=>by
  simp only[dT,jK,Sc.app]
  rw[pT]at h
  exact⟨pT.2 fun x hx=>h x (List.mem_of_mem_take hx),E9 sz n _ (pT.2 fun x hx=>h x (List.mem_of_mem_drop hx))⟩
def kL(zs:List DV):Nat→List DV
 |0=>[]
 |n+1=>zs++kL zs n
theorem Ah(ρ:Ro)(zs:List DV):∀n,dvs ρ (kL zs n)=ir (dvs ρ zs) n
 |0=>by simp[kL,dvs,ir]
 |n+1=>by simp only[kL,ir,vX,Ah ρ zs n]
theorem tT{n:Nat}{a b:List DV}:Sc n (aD (a++b)) ↔ Sc n (aD a)∧Sc n (aD b):=by
 simp only[su,List.mem_append]
 exact⟨fun h=>⟨fun x hx=>h x (.inl hx),fun x hx=>h x (.inr hx)⟩,fun h x hx=>hx.elim (h.1 x) (h.2 x)⟩
theorem x8{m:Nat}{zs:List DV}(h:Sc m (aD zs)):∀n,Sc m (aD (kL zs n))
 |0=>Sc.nil
 |n+1=>by simp only[kL];exact tT.2 ⟨h,x8 h n⟩
def nr(tys:List (Nat×TypeId))(cs:List CK):List (List DP)→Option (List G×Lin)
 | []=>some ([],Lin.lit 0)
 |r::rs=>match dty tys cs r,nr tys cs rs with
  |some gs,some (hs,z)=>some (gs++hs,((drz r).ax 1 z).aN 1)
  |_,_=>none
theorem Fa{P:Program}{I:Pr}{ρ:Ro}{tys:List (Nat×TypeId)}(hg:Gok ρ)(ht:dA P ρ tys)(e:TypeId):∀(rs:List (List DP)) (gs:List G) (z:Lin),nr tys (cks P e) rs=some (gs,z)→gsV I ρ gs→
  c9 P e (dZ ρ rs)∧z.v ρ=(rsz (dZ ρ rs):Int)
 | [],gs,z,h,_=>by
  simp only[nr,ZS,ZT]at h;obtain⟨rfl,rfl⟩:=h
  exact⟨c9.nil,by simp[Lin.cT,dZ,rsz]⟩
 |r::rs,gs,z,h,hv=>by
  simp only[nr]at h
  split at h
  ·rename_i g1 g2 z2 h1 h2
   simp only[ZS,ZT]at h;obtain⟨rfl,rfl⟩:=h
   rw[jm]at hv
   obtain⟨a1,a2⟩:=Fa hg ht e rs g2 z2 h2 hv.2
   refine⟨c9.cons (gj hg ht _ _ _ h1 hv.1) a1,?_⟩
   rw[Lin.aO,Lin.bQ,BZ (P:=P) (I:=I) hg _ _ _ h1,a2]
   simp only[dZ,rsz];omega
  ·cases h
theorem wo{n:Nat}{tys:List (Nat×TypeId)}{cs:List CK}:∀(rs:List (List DP)) (gs:List G) (z:Lin),nr tys cs rs=some (gs,z)→Sc n (jK rs)→Sc n z.vars
 | [],gs,z,h,_=>by
  simp only[nr,ZS,ZT]at h;obtain⟨rfl,rfl⟩:=h;exact Lin.eg
 |r::rs,gs,z,h,hx=>by
  simp only[nr]at h
  split at h
  ·rename_i g1 g2 z2 h1 h2
   simp only[ZS,ZT]at h;obtain⟨rfl,rfl⟩:=h
   simp only[jK,Sc.app]at hx
   exact Lin.bI (Lin.aE (uB hx.1) (wo rs g2 z2 h2 hx.2))
  ·cases h
def x9(n len:Nat):List Lin:=[(Lin.at (4*n+1)).aN (-(len:Int)),(Lin.scale (-1) (Lin.at (4*n+1))).aN (len:Int)]
def Oi(n:Nat)(z:Lin):List Lin:=[(Lin.at (4*n+2)).ax (-1) z,z.ax (-1) (Lin.at (4*n+2))]
def DSt.kM(σ:DSt)(d:Nat)(ov:DO):DSt:={σ with ah:=(d,.vec d)::σ.ah,tab:=(d,ov)::σ.tab}
theorem QB(ρ:Ro)(σ:DSt)(d:Nat)(ov:DO):(σ.kM d ov).v ρ=⟨(d,.vec d)::(σ.v ρ).ah,(d,ov.v ρ)::(σ.v ρ).tab⟩:=by
 simp[DSt.kM,DSt.v,cV,aU,DV.v]
theorem Oj{σ:DSt}(hs:σ.sc){d:Nat}{ov:DO}(ho:Sc σ.nx ov.vars):(σ.kM d ov).sc:=by
 refine⟨?_,?_,hs.tys,hs.lin,hs.prs⟩
 ·intro t v hl
  simp only[DSt.kM,cK]at hl
  split at hl
  ·simp only[ZS]at hl;subst hl;simp[DV.vars,Sc.nil]
  ·exact hs.ah t v hl
 ·intro t v hl
  simp only[DSt.kM,cK]at hl
  split at hl
  ·simp only[ZS]at hl;subst hl;exact ho
  ·exact hs.tab t v hl
theorem cq.kM{s s':St}(h:cq s s')(d:Nat)(ov:OV):cq ⟨(d,.vec d)::s.ah,(d,ov)::s.tab⟩ ⟨(d,.vec d)::s'.ah,(d,ov)::s'.tab⟩:=by
 constructor<;>intro t<;>simp only[cK]<;>split<;>first|rfl|exact h.ah t|exact h.tab t
theorem AZ{P:Program}{I:Pr}{σ:DSt}{o:Oper}{gs:List G}{d n:Nat}{ov:DO}{tys:List (Nat×TypeId)}{lin:List Lin}{prs:List PF}(hov:σ.sc→Sc (σ.nx+n) ov.vars)
  (hg:σ.sc→jT (σ.nx+n) tys lin prs)
  (h:∀ρ,σ.sc→σ.ok P I ρ→gsV I ρ gs→∃ρ',au σ.nx ρ ρ'∧Gok ρ'∧dA P ρ' tys∧bh ρ' lin∧c5 I ρ' prs∧
   ∃(H:Hint) (ps:List Prop),aop P H (σ.v ρ) o=some (⟨(d,.vec d)::(σ.v ρ).ah,(d,ov.v ρ')::(σ.v ρ).tab⟩,ps)∧lM ps):Good P I σ o ((σ.grow n tys lin prs).kM d ov) gs:=by
 intro hs
 have fm:=hs.grow (hg hs)
 refine⟨Oj fm (hov hs),Nat.le_add_right _ _,?_⟩
 intro ρ ab hgs
 obtain⟨ρ',ha,hgk,h1,h2,h3,H,ps,h4,h5⟩:=h ρ hs ab hgs
 have cR:=ab.grow (n:=n) hs ha hgk h1 h2 h3
 refine⟨ρ',ha,⟨cR.g,cR.tys,cR.lin,cR.prs⟩,H,_,ps,h4,h5,?_⟩
 rw[QB]
 exact cq.kM (DSt.fX hs ha) _ _
def tU(P:Program)(σ:DSt)(o:Oper)(t:TypeId)(len:Nat)(parts:Array (Nat×Operand)):DR:=
 match o.dst,gy P t with
 |some d,some (e,i)=>match i.zero,lk σ.tab d with
  |some z,none=>match mg z with
   |some zs=>match Nat.beq zs.length i.size && Nat.ble len 2097152,Nat.beq i.size 0,Nat.ble (len*i.size) 16777216,qO (fun n=>some (n*i.size,i.size)) (kL zs len) (pU σ parts.toList)with
    |true,false,true,some cells=>match jV cells with
     |some (xs,fr)=>match pY xs with
      |true=>match nr σ.tys (cks P e) (dT i.size len xs)with
       |some (gs,rz)=>some ((σ.grow 1 [(σ.nx,e)] (x9 σ.nx len++Oi σ.nx rz) [.lit σ.nx (dT i.size len xs)]).kM d (.vec e i.size (some σ.nx) fr),gs)
       |none=>some ((σ.grow 1 [] (x9 σ.nx len) [.lit σ.nx (dT i.size len xs)]).kM d (.vec e i.size (some σ.nx) fr),[])
      |false=>none
     |none=>none
    |_,_,_,_=>none
   |none=>none
  |_,_=>none
 |_,_=>none
theorem Fb(ρ:Ro)(l:List (List DP)):(dZ ρ l).length=l.length:=by simp[EP]
theorem A0{P:Program}{I:Pr}{σ σ':DSt}{o:Oper}{t:TypeId}{len:Nat}{parts:Array (Nat×Operand)}{gs:List G}(ho:o.op= .buildSlice t len parts)(h:tU P σ o t len parts=some (σ',gs)):Good P I σ o σ' gs:=by
 unfold tU at h
 split at h
 ·rename_i d e i hd oh
  split at h
  ·rename_i z hz fM
   split at h
   ·rename_i zs mu
    split at h
    ·rename_i cells bf hi0 hle hfill
     simp only[Bool.and_eq_true]at bf
     split at h
     ·rename_i xs fr fH
      split at h
      ·rename_i fZ
       have hlen2:len≤dy:=ZX bf.2
       have csc:σ.sc→Sc σ.nx (bP xs):=fun hs=>pZ fH (vZ _ _ _ _ (x8 (tq mu) _) (xS hs _) hfill)
       have lsc:σ.sc→Sc σ.nx (jK (dT i.size len xs)):=fun hs=>E9 _ _ _ (csc hs)
       have kU:∀ρ:Ro,aop P ⟨[],[]⟩ (σ.v ρ) o=some (⟨(d,.vec d)::(σ.v ρ).ah,(d,.vec e i.size (dZ ρ (dT i.size len xs)) fr)::(σ.v ρ).tab⟩,[]):=by
        intro ρ
        have f1:lr (fun n=>some (n*i.size,i.size)) (ir (dvs ρ zs) len) (gQ (σ.v ρ) parts.toList)=some (dvs ρ cells):=by
         rw[AT, ←Ah,y7,hfill];rfl
        unfold aop
        simp only[ho,nN,hd,oh,hz,oL fM,vY ρ,mu,Option.map_some,gZ,bf.1,hi0,hle,f1,oP fH fZ,tr,Hw]
       have nsc1:Sc (σ.nx+1) (Lin.at (4*σ.nx+1)).vars:=Lin.bC (by omega)
       have nsc2:Sc (σ.nx+1) (Lin.at (4*σ.nx+2)).vars:=Lin.bC (by omega)
       have psc:σ.sc→∀f∈ [PF.lit σ.nx (dT i.size len xs)],Sc (σ.nx+1) f.vars:=fun hs f hf=>by
        simp only[List.mem_singleton]at hf;subst hf
        simp only[PF.vars,Sc.cons];exact⟨Nat.lt_succ_self _,(lsc hs).mono (Nat.le_succ _)⟩
       have l1sc:∀q∈x9 σ.nx len,Sc (σ.nx+1) q.vars:=fun q hq=>by
        simp only[x9,List.mem_cons,List.mem_nil_iff,or_false]at hq
        rcases hq with rfl|rfl
        ·exact Lin.bI nsc1
        ·exact Lin.bI (Lin.dW nsc1)
       have osc:Sc (σ.nx+1) (DO.vec e i.size (some σ.nx) fr).vars:=by simp only[DO.vars,a8,Sc.cons];exact⟨Nat.lt_succ_self _,Sc.nil⟩
       have key:∀ρ,σ.sc→σ.ok P I ρ→∃ρ',au σ.nx ρ ρ'∧Gok ρ'∧(ρ' σ.nx).l=dZ ρ (dT i.size len xs)∧bh ρ' (x9 σ.nx len)∧c5 I ρ' [.lit σ.nx (dT i.size len xs)]∧
         aop P ⟨[],[]⟩ (σ.v ρ) o=some (⟨(d,.vec d)::(σ.v ρ).ah,(d,(DO.vec e i.size (some σ.nx) fr).v ρ')::(σ.v ρ).tab⟩,[]):=by
        intro ρ hs ab
        have jd:(dZ ρ (dT i.size len xs)).length=len:=by rw[Fb,wm]
        have hn:((up ρ σ.nx (vaL (dZ ρ (dT i.size len xs)))) σ.nx).l=dZ ρ (dT i.size len xs):=by rw[bg];rfl
        have ha:=da ρ σ.nx σ.nx (vaL (dZ ρ (dT i.size len xs))) (Nat.le_refl _)
        refine⟨up ρ σ.nx (vaL (dZ ρ (dT i.size len xs))),ha,ab.g.up _ (uA (by rw[jd];exact hlen2)),hn,?_,⟨?_,trivial⟩,?_⟩
        ·refine⟨?_,?_,trivial⟩<;>simp only[Lin.aO,Lin.bE,Lin.bN,dI,hn,jd]<;>omega
        ·simp only[PF.v,hn,DG ha (lsc hs)]
        ·rw[kU ρ]
         have ox:lvV (up ρ σ.nx (vaL (dZ ρ (dT i.size len xs)))) (some σ.nx)=dZ ρ (dT i.size len xs):=hn
         simp only[DO.v,ox]
       split at h
       ·rename_i gs' rz aJ
        simp only[ZS,ZT]at h;obtain⟨rfl,rfl⟩:=h
        refine AZ (fun _=>osc) (fun hs=>⟨by simp,fun q hq=>?_,psc hs⟩) ?_
        ·rcases Z0 hq with hq|hq
         ·exact l1sc q hq
         ·have zsc:=(wo _ _ _ aJ (lsc hs)).mono (Nat.le_succ σ.nx)
          simp only[Oi,List.mem_cons,List.mem_nil_iff,or_false]at hq
          rcases hq with rfl|rfl
          ·exact Lin.aE nsc2 zsc
          ·exact Lin.aE zsc nsc2
        ·intro ρ hs ab hg
         obtain⟨ρ',ha,hgk,hn,q1,q2,q3⟩:=key ρ hs ab
         obtain⟨t1,t2⟩:=Fa ab.g ab.tys e _ _ _ aJ hg
         refine⟨ρ',ha,hgk,⟨?_,trivial⟩,dH q1 ?_,q2,⟨[],[]⟩,[],q3,trivial⟩
         ·rw[hn];exact .of (by rw[Fb,wm];exact hlen2) t1
         ·have zv:=Lin.ag ha (wo _ _ _ aJ (lsc hs))
          refine⟨?_,?_,trivial⟩<;>simp only[Lin.bQ,Lin.bN,fa,hn,zv,t2]<;>omega
       ·simp only[ZS,ZT]at h;obtain⟨rfl,rfl⟩:=h
        refine AZ (fun _=>osc) (fun hs=>⟨by simp,l1sc,psc hs⟩) ?_
        intro ρ hs ab hg
        obtain⟨ρ',ha,hgk,hn,q1,q2,q3⟩:=key ρ hs ab
        exact⟨ρ',ha,hgk,trivial,q1,q2,⟨[],[]⟩,[],q3,trivial⟩
      ·cases h
     ·cases h
    ·cases h
   ·cases h
  ·cases h
 ·cases h
def DSt.setObj(σ:DSt)(k:Nat)(ov:DO):DSt:={σ with tab:=(k,ov)::rm σ.tab k}
theorem mT(ρ:Ro)(σ:DSt)(k:Nat)(ov:DO):(σ.setObj k ov).v ρ=⟨(σ.v ρ).ah,(k,ov.v ρ)::rm (σ.v ρ).tab k⟩:=by
 simp only[DSt.setObj,DSt.v,aU,nj]
theorem ns{σ:DSt}(hs:σ.sc){k:Nat}{ov:DO}(ho:Sc σ.nx ov.vars):(σ.setObj k ov).sc:=by
 refine⟨hs.ah,?_,hs.tys,hs.lin,hs.prs⟩
 intro t v hl
 simp only[DSt.setObj,cK]at hl
 split at hl
 ·simp only[ZS]at hl;subst hl;exact ho
 ·rw[qS]at hl
  split at hl
  ·cases hl
  ·exact hs.tab t v hl
def DV.one:DV→Bool
 | .u| .agg _| .bL _=>false
 |_=>true
def Cc:List DV→Bool
 | []=>true
 |x::xs=>match x.one with|true=>Cc xs|false=>false
theorem VG(ρ:Ro)(x:DV):(x.v ρ).one=x.one:=by cases x<;>simp[DV.v,SV.one,DV.one]
theorem DU(ρ:Ro):∀xs:List DV,Ax (dvs ρ xs)=Cc xs
 | []=>by simp[dvs,Ax,Cc]
 |x::xs=>by simp only[dvs,Ax,Cc,VG,DU ρ xs];cases x.one<;>rfl
theorem Tn{P:Program}:∀(cs:List CK) (row ys:List PV) (off:Nat),WTs P cs row→off+ys.length≤row.length→WTs P ((cs.drop off).take ys.length) ys→WTs P cs (spl row off ys):=by
 intro cs row ys off hr hl hy
 rw[ay]at hr hy ⊢
 obtain⟨r1,r2⟩:=hr
 obtain⟨y1,y2⟩:=hy
 refine⟨by simp only[spl,List.length_append,List.length_take,List.length_drop];omega,?_⟩
 intro j ck x hc hx
 simp only[spl,List.getElem?_append,List.length_take,List.getElem?_take,List.getElem?_drop]at hx
 have hm:min off row.length=off:=by omega
 rw[hm]at hx
 split at hx
 ·exact r2 j ck x hc hx
 ·rename_i h1
  split at hx
  ·rename_i h2
   refine y2 (j - off) ck x ?_ hx
   rw[List.getElem?_take,if_pos h2,List.getElem?_drop]
   rw[show off+(j - off)=j by omega];exact hc
  ·refine r2 j ck x hc ?_
   rw[show off+ys.length+(j - off - ys.length)=j by omega]at hx
   exact hx
theorem cq.setObj{s s':St}(h:cq s s')(k:Nat)(ov:OV):cq ⟨s.ah,(k,ov)::rm s.tab k⟩ ⟨s'.ah,(k,ov)::rm s'.tab k⟩:=by
 refine⟨h.ah,fun t=>?_⟩
 simp only[cK,qS,h.tab t]
theorem dVU{ρ:Ro}:DV.u.v ρ=SV.u:=by simp[DV.v]
theorem QC(ρ:Ro)(cs:List DP)(off:Nat)(new:List DP):ar ρ (spl cs off new)=spl (ar ρ cs) off (ar ρ new):=by
 simp[spl,tR,kH,np,eV]
theorem Ol{n:Nat}{cs new:List DP}{off:Nat}(h:Sc n (bP cs))(h':Sc n (bP new)):Sc n (bP (spl cs off new)):=by
 rw[pT]at*
 intro x hx
 simp only[spl,List.mem_append]at hx
 rcases hx with hx|hx|hx
 ·exact h x (List.mem_of_mem_take hx)
 ·exact h' x hx
 ·exact h x (List.mem_of_mem_drop hx)
def Cd(n l:Nat):List Lin:=[(Lin.at (4*n+1)).ax (-1) (Lin.at (4*l+1)),(Lin.at (4*l+1)).ax (-1) (Lin.at (4*n+1))]
def Hx(P:Program)(σ:DSt)(o:Oper)(t:TypeId)(x y:Operand):DR:=
 match kG (dev σ y),P.info? t with
 |some xs,some i=>match Cc xs,Nat.beq xs.length i.size with
  |true,true=>match dev σ x with
   | .ptr k off=>match lk σ.tab k with
    |some (.box bt cells)=>match Nat.ble (off+xs.length) cells.length with
     |true=>some ((σ.setObj k (.box bt (spl cells off xs))).put o.dst .u,[])
     |false=>none
    |_=>none
   | .bn k sz n off=>match lk σ.tab k,jV xs with
    |some (.vec bt gm (some l) fr),some (ys,jX)=>match lk σ.tys l,Nat.beq sz gm && pY ys with
     |some e,true=>match iv (cks P e) σ.nx with
      |some R=>match Nat.ble (off+xs.length) R.cells.length && Nat.beq ys.length xs.length,dty σ.tys (((cks P e).drop off).take ys.length) ys with
       |true,some gs=>some (((σ.grow (R.nx - σ.nx+1) ((R.nx,e)::R.tys) (Cd R.nx l++kI l R) [.set R.nx l n (spl R.cells off ys),.row l n R.cells]).setObj k (.vec bt gm (some R.nx) (fr && jX))).put o.dst .u,inR n l++gs)
       |_,_=>none
      |none=>none
     |_,_=>none
    |_,_=>none
   |_=>none
  |_,_=>none
 |_,_=>none
theorem Fc{P:Program}{H:Hint}{s:St}{o:Oper}{t:TypeId}{x y:Operand}(ho:o.op= .store t x y):
  aop P H s o=match ev s x with| .bn _ _ _ _=>nt (j3 P H s o t x y)|_=>tr (j3 P H s o t x y):=by
 unfold aop
 simp only[ho]
 cases ev s x<;>rfl
theorem Ji{P:Program}{I:Pr}{σ σ':DSt}{o:Oper}{t:TypeId}{x y:Operand}{gs:List G}(ho:o.op= .store t x y)(h:Hx P σ o t x y=some (σ',gs)):Good P I σ o σ' gs:=by
 unfold Hx at h
 split at h
 ·rename_i xs i fH hi
  have xsc:σ.sc→Sc σ.nx (aD xs):=fun hs=>xR fH (hs.dev y)
  have f1:∀ρ,cellsOf (ev (σ.v ρ) y)=some (dvs ρ xs):=fun ρ=>by rw[aK,AQ,fH];rfl
  split at h
  ·rename_i qv hlen
   split at h
   ·rename_i k off he
    have e1:∀ρ,ev (σ.v ρ) x= .ptr k off:=fun ρ=>by rw[aK,he];simp[DV.v]
    split at h
    ·rename_i bt cells hk
     split at h
     ·rename_i hle
      simp only[ZS,ZT]at h;obtain⟨rfl,rfl⟩:=h
      intro hs
      have hs1:=ns hs (k:=k) (ov:= .box bt (spl cells off xs)) (by simp only[DO.vars];exact N4 (by have:=hs.tab k _ hk;simpa[DO.vars]using this) (xsc hs))
      refine⟨hs1.put _ (by simp[DV.vars,Sc.nil]),by rw[di];exact Nat.le_refl _,fun ρ ab _=>⟨ρ,au.refl _ _,?_,⟨[],[]⟩,_,[],?_,trivial,cq.refl _⟩⟩
      ·exact(DSt.ok.put (σ:=σ.setObj k (.box bt (spl cells off xs))) ⟨ab.g,ab.tys,ab.lin,ab.prs⟩ _ _)
      ·rw[eF,mT,dVU]
       rw[Fc ho,e1]
       simp[j3,f1,hi,DU,qv,gZ,hlen,e1,dJ hk,DO.v,hle,JW,tr]
     ·cases h
    ·cases h
   ·rename_i k sz n off he
    have e1:∀ρ,ev (σ.v ρ) x= .bn k sz (n.v ρ).toNat off:=fun ρ=>by rw[aK,he];simp[DV.v]
    have nsc:σ.sc→Sc σ.nx n.vars:=fun hs=>by have:=hs.dev x;rw[he]at this;simpa[DV.vars]using this
    split at h
    ·rename_i bt gm l fr ys jX hk hys
     split at h
     ·rename_i e hl bf
      simp only[Bool.and_eq_true]at bf
      split at h
      ·rename_i R hR
       split at h
       ·rename_i gs0 hle aJ
        simp only[Bool.and_eq_true]at hle
        have hyl:=ZU hle.2
        have hle1:=ZX hle.1
        simp only[ZS,ZT]at h;obtain⟨rfl,rfl⟩:=h
        have ed:=oK _ _ _ hR
        have hnx:σ.nx+(R.nx - σ.nx+1)=R.nx+1:=by have:=ed.le;omega
        have ysc:σ.sc→Sc σ.nx (bP ys):=fun hs=>pZ hys (xsc hs)
        have hgsc:σ.sc→jT (σ.nx+(R.nx - σ.nx+1)) ((R.nx,e)::R.tys) (Cd R.nx l++kI l R) [.set R.nx l n (spl R.cells off ys),.row l n R.cells]:=by
         intro hs
         have jd:=mi hs hl
         have qu:=ed.le
         rw[hnx]
         refine⟨?_,?_,?_⟩
         ·intro k' e' hk'
          simp only[List.mem_cons,ZT]at hk'
          rcases hk' with⟨rfl,_⟩|hk'
          ·exact Nat.lt_succ_self _
          ·exact Nat.lt_succ_of_lt (ed.tys k' e' hk')
         ·intro q hq
          rcases Z0 hq with hq|hq
          ·have n1:Sc (R.nx+1) (Lin.at (4*R.nx+1)).vars:=Lin.bC (by omega)
           have n2:Sc (R.nx+1) (Lin.at (4*l+1)).vars:=Lin.bC (by omega)
           simp only[Cd,List.mem_cons,List.mem_nil_iff,or_false]at hq
           rcases hq with rfl|rfl
           ·exact Lin.aE n1 n2
           ·exact Lin.aE n2 n1
          ·exact(xV ed jd q hq).mono (Nat.le_succ _)
         ·intro f hf
          simp only[List.mem_cons,List.mem_nil_iff,or_false]at hf
          have c1:=ed.cells.mono (Nat.le_succ R.nx)
          have c2:=(nsc hs).mono (show σ.nx≤R.nx+1 by omega)
          rcases hf with rfl|rfl
          ·simp only[PF.vars,Sc.cons,Sc.app]
           exact⟨Nat.lt_succ_self _,by omega,c2,Ol c1 ((ysc hs).mono (by omega))⟩
          ·simp only[PF.vars,Sc.cons,Sc.app]
           exact⟨by omega,c2,c1⟩
        intro hs
        have hs1:=hs.grow (hgsc hs)
        have hs2:=ns hs1 (k:=k) (ov:= .vec bt gm (some R.nx) (fr && jX)) (by simp only[DO.vars,a8,Sc.cons];exact⟨by show R.nx<σ.nx+(R.nx - σ.nx+1);omega,Sc.nil⟩)
        refine⟨hs2.put _ (by simp[DV.vars,Sc.nil]),by rw[di];exact Nat.le_add_right _ _,?_⟩
        intro ρ ab hg
        rw[jm]at hg
        obtain⟨g0,g1⟩:=B2 hg.1
        obtain⟨ρ1,hw⟩:=DK hs ab hl (nsc hs) hR g0 g1
        have jd:=mi hs hl
        have av:(n.v ρ).toNat<(ρ l).l.length:=by omega
        have a6:(ρ l).l[(n.v ρ).toNat]=ar ρ1 R.cells:=by have:=hw.row;simp[av]at this;exact this
        have yv:ar ρ1 ys=ar ρ ys:=lZ hw.ag (ysc hs)
        have fy:WTs P (cks P e) (spl (ar ρ1 R.cells) off (ar ρ ys)):=by
         have hty1:=(eE ab.tys hl).2 _ (List.getElem_mem av)
         rw[a6]at hty1
         refine Tn _ _ _ _ hty1 (by rw[eV,eV];omega) ?_
         rw[eV]
         exact gj ab.g ab.tys _ _ _ aJ hg.2
        have hz:bK P e ((ρ l).l.set (n.v ρ).toNat (spl (ar ρ1 R.cells) off (ar ρ ys))):=by
         have h0:=eE ab.tys hl
         refine⟨by rw[List.length_set];exact h0.1,fun row hr=>?_⟩
         rcases List.mem_or_eq_of_mem_set hr with hr|rfl
         ·exact h0.2 row hr
         ·exact fy
        have ha1:=da ρ1 R.nx R.nx (vaL ((ρ l).l.set (n.v ρ).toNat (spl (ar ρ1 R.cells) off (ar ρ ys)))) (Nat.le_refl _)
        have ha:au σ.nx ρ (up ρ1 R.nx (vaL ((ρ l).l.set (n.v ρ).toNat (spl (ar ρ1 R.cells) off (ar ρ ys))))):=hw.ag.trans ha1 ed.le
        have hn:((up ρ1 R.nx (vaL ((ρ l).l.set (n.v ρ).toNat (spl (ar ρ1 R.cells) off (ar ρ ys))))) R.nx).l=(ρ l).l.set (n.v ρ).toNat (spl (ar ρ1 R.cells) off (ar ρ ys)):=by rw[bg];rfl
        have hgk:=hw.g.up R.nx (jU hz.len)
        generalize up ρ1 R.nx (vaL ((ρ l).l.set (n.v ρ).toNat (spl (ar ρ1 R.cells) off (ar ρ ys))))=ρ' at ha1 ha hn hgk
        have qu:=ed.le
        have e3:ρ' l=ρ l:=ha l jd
        have e4:=Lin.ag ha (nsc hs)
        have e5:ar ρ' R.cells=ar ρ1 R.cells:=lZ ha1 ed.cells
        have e6:ar ρ' ys=ar ρ ys:=lZ ha (ysc hs)
        have cR:(σ.grow (R.nx - σ.nx+1) ((R.nx,e)::R.tys) (Cd R.nx l++kI l R) [.set R.nx l n (spl R.cells off ys),.row l n R.cells]).ok P I ρ':=by
         refine ab.grow hs ha hgk ⟨by rw[hn];exact hz,(xQ ha1 ed.tys).2 hw.tys⟩ (dH ?_ ((uy ha1 (xV ed jd)).2 hw.lin)) ⟨?_,?_,trivial⟩
         ·refine⟨?_,?_,trivial⟩<;>simp only[Lin.bQ,Lin.bN,dI,hn,e3,List.length_set]<;>omega
         ·simp only[PF.v,hn,e3,e4,QC,e5,e6]
         ·refine⟨by rw[e4];exact g0,?_⟩
          rw[e3,e4,e5];exact hw.row
        refine⟨ρ',ha,?_,⟨[],[(k,ar ρ1 R.cells)]⟩,(⟨(σ.v ρ).ah,(k,.vec bt gm ((ρ l).l.set (n.v ρ).toNat (spl (ar ρ1 R.cells) off (ar ρ ys))) (fr && jX))::rm (σ.v ρ).tab k⟩:St).put o.dst .u,[(ρ l).l[(n.v ρ).toNat]? =some (ar ρ1 R.cells)],?_,⟨hw.row,trivial⟩,?_⟩
        ·exact(DSt.ok.put (σ:=(σ.grow (R.nx - σ.nx+1) ((R.nx,e)::R.tys) (Cd R.nx l++kI l R) [.set R.nx l n (spl R.cells off ys),.row l n R.cells]).setObj k (.vec bt gm (some R.nx) (fr && jX))) ⟨cR.g,cR.tys,cR.lin,cR.prs⟩ _ _)
        ·rw[Fc ho,e1]
         have hble:Nat.ble (off+(dvs ρ xs).length) (ar ρ1 R.cells).length=true:=by rw[gZ,eV];exact hle.1
         simp[j3,f1,hi,DU,qv,gZ,hlen,e1,dJ hk,DO.v,lvV,oP hys bf.2,lk,bf.1,eV,hle.1,nt]
        ·rw[eF,mT,dVU]
         refine cq.put ?_ _ _
         have lH:(DO.vec bt gm (some R.nx) (fr && jX)).v ρ'= .vec bt gm ((ρ l).l.set (n.v ρ).toNat (spl (ar ρ1 R.cells) off (ar ρ ys))) (fr && jX):=by simp only[DO.v,lvV,hn]
         rw[lH]
         exact cq.setObj (DSt.fX hs ha) _ _
       ·cases h
      ·cases h
     ·cases h
    ·cases h
   ·cases h
  ·cases h
 ·cases h
end Go.TL
