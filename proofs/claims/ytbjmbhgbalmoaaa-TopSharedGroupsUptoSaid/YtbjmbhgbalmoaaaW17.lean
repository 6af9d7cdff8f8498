/- Objects that are put away or frozen. -/
import Derived.Test.YtbjmbhgbalmoaaaW16
namespace Go.TL
mutual
def DV.fz(k:Nat)(vc:DV)(pd:Nat→DV):DV→DV
 | .vec j=>match Nat.beq j k with|true=>vc|false=> .vec j
 | .ptr j off=>match Nat.beq j k with|true=>pd off|false=> .ptr j off
 | .aY j sz i off=>match Nat.beq j k with|true=> .u|false=> .aY j sz i off
 | .ref j=>match Nat.beq j k with|true=>vc|false=> .ref j
 | .agg xs=> .agg (jd k vc pd xs)
 | .bB xs=> .bB (jd k vc pd xs)
 | .fn f first aL=> .fn f (jd k vc pd first) (jd k vc pd aL)
 | .bH t x=> .bH t (DV.fz k vc pd x)
 | .u=> .u
 | .p x fr=> .p x fr
 | .pd row off fr=> .pd row off fr
 | .pc l fr=> .pc l fr
def jd(k:Nat)(vc:DV)(pd:Nat→DV):List DV→List DV
 | []=>[]
 |x::xs=>DV.fz k vc pd x::jd k vc pd xs
end
mutual
theorem tO(ρ:Ro)(k:Nat)(vc:DV)(pd:Nat→DV):∀x:DV,(DV.fz k vc pd x).v ρ=SV.fz k (vc.v ρ) (fun n=>(pd n).v ρ) (x.v ρ)
 | .vec j=>by simp only[DV.fz,DV.v,SV.fz];cases Nat.beq j k<;>simp[DV.v]
 | .ptr j off=>by simp only[DV.fz,DV.v,SV.fz];cases Nat.beq j k<;>simp[DV.v]
 | .aY j sz i off=>by simp only[DV.fz,DV.v,SV.fz];cases Nat.beq j k<;>simp[DV.v]
 | .ref j=>by simp only[DV.fz,DV.v,SV.fz];cases Nat.beq j k<;>simp[DV.v]
 | .agg xs=>by simp only[DV.fz,DV.v,SV.fz,mB ρ k vc pd xs]
 | .bB xs=>by simp only[DV.fz,DV.v,SV.fz,mB ρ k vc pd xs]
 | .fn f first aL=>by simp only[DV.fz,DV.v,SV.fz,mB ρ k vc pd first,mB ρ k vc pd aL]
 | .bH t x=>by simp only[DV.fz,DV.v,SV.fz,tO ρ k vc pd x]
 | .u=>by simp[DV.fz,DV.v,SV.fz]
 | .p x fr=>by simp[DV.fz,DV.v,SV.fz]
 | .pd row off fr=>by simp[DV.fz,DV.v,SV.fz]
 | .pc l fr=>by simp[DV.fz,DV.v,SV.fz]
theorem mB(ρ:Ro)(k:Nat)(vc:DV)(pd:Nat→DV):∀xs:List DV,dvs ρ (jd k vc pd xs)=fzs k (vc.v ρ) (fun n=>(pd n).v ρ) (dvs ρ xs)
 | []=>by simp[jd,dvs,fzs]
 |x::xs=>by simp only[jd,dvs,fzs,tO ρ k vc pd x,mB ρ k vc pd xs]
end
mutual
theorem k9{n:Nat}{k:Nat}{vc:DV}{pd:Nat→DV}(hv:Sc n vc.vars)(hp:∀j,Sc n (pd j).vars):∀{x:DV},Sc n x.vars→Sc n (DV.fz k vc pd x).vars
 | .vec j,_=>by simp only[DV.fz];cases Nat.beq j k with|true=>exact hv|false=>simp[DV.vars,Sc.nil]
 | .ptr j off,_=>by simp only[DV.fz];cases Nat.beq j k with|true=>exact hp off|false=>simp[DV.vars,Sc.nil]
 | .aY j sz i off,h=>by simp only[DV.fz];cases Nat.beq j k with|true=>simp[DV.vars,Sc.nil]|false=>exact h
 | .ref j,_=>by simp only[DV.fz];cases Nat.beq j k with|true=>exact hv|false=>simp[DV.vars,Sc.nil]
 | .agg xs,h=>by simp only[DV.fz,DV.vars]at h ⊢;exact kD hv hp h
 | .bB xs,h=>by simp only[DV.fz,DV.vars]at h ⊢;exact kD hv hp h
 | .fn f first aL,h=>by simp only[DV.fz,DV.vars,Sc.app]at h ⊢;exact⟨kD hv hp h.1,kD hv hp h.2⟩
 | .bH t x,h=>by simp only[DV.fz,DV.vars]at h ⊢;exact k9 hv hp h
 | .u,_=>by simp[DV.fz,DV.vars,Sc.nil]
 | .p x fr,h=>by simpa only[DV.fz]using h
 | .pd row off fr,h=>by simpa only[DV.fz]using h
 | .pc l fr,h=>by simpa only[DV.fz]using h
theorem kD{n:Nat}{k:Nat}{vc:DV}{pd:Nat→DV}(hv:Sc n vc.vars)(hp:∀j,Sc n (pd j).vars):∀{xs:List DV},Sc n (bS xs)→Sc n (bS (jd k vc pd xs))
 | [],_=>by simp[jd,bS,Sc.nil]
 |x::xs,h=>by simp only[jd,bS,Sc.app]at h ⊢;exact⟨k9 hv hp h.1,kD hv hp h.2⟩
end
def gK(k:Nat)(vc:DV)(pd:Nat→DV):fK→fK
 | []=>[]
 |(t,x)::r=>(t,DV.fz k vc pd x)::gK k vc pd r
def DO.fz(k:Nat)(vc:DV)(pd:Nat→DV):DO→DO
 | .box t cells=> .box t (jd k vc pd cells)
 |o=>o
def jK(k:Nat)(vc:DV)(pd:Nat→DV):bY→bY
 | []=>[]
 |(t,x)::r=>(t,DO.fz k vc pd x)::jK k vc pd r
theorem pV(ρ:Ro)(k:Nat)(vc:DV)(pd:Nat→DV):∀l:fK,iS ρ (gK k vc pd l)=gO k (vc.v ρ) (fun n=>(pd n).v ρ) (iS ρ l)
 | []=>rfl
 |(t,x)::r=>by simp only[gK,iS,gO,tO,pV ρ k vc pd r]
theorem zT(ρ:Ro)(k:Nat)(vc:DV)(pd:Nat→DV)(o:DO):(o.fz k vc pd).v ρ=(o.v ρ).fz k (vc.v ρ) (fun n=>(pd n).v ρ):=by
 cases o<;>simp[DO.fz,DO.v,OV.fz,mB]
theorem sF(ρ:Ro)(k:Nat)(vc:DV)(pd:Nat→DV):∀l:bY,dw ρ (jK k vc pd l)=ia k (vc.v ρ) (fun n=>(pd n).v ρ) (dw ρ l)
 | []=>rfl
 |(t,x)::r=>by simp only[jK,dw,ia,zT,sF ρ k vc pd r]
theorem j8(k:Nat)(vc:DV)(pd:Nat→DV):∀(l:fK) (t:Nat),lk (gK k vc pd l) t=(lk l t).map (DV.fz k vc pd)
 | [],_=>rfl
 |(j,x)::r,t=>by simp only[gK,lk];cases Nat.beq j t<;>simp[j8 k vc pd r t]
theorem lY(k:Nat)(vc:DV)(pd:Nat→DV):∀(l:bY) (t:Nat),lk (jK k vc pd l) t=(lk l t).map (DO.fz k vc pd)
 | [],_=>rfl
 |(j,x)::r,t=>by simp only[jK,lk];cases Nat.beq j t<;>simp[lY k vc pd r t]
theorem mY(k:Nat)(vc:SV)(pd:Nat→SV):∀(l:List (Nat×SV)) (t:Nat),lk (gO k vc pd l) t=(lk l t).map (SV.fz k vc pd)
 | [],_=>rfl
 |(j,x)::r,t=>by simp only[gO,lk];cases Nat.beq j t<;>simp[mY k vc pd r t]
theorem pW(k:Nat)(vc:SV)(pd:Nat→SV):∀(l:Tab) (t:Nat),lk (ia k vc pd l) t=(lk l t).map (OV.fz k vc pd)
 | [],_=>rfl
 |(j,x)::r,t=>by simp only[ia,lk];cases Nat.beq j t<;>simp[pW k vc pd r t]
theorem qq{α:Type}(l:List (Nat×α))(n m:Nat):lk (rm l n) m=if m=n then none else lk l m:=by
 by_cases h:m=n
 ·subst h;rw[nJ,if_pos rfl]
 ·rw[dH _ _ _ h,if_neg h]
theorem iG{α:Type}(l:List (Nat×α))(n m:Nat)(x:α):lk ((n,x)::l) m=if m=n then some x else lk l m:=by
 by_cases h:m=n
 ·subst h;rw[aE,if_pos rfl]
 ·rw[av _ _ _ _ h,if_neg h]
def DSt.re(σ:DSt)(k d:Nat)(ov:DO):DSt:=
 {σ with az:=(d,.vec d)::gK k .u (fun _=> .u) σ.az,tab:=(d,ov)::jK k .u (fun _=> .u) (rm σ.tab k)}
theorem cS.re{s s':St}(h:cS s s')(k d:Nat)(ov:OV):cS (s.re k d ov) (s'.re k d ov):=by
 constructor
 ·intro t
  simp only[St.re,iG,mY,h.az t]
 ·intro t
  simp only[St.re,iG,pW,qq,h.tab t]
theorem DO.k9{n k:Nat}{vc:DV}{pd:Nat→DV}(hv:Sc n vc.vars)(hp:∀j,Sc n (pd j).vars){o:DO}(h:Sc n o.vars):Sc n (o.fz k vc pd).vars:=by
 cases o with
 |box t cells=>simp only[DO.fz,DO.vars]at h ⊢;exact kD hv hp h
 |vec t sz l fr=>exact h
 |mp a l fr=>exact h
 |it a l fr n on=>exact h
theorem DSt.sc.re{σ:DSt}(hs:σ.sc)(k d:Nat){ov:DO}(ho:Sc σ.nx ov.vars):(σ.re k d ov).sc:=by
 have hu:Sc σ.nx DV.u.vars:=by simp[DV.vars,Sc.nil]
 refine⟨?_,?_,hs.tys,hs.lin,hs.prs⟩
 ·intro t v hl
  simp only[DSt.re,iG]at hl
  split at hl
  ·simp only[Ct]at hl;subst hl;simp[DV.vars,Sc.nil]
  ·rw[j8]at hl
   cases hq:lk σ.az t with
   |none=>simp[hq]at hl
   |some x=>simp only[hq,Option.map_some,Ct]at hl;subst hl;exact Go.TL.k9 hu (fun _=>hu) (hs.az t x hq)
 ·intro t v hl
  simp only[DSt.re,iG]at hl
  split at hl
  ·simp only[Ct]at hl;subst hl;exact ho
  ·rw[lY]at hl
   cases hq:lk (rm σ.tab k) t with
   |none=>simp[hq]at hl
   |some x=>
    simp only[hq,Option.map_some,Ct]at hl;subst hl
    rw[qq]at hq
    split at hq
    ·cases hq
    ·exact DO.k9 hu (fun _=>hu) (hs.tab t x hq)
end Go.TL
namespace Go.TL
end Go.TL
namespace Go.TL
def AW:DV→Option (DP×Bool)
 | .p .nl _=>some (.sl none,true)
 | .p (.sl l) fr=>some (.sl l,fr)
 | .p (.ls l) fr=>some (.ls l,fr)
 | .p (.mp a l) fr=>some (.mp a l,fr)
 | .p x _=>some (x,true)
 | .pc l fr=>some (.sl l,fr)
 | .fn _ _ _=>some (.un,true)
 |_=>none
def vr:List DV→Option (List DP×Bool)
 | []=>some ([],true)
 |x::xs=>match AW x,vr xs with
  |some (y,f),some (ys,fs)=>some (y::ys,f && fs)
  |_,_=>none
def AX:DP→Bool
 | .cst (.slice none 0 0)=>false
 |_=>true
def vv:List DP→Bool
 | []=>true
 |x::xs=>match AX x with|true=>vv xs|false=>false
def DSt.zU(σ:DSt)(d:Nat)(ov:DO):DSt:={σ with az:=(d,.vec d)::σ.az,tab:=(d,ov)::σ.tab}
theorem cS.zU{s s':St}(h:cS s s')(d:Nat)(ov:OV):cS ⟨(d,.vec d)::s.az,(d,ov)::s.tab⟩ ⟨(d,.vec d)::s'.az,(d,ov)::s'.tab⟩:=by
 constructor<;>intro t<;>simp only[iG]<;>split<;>first|rfl|exact h.az t|exact h.tab t
def DSt.setObj(σ:DSt)(k:Nat)(ov:DO):DSt:={σ with tab:=(k,ov)::rm σ.tab k}
def DV.one:DV→Bool
 | .u| .agg _| .bB _=>false
 |_=>true
theorem cS.setObj{s s':St}(h:cS s s')(k:Nat)(ov:OV):cS ⟨s.az,(k,ov)::rm s.tab k⟩ ⟨s'.az,(k,ov)::rm s'.tab k⟩:=by
 refine⟨h.az,fun t=>?_⟩
 simp only[iG,qq,h.tab t]
end Go.TL
