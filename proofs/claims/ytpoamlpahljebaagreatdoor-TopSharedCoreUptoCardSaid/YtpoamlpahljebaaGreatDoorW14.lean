/- Rows of new variables; rows that are of a type. -/
import Derived.Test.YtpoamlpahljebaaGreatDoorW13
namespace Go.TL
structure mR where
 cells:List DP
 nx:Nat
 tys:List (Nat×TypeId)
 lin:List Lin
 rz:Lin
def Vz:IntKind→Bool
 | .i64=>true
 |_=>false
def qN:IntKind→Bool
 | .u64=>true
 |_=>false
def iv:List CK→Nat→Option mR
 | [],n=>some ⟨[],n,[],[],Lin.lit 0⟩
 |ck::r,n=>match iv r (n+1)with
  |none=>none
  |some R=>match ck with
   | .int k=>match qN k with
    |true=>none
    |false=>some ⟨.int k (Lin.at (4*n))::R.cells,R.nx,R.tys,(match Vz k with|true=>R.lin|false=>(Lin.at (4*n)).aN (-k.max)::(Lin.scale (-1) (Lin.at (4*n))).aN k.min::R.lin),R.rz.aN 1⟩
   | .bool=>some ⟨.bl (.var n)::R.cells,R.nx,R.tys,R.lin,R.rz.aN 1⟩
   | .str=>some ⟨.st (.var n)::R.cells,R.nx,R.tys,R.lin,(R.rz.ax 1 (Lin.at (4*n+3))).aN 1⟩
   | .oy=>some ⟨.st (.var n)::R.cells,R.nx,R.tys,(Lin.at (4*n+3)).aN (-64)::R.lin,(R.rz.ax 1 (Lin.at (4*n+3))).aN 1⟩
   | .sl e=>some ⟨.sl (some n)::R.cells,R.nx,(n,e)::R.tys,R.lin,(R.rz.ax 1 (Lin.at (4*n+2))).aN 1⟩
   | .any=>some ⟨.un::R.cells,R.nx,R.tys,R.lin,R.rz.aN 1⟩
   | .other=>none
theorem JU{k:IntKind}:(-9223372036854775808:Int)≤k.min:=by cases k<;>decide
theorem JV{k:IntKind}(h:qN k=false):k.max≤(9223372036854775807:Int):=by cases k<;>first|decide|simp[qN]at h
theorem EX{n a:Nat}{c:Int}(ha:a / 4<n):∀{x:Sum},Sc n (dS x)→Sc n (dS (xO a c x))
 | [],_=>by
  simp only[xO];split
  ·exact Sc.nil
  ·simp only[dS,Sc.cons];exact⟨ha,Sc.nil⟩
 |(a',c')::r,h=>by
   simp only[dS,Sc.cons]at h
   simp only[xO]
   split
   ·split
    ·exact h.2
    ·simp only[dS,Sc.cons];exact⟨ha,h.2⟩
   ·split
    ·split
     ·simp only[dS,Sc.cons];exact h
     ·simp only[dS,Sc.cons];exact⟨ha,h⟩
    ·simp only[dS,Sc.cons];exact⟨h.1,EX ha h.2⟩
theorem EY{n:Nat}{k:Int}:∀{x y:Sum},Sc n (dS x)→Sc n (dS y)→Sc n (dS (AL k x y))
 | [],_,_,hy=>hy
 |(a,c)::r,y,hx,hy=>by
   simp only[dS,Sc.cons]at hx
   simp only[AL]
   exact EY hx.2 (EX hx.1 hy)
theorem Lin.aE{n:Nat}{x y:Lin}{k:Int}(hx:Sc n x.vars)(hy:Sc n y.vars):Sc n (x.ax k y).vars:=EY hy hx
theorem Lin.N3{n:Nat}{x y:Lin}(hx:Sc n x.vars)(hy:Sc n y.vars):Sc n (x.add y).vars:=Lin.aE hx hy
theorem Lin.eg{n:Nat}{z:Int}:Sc n (Lin.lit z).vars:=Sc.nil
theorem Lin.dW{n:Nat}{x:Lin}{k:Int}(hx:Sc n x.vars):Sc n (Lin.scale k x).vars:=Lin.aE Sc.nil hx
theorem Lin.bI{n:Nat}{x:Lin}{k:Int}(hx:Sc n x.vars):Sc n (x.aN k).vars:=hx
theorem Lin.bC{n a:Nat}(h:a / 4<n):Sc n (Lin.at a).vars:=by
 simp only[Lin.at,Lin.vars,dS,Sc.cons];exact⟨h,Sc.nil⟩
theorem me(ρ:Ro)(k:Nat):aV ρ (4*k)=(ρ k).n:=by
 unfold aV
 have h1:4*k % 4=0:=by omega
 have h2:4*k / 4=k:=by omega
 simp only[h1,h2]
theorem dI(ρ:Ro)(k:Nat):aV ρ (4*k+1)=((ρ k).l.length:Int):=by
 unfold aV
 have h1:(4*k+1) % 4=1:=by omega
 have h2:(4*k+1) / 4=k:=by omega
 simp only[h1,h2]
theorem fa(ρ:Ro)(k:Nat):aV ρ (4*k+2)=(rsz (ρ k).l:Int):=by
 unfold aV
 have h1:(4*k+2) % 4=2:=by omega
 have h2:(4*k+2) / 4=k:=by omega
 simp only[h1,h2]
theorem mf(ρ:Ro)(k:Nat):aV ρ (4*k+3)=((ρ k).s.size:Int):=by
 unfold aV
 have h1:(4*k+3) % 4=3:=by omega
 have h2:(4*k+3) / 4=k:=by omega
 simp only[h1,h2]
structure Si(P:Program)(n:Nat)(row:List PV)(R:mR)(ρ ρ':Ro):Prop where
 ag:au n ρ ρ'
 g:Gok ρ'
 cells:ar ρ' R.cells=row
 tys:dA P ρ' R.tys
 lin:bh ρ' R.lin
 rz:R.rz.v ρ'=(Go.TL.rz row:Int)
structure F2(n:Nat)(R:mR):Prop where
 le:n≤R.nx
 cells:Sc R.nx (bP R.cells)
 tys:∀k e,(k,e)∈R.tys→k<R.nx
 lin:∀e∈R.lin,Sc R.nx e.vars
 rz:Sc R.nx R.rz.vars
theorem oK:∀(cs:List CK) (n:Nat) (R:mR),iv cs n=some R→F2 n R
 | [],n,R,h=>by
  simp only[iv,ZS]at h;subst h
  exact⟨Nat.le_refl _,Sc.nil,by simp,by simp,Lin.eg⟩
 |ck::r,n,R,h=>by
  simp only[iv]at h
  split at h
  ·cases h
  ·rename_i R1 h1
   have ih:=oK r (n+1) R1 h1
   have hn:n<R1.nx:=ih.le
   have a0:4*n / 4<R1.nx:=by omega
   have a2:(4*n+2) / 4<R1.nx:=by omega
   have a3:(4*n+3) / 4<R1.nx:=by omega
   split at h
   ·rename_i k
    split at h
    ·cases h
    ·simp only[ZS]at h;subst h
     refine⟨Nat.le_of_lt hn,?_,ih.tys,?_,Lin.bI ih.rz⟩
     ·simp only[bP,DP.vars,Sc.app];exact⟨Lin.bC a0,ih.cells⟩
     ·simp only
      split
      ·exact ih.lin
      ·intro e he
       simp only[List.mem_cons]at he
       rcases he with rfl|rfl|he
       ·exact Lin.bI (Lin.bC a0)
       ·exact Lin.bI (Lin.dW (Lin.bC a0))
       ·exact ih.lin e he
   ·simp only[ZS]at h;subst h
    refine⟨Nat.le_of_lt hn,?_,ih.tys,ih.lin,Lin.bI ih.rz⟩
    simp only[bP,DP.vars,BF.vars,Sc.app,Sc.cons];exact⟨⟨hn,Sc.nil⟩,ih.cells⟩
   ·simp only[ZS]at h;subst h
    refine⟨Nat.le_of_lt hn,?_,ih.tys,ih.lin,Lin.bI (Lin.aE ih.rz (Lin.bC a3))⟩
    simp only[bP,DP.vars,SE.vars,Sc.app,Sc.cons];exact⟨⟨hn,Sc.nil⟩,ih.cells⟩
   ·simp only[ZS]at h;subst h
    refine⟨Nat.le_of_lt hn,?_,ih.tys,?_,Lin.bI (Lin.aE ih.rz (Lin.bC a3))⟩
    ·simp only[bP,DP.vars,SE.vars,Sc.app,Sc.cons];exact⟨⟨hn,Sc.nil⟩,ih.cells⟩
    ·intro e he
     rcases Z1 he with rfl|he
     ·exact Lin.bI (Lin.bC a3)
     ·exact ih.lin e he
   ·simp only[ZS]at h;subst h
    refine⟨Nat.le_of_lt hn,?_,?_,ih.lin,Lin.bI (Lin.aE ih.rz (Lin.bC a2))⟩
    ·simp only[bP,DP.vars,a8,Sc.app,Sc.cons];exact⟨⟨hn,Sc.nil⟩,ih.cells⟩
    ·intro k e hk
     simp only[List.mem_cons,ZT]at hk
     rcases hk with⟨rfl,_⟩|hk
     ·exact hn
     ·exact ih.tys k e hk
   ·simp only[ZS]at h;subst h
    exact⟨Nat.le_of_lt hn,by simpa only[bP,DP.vars,List.nil_append]using ih.cells,ih.tys,ih.lin,Lin.bI ih.rz⟩
   ·cases h
theorem rD{P:Program}:∀(cs:List CK) (n:Nat) (R:mR) (row:List PV) (ρ:Ro),iv cs n=some R→WTs P cs row→Gok ρ→∃ρ',Si P n row R ρ ρ'
 | [],n,R,row,ρ,h,hw,hg=>by
  simp only[iv,ZS]at h;subst h
  have:=rB hw;subst this
  exact⟨ρ,au.refl _ _,hg,rfl,trivial,trivial,by simp[Lin.cT,Go.TL.rz]⟩
 |ck::r,n,R,row,ρ,h,hw,hg=>by
  simp only[iv]at h
  split at h
  ·cases h
  ·rename_i R1 h1
   obtain⟨x,xs,rfl,hx,fH⟩:=kC hw
   have step:∀va:Va,mQ va→∃ρ',Si P (n+1) xs R1 (up ρ n va) ρ'∧ρ' n=va∧au n ρ ρ':=by
    intro va hva
    obtain⟨ρ',hr⟩:=rD r (n+1) R1 xs (up ρ n va) h1 fH (hg.up n hva)
    exact⟨ρ',hr,by rw[hr.ag n (Nat.lt_succ_self n),bg],(da ρ n n va (Nat.le_refl _)).trans hr.ag (Nat.le_succ n)⟩
   split at h
   ·rename_i k
    split at h
    ·cases h
    ·rename_i hk
     simp only[ZS]at h;subst h
     obtain⟨z,rfl,hz1,hz2⟩:=GH hx
     obtain⟨ρ',hr,he,ha⟩:=step (vaN z) (sr (Int.le_trans JU hz1) (Int.le_trans hz2 (JV hk)))
     have hn:(ρ' n).n=z:=by rw[he];rfl
     refine⟨ρ',ha,hr.g,?_,hr.tys,?_,?_⟩
     ·simp only[ar,DP.v,Lin.bN,me,hn,hr.cells]
     ·simp only
      split
      ·exact hr.lin
      ·refine⟨?_,?_,hr.lin⟩
       ·rw[Lin.aO,Lin.bN,me,hn];omega
       ·rw[Lin.aO,Lin.bE,Lin.bN,me,hn];omega
     ·simp only[Lin.aO,hr.rz,Go.TL.rz,pz];omega
   ·simp only[ZS]at h;subst h
    obtain⟨z,rfl⟩:=JG hx
    obtain⟨ρ',hr,he,ha⟩:=step (vaB z) (uz z)
    have hn:(ρ' n).b=z:=by rw[he];rfl
    refine⟨ρ',ha,hr.g,?_,hr.tys,hr.lin,?_⟩
    ·simp only[ar,DP.v,BF.v,hn,hr.cells]
    ·simp only[Lin.aO,hr.rz,Go.TL.rz,pz];omega
   ·simp only[ZS]at h;subst h
    obtain⟨z,rfl,hz⟩:=Nv hx
    obtain⟨ρ',hr,he,ha⟩:=step (vaS z) (ma hz)
    have hn:(ρ' n).s=z:=by rw[he];rfl
    refine⟨ρ',ha,hr.g,?_,hr.tys,hr.lin,?_⟩
    ·simp only[ar,DP.v,SE.v,hn,hr.cells]
    ·simp only[Lin.aO,Lin.bQ,Lin.bN,mf,hr.rz,Go.TL.rz,pz,hn];omega
   ·simp only[ZS]at h;subst h
    obtain⟨z,rfl,hz⟩:=U4 hx
    obtain⟨ρ',hr,he,ha⟩:=step (vaS z) (ma (Nat.le_trans hz (by decide)))
    have hn:(ρ' n).s=z:=by rw[he];rfl
    unfold uf at hz
    refine⟨ρ',ha,hr.g,?_,hr.tys,⟨?_,hr.lin⟩,?_⟩
    ·simp only[ar,DP.v,SE.v,hn,hr.cells]
    ·rw[Lin.aO,Lin.bN,mf,hn];omega
    ·simp only[Lin.aO,Lin.bQ,Lin.bN,mf,hr.rz,Go.TL.rz,pz,hn];omega
   ·rename_i e
    simp only[ZS]at h;subst h
    obtain⟨z,rfl,hz⟩:=KQ hx
    obtain⟨ρ',hr,he,ha⟩:=step (vaL z) (jU hz.len)
    have hn:(ρ' n).l=z:=by rw[he];rfl
    refine⟨ρ',ha,hr.g,?_,⟨by rw[hn];exact hz,hr.tys⟩,hr.lin,?_⟩
    ·simp only[ar,DP.v,lvV,hn,hr.cells]
    ·simp only[Lin.aO,Lin.bQ,Lin.bN,fa,hr.rz,Go.TL.rz,pz,hn];omega
   ·simp only[ZS]at h;subst h
    have:=U3 hx;subst this
    obtain⟨ρ',hr,he,ha⟩:=step (vaN 0) (sr (by decide) (by decide))
    refine⟨ρ',ha,hr.g,?_,hr.tys,hr.lin,?_⟩
    ·simp only[ar,DP.v,hr.cells]
    ·simp only[Lin.aO,hr.rz,Go.TL.rz,pz];omega
   ·cases h
def dty(tys:List (Nat×TypeId)):List CK→List DP→Option (List G)
 | [],[]=>some []
 |ck::cs,x::xs=>match dty tys cs xs with
  |none=>none
  |some gs=>match ck,x with
   | .int k,.int k' e=>match decide (k=k')with
    |true=>some (.le (e.aN (-k.max)):: .le ((Lin.scale (-1) e).aN k.min)::gs)
    |false=>none
   | .bool,.bl _=>some gs
   | .str,.st (.var _)=>some gs
   | .str,.st (.lit b)=>match Nat.ble b.length 1073741824 with|true=>some gs|false=>none
   | .oy,.st (.var k)=>some (.le ((Lin.at (4*k+3)).aN (-64))::gs)
   | .oy,.st (.lit b)=>match Nat.ble b.length 64 with|true=>some gs|false=>none
   | .any,.un=>some gs
   | .sl _,.sl none=>some gs
   | .sl e,.sl (some k)=>match lk tys k with
    |some e'=>match Nat.beq e e' with|true=>some gs|false=>none
    |none=>none
   |_,_=>none
 |_,_=>none
theorem gj{P:Program}{I:Pr}{ρ:Ro}{tys:List (Nat×TypeId)}(hg:Gok ρ)(ht:dA P ρ tys):∀(cs:List CK) (xs:List DP) (gs:List G),dty tys cs xs=some gs→gsV I ρ gs→WTs P cs (ar ρ xs)
 | [],[],_,_,_=>trivial
 |ck::cs,x::xs,gs,h,hv=>by
  simp only[dty]at h
  split at h
  ·cases h
  ·rename_i gs1 h1
   split at h
   ·split at h
    ·rename_i k k' e hk
     have:=of_decide_eq_true hk;subst this
     simp only[ZS]at h;subst h
     simp only[gsV,G.v,Lin.aO,Lin.bE]at hv
     exact⟨.int _ _ (by omega) (by omega),gj hg ht cs xs gs1 h1 hv.2.2⟩
    ·cases h
   ·simp only[ZS]at h;subst h
    exact⟨.bool _,gj hg ht cs xs gs1 h1 hv⟩
   ·simp only[ZS]at h;subst h
    exact⟨.str _ (hg.st _),gj hg ht cs xs gs1 h1 hv⟩
   ·split at h
    ·rename_i b hb
     simp only[ZS]at h;subst h
     refine⟨.str _ ?_,gj hg ht cs xs gs1 h1 hv⟩
     have:=ZX hb
     simpa[cu,SE.v,ByteArray.size]using this
    ·cases h
   ·simp only[ZS]at h;subst h
    refine⟨.oy _ ?_,gj hg ht cs xs gs1 h1 hv.2⟩
    have:=hv.1
    simp only[G.v,Lin.aO,Lin.bN,mf]at this
    simp only[SE.v,uf];omega
   ·split at h
    ·rename_i b hb
     simp only[ZS]at h;subst h
     refine⟨.oy _ ?_,gj hg ht cs xs gs1 h1 hv⟩
     have:=ZX hb
     simpa[uf,SE.v,ByteArray.size]using this
    ·cases h
   ·simp only[ZS]at h;subst h
    exact⟨.any,gj hg ht cs xs gs1 h1 hv⟩
   ·simp only[ZS]at h;subst h
    exact⟨bK.wt bK.nil,gj hg ht cs xs gs1 h1 hv⟩
   ·split at h
    ·rename_i e k e' hl
     split at h
     ·rename_i hb
      have:=ZU hb;subst this
      simp only[ZS]at h;subst h
      exact⟨bK.wt (eE ht hl),gj hg ht cs xs gs1 h1 hv⟩
     ·cases h
    ·cases h
   ·cases h
 | [],_::_,_,h,_=>by simp[dty]at h
 |_::_,[],_,h,_=>by simp[dty]at h
def dpz:DP→Lin
 | .st (.var k)=>(Lin.at (4*k+3)).aN 1
 | .st (.lit b)=>Lin.lit (1+(b.length:Int))
 | .sl (some k)=>(Lin.at (4*k+2)).aN 1
 | .ls (some k)=>(Lin.at (4*k+2)).aN 1
 | .mp _ (some k)=>(Lin.at (4*k+2)).aN 1
 |_=>Lin.lit 1
def drz:List DP→Lin
 | []=>Lin.lit 0
 |x::xs=>(dpz x).add (drz xs)
theorem Sj{ρ:Ro}(_hg:Gok ρ):∀x:DP,(∀v,x= .ej v→∀s,v≠ .string s)→(dpz x).v ρ=(pz (x.v ρ):Int)
 | .st (.var k),_=>by simp only[dpz,Lin.aO,Lin.bN,mf,DP.v,SE.v,pz];omega
 | .st (.lit b),_=>by simp only[dpz,Lin.cT,DP.v,SE.v,pz,ByteArray.size,List.size_toArray];omega
 | .sl (some k),_=>by simp only[dpz,Lin.aO,Lin.bN,fa,DP.v,lvV,pz];omega
 | .sl none,_=>by simp[dpz,Lin.cT,DP.v,lvV,pz,rsz]
 | .int _ _,_=>by simp[dpz,Lin.cT,DP.v,pz]
 | .bl _,_=>by simp[dpz,Lin.cT,DP.v,pz]
 | .nl,_=>by simp[dpz,Lin.cT,DP.v,pz]
 | .ej v,h=>by
  simp only[dpz,Lin.cT,DP.v]
  cases v<;>first|rfl|exact absurd rfl (h _ rfl _)
 | .ls (some k),_=>by simp only[dpz,Lin.aO,Lin.bN,fa,DP.v,lvV,pz];omega
 | .ls none,_=>by simp[dpz,Lin.cT,DP.v,lvV,pz,rsz]
 | .un,_=>by simp[dpz,Lin.cT,DP.v,pz]
 | .mp _ (some k),_=>by simp only[dpz,Lin.aO,Lin.bN,fa,DP.v,lvV,pz];omega
 | .mp _ none,_=>by simp[dpz,Lin.cT,DP.v,lvV,pz,rsz]
theorem BZ{P:Program}{I:Pr}{ρ:Ro}{tys:List (Nat×TypeId)}(hg:Gok ρ):∀(cs:List CK) (xs:List DP) (gs:List G),dty tys cs xs=some gs→(drz xs).v ρ=(Go.TL.rz (ar ρ xs):Int)
 | [],[],_,_=>by simp[drz,Lin.cT,ar,Go.TL.rz]
 |ck::cs,x::xs,gs,h=>by
  simp only[dty]at h
  split at h
  ·cases h
  ·rename_i gs1 h1
   have ih:=BZ (P:=P) (I:=I) hg cs xs gs1 h1
   have hx:∀v,x= .ej v→∀s,v≠ .string s:=by
    cases x with
    |ej v=>cases ck<;>simp at h
    |_=>exact fun _ e=>by cases e
   have:=Sj hg x hx
   simp only[drz,Lin.K8,ar,Go.TL.rz,this,ih];omega
 | [],_::_,_,h=>by simp[dty]at h
 |_::_,[],_,h=>by simp[dty]at h
theorem VA{n:Nat}:∀{x:DP},Sc n x.vars→Sc n (dpz x).vars
 | .st (.var k),h=>by
  simp only[DP.vars,SE.vars,Sc.cons]at h
  exact Lin.bI (Lin.bC (by omega))
 | .st (.lit b),_=>Lin.eg
 | .sl (some k),h=>by
  simp only[DP.vars,a8,Sc.cons]at h
  exact Lin.bI (Lin.bC (by omega))
 | .sl none,_=>Lin.eg
 | .int _ _,_=>Lin.eg
 | .bl _,_=>Lin.eg
 | .nl,_=>Lin.eg
 | .ej v,_=>Lin.eg
 | .ls (some k),h=>by
  simp only[DP.vars,a8,Sc.cons]at h
  exact Lin.bI (Lin.bC (by omega))
 | .ls none,_=>Lin.eg
 | .un,_=>Lin.eg
 | .mp _ (some k),h=>by
  simp only[DP.vars,a8,Sc.cons]at h
  exact Lin.bI (Lin.bC (by omega))
 | .mp _ none,_=>Lin.eg
theorem uB{n:Nat}:∀{x:List DP},Sc n (bP x)→Sc n (drz x).vars
 | [],_=>Lin.eg
 |x::xs,h=>by simp only[bP,Sc.app]at h;exact Lin.N3 (VA h.1) (uB h.2)
end Go.TL
namespace Go.TL
def kG:DV→Option (List DV)
 | .agg xs=>some xs
 | .bL _=>none
 | .u=>none
 |x=>some [x]
theorem AQ(ρ:Ro)(x:DV):cellsOf (x.v ρ)=(kG x).map (dvs ρ):=by
 cases x<;>simp[DV.v,cellsOf,kG,dvs]
theorem xR{n:Nat}{x:DV}{xs:List DV}(h:kG x=some xs)(hx:Sc n x.vars):Sc n (aD xs):=by
 have key:∀y:DV,Sc n y.vars→Sc n (aD [y]):=fun y hy=>by simp only[aD,Sc.app];exact⟨hy,Sc.nil⟩
 cases x with
 |agg ys=>simp only[kG,ZS]at h;subst h;simpa only[DV.vars]using hx
 |bL _=>simp[kG]at h
 |u=>simp[kG]at h
 |_=>simp only[kG,ZS]at h;subst h;exact key _ hx
theorem vX(ρ:Ro)(a b:List DV):dvs ρ (a++b)=dvs ρ a++dvs ρ b:=by simp[gF]
theorem AR(ρ:Ro)(a:List DV)(n:Nat):dvs ρ (a.drop n)=(dvs ρ a).drop n:=by simp[gF,List.map_drop]
theorem AS(ρ:Ro)(a:List DV)(n:Nat):dvs ρ (a.take n)=(dvs ρ a).take n:=by simp[gF,List.map_take]
theorem gZ(ρ:Ro)(a:List DV):(dvs ρ a).length=a.length:=by simp[gF]
theorem JW(ρ:Ro)(cs:List DV)(off:Nat)(new:List DV):dvs ρ (spl cs off new)=spl (dvs ρ cs) off (dvs ρ new):=by
 simp[spl,vX,AS,AR,gZ]
theorem np(ρ:Ro)(a:List DP)(n:Nat):ar ρ (a.drop n)=(ar ρ a).drop n:=by simp[mN,List.map_drop]
theorem kH(ρ:Ro)(a:List DP)(n:Nat):ar ρ (a.take n)=(ar ρ a).take n:=by simp[mN,List.map_take]
theorem eV(ρ:Ro)(a:List DP):(ar ρ a).length=a.length:=by simp[mN]
theorem tR(ρ:Ro)(a b:List DP):ar ρ (a++b)=ar ρ a++ar ρ b:=by simp[mN]
theorem Ad{k:Nat}:∀{xs:List DV},k∈aD xs ↔ ∃x∈xs,k∈x.vars
 | []=>by simp[aD]
 |x::xs=>by simp[aD,Ad (xs:=xs)]
theorem Ae{k:Nat}:∀{xs:List DP},k∈bP xs ↔ ∃x∈xs,k∈x.vars
 | []=>by simp[bP]
 |x::xs=>by simp[bP,Ae (xs:=xs)]
theorem su{n:Nat}{xs:List DV}:Sc n (aD xs) ↔ ∀x∈xs,Sc n x.vars:=by
 unfold Sc;simp only[Ad]
 exact⟨fun h x hx k hk=>h k ⟨x,hx,hk⟩,fun h k ⟨x,hx,hk⟩=>h x hx k hk⟩
theorem pT{n:Nat}{xs:List DP}:Sc n (bP xs) ↔ ∀x∈xs,Sc n x.vars:=by
 unfold Sc;simp only[Ae]
 exact⟨fun h x hx k hk=>h k ⟨x,hx,hk⟩,fun h k ⟨x,hx,hk⟩=>h x hx k hk⟩
theorem N4{n:Nat}{cs new:List DV}{off:Nat}(h:Sc n (aD cs))(h':Sc n (aD new)):Sc n (aD (spl cs off new)):=by
 rw[su]at*
 intro x hx
 simp only[spl,List.mem_append]at hx
 rcases hx with hx|hx|hx
 ·exact h x (List.mem_of_mem_take hx)
 ·exact h' x hx
 ·exact h x (List.mem_of_mem_drop hx)
def F3(σ:DSt)(o:Oper)(x:Operand):DR:=some (σ.put o.dst (dev σ x),[])
theorem B0{P:Program}{I:Pr}{σ σ':DSt}{o:Oper}{x:Operand}{gs:List G}(ho:o.op= .move x∨o.op= .assign x)(h:F3 σ o x=some (σ',gs)):Good P I σ o σ' gs:=by
 simp only[F3,ZS,ZT]at h;obtain⟨rfl,rfl⟩:=h
 refine bS (fun hs=>hs.dev x) fun ρ hs ab _=>⟨⟨[],[]⟩,[],?_,trivial⟩
 rcases ho with ho|ho<;>simp[aop,ho,tr,xn,aK]
def Lb(σ:DSt)(o:Oper)(c x y:Operand):DR:=
 match dev σ c with
 | .p (.bl (.lit true)) _=>some (σ.put o.dst (dev σ x),[])
 | .p (.bl (.lit false)) _=>some (σ.put o.dst (dev σ y),[])
 |_=>none
theorem Ld{P:Program}{I:Pr}{σ σ':DSt}{o:Oper}{c x y:Operand}{gs:List G}(ho:o.op= .pick c x y)(h:Lb σ o c x y=some (σ',gs)):Good P I σ o σ' gs:=by
 unfold Lb at h
 split at h
 ·rename_i fr he
  simp only[ZS,ZT]at h;obtain⟨rfl,rfl⟩:=h
  refine bS (fun hs=>hs.dev x) fun ρ hs ab _=>⟨⟨[],[]⟩,[],?_,trivial⟩
  simp[aop,ho,tr,xo,aK,he,DV.v,DP.v,BF.v]
 ·rename_i fr he
  simp only[ZS,ZT]at h;obtain⟨rfl,rfl⟩:=h
  refine bS (fun hs=>hs.dev y) fun ρ hs ab _=>⟨⟨[],[]⟩,[],?_,trivial⟩
  simp[aop,ho,tr,xo,aK,he,DV.v,DP.v,BF.v]
 ·cases h
def mg(z:Value):Option (List DV):=
 match z.cells.toList.all (·.oneCell')with
 |true=>some (z.cells.toList.map fun v=> .p (AP v) true)
 |false=>none
theorem vY(ρ:Ro)(z:Value):pn z=(mg z).map (dvs ρ):=by
 unfold pn mg
 cases z.cells.toList.all (·.oneCell')with
 |true=>simp[gF,DV.v,Hb]
 |false=>rfl
theorem tq{n:Nat}{z:Value}{xs:List DV}(h:mg z=some xs):Sc n (aD xs):=by
 unfold mg at h
 split at h
 ·simp only[ZS]at h;subst h
  rw[su]
  intro x hx
  simp only[List.mem_map]at hx
  obtain⟨v,_,rfl⟩:=hx
  simp[DV.vars,EV,Sc.nil]
 ·cases h
def DSt.sx(σ:DSt)(d:Nat)(t:TypeId)(xs:List DV):DSt:={σ with ah:=(d,.ptr d 0)::σ.ah,tab:=(d,.box t xs)::σ.tab}
theorem EZ{σ:DSt}(hs:σ.sc){d:Nat}{t:TypeId}{xs:List DV}(hx:Sc σ.nx (aD xs)):(σ.sx d t xs).sc:=by
 refine⟨?_,?_,hs.tys,hs.lin,hs.prs⟩
 ·intro j v hl
  simp only[DSt.sx,lk]at hl
  cases hb:Nat.beq d j with
  |true=>simp only[hb,ZS]at hl;subst hl;simp[DV.vars,Sc.nil]
  |false=>simp only[hb]at hl;exact hs.ah j v hl
 ·intro j v hl
  simp only[DSt.sx,lk]at hl
  cases hb:Nat.beq d j with
  |true=>simp only[hb,ZS]at hl;subst hl;change Sc σ.nx _;simpa[DO.vars]using hx
  |false=>simp only[hb]at hl;exact hs.tab j v hl
theorem Hd(ρ:Ro)(σ:DSt)(d:Nat)(t:TypeId)(xs:List DV):(σ.sx d t xs).v ρ=⟨(d,.ptr d 0)::(σ.v ρ).ah,(d,.box t (dvs ρ xs))::(σ.v ρ).tab⟩:=by
 simp[DSt.sx,DSt.v,cV,aU,DV.v,DO.v]
theorem oL{ρ:Ro}{σ:DSt}{d:Nat}(h:lk σ.tab d=none):lk (σ.v ρ).tab d=none:=by
 simp[DSt.v,dD,h]
def He(P:Program)(σ:DSt)(o:Oper)(t:TypeId):DR:=
 match o.dst,P.info? t with
 |some d,some i=>match lk σ.tab d,i.zero with
  |none,some z=>match mg z with
   |some xs=>some (σ.sx d t xs,[])
   |none=>none
  |_,_=>none
 |_,_=>none
theorem Ja{P:Program}{I:Pr}{σ σ':DSt}{o:Oper}{t:TypeId}{gs:List G}(ho:o.op= .alloc t)(h:He P σ o t=some (σ',gs)):Good P I σ o σ' gs:=by
 unfold He at h
 split at h
 ·rename_i d i hd hi
  split at h
  ·rename_i z hl hz
   split at h
   ·rename_i xs hx
    simp only[ZS,ZT]at h;obtain⟨rfl,rfl⟩:=h
    intro hs
    refine⟨EZ hs (tq hx),Nat.le_refl _,fun ρ ab _=>⟨ρ,au.refl _ _,⟨ab.g,ab.tys,ab.lin,ab.prs⟩,⟨[],[]⟩,_,[],?_,trivial,cq.refl _⟩⟩
    rw[Hd]
    have h1:=oL (ρ:=ρ) hl
    simp[aop,ho,tr,yN,hd,hi,h1,hz,vY ρ,hx]
   ·cases h
  ·cases h
 ·cases h
def chT(P:Program)(t:TypeId):Bool:=
 match P.underlying t with
 |some (.struct fs)=>match fs.toList.getLast? with
  |some f=>match P.underlying f.type with|some (.pointer e)=>Nat.beq e t|_=>false
  |none=>false
 |_=>false
def Qo(σ:DSt)(o:Oper)(t:TypeId)(x:Operand):DR:=
 match o.dst,kG (dev σ x)with
 |some d,some xs=>match lk σ.tab d with
  |none=>some (σ.sx d t xs,[])
  |_=>none
 |_,_=>none
theorem N5{P:Program}{I:Pr}{σ σ':DSt}{o:Oper}{t:TypeId}{x:Operand}{gs:List G}(ho:o.op= .box t x)(h:Qo σ o t x=some (σ',gs)):Good P I σ o σ' gs:=by
 unfold Qo at h
 split at h
 ·rename_i d xs hd hx
  split at h
  ·rename_i hl
   simp only[ZS,ZT]at h;obtain⟨rfl,rfl⟩:=h
   intro hs
   refine⟨EZ hs (xR hx (hs.dev x)),Nat.le_refl _,fun ρ ab _=>⟨ρ,au.refl _ _,⟨ab.g,ab.tys,ab.lin,ab.prs⟩,⟨[],[]⟩,_,[],?_,trivial,cq.refl _⟩⟩
   rw[Hd]
   have h1:=oL (ρ:=ρ) hl
   simp[aop,ho,tr,FU,hd,aK,AQ,hx,h1]
  ·cases h
 ·cases h
def qO(place:Nat→Option (Nat×Nat))(cells:List DV):List (Nat×DV)→Option (List DV)
 | []=>some cells
 |(i,x)::rest=>match place i,kG x with
   |some (off,size),some xs=>match Nat.beq xs.length size,Nat.ble (off+xs.length) cells.length with
    |true,true=>qO place (spl cells off xs) rest
    |_,_=>none
   |_,_=>none
def pU(σ:DSt):List (Nat×Operand)→List (Nat×DV)
 | []=>[]
 |(i,x)::r=>(i,dev σ x)::pU σ r
def uC(ρ:Ro):List (Nat×DV)→List (Nat×SV)
 | []=>[]
 |(i,x)::r=>(i,x.v ρ)::uC ρ r
theorem AT(ρ:Ro)(σ:DSt):∀l:List (Nat×Operand),gQ (σ.v ρ) l=uC ρ (pU σ l)
 | []=>rfl
 |(i,x)::r=>by simp only[gQ,pU,uC,aK,AT ρ σ r]
theorem y7(ρ:Ro)(place:Nat→Option (Nat×Nat)):∀(l:List (Nat×DV)) (cells:List DV),lr place (dvs ρ cells) (uC ρ l)=(qO place cells l).map (dvs ρ)
 | [],cells=>rfl
 |(i,x)::r,cells=>by
   simp only[uC,lr,qO,AQ]
   cases place i with
   |none=>rfl
   |some pl=>
    obtain⟨off,size⟩:=pl
    cases kG x with
    |none=>rfl
    |some xs=>
     simp only[Option.map_some,gZ]
     cases Nat.beq xs.length size with
     |false=>rfl
     |true=>cases Nat.ble (off+xs.length) cells.length with
      |false=>rfl
      |true=>rw[←JW];exact y7 ρ place r _
theorem vZ{n:Nat}(place:Nat→Option (Nat×Nat)):∀(l:List (Nat×DV)) (cells out:List DV),Sc n (aD cells)→(∀p∈l,Sc n p.2.vars)→qO place cells l=some out→Sc n (aD out)
 | [],cells,out,hc,_,h=>by simp only[qO,ZS]at h;subst h;exact hc
 |(i,x)::r,cells,out,hc,hl,h=>by
   simp only[qO]at h
   split at h
   ·rename_i off size xs hp hx
    split at h
    ·exact vZ place r _ _ (N4 hc (xR hx (hl (i,x) (ZW ..)))) (fun p hp=>hl p (ZV _ hp)) h
    ·cases h
   ·cases h
theorem xS{σ:DSt}(hs:σ.sc):∀(l:List (Nat×Operand)),∀p∈pU σ l,Sc σ.nx p.2.vars
 | [],p,hp=>by simp[pU]at hp
 |(i,x)::r,p,hp=>by
   simp only[pU,List.mem_cons]at hp
   rcases hp with rfl|hp
   ·exact hs.dev x
   ·exact xS hs r p hp
def xT(P:Program)(t:TypeId)(parts:List (Nat×DV)):Option (List DV):=
 match P.info? t,P.underlying t with
 |some it,some (.array _ e)=>
  match it.zero,P.info? e with
  |some z,some ie=>match mg z with
   |some cs=>qO (fun i=>some (i*ie.size,ie.size)) cs parts
   |none=>none
  |_,_=>none
 |some it,some (.struct fields)=>
  match it.zero,fields.toList.mapM (fun f=>(P.info? f.type).map fun i=>(f.offset,i.size))with
  |some z,some places=>match mg z with
   |some cs=>qO (places.toArray[·]?) cs parts
   |none=>none
  |_,_=>none
 |_,_=>none
theorem Qp(P:Program)(ρ:Ro)(t:TypeId)(l:List (Nat×DV)):xp P t (uC ρ l)=(xT P t l).map (dvs ρ):=by
 unfold xp xT
 cases P.info? t with
 |none=>rfl
 |some it=>cases P.underlying t with
  |none=>rfl
  |some d=>cases d with
   |array m e=>
    simp only
    cases it.zero with
    |none=>rfl
    |some z=>cases P.info? e with
     |none=>rfl
     |some ie=>
      simp only[vY ρ]
      cases mg z with
      |none=>rfl
      |some cs=>simp only[Option.map_some];exact y7 ρ _ l cs
   |struct fs=>
    simp only
    cases it.zero with
    |none=>rfl
    |some z=>cases List.mapM (fun f:Field=>Option.map (fun i:TypeInfo=>(f.offset,i.size)) (P.info? f.type)) fs.toList with
     |none=>rfl
     |some places=>
      simp only[vY ρ]
      cases mg z with
      |none=>rfl
      |some cs=>simp only[Option.map_some];exact y7 ρ _ l cs
   |_=>rfl
theorem N6{P:Program}{n:Nat}{t:TypeId}{l:List (Nat×DV)}{out:List DV}(hl:∀p∈l,Sc n p.2.vars)(h:xT P t l=some out):Sc n (aD out):=by
 unfold xT at h
 split at h
 ·split at h
  ·split at h
   ·rename_i cs hz;exact vZ _ _ _ _ (tq hz) hl h
   ·cases h
  ·cases h
 ·split at h
  ·split at h
   ·rename_i cs hz;exact vZ _ _ _ _ (tq hz) hl h
   ·cases h
  ·cases h
 ·cases h
def Hf(P:Program)(σ:DSt)(o:Oper)(t:TypeId)(parts:Array (Nat×Operand)):DR:=
 match xT P t (pU σ parts.toList)with
 |some xs=>some (σ.put o.dst (.agg xs),[])
 |none=>none
theorem Jb{P:Program}{I:Pr}{σ σ':DSt}{o:Oper}{t:TypeId}{parts:Array (Nat×Operand)}{gs:List G}(ho:o.op= .build t parts)(h:Hf P σ o t parts=some (σ',gs)):Good P I σ o σ' gs:=by
 unfold Hf at h
 split at h
 ·rename_i xs hx
  simp only[ZS,ZT]at h;obtain⟨rfl,rfl⟩:=h
  refine bS (fun hs=>by simp only[DV.vars];exact N6 (xS hs _) hx) fun ρ hs ab _=>⟨⟨[],[]⟩,[],?_,trivial⟩
  simp[aop,ho,tr,yO,AT,Qp,hx,DV.v]
 ·cases h
def gG(P:Program)(t:TypeId)(off:Nat)(cells:List DV):Option DV:=
 match iq P t,P.info? t with
 |some true,some i=>match Nat.ble (off+i.size) cells.length with
  |true=>some (.agg ((cells.drop off).take i.size))
  |false=>none
 |some false,some i=>match Nat.beq i.size 1,(cells.drop off)with
  |true,x::_=>some x
  |_,_=>none
 |_,_=>none
theorem jL(P:Program)(ρ:Ro)(t:TypeId)(off:Nat)(cells:List DV):j0 P t off (dvs ρ cells)=(gG P t off cells).map (DV.v ρ):=by
 unfold j0 gG
 cases iq P t with
 |none=>rfl
 |some ag=>cases P.info? t with
  |none=>cases ag<;>rfl
  |some i=>cases ag with
   |true=>
    simp only[gZ]
    cases Nat.ble (off+i.size) cells.length<;>simp[DV.v,AS,AR]
   |false=>
    simp only[←AR]
    cases List.drop off cells with
    |nil=>simp only[dvs];cases Nat.beq i.size 1<;>rfl
    |cons x xs=>simp only[dvs];cases Nat.beq i.size 1<;>rfl
theorem j5{P:Program}{n:Nat}{t:TypeId}{off:Nat}{cells:List DV}{x:DV}(hc:Sc n (aD cells))(h:gG P t off cells=some x):Sc n x.vars:=by
 rw[su]at hc
 unfold gG at h
 split at h
 ·split at h
  ·simp only[ZS]at h;subst h
   simp only[DV.vars];rw[su]
   exact fun y hy=>hc y (List.mem_of_mem_drop (List.mem_of_mem_take hy))
  ·cases h
 ·split at h
  ·rename_i hx
   simp only[ZS]at h;subst h
   exact hc _ (List.mem_of_mem_drop (by rw[hx];exact ZW ..))
  ·cases h
 ·cases h
def tS(fr:Bool):DP→DV
 | .sl l=> .p (.sl l) fr
 | .ls l=> .p (.ls l) fr
 | .un=> .p .un true
 | .mp a l=> .p (.mp a l) fr
 |x=> .p x true
def jM(fr:Bool):List DP→List DV
 | []=>[]
 |x::xs=>tS fr x::jM fr xs
theorem Hg(ρ:Ro)(fr:Bool)(x:DP):mkp fr (x.v ρ)=(tS fr x).v ρ:=by
 cases x<;>simp[DP.v,mkp,tS,DV.v]
theorem uD(ρ:Ro)(fr:Bool):∀xs:List DP,(ar ρ xs).map (mkp fr)=dvs ρ (jM fr xs)
 | []=>by simp[ar,jM,dvs]
 |x::xs=>by simp[ar,jM,dvs,Hg,uD ρ fr xs]
theorem sy{n:Nat}{fr:Bool}:∀{xs:List DP},Sc n (bP xs)→Sc n (aD (jM fr xs))
 | [],_=>Sc.nil
 |x::xs,h=>by
  simp only[bP,Sc.app]at h
  simp only[jM,aD,Sc.app]
  exact⟨by cases x<;>simpa[tS,DV.vars]using h.1,sy h.2⟩
def Hh(P:Program)(σ:DSt)(o:Oper)(t:TypeId)(x:Operand)(f:Nat):DR:=
 match dev σ x,xz P t f with
 | .agg xs,some (off,ft)=>match gG P ft off xs with
  |some v=>some (σ.put o.dst v,[])
  |none=>none
 |_,_=>none
theorem Jc{P:Program}{I:Pr}{σ σ':DSt}{o:Oper}{t:TypeId}{x:Operand}{f:Nat}{gs:List G}(ho:o.op= .field t x f)(h:Hh P σ o t x f=some (σ',gs)):Good P I σ o σ' gs:=by
 unfold Hh at h
 split at h
 ·rename_i xs off ft he hf
  split at h
  ·rename_i v hv
   simp only[ZS,ZT]at h;obtain⟨rfl,rfl⟩:=h
   refine bS (fun hs=>j5 (by have:=hs.dev x;rw[he]at this;simpa[DV.vars]using this) hv) fun ρ hs ab _=>⟨⟨[],[]⟩,[],?_,trivial⟩
   simp[aop,ho,tr,yQ,aK,he,DV.v,hf,rp,jL,hv]
  ·cases h
 ·cases h
def AU(σ:DSt)(o:Oper)(x:Operand)(n:Nat):DR:=
 match dev σ x with
 | .bL xs=>match xs[n]? with
  |some v=>some (σ.put o.dst v,[])
  |none=>none
 |_=>none
theorem FK{P:Program}{I:Pr}{σ σ':DSt}{o:Oper}{x:Operand}{n:Nat}{gs:List G}(ho:o.op= .extract x n)(h:AU σ o x n=some (σ',gs)):Good P I σ o σ' gs:=by
 unfold AU at h
 split at h
 ·rename_i xs he
  split at h
  ·rename_i v hv
   simp only[ZS,ZT]at h;obtain⟨rfl,rfl⟩:=h
   refine bS (fun hs=>?_) fun ρ hs ab _=>⟨⟨[],[]⟩,[],?_,trivial⟩
   ·have:=hs.dev x;rw[he]at this;simp only[DV.vars]at this
    exact(su.1 this) v (Z2 hv)
   ·simp[aop,ho,tr,tc,aK,he,DV.v,gF,hv]
  ·cases h
 ·cases h
def Hi(P:Program)(σ:DSt)(o:Oper)(t:TypeId)(x:Operand):DR:=
 match P.underlying t with
 |some (.interface _)=>none
 |some _=>some (σ.put o.dst (.cL t (dev σ x)),[])
 |none=>none
theorem Jd{P:Program}{I:Pr}{σ σ':DSt}{o:Oper}{t:TypeId}{x:Operand}{gs:List G}(ho:o.op= .makeInterface t x)(h:Hi P σ o t x=some (σ',gs)):Good P I σ o σ' gs:=by
 unfold Hi at h
 split at h
 ·cases h
 ·rename_i d hn hu
  simp only[ZS,ZT]at h;obtain⟨rfl,rfl⟩:=h
  refine bS (fun hs=>by simpa[DV.vars]using hs.dev x) fun ρ hs ab _=>⟨⟨[],[]⟩,[],?_,trivial⟩
  cases d<;>simp_all [aop,tr,yR,aK,DV.v]
 ·cases h
def Lf(σ:DSt)(o:Oper)(f:Fn)(first aQ:Array Operand):DR:=
 some (σ.put o.dst (.fn f (mO σ first.toList) (mO σ aQ.toList)),[])
theorem Lg{P:Program}{I:Pr}{σ σ':DSt}{o:Oper}{f:Fn}{first aQ:Array Operand}{gs:List G}(ho:o.op= .makeFunc f first aQ)(h:Lf σ o f first aQ=some (σ',gs)):Good P I σ o σ' gs:=by
 simp only[Lf,ZS,ZT]at h;obtain⟨rfl,rfl⟩:=h
 refine bS (fun hs=>by simp only[DV.vars,Sc.app];exact⟨hs.mO _,hs.mO _⟩) fun ρ hs ab _=>⟨⟨[],[]⟩,[],?_,trivial⟩
 simp[aop,ho,tr,Bv,BX,DV.v]
def mh(n m:Nat):DV→Option DV
 | .ptr k off=>some (.ptr k (off+n))
 | .pd row 0 fr=>some (.pd ((row.drop n).take m) 0 fr)
 | .bn k sz i off=>some (.bn k sz i (off+n))
 |_=>none
theorem Qq(ρ:Ro)(n m:Nat)(x:DV):shift n m (x.v ρ)=(mh n m x).map (DV.v ρ):=by
 cases x with
 |pd row off fr=>cases off<;>simp[DV.v,shift,mh,kH,np]
 |_=>simp[DV.v,shift,mh]
theorem N7{k n m:Nat}{x y:DV}(h:mh n m x=some y)(hx:Sc k x.vars):Sc k y.vars:=by
 cases x with
 |pd row off fr=>
  cases off with
  |zero=>
   simp only[mh,ZS]at h;subst h
   simp only[DV.vars,pT]at hx ⊢
   exact fun y hy=>hx y (List.mem_of_mem_drop (List.mem_of_mem_take hy))
  |succ _=>simp[mh]at h
 |ptr _ _=>simp only[mh,ZS]at h;subst h;exact hx
 |bn _ _ _ _=>simp only[mh,ZS]at h;subst h;exact hx
 |_=>simp[mh]at h
def wc(P:Program)(σ:DSt)(o:Oper)(s:TypeId)(x:Operand)(f:Nat):DR:=
 match cG P s f with
 |some (n,m)=>match mh n m (dev σ x)with
  |some v=>some (σ.put o.dst v,[])
  |none=>none
 |none=>none
theorem B1{P:Program}{I:Pr}{σ σ':DSt}{o:Oper}{s:TypeId}{x:Operand}{f:Nat}{gs:List G}(ho:o.op= .fieldAddr s x f)(h:wc P σ o s x f=some (σ',gs)):Good P I σ o σ' gs:=by
 unfold wc at h
 split at h
 ·rename_i n m hf
  split at h
  ·rename_i v hv
   simp only[ZS,ZT]at h;obtain⟨rfl,rfl⟩:=h
   refine bS (fun hs=>N7 hv (hs.dev x)) fun ρ hs ab _=>⟨⟨[],[]⟩,[],?_,trivial⟩
   simp[aop,ho,tr,aK,pw,hf,Qq,hv]
  ·cases h
 ·cases h
def xU(σ:DSt)(o:Oper)(x:Operand):DR:=
 match dev σ x with
 | .ptr k off=>some (σ.put o.dst (.ptr k off),[])
 | .pd row off fr=>some (σ.put o.dst (.pd row off fr),[])
 | .bn k sz i off=>some (σ.put o.dst (.bn k sz i off),[])
 | .cL t y=>some (σ.put o.dst (.cL t y),[])
 | .fn (.func f) first aQ=>some (σ.put o.dst (.fn (.func f) first aQ),[])
 |_=>none
theorem DJ{P:Program}{I:Pr}{σ σ':DSt}{o:Oper}{x:Operand}{gs:List G}(ho:o.op= .nilCheck x)(h:xU σ o x=some (σ',gs)):Good P I σ o σ' gs:=by
 unfold xU at h
 split at h<;>first
  |(rename_i he
    simp only[ZS,ZT]at h;obtain⟨rfl,rfl⟩:=h
    refine bS (fun hs=>by have:=hs.dev x;rw[he]at this;exact this) fun ρ hs ab _=>⟨⟨[],[]⟩,[],?_,trivial⟩
    simp[aop,ho,tr,qy,aK,he,DV.v])
  |cases h
end Go.TL
namespace Go.TL
theorem mi{σ:DSt}(hs:σ.sc){l:Nat}{e:TypeId}(h:lk σ.tys l=some e):l<σ.nx:=by
 have:∀{t:List (Nat×TypeId)},lk t l=some e→(l,e)∈t:=by
  intro t
  induction t with
  |nil=>intro h;simp[lk]at h
  |cons x r ih=>
   obtain⟨j,y⟩:=x
   intro h
   simp only[lk]at h
   cases hb:Nat.beq j l with
   |true=>simp only[hb,ZS]at h;subst h;rw[ZU hb];exact ZW ..
   |false=>simp only[hb]at h;exact ZV _ (ih h)
 exact hs.tys l e (this h)
def kI(l:Nat)(R:mR):List Lin:=(R.rz.ax (-1) (Lin.at (4*l+2))).aN 1::match Nat.ble 4 R.cells.length with
 |true=>((R.rz.ax 2 (Lin.at (4*l+1))).ax (-1) (Lin.at (4*l+2))).aN (-1)::R.lin
 |false=>R.lin
theorem VB(x:PV):1≤pz x:=by
 cases x with
 |v v=>cases v<;>simp only[pz]<;>omega
 |_=>simp only[pz];omega
theorem Hj:∀(rows:List (List PV)),(∀r∈rows,1≤rz r)→2*rows.length≤rsz rows
 | [],_=>by simp
 |r::rs,h=>by
  have:=Hj rs fun x hx=>h x (ZV _ hx)
  have:=h r (ZW ..)
  rw[eY,List.length_cons];omega
theorem E3:∀(rows:List (List PV)) (x:List PV),x∈rows→(∀r∈rows,1≤rz r)→rz x+2*rows.length≤rsz rows+1
 |r::rs,x,hx,h=>by
  have h1:=h r (ZW ..)
  have h2:=Hj rs fun y hy=>h y (ZV _ hy)
  rw[eY,List.length_cons]
  rcases Z1 hx with rfl|hx
  ·omega
  ·have:=E3 rs x hx fun y hy=>h y (ZV _ hy)
   omega
def inR(i:Lin)(l:Nat):List G:=[.le (Lin.scale (-1) i),.le ((i.ax (-1) (Lin.at (4*l+1))).aN 1)]
theorem B2{I:Pr}{ρ:Ro}{i:Lin}{l:Nat}(h:gsV I ρ (inR i l)):0≤i.v ρ∧i.v ρ<((ρ l).l.length:Int):=by
 simp only[inR,gsV,G.v,Lin.bE,Lin.aO,Lin.bQ,Lin.bN,dI]at h
 omega
structure VC(P:Program)(I:Pr)(σ:DSt)(l:Nat)(i:Lin)(R:mR)(ρ ρ':Ro):Prop where
 ag:au σ.nx ρ ρ'
 g:Gok ρ'
 tys:dA P ρ' R.tys
 lin:bh ρ' (kI l R)
 row:(ρ l).l[(i.v ρ).toNat]? =some (ar ρ' R.cells)
 pf:c5 I ρ' [.row l i R.cells]
theorem DK{P:Program}{I:Pr}{σ:DSt}{l:Nat}{i:Lin}{e:TypeId}{R:mR}{ρ:Ro}(hs:σ.sc)(ab:σ.ok P I ρ)(hl:lk σ.tys l=some e)(hi:Sc σ.nx i.vars)
  (hR:iv (cks P e) σ.nx=some R)(h0:0≤i.v ρ)(h1:i.v ρ<((ρ l).l.length:Int)):∃ρ',VC P I σ l i R ρ ρ':=by
 have av:(i.v ρ).toNat<(ρ l).l.length:=by omega
 have aJ:=eE ab.tys hl
 have gx:(ρ l).l[(i.v ρ).toNat]∈(ρ l).l:=List.getElem_mem av
 obtain⟨ρ',hr⟩:=rD (P:=P) (cks P e) σ.nx R _ ρ hR (aJ.2 _ gx) ab.g
 have dC:(ρ l).l[(i.v ρ).toNat]? =some (ar ρ' R.cells):=by rw[hr.cells];simp[av]
 have fg:ρ' l=ρ l:=hr.ag l (mi hs hl)
 have hlin:bh ρ' (kI l R):=by
  refine⟨?_,?_⟩
  ·have h2:=GI gx
   rw[Lin.aO,Lin.bQ,Lin.bN,fa,fg,hr.rz];omega
  ·split
   ·rename_i h4
    refine⟨?_,hr.lin⟩
    have h4:=ZX h4
    have hlen:R.cells.length=(cks P e).length:=by
     have h5:=congrArg List.length hr.cells
     rw[eV]at h5
     rw[h5];exact((ay _ _).1 (aJ.2 _ gx)).1
    have qv:∀r∈(ρ l).l,1≤rz r:=fun r gb=>by
     have h6:=((ay _ _).1 (aJ.2 _ gb)).1
     cases r with
     |nil=>simp at h6;omega
     |cons y ys=>rw[eA];have:1≤pz y:=VB y;omega
    have h7:=E3 _ _ gx qv
    rw[Lin.aO,Lin.bQ,Lin.bQ,Lin.bN,Lin.bN,dI,fa,fg,hr.rz];omega
   ·exact hr.lin
 refine⟨ρ',hr.ag,hr.g,hr.tys,hlin,dC,⟨?_,?_⟩,trivial⟩
 ·rw[Lin.ag hr.ag hi];exact h0
 ·rw[Lin.ag hr.ag hi,fg];exact dC
theorem DL{σ:DSt}{R:mR}(h:F2 σ.nx R):σ.nx+(R.nx - σ.nx)=R.nx:=by have:=h.le;omega
theorem xV{σ:DSt}{l:Nat}{R:mR}(hs:F2 σ.nx R)(hl:l<σ.nx):∀e∈kI l R,Sc R.nx e.vars:=by
 intro e he
 simp only[kI,List.mem_cons]at he
 have h1:=hs.le
 have h2:Sc R.nx (Lin.at (4*l+2)).vars:=Lin.bC (by omega)
 have h3:Sc R.nx (Lin.at (4*l+1)).vars:=Lin.bC (by omega)
 rcases he with rfl|he
 ·exact Lin.bI (Lin.aE hs.rz h2)
 ·split at he
  ·rcases Z1 he with rfl|he
   ·exact Lin.bI (Lin.aE (Lin.aE hs.rz h3) h2)
   ·exact hs.lin e he
  ·exact hs.lin e he
theorem B3{σ:DSt}{l:Nat}{i:Lin}{R:mR}(hs:F2 σ.nx R)(hl:l<σ.nx)(hi:Sc σ.nx i.vars):jT (σ.nx+(R.nx - σ.nx)) R.tys (kI l R) [.row l i R.cells]:=by
 rw[DL hs]
 have hle:=hs.le
 refine⟨hs.tys,xV hs hl,?_⟩
 intro f hf
 simp only[List.mem_singleton]at hf;subst hf
 simp only[PF.vars,Sc.cons,Sc.app]
 exact⟨Nat.lt_of_lt_of_le hl hle,hi.mono hle,hs.cells⟩
def setRow(l:Nat)(i:Lin):List PF→Option (List DP)
 | []=>none
 | .set l' _ i' cells::r=>match Nat.beq l l',i.beq i' with
  |true,true=>some cells
  |_,_=>setRow l i r
 |_::r=>setRow l i r
theorem AV{I:Pr}{ρ:Ro}{l:Nat}{i:Lin}{cells:List DP}:∀{fs:List PF},c5 I ρ fs→setRow l i fs=some cells→∃rows:List (List PV),(ρ l).l=rows.set (i.v ρ).toNat (ar ρ cells)
 | [],_,h=>by simp[setRow]at h
 |f::r,hp,h=>by
  cases f with
  |set l' a i' c=>
   simp only[setRow]at h
   split at h
   ·rename_i h1 h2
    simp only[ZS]at h;subst h
    rw[ZU h1,Lin.beq_eq h2]
    exact⟨_,hp.1⟩
   ·exact AV hp.2 h
  |_=>simp only[setRow]at h;exact AV hp.2 h
theorem xW{n l:Nat}{i:Lin}{cells:List DP}:∀{fs:List PF},(∀f∈fs,Sc n f.vars)→setRow l i fs=some cells→Sc n (bP cells)
 | [],_,h=>by simp[setRow]at h
 |f::r,hp,h=>by
  have hr:∀f∈r,Sc n f.vars:=fun f hf=>hp f (ZV _ hf)
  cases f with
  |set l' a i' c=>
   simp only[setRow]at h
   split at h
   ·simp only[ZS]at h;subst h
    have:=hp _ (ZW ..)
    simp only[PF.vars,Sc.cons,Sc.app]at this
    exact this.2.2.2
   ·exact xW hr h
  |_=>simp only[setRow]at h;exact xW hr h
def Lh(P:Program)(σ:DSt)(o:Oper)(t:TypeId)(x:Operand):DR:=
 match dev σ x with
 | .ptr k off=>match lk σ.tab k with
  |some (.box _ cells)=>match gG P t off cells with
   |some v=>some (σ.put o.dst v,[])
   |none=>none
  |_=>none
 | .pd row off fr=>match gG P t off (jM fr row)with
  |some v=>some (σ.put o.dst v,[])
  |none=>none
 | .bn k sz i off=>match lk σ.tab k,o.dst with
  |some (.vec _ gm (some l) fr),some _=>match lk σ.tys l,Nat.beq sz gm with
   |some e,true=>match setRow l i σ.prs with
    |some cells=>match gG P t off (jM fr cells)with
     |some v=>some (σ.put o.dst v,inR i l)
     |none=>none
    |none=>match iv (cks P e) σ.nx with
     |some R=>match gG P t off (jM fr R.cells)with
      |some v=>some ((σ.grow (R.nx - σ.nx) R.tys (kI l R) [.row l i R.cells]).put o.dst v,inR i l)
      |none=>none
     |none=>none
   |_,_=>none
  |_,_=>none
 |_=>none
theorem we{P:Program}{H:Hint}{s:St}{o:Oper}{t:TypeId}{x:Operand}(ho:o.op= .load t x):
  aop P H s o=match ev s x with| .bn _ _ _ _=>nt (ji P H s o t x)|_=>tr (ji P H s o t x):=by
 unfold aop
 simp only[ho]
 cases ev s x<;>rfl
theorem dJ{ρ:Ro}{σ:DSt}{k:Nat}{x:DO}(h:lk σ.tab k=some x):lk (σ.v ρ).tab k=some (x.v ρ):=by
 simp[DSt.v,dD,h]
theorem Li{P:Program}{I:Pr}{σ σ':DSt}{o:Oper}{t:TypeId}{x:Operand}{gs:List G}(ho:o.op= .load t x)(h:Lh P σ o t x=some (σ',gs)):Good P I σ o σ' gs:=by
 unfold Lh at h
 split at h
 ·rename_i k off he
  split at h
  ·rename_i bt cells hk
   split at h
   ·rename_i v hv
    simp only[ZS,ZT]at h;obtain⟨rfl,rfl⟩:=h
    refine bS (fun hs=>j5 (by have:=hs.tab k _ hk;simpa[DO.vars]using this) hv) fun ρ hs ab _=>⟨⟨[],[]⟩,[],?_,trivial⟩
    have e1:ev (σ.v ρ) x= .ptr k off:=by rw[aK,he];simp[DV.v]
    rw[we ho,e1]
    simp[ji,e1,dJ hk,DO.v,jL,hv,tr]
   ·cases h
  ·cases h
 ·rename_i row off fr he
  split at h
  ·rename_i v hv
   simp only[ZS,ZT]at h;obtain⟨rfl,rfl⟩:=h
   refine bS (fun hs=>j5 (sy (by have:=hs.dev x;rw[he]at this;simpa[DV.vars]using this)) hv) fun ρ hs ab _=>⟨⟨[],[]⟩,[],?_,trivial⟩
   have e1:ev (σ.v ρ) x= .pd (ar ρ row) off fr:=by rw[aK,he];simp[DV.v]
   rw[we ho,e1]
   simp[ji,e1,uD,jL,hv,tr]
  ·cases h
 ·rename_i k sz i off he
  split at h
  ·rename_i e' gm l fr d hk hd
   split at h
   ·rename_i e hl bf
    have e1:∀ρ,ev (σ.v ρ) x= .bn k sz (i.v ρ).toNat off:=fun ρ=>by rw[aK,he];simp[DV.v]
    split at h
    ·rename_i cells hset
     split at h
     ·rename_i v hv
      simp only[ZS,ZT]at h;obtain⟨rfl,rfl⟩:=h
      refine bS (fun hs=>j5 (sy (xW hs.prs hset)) hv) fun ρ hs ab hg=>?_
      obtain⟨g0,g1⟩:=B2 hg
      obtain⟨rows,eb⟩:=AV ab.prs hset
      have a6:(ρ l).l[(i.v ρ).toNat]? =some (ar ρ cells):=by
       rw[eb]at g1 ⊢
       rw[List.length_set]at g1
       rw[List.getElem?_set];simp;omega
      refine⟨⟨[(d,ar ρ cells)],[]⟩,[(ρ l).l[(i.v ρ).toNat]? =some (ar ρ cells)],?_,⟨a6,trivial⟩⟩
      rw[we ho,e1]
      simp[ji,e1,dJ hk,DO.v,lvV,hd,lk,uD,jL,hv,bf,nt]
     ·cases h
    ·split at h
     ·rename_i R hR
      split at h
      ·rename_i v hv
       simp only[ZS,ZT]at h;obtain⟨rfl,rfl⟩:=h
       have ed:=oK _ _ _ hR
       have hisc:σ.sc→Sc σ.nx i.vars:=fun hs=>by have:=hs.dev x;rw[he]at this;simpa[DV.vars]using this
       refine oJ (fun hs=>by rw[DL ed];exact j5 (sy ed.cells) hv) (fun hs=>B3 ed (mi hs hl) (hisc hs)) ?_
       intro ρ hs ab hg
       obtain⟨g0,g1⟩:=B2 hg
       obtain⟨ρ',hn⟩:=DK hs ab hl (hisc hs) hR g0 g1
       refine⟨ρ',hn.ag,hn.g,hn.tys,hn.lin,hn.pf,⟨[(d,ar ρ' R.cells)],[]⟩,[(ρ l).l[(i.v ρ).toNat]? =some (ar ρ' R.cells)],?_,⟨hn.row,trivial⟩⟩
       have e1:ev (σ.v ρ) x= .bn k sz (i.v ρ).toNat off:=by rw[aK,he];simp[DV.v]
       rw[we ho,e1]
       simp[ji,e1,dJ hk,DO.v,lvV,hd,lk,uD,jL,hv,bf,nt]
      ·cases h
     ·cases h
   ·cases h
  ·cases h
 ·cases h
def pV(i:Lin):G:= .le (Lin.scale (-1) i)
def kJ(l:Nat)(i:Lin):List PF→Option (List DP)
 | []=>none
 | .row l' i' cells::r=>match Nat.beq l l',i.beq i' with
  |true,true=>some cells
  |_,_=>kJ l i r
 |_::r=>kJ l i r
theorem AW{I:Pr}{ρ:Ro}{l:Nat}{i:Lin}{cells:List DP}:∀{fs:List PF},c5 I ρ fs→kJ l i fs=some cells→0≤i.v ρ∧(ρ l).l[(i.v ρ).toNat]? =some (ar ρ cells)
 | [],_,h=>by simp[kJ]at h
 |f::r,hp,h=>by
  cases f with
  |row l' i' c=>
   simp only[kJ]at h
   split at h
   ·rename_i h1 h2
    simp only[ZS]at h;subst h
    rw[ZU h1,Lin.beq_eq h2]
    exact hp.1
   ·exact AW hp.2 h
  |_=>simp only[kJ]at h;exact AW hp.2 h
theorem xX{n l:Nat}{i:Lin}{cells:List DP}:∀{fs:List PF},(∀f∈fs,Sc n f.vars)→kJ l i fs=some cells→Sc n (bP cells)
 | [],_,h=>by simp[kJ]at h
 |f::r,hp,h=>by
  have hr:∀f∈r,Sc n f.vars:=fun f hf=>hp f (ZV _ hf)
  cases f with
  |row l' i' c=>
   simp only[kJ]at h
   split at h
   ·simp only[ZS]at h;subst h
    have:=hp _ (ZW ..)
    simp only[PF.vars,Sc.cons,Sc.app]at this
    exact this.2.2
   ·exact xX hr h
  |_=>simp only[kJ]at h;exact xX hr h
def jn:DV→Option (IntKind×Lin)
 | .p (.int k e) _=>some (k,e)
 |_=>none
theorem gk{ρ:Ro}{x:DV}{k:IntKind}{e:Lin}(h:jn x=some (k,e)):isInt (x.v ρ)=some (k,e.v ρ)∧intOf (x.v ρ)=some (e.v ρ):=by
 unfold jn at h
 split at h
 ·simp only[ZS,ZT]at h;obtain⟨rfl,rfl⟩:=h
  simp[DV.v,DP.v,isInt,intOf]
 ·cases h
theorem fY{n:Nat}{x:DV}{k:IntKind}{e:Lin}(h:jn x=some (k,e))(hx:Sc n x.vars):Sc n e.vars:=by
 unfold jn at h
 split at h
 ·simp only[ZS,ZT]at h;obtain⟨rfl,rfl⟩:=h
  simpa[DV.vars,DP.vars]using hx
 ·cases h
def wh(P:Program)(σ:DSt)(o:Oper)(t:TypeId)(x ix:Operand):DR:=
 match jn (dev σ ix),o.dst with
 |some (_,n),some _=>match dev σ x,P.underlying t with
  | .p (.sl (some l)) fr,some (.slice e)=>match lk σ.tys l,P.info? e with
   |some e',some i=>match Nat.beq e e' with
    |true=>match kJ l n σ.prs with
     |some cells=>match Nat.beq cells.length i.size with
      |true=>some (σ.put o.dst (.pd cells 0 fr),[])
      |false=>none
     |none=>match iv (cks P e) σ.nx with
      |some R=>match Nat.beq R.cells.length i.size with
       |true=>some ((σ.grow (R.nx - σ.nx) R.tys (kI l R) [.row l n R.cells]).put o.dst (.pd R.cells 0 fr),inR n l)
       |false=>none
      |none=>none
    |false=>none
   |_,_=>none
  | .vec k,some (.slice e)=>match lk σ.tab k,P.info? e with
   |some (.vec _ sz (some l) _),some i=>match Nat.beq sz i.size with
    |true=>some (σ.put o.dst (.bn k sz n 0),inR n l)
    |false=>none
   |_,_=>none
  | .ptr k off,some (.array len e)=>match P.info? e,n.t,n.c with
   |some i,[],.ofNat m=>match Nat.ble (m+1) len with
    |true=>some (σ.put o.dst (.ptr k (off+m*i.size)),[])
    |false=>none
   |_,_,_=>none
  |_,_=>none
 |_,_=>none
theorem tu{P:Program}{H:Hint}{s:St}{o:Oper}{t:TypeId}{x ix:Operand}(ho:o.op= .indexAddr t x ix):
  aop P H s o=match ev s x with| .ptr _ _=>tr (dP P H s o t x ix)|_=>nt (dP P H s o t x ix):=by
 unfold aop
 simp only[ho]
 cases ev s x<;>rfl
theorem B4{P:Program}{I:Pr}{σ σ':DSt}{o:Oper}{t:TypeId}{x ix:Operand}{gs:List G}(ho:o.op= .indexAddr t x ix)(h:wh P σ o t x ix=some (σ',gs)):Good P I σ o σ' gs:=by
 unfold wh at h
 split at h
 ·rename_i kk n d hn hd
  have hnsc:σ.sc→Sc σ.nx n.vars:=fun hs=>fY hn (hs.dev ix)
  have hiv:∀ρ,intOf (ev (σ.v ρ) ix)=some (n.v ρ):=fun ρ=>by rw[aK];exact(gk hn).2
  split at h
  ·rename_i l fr e he hu
   have e1:∀ρ,ev (σ.v ρ) x= .p (.sl (ρ l).l) fr:=fun ρ=>by rw[aK,he];simp[DV.v,DP.v,lvV]
   split at h
   ·rename_i e' i hl hi
    split at h
    ·rename_i hee
     have:=ZU hee;subst this
     split at h
     ·rename_i cells hold
      split at h
      ·rename_i hlen
       simp only[ZS,ZT]at h;obtain⟨rfl,rfl⟩:=h
       refine bS (fun hs=>by simpa[DV.vars]using xX hs.prs hold) fun ρ hs ab _=>?_
       obtain⟨h0,h1⟩:=AW ab.prs hold
       refine⟨⟨[(d,ar ρ cells)],[]⟩,[0≤n.v ρ∧(ρ l).l[(n.v ρ).toNat]? =some (ar ρ cells)],?_,⟨⟨h0,h1⟩,trivial⟩⟩
       rw[tu ho,e1]
       simp[dP,hiv,hd,e1,hu,lk,hi,eV,hlen,nt,DV.v]
      ·cases h
     ·split at h
      ·rename_i R hR
       split at h
       ·rename_i hlen
        simp only[ZS,ZT]at h;obtain⟨rfl,rfl⟩:=h
        have ed:=oK _ _ _ hR
        refine oJ (fun hs=>by rw[DL ed];simpa[DV.vars]using ed.cells) (fun hs=>B3 ed (mi hs hl) (hnsc hs)) ?_
        intro ρ hs ab hg
        obtain⟨g0,g1⟩:=B2 hg
        obtain⟨ρ',hw⟩:=DK hs ab hl (hnsc hs) hR g0 g1
        refine⟨ρ',hw.ag,hw.g,hw.tys,hw.lin,hw.pf,⟨[(d,ar ρ' R.cells)],[]⟩,[0≤n.v ρ∧(ρ l).l[(n.v ρ).toNat]? =some (ar ρ' R.cells)],?_,⟨⟨g0,hw.row⟩,trivial⟩⟩
        rw[tu ho,e1]
        simp[dP,hiv,hd,e1,hu,lk,hi,eV,hlen,nt,DV.v]
       ·cases h
      ·cases h
    ·cases h
   ·cases h
  ·rename_i k e he hu
   have e1:∀ρ,ev (σ.v ρ) x= .vec k:=fun ρ=>by rw[aK,he];simp[DV.v]
   split at h
   ·rename_i et sz l fr i hk hi
    split at h
    ·rename_i bf
     simp only[ZS,ZT]at h;obtain⟨rfl,rfl⟩:=h
     refine bS (fun hs=>by simpa[DV.vars]using hnsc hs) fun ρ hs ab hg=>?_
     obtain⟨g0,g1⟩:=B2 hg
     refine⟨⟨[],[]⟩,[0≤n.v ρ∧n.v ρ<((ρ l).l.length:Int)],?_,⟨⟨g0,g1⟩,trivial⟩⟩
     rw[tu ho,e1]
     simp[dP,hiv,hd,e1,hu,dJ hk,DO.v,lvV,hi,bf,nt,DV.v]
    ·cases h
   ·cases h
  ·rename_i k off len e he hu
   have e1:∀ρ,ev (σ.v ρ) x= .ptr k off:=fun ρ=>by rw[aK,he];simp[DV.v]
   split at h
   ·rename_i i m hi ht hc
    split at h
    ·rename_i hm
     simp only[ZS,ZT]at h;obtain⟨rfl,rfl⟩:=h
     refine bS (fun hs=>by simp[DV.vars,Sc.nil]) fun ρ hs ab hg=>⟨⟨[],[]⟩,[],?_,trivial⟩
     have hv:n.v ρ=Int.ofNat m:=by unfold Lin.v;rw[ht,hc];simp[bZ]
     rw[tu ho,e1]
     simp[dP,hiv,hv,hd,e1,hu,hi,uc,hm,tr,DV.v]
    ·cases h
   ·cases h
  ·cases h
 ·cases h
end Go.TL
