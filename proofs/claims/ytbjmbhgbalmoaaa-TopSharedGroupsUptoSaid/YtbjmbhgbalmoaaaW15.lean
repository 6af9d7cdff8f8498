/- Rows of new variables; rows that are of a type. -/
import Derived.Test.YtbjmbhgbalmoaaaW14
namespace Go.TL
structure j7 where
 cells:List DP
 nx:Nat
 tys:List (Nat×TypeId)
 lin:List Lin
 rz:Lin
def Bq:IntKind→Bool
 | .i64=>true
 |_=>false
def tM:IntKind→Bool
 | .u64=>true
 |_=>false
def jJ:List CK→Nat→Option j7
 | [],n=>some ⟨[],n,[],[],Lin.lit 0⟩
 |ck::r,n=>match jJ r (n+1)with
  |none=>none
  |some R=>match ck with
   | .int k=>match tM k with
    |true=>none
    |false=>some ⟨.int k (Lin.at (4*n))::R.cells,R.nx,R.tys,(match Bq k with|true=>R.lin|false=>(Lin.at (4*n)).cR (-k.max)::(Lin.scale (-1) (Lin.at (4*n))).cR k.min::R.lin),R.rz.cR 1⟩
   | .bool=>some ⟨.bl (.var n)::R.cells,R.nx,R.tys,R.lin,R.rz.cR 1⟩
   | .str=>some ⟨.st (.var n)::R.cells,R.nx,R.tys,R.lin,(R.rz.ax 1 (Lin.at (4*n+3))).cR 1⟩
   | .iz=>some ⟨.st (.var n)::R.cells,R.nx,R.tys,(Lin.at (4*n+3)).cR (-64)::R.lin,(R.rz.ax 1 (Lin.at (4*n+3))).cR 1⟩
   | .sl e=>some ⟨.sl (some n)::R.cells,R.nx,(n,e)::R.tys,R.lin,(R.rz.ax 1 (Lin.at (4*n+2))).cR 1⟩
   | .any=>some ⟨.un::R.cells,R.nx,R.tys,R.lin,R.rz.cR 1⟩
   | .other=>none
theorem yE{k:IntKind}:(-9223372036854775808:Int)≤k.min:=by cases k<;>decide
theorem yF{k:IntKind}(h:tM k=false):k.max≤(9223372036854775807:Int):=by cases k<;>first|decide|simp[tM]at h
theorem pS{n a:Nat}{c:Int}(ha:a / 4<n):∀{x:Sum},Sc n (cJ x)→Sc n (cJ (lS a c x))
 | [],_=>by
  simp only[lS];split
  ·exact Sc.nil
  ·simp only[cJ,Sc.cons];exact⟨ha,Sc.nil⟩
 |(a',c')::r,h=>by
   simp only[cJ,Sc.cons]at h
   simp only[lS]
   split
   ·split
    ·exact h.2
    ·simp only[cJ,Sc.cons];exact⟨ha,h.2⟩
   ·split
    ·split
     ·simp only[cJ,Sc.cons];exact h
     ·simp only[cJ,Sc.cons];exact⟨ha,h⟩
    ·simp only[cJ,Sc.cons];exact⟨h.1,pS ha h.2⟩
theorem pT{n:Nat}{k:Int}:∀{x y:Sum},Sc n (cJ x)→Sc n (cJ y)→Sc n (cJ (ns k x y))
 | [],_,_,hy=>hy
 |(a,c)::r,y,hx,hy=>by
   simp only[cJ,Sc.cons]at hx
   simp only[ns]
   exact pT hx.2 (pS hx.1 hy)
theorem Lin.AV{n:Nat}{x y:Lin}{k:Int}(hx:Sc n x.vars)(hy:Sc n y.vars):Sc n (x.ax k y).vars:=pT hy hx
theorem Lin.nA{n:Nat}{x:Lin}{k:Int}(hx:Sc n x.vars):Sc n (Lin.scale k x).vars:=Lin.AV Sc.nil hx
theorem Lin.oV{n:Nat}{x:Lin}{k:Int}(hx:Sc n x.vars):Sc n (x.cR k).vars:=hx
theorem qX(ρ:Ro)(k:Nat):aR ρ (4*k)=(ρ k).n:=by
 unfold aR
 have h1:4*k % 4=0:=by omega
 have h2:4*k / 4=k:=by omega
 simp only[h1,h2]
theorem zR(ρ:Ro)(k:Nat):aR ρ (4*k+1)=((ρ k).l.length:Int):=by
 unfold aR
 have h1:(4*k+1) % 4=1:=by omega
 have h2:(4*k+1) / 4=k:=by omega
 simp only[h1,h2]
theorem vp(ρ:Ro)(k:Nat):aR ρ (4*k+2)=(rsz (ρ k).l:Int):=by
 unfold aR
 have h1:(4*k+2) % 4=2:=by omega
 have h2:(4*k+2) / 4=k:=by omega
 simp only[h1,h2]
theorem lV(ρ:Ro)(k:Nat):aR ρ (4*k+3)=((ρ k).s.size:Int):=by
 unfold aR
 have h1:(4*k+3) % 4=3:=by omega
 have h2:(4*k+3) / 4=k:=by omega
 simp only[h1,h2]
structure xX(P:Program)(n:Nat)(row:List PV)(R:j7)(ρ ρ':Ro):Prop where
 ag:aS n ρ ρ'
 g:Gok ρ'
 cells:aU ρ' R.cells=row
 tys:df P ρ' R.tys
 lin:bR ρ' R.lin
 rz:R.rz.v ρ'=(Go.TL.rz row:Int)
structure Ce(n:Nat)(R:j7):Prop where
 le:n≤R.nx
 cells:Sc R.nx (gT R.cells)
 tys:∀k e,(k,e)∈R.tys→k<R.nx
 lin:∀e∈R.lin,Sc R.nx e.vars
 rz:Sc R.nx R.rz.vars
theorem sE{P:Program}:∀(cs:List CK) (n:Nat) (R:j7) (row:List PV) (ρ:Ro),jJ cs n=some R→WTs P cs row→Gok ρ→∃ρ',xX P n row R ρ ρ'
 | [],n,R,row,ρ,h,hw,hg=>by
  simp only[jJ,Ct]at h;subst h
  have:=mh hw;subst this
  exact⟨ρ,aS.refl _ _,hg,rfl,trivial,trivial,by simp[Lin.dX,Go.TL.rz]⟩
 |ck::r,n,R,row,ρ,h,hw,hg=>by
  simp only[jJ]at h
  split at h
  ·cases h
  ·rename_i R1 h1
   obtain⟨x,xs,rfl,hx,hxs⟩:=kP hw
   have step:∀va:Va,lU va→∃ρ',xX P (n+1) xs R1 (up ρ n va) ρ'∧ρ' n=va∧aS n ρ ρ':=by
    intro va hva
    obtain⟨ρ',hr⟩:=sE r (n+1) R1 xs (up ρ n va) h1 hxs (hg.up n hva)
    exact⟨ρ',hr,by rw[hr.ag n (Nat.lt_succ_self n),my],(tL ρ n n va (Nat.le_refl _)).trans hr.ag (Nat.le_succ n)⟩
   split at h
   ·rename_i k
    split at h
    ·cases h
    ·rename_i hk
     simp only[Ct]at h;subst h
     obtain⟨z,rfl,hz1,hz2⟩:=uF hx
     obtain⟨ρ',hr,he,ha⟩:=step (vaN z) (vh (Int.le_trans yE hz1) (Int.le_trans hz2 (yF hk)))
     have hn:(ρ' n).n=z:=by rw[he];rfl
     refine⟨ρ',ha,hr.g,?_,hr.tys,?_,?_⟩
     ·simp only[aU,DP.v,Lin.eh,qX,hn,hr.cells]
     ·simp only
      split
      ·exact hr.lin
      ·refine⟨?_,?_,hr.lin⟩
       ·rw[Lin.ca,Lin.eh,qX,hn];omega
       ·rw[Lin.ca,Lin.ez,Lin.eh,qX,hn];omega
     ·simp only[Lin.ca,hr.rz,Go.TL.rz,pz];omega
   ·simp only[Ct]at h;subst h
    obtain⟨z,rfl⟩:=yv hx
    obtain⟨ρ',hr,he,ha⟩:=step (vaB z) (vi z)
    have hn:(ρ' n).b=z:=by rw[he];rfl
    refine⟨ρ',ha,hr.g,?_,hr.tys,hr.lin,?_⟩
    ·simp only[aU,DP.v,BF.v,hn,hr.cells]
    ·simp only[Lin.ca,hr.rz,Go.TL.rz,pz];omega
   ·simp only[Ct]at h;subst h
    obtain⟨z,rfl,hz⟩:=uG hx
    obtain⟨ρ',hr,he,ha⟩:=step (vaS z) (vk hz)
    have hn:(ρ' n).s=z:=by rw[he];rfl
    refine⟨ρ',ha,hr.g,?_,hr.tys,hr.lin,?_⟩
    ·simp only[aU,DP.v,SE.v,hn,hr.cells]
    ·simp only[Lin.ca,Lin.ig,Lin.eh,lV,hr.rz,Go.TL.rz,pz,hn];omega
   ·simp only[Ct]at h;subst h
    obtain⟨z,rfl,hz⟩:=zo hx
    obtain⟨ρ',hr,he,ha⟩:=step (vaS z) (vk (Nat.le_trans hz (by decide)))
    have hn:(ρ' n).s=z:=by rw[he];rfl
    unfold kl at hz
    refine⟨ρ',ha,hr.g,?_,hr.tys,⟨?_,hr.lin⟩,?_⟩
    ·simp only[aU,DP.v,SE.v,hn,hr.cells]
    ·rw[Lin.ca,Lin.eh,lV,hn];omega
    ·simp only[Lin.ca,Lin.ig,Lin.eh,lV,hr.rz,Go.TL.rz,pz,hn];omega
   ·rename_i e
    simp only[Ct]at h;subst h
    obtain⟨z,rfl,hz⟩:=ql hx
    obtain⟨ρ',hr,he,ha⟩:=step (vaL z) (vm hz.len)
    have hn:(ρ' n).l=z:=by rw[he];rfl
    refine⟨ρ',ha,hr.g,?_,⟨by rw[hn];exact hz,hr.tys⟩,hr.lin,?_⟩
    ·simp only[aU,DP.v,lvV,hn,hr.cells]
    ·simp only[Lin.ca,Lin.ig,Lin.eh,vp,hr.rz,Go.TL.rz,pz,hn];omega
   ·simp only[Ct]at h;subst h
    have:=zm hx;subst this
    obtain⟨ρ',hr,he,ha⟩:=step (vaN 0) (vh (by decide) (by decide))
    refine⟨ρ',ha,hr.g,?_,hr.tys,hr.lin,?_⟩
    ·simp only[aU,DP.v,hr.cells]
    ·simp only[Lin.ca,hr.rz,Go.TL.rz,pz];omega
   ·cases h
def dty(tys:List (Nat×TypeId)):List CK→List DP→Option (List G)
 | [],[]=>some []
 |ck::cs,x::xs=>match dty tys cs xs with
  |none=>none
  |some gs=>match ck,x with
   | .int k,.int k' e=>match decide (k=k')with
    |true=>some (.le (e.cR (-k.max)):: .le ((Lin.scale (-1) e).cR k.min)::gs)
    |false=>none
   | .bool,.bl _=>some gs
   | .str,.st (.var _)=>some gs
   | .str,.st (.lit b)=>match Nat.ble b.length 1073741824 with|true=>some gs|false=>none
   | .iz,.st (.var k)=>some (.le ((Lin.at (4*k+3)).cR (-64))::gs)
   | .iz,.st (.lit b)=>match Nat.ble b.length 64 with|true=>some gs|false=>none
   | .any,.un=>some gs
   | .sl _,.sl none=>some gs
   | .sl e,.sl (some k)=>match lk tys k with
    |some e'=>match Nat.beq e e' with|true=>some gs|false=>none
    |none=>none
   |_,_=>none
 |_,_=>none
theorem gq{P:Program}{I:Pr}{ρ:Ro}{tys:List (Nat×TypeId)}(hg:Gok ρ)(ht:df P ρ tys):∀(cs:List CK) (xs:List DP) (gs:List G),dty tys cs xs=some gs→gsV I ρ gs→WTs P cs (aU ρ xs)
 | [],[],_,_,_=>trivial
 |ck::cs,x::xs,gs,h,hv=>by
  simp only[dty]at h
  split at h
  ·cases h
  ·rename_i gs1 h1
   split at h
   ·split at h
    ·rename_i k k' e hk
     have:=of_decide_eq_true hk;subst this
     simp only[Ct]at h;subst h
     simp only[gsV,G.v,Lin.ca,Lin.ez]at hv
     exact⟨.int _ _ (by omega) (by omega),gq hg ht cs xs gs1 h1 hv.2.2⟩
    ·cases h
   ·simp only[Ct]at h;subst h
    exact⟨.bool _,gq hg ht cs xs gs1 h1 hv⟩
   ·simp only[Ct]at h;subst h
    exact⟨.str _ (hg.st _),gq hg ht cs xs gs1 h1 hv⟩
   ·split at h
    ·rename_i b hb
     simp only[Ct]at h;subst h
     refine⟨.str _ ?_,gq hg ht cs xs gs1 h1 hv⟩
     have:=Cz hb
     simpa[bZ,SE.v,ByteArray.size]using this
    ·cases h
   ·simp only[Ct]at h;subst h
    refine⟨.iz _ ?_,gq hg ht cs xs gs1 h1 hv.2⟩
    have:=hv.1
    simp only[G.v,Lin.ca,Lin.eh,lV]at this
    simp only[SE.v,kl];omega
   ·split at h
    ·rename_i b hb
     simp only[Ct]at h;subst h
     refine⟨.iz _ ?_,gq hg ht cs xs gs1 h1 hv⟩
     have:=Cz hb
     simpa[kl,SE.v,ByteArray.size]using this
    ·cases h
   ·simp only[Ct]at h;subst h
    exact⟨.any,gq hg ht cs xs gs1 h1 hv⟩
   ·simp only[Ct]at h;subst h
    exact⟨bA.wt bA.nil,gq hg ht cs xs gs1 h1 hv⟩
   ·split at h
    ·rename_i e k e' hl
     split at h
     ·rename_i hb
      have:=Cv hb;subst this
      simp only[Ct]at h;subst h
      exact⟨bA.wt (kz ht hl),gq hg ht cs xs gs1 h1 hv⟩
     ·cases h
    ·cases h
   ·cases h
 | [],_::_,_,h,_=>by simp[dty]at h
 |_::_,[],_,h,_=>by simp[dty]at h
end Go.TL
namespace Go.TL
theorem lW(ρ:Ro)(a:List DP)(n:Nat):aU ρ (a.drop n)=(aU ρ a).drop n:=by simp[jH,List.map_drop]
theorem lX(ρ:Ro)(a:List DP)(n:Nat):aU ρ (a.take n)=(aU ρ a).take n:=by simp[jH,List.map_take]
def tN(fr:Bool):DP→DV
 | .sl l=> .p (.sl l) fr
 | .ls l=> .p (.ls l) fr
 | .un=> .p .un true
 | .mp a l=> .p (.mp a l) fr
 |x=> .p x true
def mz(fr:Bool):List DP→List DV
 | []=>[]
 |x::xs=>tN fr x::mz fr xs
end Go.TL
namespace Go.TL
def zS(l:Nat)(R:j7):List Lin:=(R.rz.ax (-1) (Lin.at (4*l+2))).cR 1::match Nat.ble 4 R.cells.length with
 |true=>((R.rz.ax 2 (Lin.at (4*l+1))).ax (-1) (Lin.at (4*l+2))).cR (-1)::R.lin
 |false=>R.lin
structure B9(P:Program)(I:Pr)(σ:DSt)(l:Nat)(i:Lin)(R:j7)(ρ ρ':Ro):Prop where
 ag:aS σ.nx ρ ρ'
 g:Gok ρ'
 tys:df P ρ' R.tys
 lin:bR ρ' (zS l R)
 row:(ρ l).l[(i.v ρ).toNat]? =some (aU ρ' R.cells)
 pf:fp I ρ' [.row l i R.cells]
def setRow(l:Nat)(i:Lin):List PF→Option (List DP)
 | []=>none
 | .set l' _ i' cells::r=>match Nat.beq l l',i.beq i' with
  |true,true=>some cells
  |_,_=>setRow l i r
 |_::r=>setRow l i r
end Go.TL
