/- Operations on numbers, truths, strings. -/
import Derived.Test.YtpoamlpahljebaaGreatDoorW14
import Derived.Laws.Strings
namespace Go.TL
def fuel:Nat:=8
def N8:Nat:=10
def Td(fs:List Lin)(e:Lin):Bool:=direct e fs
def cW(σ:DSt)(e:Lin):Bool:=
 match Td σ.lin e with
 |true=>true
 |false=>match ux σ.tys σ.lin e σ.hc with
  |true=>true
  |false=>(nT σ.lin fuel 1 N8 e).1
theorem cB{P:Program}{I:Pr}{σ:DSt}{ρ:Ro}{e:Lin}(ab:σ.ok P I ρ)(h:cW σ e=true):e.v ρ≤0:=by
 have hf:∀f∈σ.lin,f.v ρ≤0:=fun _ hf=>EO ab.lin hf
 unfold cW at h
 split at h
 ·rename_i hq;exact tn hf hq
 ·split at h
  ·rename_i hq;exact vW ab.tys ab.g hf hq
  ·exact EU ab.g σ.lin hf fuel 1 N8 e h
def B5(σ:DSt)(k:IntKind)(e:Lin):Bool:=
 match cW σ (e.aN (-k.max))with
 |true=>cW σ ((Lin.scale (-1) e).aN k.min)
 |false=>false
theorem E4{k:IntKind}{n:Int}(h1:k.min≤n)(h2:n≤k.max):k.wrap n=n:=by
 cases k<;>simp[IntKind.min,IntKind.max,IntKind.bits,IntKind.signed]at h1 h2<;>simp[IntKind.wrap,IntKind.bits,IntKind.signed]<;>omega
theorem Hk(k:IntKind)(n:Int):k.min≤k.wrap n∧k.wrap n≤k.max:=by
 cases k<;>simp[IntKind.min,IntKind.max,IntKind.wrap,IntKind.bits,IntKind.signed]<;>omega
theorem DM{P:Program}{I:Pr}{σ:DSt}{ρ:Ro}{k:IntKind}{e:Lin}(ab:σ.ok P I ρ)(h:B5 σ k e=true):k.wrap (e.v ρ)=e.v ρ:=by
 unfold B5 at h
 split at h
 ·rename_i h1
  have a:=cB ab h1
  have b:=cB ab h
  rw[Lin.aO]at a
  rw[Lin.aO,Lin.bE]at b
  exact E4 (by omega) (by omega)
 ·cases h
def oM(k:IntKind)(n:Nat):List Lin:=
 match Vz k with
 |true=>[]
 |false=>[(Lin.at (4*n)).aN (-k.max),(Lin.scale (-1) (Lin.at (4*n))).aN k.min]
theorem xY{m n:Nat}(h:n<m):Sc m (Lin.at (4*n)).vars:=Lin.bC (by omega)
theorem Tf{k:IntKind}{n:Nat}:∀e∈oM k n,Sc (n+1) e.vars:=by
 intro e he
 unfold oM at he
 split at he
 ·simp at he
 ·simp only[List.mem_cons,List.mem_nil_iff,or_false]at he
  rcases he with rfl|rfl
  ·exact Lin.bI (xY (Nat.lt_succ_self n))
  ·exact Lin.bI (Lin.dW (xY (Nat.lt_succ_self n)))
theorem VD{ρ:Ro}{k:IntKind}{n:Nat}(h1:k.min≤(ρ n).n)(h2:(ρ n).n≤k.max):bh ρ (oM k n):=by
 unfold oM
 split
 ·trivial
 ·refine⟨?_,?_,trivial⟩
  ·rw[Lin.aO,Lin.bN,me];omega
  ·rw[Lin.aO,Lin.bE,Lin.bN,me];omega
theorem AX{σ:DSt}{lin:List Lin}{prs:List PF}(h1:∀e∈lin,Sc (σ.nx+1) e.vars)(h2:∀f∈prs,Sc (σ.nx+1) f.vars):jT (σ.nx+1) [] lin prs:=⟨by simp,h1,h2⟩
theorem oN{P:Program}{I:Pr}{σ:DSt}{o:Oper}{k:IntKind}{gs:List G}{lin:List Lin}(hk:qN k=false)(hl:σ.sc→∀e∈lin,Sc (σ.nx+1) e.vars)
  (h:∀ρ,σ.sc→σ.ok P I ρ→gsV I ρ gs→∃z:Int,k.min≤z∧z≤k.max∧(∀ρ',ρ'=up ρ σ.nx (vaN z)→bh ρ' lin)∧
   ∃(H:Hint) (ps:List Prop),aop P H (σ.v ρ) o=some ((σ.v ρ).put o.dst (.p (.v (.int k z)) true),ps)∧lM ps):
  Good P I σ o ((σ.grow 1 [] (oM k σ.nx++lin) []).put o.dst (.p (.int k (Lin.at (4*σ.nx))) true)) gs:=by
 refine oJ (fun hs=>by simp only[DV.vars,DP.vars];exact xY (Nat.lt_succ_self _)) (fun hs=>AX (fun e he=>?_) (by simp)) ?_
 ·rcases Z0 he with he|he
  ·exact Tf e he
  ·exact hl hs e he
 ·intro ρ hs ab hg
  obtain⟨z,h1,h2,h3,H,ps,h4,h5⟩:=h ρ hs ab hg
  have hv:mQ (vaN z):=sr (Int.le_trans JU h1) (Int.le_trans h2 (JV hk))
  have hn:(up ρ σ.nx (vaN z) σ.nx).n=z:=by rw[bg];rfl
  refine⟨up ρ σ.nx (vaN z),da _ _ _ _ (Nat.le_refl _),ab.g.up _ hv,trivial,dH (VD (by rw[hn];exact h1) (by rw[hn];exact h2)) (h3 _ rfl),trivial,H,ps,?_,h5⟩
  rw[h4]
  simp[DV.v,DP.v,Lin.bN,me,hn]
theorem N9{P:Program}{I:Pr}{σ:DSt}{o:Oper}{gs:List G}
  (h:∀ρ,σ.sc→σ.ok P I ρ→gsV I ρ gs→∃z:Bool,∃(H:Hint) (ps:List Prop),aop P H (σ.v ρ) o=some ((σ.v ρ).put o.dst (.p (.v (.bool z)) true),ps)∧lM ps):
  Good P I σ o ((σ.grow 1 [] [] []).put o.dst (.p (.bl (.var σ.nx)) true)) gs:=by
 refine oJ (fun hs=>by simp only[DV.vars,DP.vars,BF.vars,Sc.cons];exact⟨Nat.lt_succ_self _,Sc.nil⟩) (fun hs=>AX (by simp) (by simp)) ?_
 intro ρ hs ab hg
 obtain⟨z,H,ps,h4,h5⟩:=h ρ hs ab hg
 have hn:(up ρ σ.nx (vaB z) σ.nx).b=z:=by rw[bg];rfl
 refine⟨up ρ σ.nx (vaB z),da _ _ _ _ (Nat.le_refl _),ab.g.up _ (uz z),trivial,trivial,trivial,H,ps,?_,h5⟩
 rw[h4]
 simp[DV.v,DP.v,BF.v,hn]
theorem Hl{P:Program}{I:Pr}{σ:DSt}{o:Oper}{gs:List G}{lin:List Lin}{prs:List PF}(hl:σ.sc→∀e∈lin,Sc (σ.nx+1) e.vars)(hp:σ.sc→∀f∈prs,Sc (σ.nx+1) f.vars)
  (h:∀ρ,σ.sc→σ.ok P I ρ→gsV I ρ gs→∃z:ByteArray,z.size≤cu∧(∀ρ',ρ'=up ρ σ.nx (vaS z)→bh ρ' lin∧c5 I ρ' prs)∧
   ∃(H:Hint) (ps:List Prop),aop P H (σ.v ρ) o=some ((σ.v ρ).put o.dst (.p (.v (.string z)) true),ps)∧lM ps):
  Good P I σ o ((σ.grow 1 [] lin prs).put o.dst (.p (.st (.var σ.nx)) true)) gs:=by
 refine oJ (fun hs=>by simp only[DV.vars,DP.vars,SE.vars,Sc.cons];exact⟨Nat.lt_succ_self _,Sc.nil⟩) (fun hs=>AX (hl hs) (hp hs)) ?_
 intro ρ hs ab hg
 obtain⟨z,h1,h3,H,ps,h4,h5⟩:=h ρ hs ab hg
 have hn:(up ρ σ.nx (vaS z) σ.nx).s=z:=by rw[bg];rfl
 obtain⟨q1,q2⟩:=h3 _ rfl
 refine⟨up ρ σ.nx (vaS z),da _ _ _ _ (Nat.le_refl _),ab.g.up _ (ma h1),trivial,q1,q2,H,ps,?_,h5⟩
 rw[h4]
 simp[DV.v,DP.v,SE.v,hn]
def uE(e:Lin):Option Int:=match e.t with| []=>some e.c|_=>none
theorem wi{ρ:Ro}{e:Lin}{z:Int}(h:uE e=some z):e.v ρ=z:=by
 unfold uE at h
 split at h
 ·rename_i ht;simp only[ZS]at h;subst h;unfold Lin.v;rw[ht];simp[bZ]
 ·cases h
def xZ(op:BinOp)(a b:Lin):Option Lin:=
 match op with
 | .add=>some (a.ax 1 b)
 | .sub=>some (a.ax (-1) b)
 | .mul=>match uE a,uE b with
  |some z,_=>some (Lin.scale z b)
  |_,some z=>some (Lin.scale z a)
  |_,_=>none
 |_=>none
theorem Hm{ρ:Ro}{op:BinOp}{a b e:Lin}(h:xZ op a b=some e):arith op (a.v ρ) (b.v ρ)=some (e.v ρ):=by
 cases op<;>simp only[xZ,ZS,reduceCtorEq]at h
 ·subst h;simp[arith,Lin.bQ]
 ·subst h;simp only[arith,Lin.bQ];congr 1;omega
 ·split at h
  ·rename_i z hz;simp only[ZS]at h;subst h;simp[arith,Lin.bE,wi hz]
  ·rename_i z hz _;simp only[ZS]at h;subst h;simp only[arith,Lin.bE,wi hz,Int.mul_comm]
  ·cases h
theorem Oa{n:Nat}{op:BinOp}{a b e:Lin}(h:xZ op a b=some e)(ha:Sc n a.vars)(hb:Sc n b.vars):Sc n e.vars:=by
 cases op<;>simp only[xZ,ZS,reduceCtorEq]at h
 ·subst h;exact Lin.aE ha hb
 ·subst h;exact Lin.aE ha hb
 ·split at h
  ·simp only[ZS]at h;subst h;exact Lin.dW hb
  ·simp only[ZS]at h;subst h;exact Lin.dW ha
  ·cases h
def y8(op:BinOp)(a b:Lin):Option BF:=
 match op with
 | .eql=>some (.eq (a.ax (-1) b))
 | .neq=>some (.not (.eq (a.ax (-1) b)))
 | .lss=>some (.le ((a.ax (-1) b).aN 1))
 | .leq=>some (.le (a.ax (-1) b))
 | .gtr=>some (.le ((b.ax (-1) a).aN 1))
 | .geq=>some (.le (b.ax (-1) a))
 |_=>none
theorem Tg{ρ:Ro}{op:BinOp}{a b:Lin}{f:BF}(h:y8 op a b=some f):vB op (a.v ρ) (b.v ρ)=some (f.v ρ):=by
 cases op<;>simp only[y8,ZS,reduceCtorEq]at h<;>subst h<;>simp only[vB,BF.v,Lin.bQ,Lin.aO,ZS]<;>rw[Bool.eq_iff_iff]<;>simp<;>omega
theorem Qr{n:Nat}{op:BinOp}{a b:Lin}{f:BF}(h:y8 op a b=some f)(ha:Sc n a.vars)(hb:Sc n b.vars):Sc n f.vars:=by
 cases op<;>simp only[y8,ZS,reduceCtorEq]at h<;>subst h<;>simp only[BF.vars]
 ·exact Lin.aE ha hb
 ·exact Lin.aE ha hb
 ·exact Lin.bI (Lin.aE ha hb)
 ·exact Lin.aE ha hb
 ·exact Lin.bI (Lin.aE hb ha)
 ·exact Lin.aE hb ha
def B6(f:BF):BF:=
 match f with
 | .le e=>match e.t with| []=> .lit (leZ e.c)|_=>f
 | .eq e=>match e.t with| []=> .lit (isZ e.c)|_=>f
 | .not (.eq e)=>match e.t with| []=> .lit (!isZ e.c)|_=>f
 |f=>f
theorem Ti(z:Int):leZ z=decide (z≤0):=by
 cases z with
 |ofNat n=>simp only[leZ];rw[Bool.eq_iff_iff];simp[Nat.beq_eq]
 |negSucc n=>simp[leZ];omega
theorem JX(z:Int):isZ z=decide (z=0):=by
 cases z with
 |ofNat n=>simp only[isZ];rw[Bool.eq_iff_iff];simp[Nat.beq_eq]
 |negSucc n=>simp[isZ]
theorem Tj(ρ:Ro)(f:BF):(B6 f).v ρ=f.v ρ:=by
 unfold B6
 split
 ·rename_i e;split
  ·rename_i h;simp[BF.v,Lin.v,h,bZ,Ti]
  ·rfl
 ·rename_i e;split
  ·rename_i h;simp[BF.v,Lin.v,h,bZ,JX]
  ·rfl
 ·rename_i e;split
  ·rename_i h;simp[BF.v,Lin.v,h,bZ,JX]
  ·rfl
 ·rfl
theorem Qs{n:Nat}{f:BF}(h:Sc n f.vars):Sc n (B6 f).vars:=by
 unfold B6
 split
 ·split
  ·exact Sc.nil
  ·exact h
 ·split
  ·exact Sc.nil
  ·exact h
 ·split
  ·exact Sc.nil
  ·exact h
 ·exact h
def x3:DV→Option SE
 | .p (.st e) _=>some e
 |_=>none
theorem Hn{ρ:Ro}{x:DV}{e:SE}(h:x3 x=some e):isStr (x.v ρ)=some (e.v ρ)∧isInt (x.v ρ)=none:=by
 unfold x3 at h
 split at h
 ·simp only[ZS]at h;subst h;simp[DV.v,DP.v,isStr,isInt]
 ·cases h
theorem JY{n:Nat}{x:DV}{e:SE}(h:x3 x=some e)(hx:Sc n x.vars):Sc n e.vars:=by
 unfold x3 at h
 split at h
 ·simp only[ZS]at h;subst h;simpa[DV.vars,DP.vars]using hx
 ·cases h
def dK:SE→Lin
 | .lit b=>Lin.lit (b.length:Int)
 | .var k=>Lin.at (4*k+3)
theorem mS(ρ:Ro)(e:SE):(dK e).v ρ=((e.v ρ).size:Int):=by
 cases e with
 |lit b=>simp[dK,Lin.cT,SE.v,ByteArray.size]
 |var k=>simp[dK,Lin.bN,mf,SE.v]
theorem tv{n:Nat}{e:SE}(h:Sc n e.vars):Sc n (dK e).vars:=by
 cases e with
 |lit b=>exact Lin.eg
 |var k=>simp only[SE.vars,Sc.cons]at h;exact Lin.bC (by omega)
def rE:List UInt8→List UInt8→Bool
 | [],[]=>true
 |a::r,b::s=>match Nat.beq a.toNat b.toNat with|true=>rE r s|false=>false
 |_,_=>false
def Ho(σ:DSt)(o:Oper)(op:BinOp)(k:IntKind)(a b:Lin):DR:=
 match xZ op a b with
 |some e=>match B5 σ k e with
  |true=>some (σ.put o.dst (.p (.int k e) true),[])
  |false=>match qN k with
   |false=>some ((σ.grow 1 [] (oM k σ.nx++ []) []).put o.dst (.p (.int k (Lin.at (4*σ.nx))) true),[])
   |true=>none
 |none=>match op,qN k with
  | .mul,false=>some ((σ.grow 1 [] (oM k σ.nx++ []) []).put o.dst (.p (.int k (Lin.at (4*σ.nx))) true),[])
  |_,_=>none
theorem Qt{op:BinOp}{a b n:Int}(h:arith op a b=some n):gD op=true:=by cases op<;>simp[arith]at h<;>rfl
theorem E5{P:Program}{H:Hint}{s:St}{o:Oper}{op:BinOp}{t t':TypeId}{x y:Operand}{k:IntKind}{a b n:Int}(ho:o.op= .binOp op t x y t')(hx:isInt (ev s x)=some (k,a))(hy:isInt (ev s y)=some (k,b))
  (hn:arith op a b=some n)(d:Nat)(hd:o.dst=some d)(z:Int)(hH:H=⟨[(d,[.v (.int k z)])],[]⟩):aop P H s o=some (s.put o.dst (.p (.v (.int k z)) true),[k.wrap n=z]):=by
 unfold aop
 subst hH
 simp only[ho,Qt hn,rY,hd,lk,Nat.beq_refl,hx,hy,and_self,decide_true,hn,nt]
theorem Je{P:Program}{I:Pr}{σ σ':DSt}{o:Oper}{op:BinOp}{t t':TypeId}{x y:Operand}{k:IntKind}{a b:Lin}{gs:List G}(d:Nat)(hd:o.dst=some d)(ho:o.op= .binOp op t x y t')
  (hx:jn (dev σ x)=some (k,a))(hy:jn (dev σ y)=some (k,b))(h:Ho σ o op k a b=some (σ',gs)):Good P I σ o σ' gs:=by
 have ex:∀ρ,isInt (ev (σ.v ρ) x)=some (k,a.v ρ):=fun ρ=>by rw[aK];exact(gk hx).1
 have ey:∀ρ,isInt (ev (σ.v ρ) y)=some (k,b.v ρ):=fun ρ=>by rw[aK];exact(gk hy).1
 have newOne:∀(hk:qN k=false),(∀ρ,∃n,arith op (a.v ρ) (b.v ρ)=some n)→
   Good P I σ o ((σ.grow 1 [] (oM k σ.nx++ []) []).put o.dst (.p (.int k (Lin.at (4*σ.nx))) true)) []:=by
  intro hk hn
  refine oN hk (by simp) fun ρ hs ab _=>?_
  obtain⟨n,hn⟩:=hn ρ
  refine⟨k.wrap n,(Hk k n).1,(Hk k n).2,fun _ _=>trivial,⟨[(d,[.v (.int k (k.wrap n))])],[]⟩,[k.wrap n=k.wrap n],?_,⟨rfl,trivial⟩⟩
  exact E5 ho (ex ρ) (ey ρ) hn d hd _ rfl
 unfold Ho at h
 split at h
 ·rename_i e he
  split at h
  ·rename_i hf
   simp only[ZS,ZT]at h;obtain⟨rfl,rfl⟩:=h
   refine bS (fun hs=>by simp only[DV.vars,DP.vars];exact Oa he (fY hx (hs.dev x)) (fY hy (hs.dev y))) fun ρ hs ab _=>?_
   refine⟨⟨[(d,[.v (.int k (e.v ρ))])],[]⟩,[k.wrap (e.v ρ)=e.v ρ],?_,⟨DM ab hf,trivial⟩⟩
   rw[E5 ho (ex ρ) (ey ρ) (Hm he) d hd _ rfl];simp[DV.v,DP.v]
  ·split at h
   ·rename_i hk
    simp only[ZS,ZT]at h;obtain⟨rfl,rfl⟩:=h
    exact newOne hk fun ρ=>⟨_,Hm he⟩
   ·cases h
 ·split at h
  ·rename_i hk _
   simp only[ZS,ZT]at h;obtain⟨rfl,rfl⟩:=h
   exact newOne hk fun ρ=>⟨_,rfl⟩
  ·cases h
def Lj(σ:DSt)(o:Oper)(op:BinOp)(k:IntKind)(a b:Lin):DR:=
 match uE b,qN k with
 |some (.ofNat (m+1)),false=>match cW σ (Lin.scale (-1) a)with
  |true=>match op with
   | .rem=>some ((σ.grow 1 [] (oM k σ.nx++ [Lin.scale (-1) (Lin.at (4*σ.nx)),(Lin.at (4*σ.nx)).aN (-(m:Int)),(Lin.at (4*σ.nx)).ax (-1) a]) []).put o.dst (.p (.int k (Lin.at (4*σ.nx))) true),[.le (a.aN (-k.max))])
   | .quo=>some ((σ.grow 1 [] (oM k σ.nx++ [Lin.scale (-1) (Lin.at (4*σ.nx)),(Lin.scale ((m:Int)+1) (Lin.at (4*σ.nx))).ax (-1) a,(a.ax (-1) (Lin.scale ((m:Int)+1) (Lin.at (4*σ.nx)))).aN (-(m:Int)),(Lin.at (4*σ.nx)).ax (-1) a]) []).put o.dst (.p (.int k (Lin.at (4*σ.nx))) true),[.le (a.aN (-k.max))])
   |_=>none
  |false=>none
 |_,_=>none
theorem JZ(k:IntKind):k.min≤0:=by cases k<;>decide
theorem E6{P:Program}{I:Pr}{σ σ':DSt}{o:Oper}{op:BinOp}{t t':TypeId}{x y:Operand}{k:IntKind}{a b:Lin}{gs:List G}(d:Nat)(hd:o.dst=some d)(ho:o.op= .binOp op t x y t')
  (hx:jn (dev σ x)=some (k,a))(hy:jn (dev σ y)=some (k,b))(h:Lj σ o op k a b=some (σ',gs)):Good P I σ o σ' gs:=by
 have ex:∀ρ,isInt (ev (σ.v ρ) x)=some (k,a.v ρ):=fun ρ=>by rw[aK];exact(gk hx).1
 have ey:∀ρ,isInt (ev (σ.v ρ) y)=some (k,b.v ρ):=fun ρ=>by rw[aK];exact(gk hy).1
 have kW:σ.sc→Sc (σ.nx+1) a.vars:=fun hs=>(fY hx (hs.dev x)).mono (Nat.le_succ _)
 have vsc:Sc (σ.nx+1) (Lin.at (4*σ.nx)).vars:=xY (Nat.lt_succ_self _)
 unfold Lj at h
 split at h
 ·rename_i m hb hk
  have hbv:∀ρ,b.v ρ=(m:Int)+1:=fun ρ=>by rw[wi hb];rfl
  split at h
  ·rename_i ha
   split at h
   ·simp only[ZS,ZT]at h;obtain⟨rfl,rfl⟩:=h
    refine oN hk (fun hs e he=>?_) fun ρ hs ab hg=>?_
    ·simp only[List.mem_cons,List.mem_nil_iff,or_false]at he
     rcases he with rfl|rfl|rfl
     ·exact Lin.dW vsc
     ·exact Lin.bI vsc
     ·exact Lin.aE vsc (kW hs)
    ·have h0:=cB ab ha
     rw[Lin.bE]at h0
     simp only[gsV,G.v,Lin.aO,and_true]at hg
     have e1:(a.v ρ).tmod ((m:Int)+1)=(a.v ρ) % ((m:Int)+1):=Int.tmod_eq_emod_of_nonneg (by omega)
     have e2:=Int.emod_nonneg (a.v ρ) (b:=(m:Int)+1) (by omega)
     have e3:=Int.emod_lt_of_pos (a.v ρ) (b:=(m:Int)+1) (by omega)
     have e4:(a.v ρ) % ((m:Int)+1)≤a.v ρ:=by
      have q1:=Int.emod_add_mul_ediv (a.v ρ) ((m:Int)+1)
      have q2:=Int.ediv_nonneg (a:=a.v ρ) (b:=(m:Int)+1) (by omega) (by omega)
      have q3:0≤((m:Int)+1)*(a.v ρ / ((m:Int)+1)):=Int.mul_nonneg (by omega) q2
      omega
     have:=JZ k
     refine⟨(a.v ρ) % ((m:Int)+1),by omega,by omega,?_,⟨[],[]⟩,[(m:Int)+1≠0],?_,⟨by omega,trivial⟩⟩
     ·rintro ρ' rfl
      have hn:((up ρ σ.nx (vaN ((a.v ρ) % ((m:Int)+1)))) σ.nx).n=(a.v ρ) % ((m:Int)+1):=by rw[bg];rfl
      have hav:=Lin.ag (da ρ σ.nx σ.nx (vaN ((a.v ρ) % ((m:Int)+1))) (Nat.le_refl _)) (fY hx (hs.dev x))
      refine⟨?_,?_,?_,trivial⟩<;>simp only[Lin.bE,Lin.aO,Lin.bQ,Lin.bN,me,hn,hav]<;>omega
     ·unfold aop
      simp only[ho,gD,rY,hd,lk,lx,ex,ey,hbv,decide_true,arith,vB,e1,nt]
   ·simp only[ZS,ZT]at h;obtain⟨rfl,rfl⟩:=h
    refine oN hk (fun hs e he=>?_) fun ρ hs ab hg=>?_
    ·simp only[List.mem_cons,List.mem_nil_iff,or_false]at he
     rcases he with rfl|rfl|rfl|rfl
     ·exact Lin.dW vsc
     ·exact Lin.aE (Lin.dW vsc) (kW hs)
     ·exact Lin.bI (Lin.aE (kW hs) (Lin.dW vsc))
     ·exact Lin.aE vsc (kW hs)
    ·have h0:=cB ab ha
     rw[Lin.bE]at h0
     simp only[gsV,G.v,Lin.aO,and_true]at hg
     have e1:(a.v ρ).tdiv ((m:Int)+1)=(a.v ρ) / ((m:Int)+1):=Int.tdiv_eq_ediv_of_nonneg (by omega)
     have e2:=Int.ediv_nonneg (a:=a.v ρ) (b:=(m:Int)+1) (by omega) (by omega)
     have e3:(a.v ρ) / ((m:Int)+1)≤a.v ρ:=Int.ediv_le_self _ (by omega)
     have e4:=Int.mul_ediv_add_emod (a.v ρ) ((m:Int)+1)
     have e5:=Int.emod_nonneg (a.v ρ) (b:=(m:Int)+1) (by omega)
     have e6:=Int.emod_lt_of_pos (a.v ρ) (b:=(m:Int)+1) (by omega)
     have:=JZ k
     refine⟨(a.v ρ) / ((m:Int)+1),by omega,by omega,?_,⟨[],[]⟩,[(m:Int)+1≠0∧k.wrap ((a.v ρ) / ((m:Int)+1))=(a.v ρ) / ((m:Int)+1)],?_,⟨⟨by omega,E4 (by omega) (by omega)⟩,trivial⟩⟩
     ·rintro ρ' rfl
      have hn:((up ρ σ.nx (vaN ((a.v ρ) / ((m:Int)+1)))) σ.nx).n=(a.v ρ) / ((m:Int)+1):=by rw[bg];rfl
      have hav:=Lin.ag (da ρ σ.nx σ.nx (vaN ((a.v ρ) / ((m:Int)+1))) (Nat.le_refl _)) (fY hx (hs.dev x))
      refine⟨?_,?_,?_,?_,trivial⟩<;>simp only[Lin.bE,Lin.aO,Lin.bQ,Lin.bN,me,hn,hav]<;>omega
     ·unfold aop
      simp only[ho,gD,rY,hd,lk,lx,ex,ey,hbv,decide_true,arith,vB,e1,nt]
   ·cases h
  ·cases h
 ·cases h
end Go.TL
namespace Go.TL
def B7:DV→Option Bool
 | .ptr _ _=>some false
 | .pd _ _ _=>some false
 | .bn _ _ _ _=>some false
 | .p (.ej (.pointer none)) _=>some true
 |_=>none
def F4:DV→Option Bool
 | .fn _ _ _=>some false
 | .p (.ej .nilFunc) _=>some true
 |_=>none
theorem uF{ρ:Ro}{x:DV}{b:Bool}(h:B7 x=some b):vC (x.v ρ)=some b∧isInt (x.v ρ)=none∧isStr (x.v ρ)=none:=by
 unfold B7 at h
 split at h<;>first|(simp only[ZS]at h;subst h;simp[DV.v,DP.v,vC,isInt,isStr])|cases h
theorem y9{ρ:Ro}{x:DV}{b:Bool}(h:F4 x=some b):Dp (x.v ρ)=some b∧isInt (x.v ρ)=none∧isStr (x.v ρ)=none:=by
 unfold F4 at h
 split at h<;>first|(simp only[ZS]at h;subst h;simp[DV.v,DP.v,Dp,isInt,isStr])|cases h
def Hp(P:Program)(σ:DSt)(t:TypeId)(x y:Operand):Option Bool:=
 match P.underlying t with
 |some (.pointer _)=>match B7 (dev σ x),B7 (dev σ y)with
  |some p,some true=>some p
  |some true,some q=>some q
  |_,_=>none
 |some (.func _ _ _)=>match F4 (dev σ x),F4 (dev σ y)with
  |some p,some true=>some p
  |some true,some q=>some q
  |_,_=>none
 |_=>none
theorem Hq{P:Program}{σ:DSt}{ρ:Ro}{t:TypeId}{x y:Operand}{b:Bool}(h:Hp P σ t x y=some b):
  px P (σ.v ρ) t x y=some b∧isInt (ev (σ.v ρ) x)=none∧isStr (ev (σ.v ρ) x)=none:=by
 unfold Hp at h
 simp only[aK]
 split at h
 ·rename_i e hu
  split at h
  ·rename_i p hx hy
   simp only[ZS]at h;subst h
   obtain⟨a1,a2,a3⟩:=uF (ρ:=ρ) hx
   obtain⟨b1,_,_⟩:=uF (ρ:=ρ) hy
   exact⟨by simp only[px,hu,aK,a1,b1],a2,a3⟩
  ·rename_i q hn hx hy
   simp only[ZS]at h;subst h
   obtain⟨a1,a2,a3⟩:=uF (ρ:=ρ) hx
   obtain⟨b1,_,_⟩:=uF (ρ:=ρ) hy
   refine⟨?_,a2,a3⟩
   simp only[px,hu,aK,a1,b1]
  ·cases h
 ·rename_i hu
  split at h
  ·rename_i p hx hy
   simp only[ZS]at h;subst h
   obtain⟨a1,a2,a3⟩:=y9 (ρ:=ρ) hx
   obtain⟨b1,_,_⟩:=y9 (ρ:=ρ) hy
   exact⟨by simp only[px,hu,aK,a1,b1],a2,a3⟩
  ·rename_i q hn hx hy
   simp only[ZS]at h;subst h
   obtain⟨a1,a2,a3⟩:=y9 (ρ:=ρ) hx
   obtain⟨b1,_,_⟩:=y9 (ρ:=ρ) hy
   refine⟨?_,a2,a3⟩
   simp only[px,hu,aK,a1,b1]
  ·cases h
 ·cases h
def Ob(s r:SE)(n:Nat):List Lin:=[((Lin.at (4*n+3)).ax (-1) (dK s)).ax (-1) (dK r),((dK s).ax 1 (dK r)).ax (-1) (Lin.at (4*n+3))]
def Hr(σ:DSt)(o:Oper)(op:BinOp)(s r:SE):DR:=
 match op with
 | .add=>some ((σ.grow 1 [] (Ob s r σ.nx) [.cat σ.nx s r]).put o.dst (.p (.st (.var σ.nx)) true),[.le (((dK s).ax 1 (dK r)).aN (-1073741824))])
 | .eql=>match s,r with
  | .lit a,.lit b=>some (σ.put o.dst (.p (.bl (.lit (rE a b))) true),[])
  |_,_=>some ((σ.grow 1 [] [] []).put o.dst (.p (.bl (.var σ.nx)) true),[])
 | .neq=>match s,r with
  | .lit a,.lit b=>some (σ.put o.dst (.p (.bl (.lit (!rE a b))) true),[])
  |_,_=>some ((σ.grow 1 [] [] []).put o.dst (.p (.bl (.var σ.nx)) true),[])
 | .lss| .leq| .gtr| .geq=>some ((σ.grow 1 [] [] []).put o.dst (.p (.bl (.var σ.nx)) true),[])
 |_=>none
theorem qP:∀a b:List UInt8,rE a b=(a==b)
 | [],[]=>rfl
 |a::r,b::s=>by
  simp only[rE]
  cases hb:Nat.beq a.toNat b.toNat with
  |true=>
   have:a=b:=UInt8.toNat_inj.1 (ZU hb)
   subst this
   simp[qP r s]
  |false=>
   have:a≠b:=fun e=>by subst e;simp at hb
   simp[this]
 | [],_::_=>rfl
 |_::_,[]=>rfl
theorem J0{P:Program}{H:Hint}{s:St}{o:Oper}{op:BinOp}{t t':TypeId}{x y:Operand}{a b:ByteArray}(ho:o.op= .binOp op t x y t')(hx:isStr (ev s x)=some a)(hy:isStr (ev s y)=some b)(hi:isInt (ev s x)=none)
  (c:Bool)(hc:qf op a b=some c):aop P H s o=some (s.put o.dst (.p (.v (.bool c)) true),[]):=by
 have har:gD op=false:=by cases op<;>simp[qf]at hc<;>rfl
 unfold aop
 simp only[ho,har,lx,hi,hx,hy,hc,tr]
theorem Jf{P:Program}{I:Pr}{σ σ':DSt}{o:Oper}{op:BinOp}{t t':TypeId}{x y:Operand}{s r:SE}{gs:List G}(ho:o.op= .binOp op t x y t')
  (hx:x3 (dev σ x)=some s)(hy:x3 (dev σ y)=some r)(h:Hr σ o op s r=some (σ',gs)):Good P I σ o σ' gs:=by
 have ex:∀ρ,isStr (ev (σ.v ρ) x)=some (s.v ρ):=fun ρ=>by rw[aK];exact(Hn hx).1
 have ei:∀ρ,isInt (ev (σ.v ρ) x)=none:=fun ρ=>by rw[aK];exact(Hn hx).2
 have ey:∀ρ,isStr (ev (σ.v ρ) y)=some (r.v ρ):=fun ρ=>by rw[aK];exact(Hn hy).1
 have kB:(∀a b,∃c,qf op a b=some c)→Good P I σ o ((σ.grow 1 [] [] []).put o.dst (.p (.bl (.var σ.nx)) true)) []:=by
  intro hc
  refine N9 fun ρ hs ab _=>?_
  obtain⟨c,hc⟩:=hc (s.v ρ) (r.v ρ)
  exact⟨c,⟨[],[]⟩,[],J0 ho (ex ρ) (ey ρ) (ei ρ) c hc,trivial⟩
 have litB:∀(c:Bool),(∀ρ,qf op (s.v ρ) (r.v ρ)=some c)→Good P I σ o (σ.put o.dst (.p (.bl (.lit c)) true)) []:=by
  intro c hc
  refine bS (fun hs=>by simp[DV.vars,DP.vars,BF.vars,Sc.nil]) fun ρ hs ab _=>⟨⟨[],[]⟩,[],?_,trivial⟩
  rw[J0 ho (ex ρ) (ey ρ) (ei ρ) c (hc ρ)]
  simp[DV.v,DP.v,BF.v]
 unfold Hr at h
 split at h
 ·simp only[ZS,ZT]at h;obtain⟨rfl,rfl⟩:=h
  have ssc:σ.sc→Sc σ.nx s.vars:=fun hs=>JY hx (hs.dev x)
  have rsc:σ.sc→Sc σ.nx r.vars:=fun hs=>JY hy (hs.dev y)
  have nsc:Sc (σ.nx+1) (Lin.at (4*σ.nx+3)).vars:=Lin.bC (by omega)
  refine Hl (fun hs e he=>?_) (fun hs f hf=>?_) fun ρ hs ab hg=>?_
  ·simp only[Ob,List.mem_cons,List.mem_nil_iff,or_false]at he
   have a1:=(tv (ssc hs)).mono (Nat.le_succ σ.nx)
   have a2:=(tv (rsc hs)).mono (Nat.le_succ σ.nx)
   rcases he with rfl|rfl
   ·exact Lin.aE (Lin.aE nsc a1) a2
   ·exact Lin.aE (Lin.aE a1 a2) nsc
  ·simp only[List.mem_singleton]at hf;subst hf
   simp only[PF.vars,Sc.cons,Sc.app]
   exact⟨Nat.lt_succ_self _,(ssc hs).mono (Nat.le_succ _),(rsc hs).mono (Nat.le_succ _)⟩
  ·simp only[gsV,G.v,Lin.aO,Lin.bQ,mS,and_true]at hg
   have bf:(s.v ρ++r.v ρ).size=(s.v ρ).size+(r.v ρ).size:=ByteArray.size_append
   refine⟨s.v ρ++r.v ρ,by rw[bf];unfold cu;omega,?_,⟨[],[]⟩,[(s.v ρ).size+(r.v ρ).size≤4611686018427387904],?_,⟨by omega,trivial⟩⟩
   ·rintro ρ' rfl
    have ha:=da ρ σ.nx σ.nx (vaS (s.v ρ++r.v ρ)) (Nat.le_refl _)
    have hn:((up ρ σ.nx (vaS (s.v ρ++r.v ρ))) σ.nx).s=s.v ρ++r.v ρ:=by rw[bg];rfl
    have e1:=SE.ag ha (ssc hs)
    have e2:=SE.ag ha (rsc hs)
    refine⟨⟨?_,?_,trivial⟩,⟨?_,trivial⟩⟩
    ·simp only[Lin.bQ,Lin.bN,mf,mS,hn,e1,e2,bf];omega
    ·simp only[Lin.bQ,Lin.bN,mf,mS,hn,e1,e2,bf];omega
    ·simp only[PF.v,hn,e1,e2]
   ·unfold aop
    simp only[ho,gD,rY,lx,ei,ex,ey,qf]
    cases o.dst with
    |none=>rfl
    |some d=>simp[lk,nt]
 ·split at h
  ·rename_i a b
   simp only[ZS,ZT]at h;obtain⟨rfl,rfl⟩:=h
   exact litB _ fun ρ=>by simp[qf,SE.v,qP]
  ·simp only[ZS,ZT]at h;obtain⟨rfl,rfl⟩:=h
   exact kB fun a b=>⟨_,rfl⟩
 ·split at h
  ·rename_i a b
   simp only[ZS,ZT]at h;obtain⟨rfl,rfl⟩:=h
   exact litB _ fun ρ=>by simp[qf,SE.v,qP]
  ·simp only[ZS,ZT]at h;obtain⟨rfl,rfl⟩:=h
   exact kB fun a b=>⟨_,rfl⟩
 ·simp only[ZS,ZT]at h;obtain⟨rfl,rfl⟩:=h
  exact kB fun a b=>⟨_,rfl⟩
 ·simp only[ZS,ZT]at h;obtain⟨rfl,rfl⟩:=h
  exact kB fun a b=>⟨_,rfl⟩
 ·simp only[ZS,ZT]at h;obtain⟨rfl,rfl⟩:=h
  exact kB fun a b=>⟨_,rfl⟩
 ·simp only[ZS,ZT]at h;obtain⟨rfl,rfl⟩:=h
  exact kB fun a b=>⟨_,rfl⟩
 ·cases h
def Qu(P:Program)(σ:DSt)(o:Oper)(op:BinOp)(t:TypeId)(x y:Operand):DR:=
 match jn (dev σ x),jn (dev σ y),o.dst with
 |some (k,a),some (k',b),some _=>match decide (k=k')with
  |true=>match y8 op a b with
   |some f=>some (σ.put o.dst (.p (.bl (B6 f)) true),[])
   |none=>match op with
    | .rem=>Lj σ o .rem k a b
    | .quo=>Lj σ o .quo k a b
    |op=>Ho σ o op k a b
  |false=>none
 |_,_,_=>match x3 (dev σ x),x3 (dev σ y)with
  |some s,some r=>Hr σ o op s r
  |_,_=>match Hp P σ t x y,op with
   |some b,.eql=>some (σ.put o.dst (.p (.bl (.lit b)) true),[])
   |some b,.neq=>some (σ.put o.dst (.p (.bl (.lit (!b))) true),[])
   |_,_=>none
theorem Oc{P:Program}{I:Pr}{σ σ':DSt}{o:Oper}{op:BinOp}{t t':TypeId}{x y:Operand}{gs:List G}(ho:o.op= .binOp op t x y t')(h:Qu P σ o op t x y=some (σ',gs)):Good P I σ o σ' gs:=by
 unfold Qu at h
 split at h
 ·rename_i k a k' b d hx hy hd
  split at h
  ·rename_i hk
   have:=of_decide_eq_true hk;subst this
   split at h
   ·rename_i f hf
    simp only[ZS,ZT]at h;obtain⟨rfl,rfl⟩:=h
    refine bS (fun hs=>by simp only[DV.vars,DP.vars];exact Qs (Qr hf (fY hx (hs.dev x)) (fY hy (hs.dev y)))) fun ρ hs ab _=>⟨⟨[],[]⟩,[],?_,trivial⟩
    have ex:isInt (ev (σ.v ρ) x)=some (k,a.v ρ):=by rw[aK];exact(gk hx).1
    have ey:isInt (ev (σ.v ρ) y)=some (k,b.v ρ):=by rw[aK];exact(gk hy).1
    have har:gD op=false∧arith op (a.v ρ) (b.v ρ)=none:=by cases op<;>simp[y8]at hf<;>exact⟨rfl,rfl⟩
    unfold aop
    simp only[ho,har.1,lx,ex,ey,decide_true,har.2,Tg hf,tr]
    simp[DV.v,DP.v,Tj]
   ·split at h
    ·exact E6 d hd ho hx hy h
    ·exact E6 d hd ho hx hy h
    ·exact Je d hd ho hx hy h
  ·cases h
 ·split at h
  ·rename_i s r hs hr;exact Jf ho hs hr h
  ·split at h
   ·rename_i b hb
    simp only[ZS,ZT]at h;obtain⟨rfl,rfl⟩:=h
    refine bS (fun hs=>by simp[DV.vars,DP.vars,BF.vars,Sc.nil]) fun ρ hs ab _=>⟨⟨[],[]⟩,[],?_,trivial⟩
    obtain⟨h1,h2,h3⟩:=Hq (ρ:=ρ) hb
    unfold aop
    simp only[ho,gD,lx,h2,h3,vD,h1,tr]
    simp[DV.v,DP.v,BF.v]
   ·rename_i b hb
    simp only[ZS,ZT]at h;obtain⟨rfl,rfl⟩:=h
    refine bS (fun hs=>by simp[DV.vars,DP.vars,BF.vars,Sc.nil]) fun ρ hs ab _=>⟨⟨[],[]⟩,[],?_,trivial⟩
    obtain⟨h1,h2,h3⟩:=Hq (ρ:=ρ) hb
    unfold aop
    simp only[ho,gD,lx,h2,h3,vD,h1,tr]
    simp[DV.v,DP.v,BF.v]
   ·cases h
def dUn(σ:DSt)(o:Oper)(op:UnOp)(x:Operand):DR:=
 match op,dev σ x with
 | .not,.p (.bl (.lit b)) _=>some (σ.put o.dst (.p (.bl (.lit (!b))) true),[])
 | .not,.p (.bl f) _=>some (σ.put o.dst (.p (.bl (.not f)) true),[])
 | .neg,.p (.int k e) _=>match B5 σ k (Lin.scale (-1) e)with
  |true=>some (σ.put o.dst (.p (.int k (Lin.scale (-1) e)) true),[])
  |false=>none
 |_,_=>none
theorem Qv{P:Program}{I:Pr}{σ σ':DSt}{o:Oper}{op:UnOp}{t:TypeId}{x:Operand}{gs:List G}(ho:o.op= .unOp op t x)(h:dUn σ o op x=some (σ',gs)):Good P I σ o σ' gs:=by
 unfold dUn at h
 split at h
 ·rename_i b fr he
  simp only[ZS,ZT]at h;obtain⟨rfl,rfl⟩:=h
  refine bS (fun hs=>by simp[DV.vars,DP.vars,BF.vars,Sc.nil]) fun ρ hs ab _=>⟨⟨[],[]⟩,[],?_,trivial⟩
  simp[aop,ho,xA,aK,he,DV.v,DP.v,BF.v,tr]
 ·rename_i f fr _ he
  simp only[ZS,ZT]at h;obtain⟨rfl,rfl⟩:=h
  refine bS (fun hs=>by have:=hs.dev x;rw[he]at this;simpa[DV.vars,DP.vars,BF.vars]using this) fun ρ hs ab _=>⟨⟨[],[]⟩,[],?_,trivial⟩
  simp[aop,ho,xA,aK,he,DV.v,DP.v,BF.v,tr]
 ·rename_i k e fr he
  split at h
  ·rename_i hf
   simp only[ZS,ZT]at h;obtain⟨rfl,rfl⟩:=h
   refine bS (fun hs=>by have:=hs.dev x;rw[he]at this;simp only[DV.vars,DP.vars]at this ⊢;exact Lin.dW this) fun ρ hs ab _=>?_
   have h1:=DM ab hf
   have e2:(Lin.scale (-1) e).v ρ=0 - e.v ρ:=by rw[Lin.bE];omega
   rw[e2]at h1
   refine⟨⟨[],[]⟩,[k.wrap (0 - e.v ρ)=0 - e.v ρ],?_,⟨h1,trivial⟩⟩
   simp only[aop,ho,xA,aK,he,DV.v,DP.v,nt,e2]
  ·cases h
 ·cases h
def Lk(P:Program)(σ:DSt)(o:Oper)(src dst:TypeId)(x:Operand):DR:=
 match dev σ x,P.underlying src,P.underlying dst with
 | .p (.int _ e) _,some _,some (.int k)=>match B5 σ k e with
  |true=>some (σ.put o.dst (.p (.int k e) true),[])
  |false=>none
 | .p (.st s) _,some _,some .string=>some (σ.put o.dst (.p (.st s) true),[])
 |_,_,_=>none
theorem Ll{P:Program}{I:Pr}{σ σ':DSt}{o:Oper}{src dst:TypeId}{x:Operand}{gs:List G}(ho:o.op= .convert src dst x)(h:Lk P σ o src dst x=some (σ',gs)):Good P I σ o σ' gs:=by
 unfold Lk at h
 split at h
 ·rename_i k' e fr d k he hs1 hd
  split at h
  ·rename_i hf
   simp only[ZS,ZT]at h;obtain⟨rfl,rfl⟩:=h
   refine bS (fun hs=>by have:=hs.dev x;rw[he]at this;simpa[DV.vars,DP.vars]using this) fun ρ hs ab _=>?_
   refine⟨⟨[],[]⟩,[k.wrap (e.v ρ)=e.v ρ],?_,⟨DM ab hf,trivial⟩⟩
   simp[aop,ho,xB,aK,he,DV.v,DP.v,hs1,hd,nt]
  ·cases h
 ·rename_i s fr d he hs1 hd
  simp only[ZS,ZT]at h;obtain⟨rfl,rfl⟩:=h
  refine bS (fun hs=>by have:=hs.dev x;rw[he]at this;simpa[DV.vars,DP.vars]using this) fun ρ hs ab _=>⟨⟨[],[]⟩,[True],?_,⟨trivial,trivial⟩⟩
  simp[aop,ho,xB,aK,he,DV.v,DP.v,hs1,hd,nt]
 ·cases h
end Go.TL
namespace Go.TL
theorem E7{P:Program}{I:Pr}{σ:DSt}{o:Oper}{gs:List G}{e:TypeId}{lin:List Lin}{prs:List PF}{mk:LV→DV}(hmk:∀n l,Sc n (a8 l)→Sc n (mk l).vars)
  (hl:σ.sc→∀e∈lin,Sc (σ.nx+1) e.vars)(hp:σ.sc→∀f∈prs,Sc (σ.nx+1) f.vars)
  (h:∀ρ,σ.sc→σ.ok P I ρ→gsV I ρ gs→∃z:List (List PV),bK P e z∧(∀ρ',ρ'=up ρ σ.nx (vaL z)→au σ.nx ρ ρ'→(ρ' σ.nx).l=z→bh ρ' lin∧c5 I ρ' prs∧
   ∃(H:Hint) (ps:List Prop),aop P H (σ.v ρ) o=some ((σ.v ρ).put o.dst ((mk (some σ.nx)).v ρ'),ps)∧lM ps)):
  Good P I σ o ((σ.grow 1 [(σ.nx,e)] lin prs).put o.dst (mk (some σ.nx))) gs:=by
 refine oJ (fun hs=>hmk _ _ (by simp only[a8,Sc.cons];exact⟨Nat.lt_succ_self _,Sc.nil⟩)) (fun hs=>⟨by simp,hl hs,hp hs⟩) ?_
 intro ρ hs ab hg
 obtain⟨z,h1,h3⟩:=h ρ hs ab hg
 have hn:(up ρ σ.nx (vaL z) σ.nx).l=z:=by rw[bg];rfl
 obtain⟨q1,q2,H,ps,h4,h5⟩:=h3 _ rfl (da _ _ _ _ (Nat.le_refl _)) hn
 exact⟨up ρ σ.nx (vaL z),da _ _ _ _ (Nat.le_refl _),ab.g.up _ (jU h1.len),⟨by rw[hn];exact h1,trivial⟩,q1,q2,H,ps,h4,h5⟩
def bJ:LV→Lin
 |none=>Lin.lit 0
 |some l=>Lin.at (4*l+1)
def gL:LV→Lin
 |none=>Lin.lit 0
 |some l=>Lin.at (4*l+2)
theorem eG(ρ:Ro)(l:LV):(bJ l).v ρ=((lvV ρ l).length:Int):=by
 cases l with
 |none=>simp[bJ,Lin.cT,lvV]
 |some k=>simp[bJ,Lin.bN,dI,lvV]
theorem nq(ρ:Ro)(l:LV):(gL l).v ρ=(rsz (lvV ρ l):Int):=by
 cases l with
 |none=>simp[gL,Lin.cT,lvV,rsz]
 |some k=>simp[gL,Lin.bN,fa,lvV]
theorem dX{n:Nat}{l:LV}(h:Sc n (a8 l)):Sc n (bJ l).vars:=by
 cases l with
 |none=>exact Lin.eg
 |some k=>simp only[a8,Sc.cons]at h;exact Lin.bC (by omega)
theorem jN{n:Nat}{l:LV}(h:Sc n (a8 l)):Sc n (gL l).vars:=by
 cases l with
 |none=>exact Lin.eg
 |some k=>simp only[a8,Sc.cons]at h;exact Lin.bC (by omega)
def isSlice(P:Program)(t:TypeId):Bool:=match P.underlying t with|some (.slice _)=>true|_=>false
def isString(P:Program)(t:TypeId):Bool:=match P.underlying t with|some .string=>true|_=>false
theorem qQ{P:Program}{t:TypeId}(h:isSlice P t=true):∃e,P.underlying t=some (.slice e):=by
 unfold isSlice at h;split at h
 ·rename_i e hu;exact⟨e,hu⟩
 ·cases h
theorem Jg{P:Program}{t:TypeId}(h:isString P t=true):P.underlying t=some .string:=by
 unfold isString at h;split at h
 ·assumption
 ·cases h
def Hs(P:Program)(σ:DSt)(t:TypeId):DV→Option Lin
 | .vec k=>match lk σ.tab k,isSlice P t with
  |some (.vec _ _ l _),true=>some (bJ l)
  |_,_=>none
 | .p (.sl l) _=>match isSlice P t with|true=>some (bJ l)|false=>none
 | .pc l _=>match isSlice P t with|true=>some (bJ l)|false=>none
 | .p .nl _=>match isSlice P t with|true=>some (Lin.lit 0)|false=>none
 | .p (.st s) _=>match isString P t with|true=>some (dK s)|false=>none
 |_=>none
theorem VE{P:Program}{σ:DSt}{t:TypeId}{x:DV}{e:Lin}(ρ:Ro)(h:Hs P σ t x=some e):∃n:Nat,lenOf P (σ.v ρ).tab t (x.v ρ)=some n∧e.v ρ=(n:Int):=by
 unfold Hs at h
 split at h
 ·rename_i k
  split at h
  ·rename_i et sz l fr hk hs
   simp only[ZS]at h;subst h
   obtain⟨e',hu⟩:=qQ hs
   exact⟨_,by simp only[DV.v,lenOf,dJ hk,DO.v,hu],eG ρ l⟩
  ·cases h
 ·rename_i l fr
  split at h
  ·rename_i hs
   simp only[ZS]at h;subst h
   obtain⟨e',hu⟩:=qQ hs
   exact⟨_,by simp only[DV.v,DP.v,lenOf,hu],eG ρ l⟩
  ·cases h
 ·rename_i l fr
  split at h
  ·rename_i hs
   simp only[ZS]at h;subst h
   obtain⟨e',hu⟩:=qQ hs
   exact⟨_,by simp only[DV.v,lenOf,hu],eG ρ l⟩
  ·cases h
 ·split at h
  ·rename_i hs
   simp only[ZS]at h;subst h
   obtain⟨e',hu⟩:=qQ hs
   exact⟨0,by simp only[DV.v,DP.v,lenOf,hu],by simp[Lin.cT]⟩
  ·cases h
 ·rename_i s fr
  split at h
  ·rename_i hs
   simp only[ZS]at h;subst h
   exact⟨_,by simp only[DV.v,DP.v,lenOf,Jg hs],mS ρ s⟩
  ·cases h
 ·cases h
theorem Tk{P:Program}{σ:DSt}(hs:σ.sc){t:TypeId}{x:DV}{e:Lin}(hx:Sc σ.nx x.vars)(h:Hs P σ t x=some e):Sc σ.nx e.vars:=by
 unfold Hs at h
 split at h
 ·split at h
  ·rename_i hk _
   simp only[ZS]at h;subst h
   exact dX (by have:=hs.tab _ _ hk;simpa[DO.vars]using this)
  ·cases h
 ·split at h
  ·simp only[ZS]at h;subst h;exact dX (by simpa[DV.vars,DP.vars]using hx)
  ·cases h
 ·split at h
  ·simp only[ZS]at h;subst h;exact dX (by simpa[DV.vars]using hx)
  ·cases h
 ·split at h
  ·simp only[ZS]at h;subst h;exact Lin.eg
  ·cases h
 ·split at h
  ·simp only[ZS]at h;subst h;exact tv (by simpa[DV.vars,DP.vars]using hx)
  ·cases h
 ·cases h
def Qw(P:Program)(σ:DSt)(o:Oper)(x:Operand)(t:TypeId):DR:=
 match Hs P σ t (dev σ x)with
 |some e=>some (σ.put o.dst (.p (.int .i64 e) true),[])
 |none=>none
theorem Oe{P:Program}{I:Pr}{σ σ':DSt}{o:Oper}{x:Operand}{t:TypeId}{gs:List G}(ho:o.op= .call {callee:= .builtin .len,args:= #[x],argTypes:= #[t]})
  (h:Qw P σ o x t=some (σ',gs)):Good P I σ o σ' gs:=by
 unfold Qw at h
 split at h
 ·rename_i e he
  simp only[ZS,ZT]at h;obtain⟨rfl,rfl⟩:=h
  refine bS (fun hs=>by simpa[DV.vars,DP.vars]using Tk hs (hs.dev x) he) fun ρ hs ab _=>⟨⟨[],[]⟩,[],?_,trivial⟩
  obtain⟨n,h1,h2⟩:=VE ρ he
  simp[aop,ho,FV,aK,h1,tr,DV.v,DP.v,h2]
 ·cases h
def Ht(P:Program)(σ:DSt)(o:Oper)(t:TypeId)(x ix:Operand):DR:=
 match jn (dev σ ix)with
 |some (_,n)=>match dev σ x,P.underlying t with
  | .agg xs,some (.array len e)=>match n.t,n.c,P.info? e with
   | [],.ofNat m,some i=>match Nat.ble (m+1) len,gG P e (m*i.size) xs with
    |true,some v=>some (σ.put o.dst v,[])
    |_,_=>none
   |_,_,_=>none
  | .p (.st s) _,some .string=>some ((σ.grow 1 [] (oM .u8 σ.nx++ []) []).put o.dst (.p (.int .u8 (Lin.at (4*σ.nx))) true),[pV n,.le ((n.ax (-1) (dK s)).aN 1)])
  |_,_=>none
 |none=>none
theorem Jh{P:Program}{I:Pr}{σ σ':DSt}{o:Oper}{t:TypeId}{x ix:Operand}{gs:List G}(ho:o.op= .index t x ix)(h:Ht P σ o t x ix=some (σ',gs)):Good P I σ o σ' gs:=by
 unfold Ht at h
 split at h
 ·rename_i kk n hn
  have hiv:∀ρ,intOf (ev (σ.v ρ) ix)=some (n.v ρ):=fun ρ=>by rw[aK];exact(gk hn).2
  split at h
  ·rename_i xs len e he hu
   have e1:∀ρ,ev (σ.v ρ) x= .agg (dvs ρ xs):=fun ρ=>by rw[aK,he];simp[DV.v]
   split at h
   ·rename_i m i ht hc hi
    split at h
    ·rename_i v hm hv
     simp only[ZS,ZT]at h;obtain⟨rfl,rfl⟩:=h
     refine bS (fun hs=>j5 (by have:=hs.dev x;rw[he]at this;simpa[DV.vars]using this) hv) fun ρ hs ab hg=>⟨⟨[],[]⟩,[],?_,trivial⟩
     have hvv:n.v ρ=Int.ofNat m:=by unfold Lin.v;rw[ht,hc];simp[bZ]
     unfold aop
     simp[ho,e1,mZ,hiv,hvv,hu,uc,hi,hm,rp,jL,hv,tr]
    ·cases h
   ·cases h
  ·rename_i s fr he hu
   have e1:∀ρ,ev (σ.v ρ) x= .p (.v (.string (s.v ρ))) fr:=fun ρ=>by rw[aK,he];simp[DV.v,DP.v]
   simp only[ZS,ZT]at h;obtain⟨rfl,rfl⟩:=h
   refine oN rfl (by simp) fun ρ hs ab hg=>?_
   simp only[pV,gsV,G.v,Lin.bE,Lin.aO,Lin.bQ,mS,and_true]at hg
   have hb:=UInt8.toNat_lt ((s.v ρ).data.toList.getD (n.v ρ).toNat 0)
   refine⟨(((s.v ρ).data.toList.getD (n.v ρ).toNat 0).toNat:Int),by have e:IntKind.u8.min=0:=(by decide);rw[e];omega,by have e:IntKind.u8.max=255:=(by decide);rw[e];omega,fun _ _=>trivial,⟨[],[]⟩,[0≤n.v ρ∧n.v ρ<((s.v ρ).size:Int)],?_,⟨⟨by omega,by omega⟩,trivial⟩⟩
   unfold aop
   simp[ho,e1,mZ,hiv,hu,nt]
  ·cases h
 ·cases h
def wj(σ:DSt):Option Operand→Option (Option Lin)
 |none=>some none
 |some x=>match jn (dev σ x)with
  |some (_,e)=>some (some e)
  |none=>none
def dlo:Option Lin→Lin
 |some e=>e
 |none=>Lin.lit 0
def dhi(len:Lin):Option Lin→Lin
 |some e=>e
 |none=>len
def DN(len:Lin)(l h:Option Lin):List G:=[pV (dlo l),.le ((dlo l).ax (-1) (dhi len h)),.le ((dhi len h).ax (-1) len)]
theorem sA{σ:DSt}{x:Option Operand}{l:Option Lin}(ρ:Ro)(h:wj σ x=some l):lV (σ.v ρ) x=some (l.map (Lin.v ρ)):=by
 unfold wj at h
 split at h
 ·simp only[ZS]at h;subst h;rfl
 ·split at h
  ·rename_i k e he
   simp only[ZS]at h;subst h
   simp[lV,aK,(gk he).2]
  ·cases h
theorem uG{σ:DSt}(hs:σ.sc){x:Option Operand}{l:Option Lin}(h:wj σ x=some l):∀e,l=some e→Sc σ.nx e.vars:=by
 unfold wj at h
 split at h
 ·simp only[ZS]at h;subst h;simp
 ·split at h
  ·rename_i k e he
   simp only[ZS]at h;subst h
   intro e' e2;simp only[ZS]at e2;subst e2
   exact fY he (hs.dev _)
  ·cases h
theorem Hu{n:Nat}{l:Option Lin}(h:∀e,l=some e→Sc n e.vars):Sc n (dlo l).vars:=by
 cases l with
 |none=>exact Lin.eg
 |some e=>exact h e rfl
theorem Of{n:Nat}{len:Lin}{l:Option Lin}(hl:Sc n len.vars)(h:∀e,l=some e→Sc n e.vars):Sc n (dhi len l).vars:=by
 cases l with
 |none=>exact hl
 |some e=>exact h e rfl
theorem B8{I:Pr}{ρ:Ro}{len:Lin}{n:Nat}{l h:Option Lin}(hn:len.v ρ=(n:Int))(hg:gsV I ρ (DN len l h)):
  kj n (l.map (Lin.v ρ)) (h.map (Lin.v ρ))∧0≤(dlo l).v ρ∧(dlo l).v ρ≤(dhi len h).v ρ∧(dhi len h).v ρ≤(n:Int)∧cd (l.map (Lin.v ρ))=((dlo l).v ρ).toNat∧dE n (h.map (Lin.v ρ))=((dhi len h).v ρ).toNat:=by
 simp only[DN,pV,gsV,G.v,Lin.bE,Lin.bQ,and_true,hn]at hg
 obtain⟨a1,a2,a3⟩:=hg
 refine⟨?_,by omega,by omega,by omega,?_,?_⟩
 ·cases l<;>cases h<;>simp only[dlo,dhi,Lin.cT,hn]at a1 a2 a3<;>simp only[kj,Option.map_none,Option.map_some]<;>refine⟨?_,?_,?_⟩<;>first|trivial|omega|(constructor<;>omega)
 ·cases l<;>simp[cd,dlo,Lin.cT]
 ·cases h<;>simp[dE,dhi,hn]
def uH(n:Nat)(lo hi:Lin)(l:LV):List Lin:=
 [((Lin.at (4*n+1)).ax (-1) hi).ax 1 lo,((hi.ax (-1) lo).ax (-1) (Lin.at (4*n+1))),(Lin.at (4*n+2)).ax (-1) (gL l)]
theorem Af(rows:List (List PV))(n:Nat):rsz (rows.take n)≤rsz rows:=by
 induction rows generalizing n with
 |nil=>simp
 |cons x xs ih=>cases n with
  |zero=>simp[rsz]
  |succ n=>simp only[List.take_succ_cons,eY];have:=ih n;omega
def pW(P:Program)(σ:DSt)(e:TypeId)(i:TypeInfo):LV→Bool
 |none=>true
 |some l=>match lk σ.tys l with
  |some e'=>match Nat.beq e e' with|true=>Nat.beq (cks P e).length i.size|false=>false
  |none=>false
theorem oO{P:Program}{I:Pr}{σ:DSt}{ρ:Ro}{e:TypeId}{i:TypeInfo}{l:LV}(ab:σ.ok P I ρ)(h:pW P σ e i l=true):bK P e (lvV ρ l)∧∀row∈lvV ρ l,row.length=i.size:=by
 cases l with
 |none=>exact⟨bK.nil,by simp[lvV]⟩
 |some l=>
  simp only[pW]at h
  split at h
  ·rename_i e' hl
   split at h
   ·rename_i hb
    have:=ZU hb;subst this
    have ht:=eE ab.tys hl
    exact⟨ht,ht.2.len (ZU h)⟩
   ·cases h
  ·cases h
def za(P:Program)(σ:DSt)(o:Oper)(e:TypeId)(i:TypeInfo)(l:LV)(fr:Bool)(lo hi:Option Lin):DR:=
 match pW P σ e i l,l with
 |true,some k=>some ((σ.grow 1 [(σ.nx,e)] (uH σ.nx (dlo lo) (dhi (bJ l) hi) l) [.sub σ.nx k (dlo lo) (dhi (bJ l) hi)]).put o.dst (.p (.sl (some σ.nx)) fr),DN (bJ l) lo hi)
 |_,_=>none
def Lm:SE→Bool
 | .lit b=>Nat.ble b.length 1073741824
 | .var _=>true
theorem Og{ρ:Ro}(hg:Gok ρ){s:SE}(h:Lm s=true):(s.v ρ).size≤cu:=by
 cases s with
 |lit b=>have:=ZX h;simpa[SE.v,ByteArray.size,cu]using this
 |var k=>exact hg.st k
def B9(P:Program)(σ:DSt)(o:Oper)(t:TypeId)(x:Operand)(lo hi:Option Operand):DR:=
 match wj σ lo,wj σ hi with
 |some l,some h=>match dev σ x,P.underlying t with
  | .p (.sl k) fr,some (.slice e)=>match P.info? e with
   |some i=>za P σ o e i k fr l h
   |none=>none
  | .pc k fr,some (.slice e)=>match P.info? e with
   |some i=>za P σ o e i k fr l h
   |none=>none
  | .p .nl _,some (.slice e)=>match P.info? e with
   |some _=>some (σ.put o.dst (.p .nl true),DN (Lin.lit 0) l h)
   |none=>none
  | .p (.st s) _,some .string=>match Lm s with
   |false=>none
   |true=>some ((σ.grow 1 [] [((Lin.at (4*σ.nx+3)).ax (-1) (dhi (dK s) h)).ax 1 (dlo l),((dhi (dK s) h).ax (-1) (dlo l)).ax (-1) (Lin.at (4*σ.nx+3))] []).put o.dst (.p (.st (.var σ.nx)) true),DN (dK s) l h)
  |_,_=>none
 |_,_=>none
theorem x4{P:Program}{H:Hint}{s:St}{o:Oper}{t:TypeId}{x:Operand}{lo hi:Option Operand}{r:St×Prop}(ho:o.op= .slice t x lo hi none)(hv:∀k,ev s x≠ .vec k)(h:jj P s o t x lo hi none=some r)(hp:r.2):
  ∃ps,aop P H s o=some (r.1,ps)∧lM ps:=by
 obtain⟨s',p⟩:=r
 refine⟨[p],?_,⟨hp,trivial⟩⟩
 unfold aop
 cases lo with
 |none=>cases hi with
  |none=>simp only[ho,h,nt]
  |some hh=>
   simp only[ho]
   cases he:ev s x with
   |vec k=>exact absurd he (hv k)
   |_=>simp only[h,nt]
 |some ll=>cases hi<;>simp only[ho,h,nt]
theorem E8{_ρ:Ro}{_I:Pr}{rows:List (List PV)}{a b:Int}(h0:0≤a)(h1:a≤b)(h2:b≤(rows.length:Int)):
  (((rows.take b.toNat).drop a.toNat).length:Int)=b - a∧rsz ((rows.take b.toNat).drop a.toNat)≤rsz rows:=by
 refine⟨?_,Nat.le_trans (I7 _ _) (Af _ _)⟩
 rw[List.length_drop,List.length_take];omega
theorem x5{P:Program}{I:Pr}{σ σ':DSt}{o:Oper}{t:TypeId}{x:Operand}{lo hi:Option Operand}{l h:Option Lin}{e:TypeId}{i:TypeInfo}{k:LV}{fr:Bool}{gs:List G}(ho:o.op= .slice t x lo hi none)
  (aR:wj σ lo=some l)(hhi:wj σ hi=some h)(hu:P.underlying t=some (.slice e))(ea:P.info? e=some i)
  (hx:dev σ x= .p (.sl k) fr∨dev σ x= .pc k fr)(hd:za P σ o e i k fr l h=some (σ',gs)):Good P I σ o σ' gs:=by
 unfold za at hd
 split at hd
 ·rename_i k hoke
  simp only[ZS,ZT]at hd;obtain⟨rfl,rfl⟩:=hd
  have ksc:σ.sc→k<σ.nx:=fun hs=>by
   have:=hs.dev x
   rcases hx with hx|hx<;>rw[hx]at this<;>simp only[DV.vars,DP.vars,a8,Sc.cons]at this<;>exact this.1
  have a1:σ.sc→Sc σ.nx (dlo l).vars:=fun hs=>Hu (uG hs aR)
  have a2:σ.sc→Sc σ.nx (dhi (bJ (some k)) h).vars:=fun hs=>Of (dX (by simp only[a8,Sc.cons];exact⟨ksc hs,Sc.nil⟩)) (uG hs hhi)
  refine E7 (mk:=fun l=> .p (.sl l) fr) (fun n l hl=>by simpa[DV.vars,DP.vars]using hl) (fun hs e he=>?_) (fun hs f hf=>?_) fun ρ hs ab hg=>?_
  ·have b1:=(a1 hs).mono (Nat.le_succ σ.nx)
   have b2:=(a2 hs).mono (Nat.le_succ σ.nx)
   have:=ksc hs
   simp only[uH,List.mem_cons,List.mem_nil_iff,or_false]at he
   rcases he with rfl|rfl|rfl
   ·exact Lin.aE (Lin.aE (Lin.bC (by omega)) b2) b1
   ·exact Lin.aE (Lin.aE b2 b1) (Lin.bC (by omega))
   ·exact Lin.aE (Lin.bC (by omega)) (jN (by simp only[a8,Sc.cons];exact⟨by omega,Sc.nil⟩))
  ·simp only[List.mem_singleton]at hf;subst hf
   have:=ksc hs
   simp only[PF.vars,Sc.cons,Sc.app]
   exact⟨Nat.lt_succ_self _,by omega,(a1 hs).mono (Nat.le_succ _),(a2 hs).mono (Nat.le_succ _)⟩
  ·obtain⟨ht,hlen⟩:=oO ab hoke
   obtain⟨q1,q2,q3,q4,q5,q6⟩:=B8 (n:=(ρ k).l.length) (by rw[eG];rfl) hg
   refine⟨((ρ k).l.take ((dhi (bJ (some k)) h).v ρ).toNat).drop ((dlo l).v ρ).toNat,ht.sub _ _,?_⟩
   intro ρ' hρ ha hn
   obtain⟨r1,r2⟩:=E8 (_ρ:=ρ) (_I:=I) q2 q3 q4
   have e1:=Lin.ag ha (a1 hs)
   have e2:=Lin.ag ha (a2 hs)
   have e3:ρ' k=ρ k:=ha k (ksc hs)
   refine⟨⟨?_,?_,?_,trivial⟩,⟨?_,trivial⟩,?_⟩
   ·simp only[Lin.bQ,Lin.bN,dI,hn,e1,e2];omega
   ·simp only[Lin.bQ,Lin.bN,dI,hn,e1,e2];omega
   ·simp only[Lin.bQ,Lin.bN,fa,hn,nq,lvV,e3];omega
   ·simp only[PF.v,hn,e1,e2,e3]
   ·refine⟨⟨[],[]⟩,?_⟩
    have dM:jj P (σ.v ρ) o t x lo hi none=some ((σ.v ρ).put o.dst (.p (.sl (((ρ k).l.take (dE (ρ k).l.length (h.map (Lin.v ρ)))).drop (cd (l.map (Lin.v ρ))))) fr),kj (ρ k).l.length (l.map (Lin.v ρ)) (h.map (Lin.v ρ))∧∀row∈(ρ k).l,row.length=i.size):=by
     unfold jj
     rw[sA ρ aR,sA ρ hhi,aK,hu]
     rcases hx with hx|hx<;>rw[hx]<;>simp only[DV.v,DP.v,lvV,ea]
    have hv:∀j,ev (σ.v ρ) x≠ .vec j:=fun j=>by
     rw[aK]
     rcases hx with hx|hx<;>rw[hx]<;>simp[DV.v]
    obtain⟨ps,h1,h2⟩:=x4 (H:=⟨[],[]⟩) ho hv dM ⟨q1,hlen⟩
    refine⟨ps,?_,h2⟩
    rw[h1]
    simp only[DV.v,DP.v,lvV,hn,q5,q6]
 ·cases hd
theorem Ag{P:Program}{I:Pr}{σ σ':DSt}{o:Oper}{t:TypeId}{x:Operand}{lo hi:Option Operand}{gs:List G}(ho:o.op= .slice t x lo hi none)(hd:B9 P σ o t x lo hi=some (σ',gs)):Good P I σ o σ' gs:=by
 unfold B9 at hd
 split at hd
 ·rename_i l h aR hhi
  split at hd
  ·rename_i k fr e he hu
   split at hd
   ·rename_i i ea;exact x5 ho aR hhi hu ea (.inl he) hd
   ·cases hd
  ·rename_i k fr e he hu
   split at hd
   ·rename_i i ea;exact x5 ho aR hhi hu ea (.inr he) hd
   ·cases hd
  ·rename_i fr e he hu
   split at hd
   ·rename_i i ea
    simp only[ZS,ZT]at hd;obtain⟨rfl,rfl⟩:=hd
    refine bS (fun hs=>by simp[DV.vars,DP.vars,Sc.nil]) fun ρ hs ab hg=>⟨⟨[],[]⟩,?_⟩
    obtain⟨q1,_⟩:=B8 (n:=0) (by rw[Lin.cT];rfl) hg
    have e1:ev (σ.v ρ) x= .p (.v (.slice none 0 0)) fr:=by rw[aK,he];simp[DV.v,DP.v]
    have dM:jj P (σ.v ρ) o t x lo hi none=some ((σ.v ρ).put o.dst (.p (.v (.slice none 0 0)) true),kj 0 (l.map (Lin.v ρ)) (h.map (Lin.v ρ))):=by
     unfold jj
     rw[sA ρ aR,sA ρ hhi,e1,hu]
     simp only[ea]
    obtain⟨ps,h1,h2⟩:=x4 (H:=⟨[],[]⟩) ho (by rw[e1];simp) dM q1
    exact⟨ps,by rw[h1];simp[DV.v,DP.v],h2⟩
   ·cases hd
  ·rename_i s fr he hu
   split at hd
   ·cases hd
   rename_i hsok
   simp only[ZS,ZT]at hd;obtain⟨rfl,rfl⟩:=hd
   have ssc:σ.sc→Sc σ.nx s.vars:=fun hs=>by have:=hs.dev x;rw[he]at this;simpa[DV.vars,DP.vars]using this
   have a1:σ.sc→Sc σ.nx (dlo l).vars:=fun hs=>Hu (uG hs aR)
   have a2:σ.sc→Sc σ.nx (dhi (dK s) h).vars:=fun hs=>Of (tv (ssc hs)) (uG hs hhi)
   refine Hl (fun hs e he=>?_) (by simp) fun ρ hs ab hg=>?_
   ·have b1:=(a1 hs).mono (Nat.le_succ σ.nx)
    have b2:=(a2 hs).mono (Nat.le_succ σ.nx)
    simp only[List.mem_cons,List.mem_nil_iff,or_false]at he
    rcases he with rfl|rfl
    ·exact Lin.aE (Lin.aE (Lin.bC (by omega)) b2) b1
    ·exact Lin.aE (Lin.aE b2 b1) (Lin.bC (by omega))
   ·obtain⟨q1,q2,q3,q4,q5,q6⟩:=B8 (n:=(s.v ρ).size) (mS ρ s) hg
    have bf:((s.v ρ).extract ((dlo l).v ρ).toNat ((dhi (dK s) h).v ρ).toNat).size=((dhi (dK s) h).v ρ).toNat - ((dlo l).v ρ).toNat:=by
     rw[ByteArray.size_extract];omega
    have hst:(s.v ρ).size≤cu:=Og ab.g hsok
    refine⟨(s.v ρ).extract ((dlo l).v ρ).toNat ((dhi (dK s) h).v ρ).toNat,Nat.le_trans (KR _ _ _) hst,?_,⟨[],[]⟩,?_⟩
    ·rintro ρ' rfl
     have ha:=da ρ σ.nx σ.nx (vaS ((s.v ρ).extract ((dlo l).v ρ).toNat ((dhi (dK s) h).v ρ).toNat)) (Nat.le_refl _)
     have hn:((up ρ σ.nx (vaS ((s.v ρ).extract ((dlo l).v ρ).toNat ((dhi (dK s) h).v ρ).toNat))) σ.nx).s=(s.v ρ).extract ((dlo l).v ρ).toNat ((dhi (dK s) h).v ρ).toNat:=by rw[bg];rfl
     have e1:=Lin.ag ha (a1 hs)
     have e2:=Lin.ag ha (a2 hs)
     refine⟨⟨?_,?_,trivial⟩,trivial⟩
     ·simp only[Lin.bQ,Lin.bN,mf,hn,e1,e2,bf];omega
     ·simp only[Lin.bQ,Lin.bN,mf,hn,e1,e2,bf];omega
    ·have e1:ev (σ.v ρ) x= .p (.v (.string (s.v ρ))) fr:=by rw[aK,he];simp[DV.v,DP.v]
     have dM:jj P (σ.v ρ) o t x lo hi none=some ((σ.v ρ).put o.dst (.p (.v (.string ((s.v ρ).extract (cd (l.map (Lin.v ρ))) (dE (s.v ρ).size (h.map (Lin.v ρ)))))) true),kj (s.v ρ).size (l.map (Lin.v ρ)) (h.map (Lin.v ρ))):=by
      unfold jj
      rw[sA ρ aR,sA ρ hhi,e1,hu]
     obtain⟨ps,h1,h2⟩:=x4 (H:=⟨[],[]⟩) ho (by rw[e1];simp) dM q1
     exact⟨ps,by rw[h1,q5,q6],h2⟩
  ·cases hd
 ·cases hd
end Go.TL
