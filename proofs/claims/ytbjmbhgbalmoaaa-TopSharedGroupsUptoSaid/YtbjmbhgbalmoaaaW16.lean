/- Operations on numbers, truths, strings. -/
import Derived.Test.YtbjmbhgbalmoaaaW15
import Derived.Laws.Strings
namespace Go.TL
def fuel:Nat:=8
def vq:Nat:=10
def yG(fs:List Lin)(e:Lin):Bool:=direct e fs
def ek(σ:DSt)(e:Lin):Bool:=
 match yG σ.lin e with
 |true=>true
 |false=>match kC σ.tys σ.lin e σ.hc with
  |true=>true
  |false=>(il σ.lin fuel 1 vq e).1
theorem dY{P:Program}{I:Pr}{σ:DSt}{ρ:Ro}{e:Lin}(aC:σ.ok P I ρ)(h:ek σ e=true):e.v ρ≤0:=by
 have hf:∀f∈σ.lin,f.v ρ≤0:=fun _ hf=>pL aC.lin hf
 unfold ek at h
 split at h
 ·rename_i hq;exact jX hf hq
 ·split at h
  ·rename_i hq;exact k8 aC.tys aC.g hf hq
  ·exact pQ aC.g σ.lin hf fuel 1 vq e h
def n9:SE→Lin
 | .lit b=>Lin.lit (b.length:Int)
 | .var k=>Lin.at (4*k+3)
theorem wU(ρ:Ro)(e:SE):(n9 e).v ρ=((e.v ρ).size:Int):=by
 cases e with
 |lit b=>simp[n9,Lin.dX,SE.v,ByteArray.size]
 |var k=>simp[n9,Lin.eh,lV,SE.v]
def mA:List UInt8→List UInt8→Bool
 | [],[]=>true
 |a::r,b::s=>match Nat.beq a.toNat b.toNat with|true=>mA r s|false=>false
 |_,_=>false
end Go.TL
namespace Go.TL
theorem oa:∀a b:List UInt8,mA a b=(a==b)
 | [],[]=>rfl
 |a::r,b::s=>by
  simp only[mA]
  cases hb:Nat.beq a.toNat b.toNat with
  |true=>
   have:a=b:=UInt8.toNat_inj.1 (Cv hb)
   subst this
   simp[oa r s]
  |false=>
   have:a≠b:=fun e=>by subst e;simp at hb
   simp[this]
 | [],_::_=>rfl
 |_::_,[]=>rfl
end Go.TL
namespace Go.TL
def qo:LV→Lin
 |none=>Lin.lit 0
 |some l=>Lin.at (4*l+1)
def qp:LV→Lin
 |none=>Lin.lit 0
 |some l=>Lin.at (4*l+2)
theorem yH(ρ:Ro)(l:LV):(qo l).v ρ=((lvV ρ l).length:Int):=by
 cases l with
 |none=>simp[qo,Lin.dX,lvV]
 |some k=>simp[qo,Lin.eh,zR,lvV]
theorem yI(ρ:Ro)(l:LV):(qp l).v ρ=(rsz (lvV ρ l):Int):=by
 cases l with
 |none=>simp[qp,Lin.dX,lvV,rsz]
 |some k=>simp[qp,Lin.eh,vp,lvV]
def isSlice(P:Program)(t:TypeId):Bool:=match P.underlying t with|some (.slice _)=>true|_=>false
end Go.TL
