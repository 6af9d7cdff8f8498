/- What one operation makes of the state: unary operations, conversions, nil. -/
import Derived.Test.YtbjmbhgbalmoaaaW03
import Derived.Laws.MakeOwn
namespace Go.TL
end Go.TL
namespace Go.TL
def gP:Value→Bool
 | .slice none 0 0=>true
 |_=>false
theorem kN{x:Value}(h:gP x=true):x= .slice none 0 0:=by
 unfold gP at h
 split at h
 ·rfl
 ·cases h
def zc(room:Bool)(x:Value):PV:=
 match gP x with
 |true=>match room with|true=> .rm 0 []|false=> .sl []
 |false=> .v x
theorem zl{w:World}{bad:Nat→Prop}{lo:Nat}{room:Bool}{x:Value}(h:x.oneCell'=true):Rep w bad lo (zc room x) x:=by
 unfold zc
 cases hx:gP x with
 |true=>
  have:=kN hx;subst this
  cases room with
  |true=>exact .j2
  |false=>exact .nil none 0
 |false=>exact .v x h
theorem qj(z:Array Value)(n j:Nat)(h:j<n):(madeCells z n)[j]? =some (z[j % z.size]!):=by
 simp[madeCells,h]
end Go.TL
namespace Go.TL
theorem nM{P:Program}{w:World}(t ty e:TypeId)(i:TypeInfo)(ht:P.underlying t=some (.slice e))(hi:P.info? e=some i)(g n cap:Nat)(b:Option Addr)(c:Nat)(hle:n≤cap):
  (Builtin.append_ #[t,t] ty #[.slice (some ⟨g,0,none⟩) n cap,.slice b 0 c]).run P w= .ok (.slice (some ⟨g,0,none⟩) n cap) w:=by
 cases b<;>simp[Builtin.append_,run_underlying ht,sizeOf,typeInfo,hi,Builtin.lenOf,hle,Builtin.firstCells,storeCells,loadCells,loadCellsFrom]
theorem oH{P:Program}{w:World}{len cap:Nat}{kk:IntKind}{m:Int}(h0:0≤m)(h1:m≤(cap:Int)):
  (Instr.sliceBounds true len cap none (some (.int kk m)) none).run P w= .ok (0,m.toNat,cap) w:=by
 simp[Instr.sliceBounds,Instr.sliceBound,asIntOf,h0,h1]
end Go.TL
namespace Go.TL
def uC(C:Ctx)(o:Oper)(σ':St)(a:Act)(w:World):Prop:=
 ∃v,(∀w2,(execOp a.eval o).run C.P w2= .ok (.value v) w2)∧Holds C σ' (a.put o.dst v) w
theorem uC.out{C:Ctx}{o:Oper}{σ':St}{a:Act}{w:World}(h:uC C o σ' a w):tw C o σ' a w:=by
 obtain⟨v,h1,h2⟩:=h
 exact⟨v,w,.inl (h1 w),h2⟩
end Go.TL
