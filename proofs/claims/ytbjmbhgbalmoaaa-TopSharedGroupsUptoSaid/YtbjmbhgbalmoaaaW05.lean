/- Runs of operations; code; functions. -/
import Derived.Test.YtbjmbhgbalmoaaaW04
namespace Go.TL
def tr:Option (St×Prop)→Option (St×List Prop)
 |some (s,_)=>some (s,[])
 |none=>none
def yt(σ:St)(ops:List Oper)(o:Oper):Option Bool:=
 match o.guard with
 |none=>some true
 |some (j,want)=>match ops[j]? with
  |some oj=>match oj.dst with
   |some t=>match lk σ.az t with
    |some (.p (.v (.bool b)) _)=>some (b==want)
    |some (.bB [])=>some false
    |_=>none
   |none=>none
  |none=>none
def lift(C:Ctx)(Q:Exit→St→Prop):Exit→Act→World→Prop:=fun e a w=>∃σ,Q e σ∧Holds C σ a w
def mkC(P:Program)(n:Nat)(lo:Nat)(w0:World)(E0:Env):Ctx:=⟨P,lo,w0,E0,n⟩
def wj(P:Program)(n:Nat)(ops:Array Oper)(is:List Nat)(σ:St)(Q:Exit→St→Prop):Prop:=
 ∀lo w0 E0 a w,Holds (mkC P n lo w0 E0) σ a w→wpOps P ops (lift (mkC P n lo w0 E0) Q) is a w
def AWP(P:Program)(n:Nat)(c:Code)(σ:St)(Q:Exit→St→Prop):Prop:=
 ∀lo w0 E0 a w,Holds (mkC P n lo w0 E0) σ a w→c.wp P (lift (mkC P n lo w0 E0) Q) a w
def Imp(P:Program)(n:Nat)(σ σ':St):Prop:=∀lo w0 E0 a w,Holds (mkC P n lo w0 E0) σ a w→Holds (mkC P n lo w0 E0) σ' a w
theorem wj.imp{P:Program}{n:Nat}{ops:Array Oper}{is:List Nat}{σ σ':St}{Q:Exit→St→Prop}(h:Imp P n σ σ')(k:wj P n ops is σ' Q):wj P n ops is σ Q:=
 fun lo w0 E0 a w hh=>k lo w0 E0 a w (h lo w0 E0 a w hh)
theorem AWP.imp{P:Program}{n:Nat}{c:Code}{σ σ':St}{Q:Exit→St→Prop}(h:Imp P n σ σ')(k:AWP P n c σ' Q):AWP P n c σ Q:=
 fun lo w0 E0 a w hh=>k lo w0 E0 a w (h lo w0 E0 a w hh)
def FnS(P:Program)(f:FuncId)(args:List SV)(T:Tab)(R:SV→Tab→Prop):Prop:=
 ∀lo w E vals,kL P lo w E→b9 w E lo T→VRs w E lo args vals→
  Calls P f vals.toArray w fun e w'=>∃r v T' E',e= .returned v∧R r T'∧Fr w E w' E'∧b9 w' E' lo T'∧VR w' E' lo r v∧∀k x,E.val k=some x→E'.val k=some x∨E'.val k=none
def gh(tmps:Array Value):ResultVar→Sem Value
 | .tmp t=>pure (tmps.getD t undef)
 | .cell a t=>do loadVar t (←asAddr (tmps.getD a undef))
end Go.TL
