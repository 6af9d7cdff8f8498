/- What a row lists of its package-level variables, and what the walk builds on; a world that holds the list. -/
import Derived.Test.YtpoamlpahljebaaGreatDoorW11
import Derived.Lib.LaidTab
import Derived.LaidSub
namespace Go.TL.H
open Go
def RU:List Int:=(List.range 20).map fun i=>10 ^ i
theorem RW{P:Program}{W:World}{laid:List (String×DataW Unit)}{g:Nat}{t e:TypeId}(hg:P.globalNamed "internal/strconv.uint64pow10" =some g) (aJ:(P.globals[g]?).map (·.type)=some t)
  (ht:P.underlying t=some (.array 20 e)) (he:P.underlying e=some (.int .u64)) (hce:P.cellsOf e=1) (hct:P.cellsOf t=20)
  (hl:laid.filter (fun x=>x.1== "internal/strconv.uint64pow10")=[("internal/strconv.uint64pow10",Lib.tabData .u64 RU)]) (h:laidMetH P laid W):fV P W:=by
 have h1:=h.filter fun x=>x.1== "internal/strconv.uint64pow10"
 rw[hl]at h1
 have h2:laidMet P (("internal/strconv.uint64pow10",Lib.tabData .u64 RU)::[]) W:=h1
 have h3:=Lib.tabIs_of_head hg aJ ht he hce hct h2
 unfold Lib.TabIs World.var? at h3
 intro g' hg'
 obtain rfl:=Option.some.inj (hg.symm.trans hg')
 rw[hg,Option.bind_some]at h3
 split at h3
 ·rename_i cs t fz hc
  exact⟨an hc,cs,t,fz,hc,by rw[Option.some.inj h3];simp[RU]⟩
 ·cases h3
def RX:DataW Unit→Array Value
 | .agg xs=>(xs.map fun x=>match x with| .lit (.int k z)=>Value.int k z|_=> .bool false).toArray
 |_=> #[]
noncomputable def FD(P:Program)(os:Os):List (String×DataW Unit)→World
 | []=>World.holding P os ⟨#[], #[],[]⟩
 |(n,d)::r=>let w:=FD P os r
   {w with heap:=w.heap.modify ((P.globalNamed n).getD 0) fun| .cells _ t fz=> .cells (RX d) t fz|o=>o}
end Go.TL.H
