/- Functions told by hand: new names, copies of maps, lists that are sorted. -/
import Derived.Test.YtbjmbhgbalmoaaaW27
import Derived.Lib.OwnBridge
import Derived.Lib.SlicesCompact
import Derived.Sort.EncStr
namespace Go.TL.H
open Go
end Go.TL.H
namespace Go.TL.H
open Go Go.Proofs
def bG(l:List (List UInt8)):List (List PV):=l.map fun x=>[.v (encStr x)]
theorem kJ{P:Program}{e:TypeId}(hc:cks P e=[.str]):∀{rows:List (List PV)},cB P e rows→∃ss,rows=bG ss∧∀x∈ss,x.length≤bZ
 | [],_=>⟨[],rfl,by simp⟩
 |r::rs,h=>by
  obtain⟨ss,h1,h2⟩:=kJ hc (rows:=rs) fun x hx=>h x (Cx _ hx)
  obtain⟨s,r',rfl,h3,h4⟩:=uH (Ty.to hc (h r (Cy ..)))
  obtain rfl:=mh h4
  refine⟨s.data.toList::ss,by rw[h1];simp[bG],fun x hx=>?_⟩
  rcases CD hx with rfl|hx
  ·rw[Array.length_toList];exact h3
  ·exact h2 x hx
theorem yX{P:Program}{e:TypeId}(hc:cks P e=[.str]){ss:List (List UInt8)}(h:∀x∈ss,x.length≤bZ):cB P e (bG ss):=fun row hr=>by
 obtain⟨x,hx,rfl⟩:=List.mem_map.1 hr
 exact Ty.of hc (zq (show x.toArray.size≤bZ by rw[List.size_toArray];exact h x hx) zp)
theorem xm{w:World}{bad:Nat→Prop}{lo:Nat}(ss:List (List UInt8)):bE w bad lo 1 (bG ss) (ss.map encStr):=by
 refine⟨fun i _=>encStr (ss.getD i []),fun i row hi=>?_,fun i row j x hi hj=>?_,fun i row j x hi hj=>?_⟩
 all_goals (
  simp only[bG,List.getElem?_map,Option.map_eq_some_iff]at hi
  obtain⟨y,hy,rfl⟩:=hi)
 ·rfl
 all_goals (
  match j,hj with
  |0,hj=>?_
  |j+1,hj=>simp at hj)
 ·simp at hj;subst hj;simp[hy,List.getD]
 ·simp at hj;subst hj;simp only[List.getD,hy,Option.getD_some];exact .v _ rfl
end Go.TL.H
