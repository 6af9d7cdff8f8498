/- strings.Builder, strings.Join, numbers as text: told by hand. -/
import Derived.Test.YtbjmbhgbalmoaaaW28
import Derived.Shelf.Strings.Builder1
import Derived.Shelf.Strings.OnBuilder
namespace Go.TL.H
open Go Go.Proofs Go.RowKit
structure BuH(P:Program)(cc BT BL ST U8:Nat)(i:TypeInfo):Prop where
 f1:aO P BT 1=some (1,1)
 bl:Tp P BL false 1
 blU:P.underlying BL=some (.slice U8)
 stU:P.underlying ST=some .string
 inf:P.info? U8=some i
 zero:i.zero=some (.int .u8 0)
 size:i.size=1
 bytes:i.bytes=1
 ne:BT≠U8
 ok:aD P cc=true
 ccU:∀(b:Nat) (w:World),w.cell? ⟨b,0,none⟩=some (Ptr b 0)→Calls P cc #[Ptr b 0] w fun e w'=>e= .returned (.tuple #[])∧w'=w
 ccN:∀(b:Nat) (w:World),w.cell? ⟨b,0,none⟩=some (.pointer none)→w.shape? b=some (BT,2)→w.frozen? ⟨b,0,none⟩=false→Calls P cc #[Ptr b 0] w fun e w'=>e= .returned (.tuple #[])∧w'=w.setCell ⟨b,0,none⟩ (Ptr b 0)
theorem b9.box{w w':World}{E:Env}{lo k b:Nat}{T:Tab}{ov:OV}(h:b9 w E lo T)(hk:lk T k≠none)(hb:E.own b=some k)(a8:Ch (fun c=>c=b) w w')(hor:OR w' E lo k ov):b9 w' E lo ((k,ov)::rm T k):=by
 have keep:∀c j,E.own c=j→j≠some k→c<w.heap.size→w'.heap[c]? =w.heap[c]? :=fun c j h1 h2 hc=>a8.keep c hc fun e=>by subst e;exact h2 (h1.symm.trans hb)
 refine⟨?_,?_,?_,fun b hx=>⟨Nat.lt_of_lt_of_le (h.ext b hx).1 a8.size,(h.ext b hx).2⟩⟩
 ·intro j o hl
  by_cases he:j=k
  ·subst he;rw[aE]at hl;cases hl;exact hor
  ·rw[av _ _ _ _ he,dH _ _ _ he]at hl
   exact OR.mono ⟨fun c hc ho=>⟨keep c _ ho (by simp) hc,ho⟩,rfl⟩ (fun _ _ h=>h) (fun _=>Iff.rfl) (fun c ho=>keep c _ ho (by simp[he]) (h.own c j ho).1) (h.obj j o hl)
 ·intro j hl
  have he:j≠k:=fun e=>by subst e;rw[aE]at hl;cases hl
  rw[av _ _ _ _ he,dH _ _ _ he]at hl
  exact h.dead j hl
 ·intro c j ho
  have:=h.own c j ho
  refine⟨Nat.lt_of_lt_of_le this.1 a8.size,this.2.1,?_⟩
  by_cases he:j=k
  ·subst he;rw[aE];simp
  ·rw[av _ _ _ _ he,dH _ _ _ he];exact this.2.2
end Go.TL.H
