/- What one operation makes of the state: appends, literals, lengths, slices, numbers. -/
import Derived.Test.YtbjmbhgbalmoaaaW02
import Derived.ArgAppend
namespace Go.TL
end Go.TL
namespace Go.TL
theorem fG{a:Act}{o:Oper}{b:Builtin}{args:Array Operand}{ts:Array TypeId}(ho:o.op= .call {callee:= .builtin b,args:=args,argTypes:=ts}):
  execOp a.eval o=builtin b ts o.type (args.map fun| .const _=>true|_=>false) (args.map a.eval):=by
 unfold execOp
 simp only[ho,resolve,pure_bind,invoke]
 rfl
def lenOf(P:Program)(T:Tab)(t:TypeId):SV→Option Nat
 | .vec k=>match lk T k,P.underlying t with
  |some (.vec _ _ rows _),some (.slice _)=>some rows.length
  |_,_=>none
 | .p (.sl rows) _=>match P.underlying t with
  |some (.slice _)=>some rows.length
  |_=>none
 | .pc rows _=>match P.underlying t with
  |some (.slice _)=>some rows.length
  |_=>none
 | .p (.v (.slice none 0 0)) _=>match P.underlying t with
  |some (.slice _)=>some 0
  |_=>none
 | .p (.v (.string s)) _=>match P.underlying t with
  |some .string=>some s.size
  |_=>none
 |_=>none
theorem aZ{w:World}{bad:Nat→Prop}{lo:Nat}{rows:List (List PV)}{v:Value}(h:Rep w bad lo (.sl rows) v):∃p c,v= .slice p rows.length c:=by
 cases h with
 |nil b c=>exact⟨b,c,rfl⟩
 |sl _ b off cap=>exact⟨_,cap,rfl⟩
theorem pC{P:Program}{w:World}{v:Value}{k:IntKind}{n:Int}{y:Nat}{code:BoundsCode}(hv:v= .int k n)(h0:0≤n)(h1:n≤y):(Instr.sliceBound v y code).run P w= .ok n.toNat w:=by
 subst hv
 simp[Instr.sliceBound,asIntOf,h0,h1]
def eV(l:Option Int):Nat:=match l with|some n=>n.toNat|none=>0
def dO(len:Nat)(h:Option Int):Nat:=match h with|some n=>n.toNat|none=>len
def AJ(len:Nat)(l h:Option Int):Prop:=
 (match l with|some n=>0≤n|none=>True)∧(match h with|some n=>0≤n∧n≤(len:Int)|none=>True)∧
 (match l,h with|some a,some b=>a≤b|some a,none=>a≤(len:Int)|none,_=>True)
theorem kM{P:Program}{w:World}{len cap:Nat}(isSlice:Bool){lo hi:Option Value}{l h:Option Int}(aV:∀n,l=some n→∃k,lo=some (.int k n))(hlo0:l=none→lo=none)
  (hhi:∀n,h=some n→∃k,hi=some (.int k n))(hhi0:h=none→hi=none)(aC:AJ len l h)(dS:len≤cap):
  (Instr.sliceBounds isSlice len cap lo hi none).run P w= .ok (eV l,dO len h,cap) w∧eV l≤dO len h∧dO len h≤len:=by
 obtain⟨h1,h2,h3⟩:=aC
 have hle:dO len h≤len:=by
  cases h with
  |none=>exact Nat.le_refl _
  |some n=>have:=h2.2;have:=h2.1;simp only[dO];omega
 have hle2:eV l≤dO len h:=by
  cases l with
  |none=>exact Nat.zero_le _
  |some m=>
   cases h with
   |none=>simp only[eV,dO];have:=h1;simp only at h3;omega
   |some n=>simp only[eV,dO];simp only at h3;omega
 refine⟨?_,hle2,hle⟩
 have e2:(match lo with|some v=>Instr.sliceBound v (dO len h) .sliceB|none=>(pure 0:Sem Nat)).run P w= .ok (eV l) w:=by
  cases l with
  |none=>rw[hlo0 rfl];rfl
  |some m=>
   obtain⟨k,hk⟩:=aV m rfl
   rw[hk]
   refine pC (k:=k) rfl h1 ?_
   simp only[eV]at hle2
   have:=h1
   simp only at this
   omega
 have e1':(match hi with|some v=>Instr.sliceBound v cap (if isSlice then .sliceAcap else .sliceAlen)|none=>(pure len:Sem Nat)).run P w= .ok (dO len h) w:=by
  cases h with
  |none=>rw[hhi0 rfl];rfl
  |some n=>
   obtain⟨k,hk⟩:=hhi n rfl
   rw[hk]
   exact pC (k:=k) rfl h2.1 (by have:=h2.2;omega)
 have key:∀(A B:Sem Nat),A.run P w= .ok (dO len h) w→B.run P w= .ok (eV l) w→
   (do let h ←A;let l ←B;pure (l,h,cap):Sem (Nat×Nat×Nat)).run P w= .ok (eV l,dO len h,cap) w:=by
  intro A B hA hB
  rw[Sem.run_bind,hA,Result.andThen_ok,Sem.run_bind,hB]
  rfl
 cases hi with
 |none=>
  have q1:len=dO len h:=by injection e1'
  cases lo with
  |none=>
   have q2:0=eV l:=by injection e2
   rw[←q1, ←q2]
   rfl
  |some v=>
   have:=key (pure len) (Instr.sliceBound v (dO len h) .sliceB) e1' e2
   rw[←q1]at this ⊢
   exact this
 |some u=>
  cases lo with
  |none=>
   have q2:0=eV l:=by injection e2
   have:=key (Instr.sliceBound u cap (if isSlice then .sliceAcap else .sliceAlen)) (pure 0) e1' e2
   exact this
  |some v=>
   have e3:(do let h ←(Instr.sliceBound u cap (if isSlice then .sliceAcap else .sliceAlen));let l ←Instr.sliceBound v h .sliceB;pure (l,h,cap):Sem (Nat×Nat×Nat)).run P w= .ok (eV l,dO len h,cap) w:=by
    rw[Sem.run_bind,e1',Result.andThen_ok,Sem.run_bind,e2]
    rfl
   exact e3
end Go.TL
namespace Go.TL
end Go.TL
namespace Go.TL
theorem run_indexAt_slice{P:Program}{w:World}{t e:TypeId}{i:TypeInfo}{a:Addr}{len cap:Nat}{k:IntKind}{n:Int}(hu:P.underlying t=some (.slice e))(hi:P.info? e=some i)(h0:0≤n)(h1:n<(len:Int)):
  (Instr.indexAt t (.slice (some a) len cap) (.int k n)).run P w= .ok (.pointer (some (a.add (n.toNat*i.size)))) w:=by
 simp[Instr.indexAt,asIntOf,run_underlying hu,h0,h1,sizeOf,typeInfo,hi]
def evs(σ:St):List Operand→List SV
 | []=>[]
 |x::xs=>ev σ x::evs σ xs
def arith(op:BinOp)(a b:Int):Option Int:=
 match op with
 | .add=>some (a+b)
 | .sub=>some (a - b)
 | .mul=>some (a*b)
 |_=>none
def wh(op:BinOp)(a b:Int):Option Bool:=
 match op with
 | .eql=>some (a==b)
 | .neq=>some (a !=b)
 | .lss=>some (decide (a<b))
 | .leq=>some (decide (a≤b))
 | .gtr=>some (decide (a>b))
 | .geq=>some (decide (a ≥ b))
 |_=>none
def tA(op:BinOp)(x y:ByteArray):Option Bool:=
 match op with
 | .eql=>some (x.toList==y.toList)
 | .neq=>some (!(x.toList==y.toList))
 | .lss=>some (Op.bytesLess x.toList y.toList)
 | .leq=>some (Op.bytesLess x.toList y.toList||x.toList==y.toList)
 | .gtr=>some (!(Op.bytesLess x.toList y.toList||x.toList==y.toList))
 | .geq=>some (!Op.bytesLess x.toList y.toList)
 |_=>none
theorem wi{P:Program}{w:World}{a:Act}{o:Oper}{op:BinOp}{tx ty:TypeId}{x y:Operand}{r:Value}(ho:o.op= .binOp op tx x y ty)
  (hg:eqGuard op tx x y (a.eval x) (a.eval y)=pure ())(hr:(binOp op tx (a.eval x) (a.eval y)).run P w= .ok r w):(execOp a.eval o).run P w= .ok (.value r) w:=by
 unfold execOp
 simp only[ho,hg,Sem.run_bind,Sem.run_pure,Result.andThen_ok,hr]
end Go.TL
