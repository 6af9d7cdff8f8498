/- What single operations hand back, over the values themselves. -/
import Derived.Test.YtbjmbhgbalmoaaaW08
import Derived.Laws.Small
import Derived.KernelRfl
namespace Go.TL.H
open Go
structure One(P:Program)(t:TypeId)(z:Value):Prop where
 is:∃i,P.info? t=some i∧fF P t=some false∧i.size=1∧i.zero=some z∧i.bytes≤24
 zc:z.cells= #[z]
structure Big(P:Program)(t:TypeId)(zs:List Value):Prop where
 is:∃i,P.info? t=some i∧fF P t=some true∧i.size=zs.length∧i.zero=some (.agg zs.toArray)∧i.bytes≤1024
section
variable {P:Program} {o:Oper} {n:Nat} {sl:aT} {a:Act} {w w':World} {v:Value}
theorem aa{x:Operand}(h:SL n sl a)(ho:o.op= .move x∨o.op= .assign x)(e:ev sl x=some v):(execOp a.eval o).run P w= .ok (.value v) w:=by
 have:=h.ev e
 rcases ho with ho|ho<;>simp[execOp,ho,this]
theorem bM{c x y:Operand}{b:Bool}{u:Value}(h:SL n sl a)(ho:o.op= .pick c x y)(ec:ev sl c=some (.bool b))(ex:b=true→ev sl x=some u)(ey:b=false→ev sl y=some u):(execOp a.eval o).run P w= .ok (.value u) w:=by
 have hc:=h.ev ec
 cases b with
 |true=>simp[execOp,ho,hc,asBool,h.ev (ex rfl)]
 |false=>simp[execOp,ho,hc,asBool,h.ev (ey rfl)]
theorem ab{x:Operand}{p:Addr}(h:SL n sl a)(ho:o.op= .nilCheck x)(e:ev sl x=some (.pointer (some p))):(execOp a.eval o).run P w= .ok (.value (.pointer (some p))) w:=by
 simp[execOp,ho,h.ev e]
theorem ak{x:Operand}{s:TypeId}{f off sz b o':Nat}(h:SL n sl a)(ho:o.op= .fieldAddr s x f)(e:ev sl x=some (.pointer (some ⟨b,o',none⟩)))(hf:aO P s f=some (off,sz)):
  (execOp a.eval o).run P w= .ok (.value (.pointer (some ⟨b,o'+off,none⟩))) w:=by
 have hx:=h.ev e
 unfold aO at hf
 split at hf
 ·rename_i fields hu
  split at hf
  ·rename_i fd hfd
   split at hf
   ·rename_i i hi
    split at hf
    ·cases hf
    ·rename_i hz
     simp only[Ct,Cu]at hf;obtain⟨rfl,rfl⟩:=hf
     have hz':i.size≠0:=fun e=>by rw[e]at hz;simp at hz
     have hfd':fields[f]? =some fd:=by simpa using hfd
     simp[execOp,ho,hx,Instr.fieldAt,run_underlying hu,hfd',Instr.sureAddr,fieldPlace,sizeOf,typeInfo,hi,hz',Addr.add_lit]
   ·cases hf
  ·cases hf
 ·cases hf
theorem ai{x:Operand}{t:TypeId}{z:Value}{b o':Nat}{cs:Array Value}{bt:TypeId}{fz:Nat×Nat}(h:SL n sl a)(ho:o.op= .load t x)(e:ev sl x=some (.pointer (some ⟨b,o',none⟩)))(hT:One P t z)
  (hb:w.heap[b]? =some (.cells cs bt fz))(hc:cs[o']? =some v):(execOp a.eval o).run P w= .ok (.value v) w:=by
 obtain⟨i,hi,ha,hs,_⟩:=hT.is
 have:=eT (P:=P) (w:=w) (b:=b) (o:=o') (vs:=[v]) ha hi (fun j u hj=>by
  cases j with
  |zero=>simp at hj;subst hj;rw[Nat.add_zero,dF hb];exact hc
  |succ j=>simp at hj) (by simp[hs]) (fun _=>rfl)
 simp[execOp,ho,h.ev e,this]
theorem jn{x:Operand}{t:TypeId}{zs:List Value}{b o':Nat}{cs:Array Value}{bt:TypeId}{fz:Nat×Nat}(vs:List Value)(h:SL n sl a)(ho:o.op= .load t x)(e:ev sl x=some (.pointer (some ⟨b,o',none⟩)))(hT:Big P t zs)
  (hl:vs.length=zs.length)(hb:w.heap[b]? =some (.cells cs bt fz))(hc:∀(j:Nat) v,vs[j]? =some v→cs[o'+j]? =some v):(execOp a.eval o).run P w= .ok (.value (.agg vs.toArray)) w:=by
 obtain⟨i,hi,ha,hs,_⟩:=hT.is
 have:=eT (P:=P) (w:=w) (b:=b) (o:=o') (vs:=vs) ha hi (fun j u hj=>by rw[dF hb];exact hc j u hj) (by omega) (fun h=>by cases h)
 simp[execOp,ho,h.ev e,this]
theorem fJ{x y:Operand}{t:TypeId}{z:Value}{b o':Nat}{cs:Array Value}{bt:TypeId}{fz:Nat×Nat}(h:SL n sl a)(ho:o.op= .store t x y)(e:ev sl x=some (.pointer (some ⟨b,o',none⟩)))(ey:ev sl y=some v)(hT:One P t z)
  (hv:v.oneCell'=true)(hvc:v.cells= #[v])(hb:w.heap[b]? =some (.cells cs bt fz))(hc:o'<cs.size)(hf:¬ (fz.1≤o'∧o'<fz.2)):
  (execOp a.eval o).run P w= .ok .skip (w.setRow b (cs.setIfInBounds o' v)):=by
 obtain⟨i,hi,ha,hs,_⟩:=hT.is
 have gI:w.cell? ⟨b,o',none⟩=some cs[o']:=by simp[World.cell?,hb,hc]
 have hfro:w.frozen? ⟨b,o',none⟩=false:=by
  simp only[World.frozen?,hb]
  simp only[Bool.and_eq_false_iff,decide_eq_false_iff_not]
  by_cases h1:fz.1≤o'
  ·exact .inr fun h2=>hf ⟨h1,h2⟩
  ·exact .inl h1
 have hst:(store (⟨b,o',none⟩:Addr) v).run P w= .ok () (w.setRow b (cs.setIfInBounds o' v)):=by
  rw[run_store P w _ v _ hv,gI]
  simp[hfro,setCell_eq_setRow w b o' cs bt fz v hb]
 simp[execOp,ho,h.ev e,h.ev ey,Instr.storeAt,Instr.sureAddr,storeVar,sizeOf,typeInfo,hi,hs,hvc,storeCells,Addr.add_lit,hst]
theorem mn{x y:Operand}{t:TypeId}{zs:List Value}{b o':Nat}{cs:Array Value}{bt:TypeId}(vs:List Value)(h:SL n sl a)(ho:o.op= .store t x y)(e:ev sl x=some (.pointer (some ⟨b,o',none⟩)))(ey:ev sl y=some (.agg vs.toArray))(hT:Big P t zs)
  (hl:vs.length=zs.length)(hv:∀u∈vs,u.oneCell'=true)(hb:w.heap[b]? =some (.cells cs bt (0,0)))(hc:o'+vs.length≤cs.size):
  (execOp a.eval o).run P w= .ok .skip (w.setRow b (spl cs.toList o' vs).toArray):=by
 obtain⟨i,hi,ha,hs,_⟩:=hT.is
 have:=mT (P:=P) (off:=o') (v:= .agg vs.toArray) hi (by simp[Value.cells];omega) hb (by simpa[Value.cells]using hc) (by simpa[Value.cells]using hv)
 simp[execOp,ho,h.ev e,h.ev ey,this,Value.cells]
theorem kR{op:BinOp}{tx ty:TypeId}{x y:Operand}{u1 u2 r:Value}(h:SL n sl a)(ho:o.op= .binOp op tx x y ty)(e1:ev sl x=some u1)(e2:ev sl y=some u2)
  (hg:eqGuard op tx x y u1 u2=pure ())(hr:(binOp op tx u1 u2).run P w= .ok r w):(execOp a.eval o).run P w= .ok (.value r) w:=
 wi ho (by rw[h.ev e1,h.ev e2];exact hg) (by rw[h.ev e1,h.ev e2];exact hr)
theorem bJ{op:BinOp}{tx ty:TypeId}{x y:Operand}{k:IntKind}{m l r:Int}(h:SL n sl a)(ho:o.op= .binOp op tx x y ty)(e1:ev sl x=some (.int k m))(e2:ev sl y=some (.int k l))
  (hr:arith op m l=some r):(execOp a.eval o).run P w= .ok (.value (.int k (k.wrap r))) w:=by
 refine kR h ho e1 e2 (eqGuard_at_int _ _ _ _ _ _ _) ?_
 cases op<;>simp only[arith,Ct,reduceCtorEq]at hr<;>subst hr<;>simp[binOp,Op.intArith]
theorem aG{op:BinOp}{tx ty:TypeId}{x y:Operand}{k:IntKind}{m l:Int}{r:Bool}(h:SL n sl a)(ho:o.op= .binOp op tx x y ty)(e1:ev sl x=some (.int k m))(e2:ev sl y=some (.int k l))
  (hr:wh op m l=some r):(execOp a.eval o).run P w= .ok (.value (.bool r)) w:=by
 refine kR h ho e1 e2 (eqGuard_at_int _ _ _ _ _ _ _) ?_
 cases op<;>simp only[wh,Ct,reduceCtorEq]at hr<;>subst hr<;>simp[binOp,Op.intCmp]
theorem AM{tx ty:TypeId}{x y:Operand}{k:IntKind}{m l:Int}(h:SL n sl a)(ho:o.op= .binOp .rem tx x y ty)(e1:ev sl x=some (.int k m))(e2:ev sl y=some (.int k l))(hl:l≠0):
  (execOp a.eval o).run P w= .ok (.value (.int k (m.tmod l))) w:=
 kR h ho e1 e2 (eqGuard_at_int _ _ _ _ _ _ _) (by simp[binOp,Op.intDiv,hl])
theorem xQ{tx ty:TypeId}{x y:Operand}{k:IntKind}{m l:Int}(h:SL n sl a)(ho:o.op= .binOp .quo tx x y ty)(e1:ev sl x=some (.int k m))(e2:ev sl y=some (.int k l))(hl:l≠0):
  (execOp a.eval o).run P w= .ok (.value (.int k (k.wrap (m.tdiv l)))) w:=
 kR h ho e1 e2 (eqGuard_at_int _ _ _ _ _ _ _) (by simp[binOp,Op.intDiv,hl])
theorem qE{op:BinOp}{tx ty:TypeId}{x y:Operand}{s r:ByteArray}{c:Bool}(h:SL n sl a)(ho:o.op= .binOp op tx x y ty)(e1:ev sl x=some (.string s))(e2:ev sl y=some (.string r))
  (hr:tA op s r=some c):(execOp a.eval o).run P w= .ok (.value (.bool c)) w:=by
 refine kR h ho e1 e2 (eqGuard_at_string _ _ _ _ _ _) ?_
 cases op<;>simp only[tA,Ct,reduceCtorEq]at hr<;>subst hr<;>simp[binOp,Op.stringOp]
theorem AN{tx ty:TypeId}{x y:Operand}{s r:ByteArray}(h:SL n sl a)(ho:o.op= .binOp .add tx x y ty)(e1:ev sl x=some (.string s))(e2:ev sl y=some (.string r))
  (hl:s.size+r.size≤4611686018427387904):(execOp a.eval o).run P w= .ok (.value (.string (s++r))) w:=by
 refine kR h ho e1 e2 (eqGuard_at_string _ _ _ _ _ _) ?_
 simp[binOp,Op.stringOp]
 omega
theorem zu{tx ty:TypeId}{x y:Operand}{s r:Bool}(h:SL n sl a)(ho:o.op= .binOp .neq tx x y ty)(e1:ev sl x=some (.bool s))(e2:ev sl y=some (.bool r))(hu:P.underlying tx=some .bool):
  (execOp a.eval o).run P w= .ok (.value (.bool (s !=r))) w:=by
 refine kR h ho e1 e2 (by simp[eqGuard]) ?_
 simp only[binOp,Sem.run_bind,run_equal_bool w tx s r hu,Result.andThen_ok,Sem.run_pure]
 cases s<;>cases r<;>rfl
theorem jo{t:TypeId}{x:Operand}{s:Bool}(h:SL n sl a)(ho:o.op= .unOp .not t x)(e:ev sl x=some (.bool s)):(execOp a.eval o).run P w= .ok (.value (.bool (!s))) w:=by
 simp[execOp,ho,h.ev e,Op.unary]
theorem uK{src dst:TypeId}{x:Operand}{k k':IntKind}{m:Int}(h:SL n sl a)(ho:o.op= .convert src dst x)(e:ev sl x=some (.int k' m))(h1:∃d,P.underlying src=some d)(h2:P.underlying dst=some (.int k)):
  (execOp a.eval o).run P w= .ok (.value (.int k (k.wrap m))) w:=by
 obtain⟨d,h1⟩:=h1
 cases d<;>simp[execOp,ho,h.ev e,convert,run_underlying h1,run_underlying h2,Conv.intToInt]
theorem aM{x:Operand}{t e:TypeId}{p:Option Addr}{m c:Nat}(h:SL n sl a)(ho:o.op= .call ⟨.builtin .len, #[x], #[t]⟩)(ex:ev sl x=some (.slice p m c))(ht:P.underlying t=some (.slice e)):
  (execOp a.eval o).run P w= .ok (.value (.int .i64 (m:Int))) w:=by
 rw[fG ho]
 simp[builtin,Builtin.len_,run_underlying ht,h.ev ex,goInt]
theorem AO{x:Operand}{t e:TypeId}{p:Option Addr}{m c:Nat}(h:SL n sl a)(ho:o.op= .call ⟨.builtin .cap, #[x], #[t]⟩)(ex:ev sl x=some (.slice p m c))(ht:P.underlying t=some (.slice e)):
  (execOp a.eval o).run P w= .ok (.value (.int .i64 (c:Int))) w:=by
 rw[fG ho]
 simp[builtin,Builtin.cap_,run_underlying ht,h.ev ex,goInt]
theorem uL{x:Operand}{t:TypeId}{s:ByteArray}(h:SL n sl a)(ho:o.op= .call ⟨.builtin .len, #[x], #[t]⟩)(ex:ev sl x=some (.string s))(ht:P.underlying t=some .string):
  (execOp a.eval o).run P w= .ok (.value (.int .i64 (s.size:Int))) w:=by
 rw[fG ho]
 simp[builtin,Builtin.len_,run_underlying ht,h.ev ex,goInt]
theorem xR{x y:Operand}{ts:Array TypeId}{k k':IntKind}{m l:Int}(h:SL n sl a)(ho:o.op= .call ⟨.builtin .min, #[x,y],ts⟩)(ex:ev sl x=some (.int k m))(ey:ev sl y=some (.int k' l)):
  (execOp a.eval o).run P w= .ok (.value (.int k (if l<m then l else m))) w:=by
 rw[fG ho]
 simp[builtin,Builtin.min_,h.ev ex,h.ev ey,Builtin.min2]
theorem j5{x ix:Operand}{t e:TypeId}{b o' m c:Nat}{i:Int}{k:IntKind}{inf:TypeInfo}(h:SL n sl a)(ho:o.op= .indexAddr t x ix)(ex:ev sl x=some (.slice (some ⟨b,o',none⟩) m c))(ei:ev sl ix=some (.int k i))
  (ht:P.underlying t=some (.slice e))(hi:P.info? e=some inf)(h0:0≤i)(h1:i<(m:Int)):(execOp a.eval o).run P w= .ok (.value (.pointer (some ⟨b,o'+i.toNat*inf.size,none⟩))) w:=by
 simp[execOp,ho,h.ev ex,h.ev ei,TL.run_indexAt_slice (P:=P) (w:=w) (k:=k) ht hi h0 h1,Addr.add_lit]
theorem zv{x hi:Operand}{t e:TypeId}{p:Option Addr}{m c:Nat}{k:IntKind}{inf:TypeInfo}(h:SL n sl a)(ho:o.op= .slice t x none (some hi) none)(ex:ev sl x=some (.slice p m c))(ei:ev sl hi=some (.int k (c:Int)))
  (ht:P.underlying t=some (.slice e))(hi':P.info? e=some inf)(hp:∀a,p=some a→∃b o,a=⟨b,o,none⟩):(execOp a.eval o).run P w= .ok (.value (.slice p c c)) w:=by
 have hb:=oH (P:=P) (w:=w) (len:=m) (cap:=c) (kk:=k) (m:=(c:Int)) (by omega) (by omega)
 have hpp:(if c=0 then p else p.map (·.add (0*inf.size)))=p:=by
  cases p with
  |none=>simp
  |some a=>obtain⟨b,o,rfl⟩:=hp a rfl;simp[Addr.add]
 unfold execOp
 simp only[ho,h.ev ex,h.ev ei,Instr.sliceAt,Sem.run_bind,run_underlying ht,Result.andThen_ok,Instr.slice,Option.map_none,Option.map_some,hb,sizeOf,typeInfo,run_program,hi',Sem.run_pure,Nat.sub_zero,hpp,Int.toNat_natCast]
theorem wo{t:TypeId}{z:Value}(ho:o.op= .alloc t)(hT:One P t z):(execOp a.eval o).run P w= .ok (.value (.pointer (some ⟨w.heap.size,0,none⟩))) (w.alloc (.cells #[z] t)):=by
 obtain⟨i,hi,ha,hs,hz,_⟩:=hT.is
 simp[execOp,ho,Instr.alloc,zeroValue,typeInfo,hi,hz,newVar,newRow,hT.zc]
theorem dJ{t:TypeId}{zs:List Value}(ho:o.op= .alloc t)(hT:Big P t zs):(execOp a.eval o).run P w= .ok (.value (.pointer (some ⟨w.heap.size,0,none⟩))) (w.alloc (.cells zs.toArray t)):=by
 obtain⟨i,hi,ha,hs,hz,_⟩:=hT.is
 simp[execOp,ho,Instr.alloc,zeroValue,typeInfo,hi,hz,newVar,newRow,Value.cells]
theorem bC{t:TypeId}{x:Operand}(h:SL n sl a)(ho:o.op= .box t x)(e:ev sl x=some v):(execOp a.eval o).run P w= .ok (.value (.pointer (some ⟨w.heap.size,0,none⟩))) (w.alloc (.cells v.cells t)):=by
 simp[execOp,ho,Instr.box,newVar,newRow,h.ev e]
theorem uM{f:Fn}{first aL:Array Operand}{us vs:List Value}(h:SL n sl a)(ho:o.op= .makeFunc f first aL)(e1:evs sl first.toList=some us)(e2:evs sl aL.toList=some vs):
  (execOp a.eval o).run P w=(((Instr.makeFunc f us.toArray vs.toArray).run P w).andThen fun v w=> .ok (.value v) w):=by
 have h1:=h.evs e1
 have h2:=h.evs e2
 have e1':first.map a.eval=us.toArray:=by apply Array.ext';simp[←h1]
 have e2':aL.map a.eval=vs.toArray:=by apply Array.ext';simp[←h2]
 simp[execOp,ho,e1',e2']
theorem aB{x:Operand}{i:Nat}{vs:Array Value}(h:SL n sl a)(ho:o.op= .extract x i)(e:ev sl x=some (.tuple vs))(hv:vs[i]? =some v):(execOp a.eval o).run P w= .ok (.value v) w:=by
 simp[execOp,ho,h.ev e,Instr.extract,hv]
theorem dW{t e:TypeId}{z:Value}{x:Operand}(h:SL n sl a)(ho:o.op= .buildSlice t 1 #[(0,x)])(ex:ev sl x=some v)(ht:P.underlying t=some (.slice e))(hT:One P e z)(hv:v.cells= #[v]):
  (execOp a.eval o).run P w= .ok (.value (.slice (some ⟨w.heap.size,0,none⟩) 1 1)) (w.alloc (.cells #[v] e)):=by
 obtain⟨i,hi,ha,hs,hz,_⟩:=hT.is
 have hzc:=hT.zc
 have hr:Array.range 1= #[0]:=rfl
 simp[execOp,ho,Instr.buildSlice,run_underlying ht,sizeOf,typeInfo,zeroValue,hi,hz,hs,newRow,h.ev ex,hr,hzc,Instr.fill,hv]
theorem qm{x y:Operand}{t e:TypeId}{z:Value}{u:Value}{m:Nat}{xs:List Value}{b c:Nat}{bt:TypeId}{fz:Nat×Nat}(h:SL n sl a)(ho:o.op= .call ⟨.builtin .append, #[x,y], #[t,t]⟩)(ex:ev sl x=some v)
  (ey:ev sl y=some (.slice (some ⟨b,0,none⟩) 1 c))(ht:P.underlying t=some (.slice e))(hT:One P e z)(bI:w.ownsRow 0 e 1 v m xs)(hb:w.heap[b]? =some (.cells #[u] bt fz))(hu:u.oneCell'=true)(h16:∀i,P.info? e=some i→i.bytes≤16)(hm:m+1≤8796093022208):
  ∃v' w',(execOp a.eval o).run P w= .ok (.value v') w'∧w'.ownsRow 0 e 1 v' (m+1) (xs++ [u])∧Ch (fun g=>v.ownBlock=some g) w w'∧(∀g,v'.ownBlock=some g→v.ownBlock=some g∨w.heap.size≤g):=by
 obtain⟨i,hi,ha,hs,hz,hby⟩:=hT.is
 have h1:(m+1)*i.bytes≤(m+1)*16:=Nat.mul_le_mul_left _ (h16 i hi)
 obtain⟨v',w',cf,ho',hg,hbk,_⟩:=ib (P:=P) (w:=w) t o.type e i z ht hi hz (by rw[hT.zc,hs];rfl) (by omega) v m xs (by rw[hs];exact bI) (.slice (some ⟨b,0,none⟩) 1 c) 1 [u]
  (.inr ⟨⟨b,0,none⟩,c,rfl,by simp[hs],fun j u' hj=>by
   cases j with
   |zero=>simp at hj;subst hj;rw[Addr.add_lit,dF hb];rfl
   |succ j=>simp at hj,by simpa using hu⟩) (by omega) (by omega)
 refine⟨v',w',?_,by rw[hs]at ho';exact ho',⟨hg.os,hg.tape,hg.output,hg.size,fun g hl hn=>hg.block g hl fun e=>hn e.symm⟩,fun g hv=>(hbk g hv).1⟩
 have ex':=h.ev ex
 have ey':=h.ev ey
 unfold execOp
 simp only[ho,resolve,invoke,builtin,Sem.run_bind,Sem.run_pure,Result.andThen_ok,List.map_toArray,List.map_cons,List.map_nil,ex',ey',cf]
theorem oL{x:Operand}{src dst e:TypeId}{b c:Nat}{bt:TypeId}{fz:Nat×Nat}{m:Int}(h:SL n sl a)(ho:o.op= .convert src dst x)(ex:ev sl x=some (.slice (some ⟨b,0,none⟩) 1 c))(h1:P.underlying src=some (.slice e))(h2:P.underlying dst=some .string)
  (he:P.underlying e=some (.int .u8))(hb:w.heap[b]? =some (.cells #[.int .u8 m] bt fz)):(execOp a.eval o).run P w= .ok (.value (.string (ByteArray.empty.push (UInt8.ofNat m.toNat)))) w:=by
 have hl:=run_loadCells_list (P:=P) w ⟨b,0,none⟩ [.int .u8 m] (fun j v hv=>by
  cases j with
  |zero=>simp at hv;subst hv;rw[Addr.add_lit,dF hb];rfl
  |succ j=>simp at hv)
 simp at hl
 simp[execOp,ho,h.ev ex,convert,run_underlying h1,run_underlying h2,run_underlying he,Conv.bytesToString,hl]
end
end Go.TL.H
namespace Go.TL.H
open Go
structure Eye where
 n:List Int
 s:List ByteArray
 at':Int
structure TY where
 E:TypeId
 I:TypeId
 B:TypeId
 S:TypeId
 NL:TypeId
 SS:TypeId
 BY:TypeId
 BL:TypeId
def ao:Value:= .slice none 0 0
structure Kit(P:Program)(y:TY):Prop where
 mixed:P.follows .mixedOrders=true
 e0:aO P y.E 0=some (0,1)
 e1:aO P y.E 1=some (1,1)
 e2:aO P y.E 2=some (2,1)
 e3:aO P y.E 3=some (3,1)
 e4:aO P y.E 4=some (4,1)
 i:One P y.I (.int .i64 0)
 b:One P y.B (.bool false)
 s:One P y.S (.string ⟨#[]⟩)
 nl:One P y.NL ao
 ss:One P y.SS ao
 by':One P y.BY (.int .u8 0)
 i16:∀i,P.info? y.I=some i→i.bytes≤16
 s16:∀i,P.info? y.S=some i→i.bytes≤16
 iU:P.underlying y.I=some (.int .i64)
 bU:P.underlying y.B=some .bool
 sU:P.underlying y.S=some .string
 nlU:P.underlying y.NL=some (.slice y.I)
 ssU:P.underlying y.SS=some (.slice y.S)
 byU:P.underlying y.BY=some (.int .u8)
 blU:P.underlying y.BL=some (.slice y.BY)
 eB:Big P y.E [ao,ao,.bool false,.int .i64 0,.bool false]
def EB(be:Nat)(vn vs:Value)(b:Nat):Prop:=b=be∨vn.ownBlock=some b∨vs.ownBlock=some b
def an(vn vs:Value)(at':Int)(m r:Bool):Array Value:= #[vn,vs,.bool m,.int .i64 at',.bool r]
structure bO(y:TY)(w:World)(be:Nat)(vn vs:Value)(e:Eye)(m r:Bool):Prop where
 cell:∃t,w.heap[be]? =some (.cells (an vn vs e.at' m r) t (0,0))
 n:w.ownsRow 0 y.I 1 vn e.n.length (e.n.map (Value.int .i64))
 s:w.ownsRow 0 y.S 1 vs e.s.length (e.s.map Value.string)
 d1:vn.ownBlock≠some be
 d2:vs.ownBlock≠some be
 d3:∀g,vn.ownBlock=some g→vs.ownBlock≠some g
theorem bO.keep{y:TY}{w w':World}{be:Nat}{vn vs:Value}{e:Eye}{m r:Bool}(h:bO y w be vn vs e m r){S:Nat→Prop}(hc:Ch S w w')(hn:∀b,EB be vn vs b→¬ S b):bO y w' be vn vs e m r:=by
 obtain⟨t,ht⟩:=h.cell
 exact⟨⟨t,hc.at ht (hn be (.inl rfl))⟩,hc.ownsRow h.n fun g hg=>hn g (.inr (.inl hg)),hc.ownsRow h.s fun g hg=>hn g (.inr (.inr hg)),h.d1,h.d2,h.d3⟩
theorem bO.lt{y:TY}{w:World}{be:Nat}{vn vs:Value}{e:Eye}{m r:Bool}(h:bO y w be vn vs e m r):∀b,EB be vn vs b→b<w.heap.size:=by
 intro b hb
 rcases hb with rfl|hb|hb
 ·obtain⟨t,ht⟩:=h.cell;exact aq ht
 ·exact(h.n.lt b hb).2
 ·exact(h.s.lt b hb).2
def Phi(n:Nat):Nat:=n+16*(200000 - n)
def Dd:Nat:=2097300
structure Gr(K:Nat)(hn:Bool)(n s n' s':Nat):Prop where
 mono:n≤n'
 phi:Phi n'≤Phi n+K
 wu:n<200000→Phi n'+16≤Phi n+K∨n'=n
 tD:hn=true→s'+16≤s+Dd*(n' - n)+K
 tE:hn=false→n'=n∧s'≤s+K
theorem Gr.refl(n s:Nat):Gr 0 false n s n s:=⟨Nat.le_refl _,Nat.le_refl _,fun _=> .inr rfl,fun h=>(by cases h),fun _=>⟨rfl,Nat.le_refl _⟩⟩
theorem Gr.seq{K1 K2:Nat}{h1 h2:Bool}{n s n1 s1 n2 s2:Nat}(a:Gr K1 h1 n s n1 s1)(b:Gr K2 h2 n1 s1 n2 s2):Gr (K1+K2) (h1||h2) n s n2 s2:=by
 have a1:=a.mono;have a2:=a.phi;have a3:=a.wu;have a4:=a.tD;have a5:=a.tE
 have b1:=b.mono;have b2:=b.phi;have b3:=b.wu;have b4:=b.tD;have b5:=b.tE
 refine⟨by omega,by omega,?_,?_,?_⟩
 ·intro h
  rcases a3 h with h3|h3
  ·left;omega
  ·subst h3
   rcases b3 h with h4|h4
   ·left;omega
   ·right;omega
 ·intro h
  cases h1 with
  |true=>
   have:=a4 rfl
   cases h2 with
   |true=>have:=b4 rfl;simp only[Dd]at*;omega
   |false=>have:=b5 rfl;simp only[Dd]at*;omega
  |false=>
   have:=a5 rfl
   cases h2 with
   |true=>have:=b4 rfl;simp only[Dd]at*;omega
   |false=>cases h
 ·intro h
  cases h1 with
  |true=>cases h
  |false=>cases h2 with
   |true=>cases h
   |false=>have:=a5 rfl;have:=b5 rfl;omega
theorem Gr.num(n s:Nat):Gr 1 true n s (n+1) s:=
 ⟨by omega,by simp only[Phi];omega,fun h=>by left;simp only[Phi];omega,fun _=>by simp only[Dd];omega,fun h=>(by cases h)⟩
theorem Gr.str(n s:Nat):Gr 1 false n s n (s+1):=
 ⟨by omega,by omega,fun _=> .inr rfl,fun h=>(by cases h),fun _=>⟨rfl,by omega⟩⟩
theorem Gr.none(_K:Nat)(n s:Nat):Gr 0 false n s n s:= .refl n s
structure Bd(K:Nat)(n s:Nat):Prop where
 phi:Phi n+K≤3300000
 str:s+Dd*(3300000 - n)+K≤7000000000000
theorem lP(n:Nat):n≤Phi n:=by simp only[Phi];omega
theorem Bd.le{K K' n s:Nat}(h:Bd K n s)(hk:K'≤K):Bd K' n s:=⟨Nat.le_trans (by omega) h.phi,Nat.le_trans (by omega) h.str⟩
theorem Bd.step{K K1 K2 n s n1 s1:Nat}{hn:Bool}(h:Bd K n s)(g:Gr K1 hn n s n1 s1)(hk:K1+K2≤K):Bd K2 n1 s1:=by
 have h1:=h.phi;have h2:=h.str
 have g1:=g.mono;have g2:=g.phi;have g4:=g.tD;have g5:=g.tE
 have l1:=lP n1
 refine⟨by omega,?_⟩
 cases hn with
 |true=>have:=g4 rfl;simp only[Dd]at*;omega
 |false=>have:=g5 rfl;simp only[Dd]at*;omega
structure Rd(n s n' s' i:Nat):Prop where
 mono:n≤n'
 phi:Phi n'≤Phi n
 str:s'≤s+Dd*(n' - n)+i
theorem Rd.zero(n s:Nat):Rd n s n s 0:=⟨by omega,by omega,by omega⟩
theorem Rd.next{n s n1 s1 n2 s2 i K:Nat}{hn:Bool}(h:Rd n s n1 s1 i)(g:Gr K hn n1 s1 n2 s2)(aF:n1<200000)(hK:K≤16)(h1:hn=false→K=1):Rd n s n2 s2 (i+1):=by
 have a1:=h.mono;have a2:=h.phi;have a3:=h.str
 have g1:=g.mono;have g2:=g.phi;have g3:=g.wu aF;have g4:=g.tD;have g5:=g.tE
 refine⟨by omega,?_,?_⟩
 ·rcases g3 with g3|g3
  ·omega
  ·subst g3;omega
 ·cases hn with
  |true=>have:=g4 rfl;simp only[Dd]at*;omega
  |false=>have:=g5 rfl;have:=h1 rfl;simp only[Dd]at*;omega
theorem Rd.all{n s n' s' m:Nat}(h:Rd (n+1) s n' s' m)(hm:m≤2097154):Gr 1 true n s n' s':=by
 have a1:=h.mono;have a2:=h.phi;have a3:=h.str
 refine⟨by omega,?_,?_,?_,fun h=>(by cases h)⟩
 ·have:Phi (n+1)≤Phi n+1:=by simp only[Phi];omega
  omega
 ·intro hl
  have:Phi (n+1)+16≤Phi n+1:=by simp only[Phi];omega
  left;omega
 ·intro _;simp only[Dd]at*;omega
theorem Rd.bd{n s n1 s1 _m i K:Nat}(h:Rd (n+1) s n1 s1 i)(hi:i≤2097154)(hb:Bd 1 n s)(aF:n1<200000)(hK:K≤16):Bd K n1 s1:=by
 have h1:=hb.phi;have h2:=hb.str
 have a1:=h.mono;have a2:=h.phi;have a3:=h.str
 refine⟨by simp only[Phi];omega,?_⟩
 simp only[Dd]at*;omega
def pl(c:aK)(b o:Nat):Option Value:=
 match c b with
 |some (.cells cs _ _)=>cs[o]?
 |_=>none
inductive WZ(P:Program)(wr room:Bool)(c:aK):Nat→CK→Value→Prop
 |int (d:Nat) (k:IntKind) (n:Int) (h1:k.min≤n) (h2:n≤k.max):WZ P wr room c d (.int k) (.int k n)
 |bool (d:Nat) (x:Bool):WZ P wr room c d .bool (.bool x)
 |str (d:Nat) (x:ByteArray) (h:x.size≤bZ):WZ P wr room c d .str (.string x)
 |nil (d:Nat) (e:TypeId) (b:Option Addr) (cap:Nat) (h:room=true→b=none∧cap=0):WZ P wr room c d (.sl e) (.slice b 0 cap)
 |sl (d:Nat) (e:TypeId) (b o len cap:Nat) (cs:Array Value) (t:TypeId) (fz:Nat×Nat) (g:Nat→Nat→Value) (hb:c b=some (.cells cs t fz)) (hf:wr=true→fz=(0,0)) (hle:len≤cap) (hl:len≤ew) (hm:room=true→cap≤len+2)
   (hc:∀i:Nat,i<(if room then cap else len)→∀(j:Nat) (ck:CK),(cks P e)[j]? =some ck→cs[o+i*(cks P e).length+j]? =some (g i j))
   (hbl:∀i:Nat,i<(if room then cap else len)→∀j:Nat,(cks P e)[j]? =some .bool→¬ (fz.1≤o+i*(cks P e).length+j∧o+i*(cks P e).length+j<fz.2))
   (hw:∀i:Nat,i<(if room then cap else len)→∀(j:Nat) (ck:CK),(cks P e)[j]? =some ck→WZ P wr room c d ck (g i j)):
   WZ P wr room c (d+1) (.sl e) (.slice (some ⟨b,o,none⟩) len cap)
theorem WZ.up{P:Program}{wr room:Bool}{c:aK}{d:Nat}{ck:CK}{v:Value}(h:WZ P wr room c d ck v):∀d',d≤d'→WZ P wr room c d' ck v:=by
 induction h with
 |int d k n h1 h2=>exact fun d' _=> .int d' k n h1 h2
 |bool d x=>exact fun d' _=> .bool d' x
 |str d x h=>exact fun d' _=> .str d' x h
 |nil d e b cap h=>exact fun d' _=> .nil d' e b cap h
 |sl d e b o len cap cs t fz g hb hf hle hl hm hc hbl hw ih=>
  intro d' hd
  obtain⟨k,rfl⟩:∃k,d'=k+1:=⟨d' - 1,by omega⟩
  exact .sl k e b o len cap cs t fz g hb hf hle hl hm hc hbl fun i hi j ck hj=>ih i hi j ck hj k (by omega)
theorem WZ.tB{P:Program}{wr room:Bool}{c:aK}{d:Nat}{ck:CK}{v0 v:Value}(h:WZ P wr room c d ck v0)(hk:ng v0 v):WZ P wr room c d ck v:=by
 rcases hk with rfl|⟨k,n,m,rfl,rfl,h1,h2⟩|⟨x,y,rfl,rfl⟩|⟨x,y,rfl,rfl,h1⟩
 ·exact h
 ·cases h with|int=>exact .int _ _ _ h1 h2
 ·cases h with|bool=>exact .bool _ _
 ·cases h with|str=>exact .str _ _ h1
theorem WZ.keq{P:Program}{wr room:Bool}{c0 c:aK}(hk:KEq c0 c){d:Nat}{ck:CK}{v:Value}(h:WZ P wr room c0 d ck v):WZ P wr room c d ck v:=by
 induction h with
 |int d k n h1 h2=>exact .int d k n h1 h2
 |bool d x=>exact .bool d x
 |str d x h=>exact .str d x h
 |nil d e b cap h=>exact .nil d e b cap h
 |sl d e b o len cap cs t fz g hb hf hle hl hm hc hbl hw ih=>
  obtain⟨cs',h1,h2,h3⟩:=hk.2 b cs t fz hb
  have key:∀i:Nat,i<(if room then cap else len)→∀(j:Nat) (ck:CK),(cks P e)[j]? =some ck→∃v,cs'[o+i*(cks P e).length+j]? =some v∧ng (g i j) v:=
   fun i hi j ck hj=>h3 _ _ (hc i hi j ck hj)
  refine .sl d e b o len cap cs' t fz (fun i j=>(cs'[o+i*(cks P e).length+j]?).getD undef) h1 hf hle hl hm (fun i hi j ck hj=>?_) hbl fun i hi j ck hj=>?_
  ·obtain⟨v,q1,q2⟩:=key i hi j ck hj
   rw[q1];rfl
  ·obtain⟨v,q1,q2⟩:=key i hi j ck hj
   simp only[q1,Option.getD_some]
   exact(ih i hi j ck hj).tB q2
def Pl(P:Program)(wr room:Bool)(c:aK)(d b o:Nat)(ck:CK):Prop:=
 ∃cs t fz v,c b=some (.cells cs t fz)∧cs[o]? =some v∧WZ P wr room c d ck v∧(wr=true→fz=(0,0))∧(ck= .bool→¬ (fz.1≤o∧o<fz.2))
theorem Pl.keq{P:Program}{wr room:Bool}{c0 c:aK}(hk:KEq c0 c){d b o:Nat}{ck:CK}(h:Pl P wr room c0 d b o ck):Pl P wr room c d b o ck:=by
 obtain⟨cs,t,fz,v,h1,h2,h3,h4,h5⟩:=h
 obtain⟨cs',k1,k2,k3⟩:=hk.2 b cs t fz h1
 obtain⟨v',q1,q2⟩:=k3 o v h2
 exact⟨cs',t,fz,v',k1,q1,(h3.tB q2).keq hk,h4,h5⟩
theorem kS(c:aK):KEq c c:=⟨fun _=>Iff.rfl,fun _ cs _ _ h=>⟨cs,h,rfl,fun _ v hv=>⟨v,hv,.inl rfl⟩⟩⟩
theorem uN{a b c:aK}(h:KEq a b)(k:KEq b c):KEq a c:=by
 refine⟨fun x=>(h.1 x).trans (k.1 x),?_⟩
 intro x cs t fz hx
 obtain⟨cs1,h1,h2,h3⟩:=h.2 x cs t fz hx
 obtain⟨cs2,k1,k2,k3⟩:=k.2 x cs1 t fz h1
 refine⟨cs2,k1,k2.trans h2,?_⟩
 intro j v0 hj
 obtain⟨v1,e1,r1⟩:=h3 j v0 hj
 obtain⟨v2,e2,r2⟩:=k3 j v1 e1
 refine⟨v2,e2,?_⟩
 rcases r1 with rfl|⟨kk,n,m,rfl,rfl,q1,q2⟩|⟨x,y,rfl,rfl⟩|⟨x,y,rfl,rfl,q⟩
 ·exact r2
 ·rcases r2 with rfl|⟨kk',n',m',e,rfl,q1',q2'⟩|⟨_,_,e,_⟩|⟨_,_,e,_⟩
  ·exact .inr (.inl ⟨_,_,_,rfl,rfl,q1,q2⟩)
  ·simp only[Value.int.injEq]at e;obtain⟨rfl,_⟩:=e;exact .inr (.inl ⟨_,_,_,rfl,rfl,q1',q2'⟩)
  ·cases e
  ·cases e
 ·rcases r2 with rfl|⟨_,_,_,e,_⟩|⟨_,_,e,rfl⟩|⟨_,_,e,_⟩
  ·exact .inr (.inr (.inl ⟨_,_,rfl,rfl⟩))
  ·cases e
  ·exact .inr (.inr (.inl ⟨_,_,rfl,rfl⟩))
  ·cases e
 ·rcases r2 with rfl|⟨_,_,_,e,_⟩|⟨_,_,e,_⟩|⟨_,_,e,rfl,q'⟩
  ·exact .inr (.inr (.inr ⟨_,_,rfl,rfl,q⟩))
  ·cases e
  ·cases e
  ·exact .inr (.inr (.inr ⟨_,_,rfl,rfl,q'⟩))
def Zn(c:aK)(w:World):Prop:=∀b o,c b=some o→w.heap[b]? =some o
theorem Zn.keep{c:aK}{w w':World}{S:Nat→Prop}(h:Zn c w)(hc:Ch S w w')(hn:∀b,c b≠none→¬ S b):Zn c w':=fun b o hb=>hc.at (h b o hb) (hn b (by rw[hb];simp))
def stZ(c:aK)(b0 o0:Nat)(v:Value):aK:=fun b=>if b=b0 then(match c b with|some (.cells cs t fz)=>some (.cells (cs.setIfInBounds o0 v) t fz)|o=>o)else c b
theorem yw{c:aK}{b o:Nat}{v0 v:Value}(h:pl c b o=some v0)(hk:ng v0 v):KEq c (stZ c b o v):=by
 refine⟨fun x=>?_,?_⟩
 ·unfold stZ
  split
  ·cases hx:c x with
   |none=>simp
   |some ob=>cases ob<;>simp
  ·exact Iff.rfl
 ·intro x cs t fz hx
  unfold stZ
  split
  ·rename_i hxb
   subst hxb
   simp only[hx]
   refine⟨_,rfl,by simp,?_⟩
   intro j v1 hj
   by_cases hjo:o=j
   ·subst hjo
    have e:v1=v0:=by
     simp only[pl,hx]at h
     rw[hj]at h;exact Option.some.inj h
    subst e
    have aF:=(Array.getElem?_eq_some_iff.1 hj).1
    exact⟨v,by simp[aF],hk⟩
   ·exact⟨v1,by rw[Array.getElem?_setIfInBounds_ne hjo];exact hj,.inl rfl⟩
  ·exact⟨cs,hx,rfl,fun j v1 hj=>⟨v1,hj,.inl rfl⟩⟩
theorem wq{c:aK}{b o:Nat}{v:Value}(h:pl c b o=some v):stZ c b o v=c:=by
 funext x
 unfold stZ
 split
 ·rename_i hx;subst hx
  unfold pl at h
  split at h
  ·rename_i cs t fz hc
   simp only[hc]
   congr 2
   apply Array.ext
   ·simp
   ·intro i h1 h2
    rw[Array.getElem_setIfInBounds (by simpa using h1)]
    split
    ·rename_i hi
     subst hi
     obtain⟨_,e⟩:=Array.getElem?_eq_some_iff.1 h
     exact e.symm
    ·rfl
  ·cases h
 ·rfl
theorem Zn.store{c:aK}{w:World}{b o:Nat}{cs:Array Value}{t:TypeId}{fz:Nat×Nat}{v:Value}(h:Zn c w)(hb:c b=some (.cells cs t fz)):Zn (stZ c b o v) (w.setRow b (cs.setIfInBounds o v)):=by
 intro x ob hx
 unfold stZ at hx
 split at hx
 ·rename_i hxb
  subst hxb
  simp only[hb,Ct]at hx
  subst hx
  exact setRow_heap w x cs _ t fz (h x _ hb)
 ·rename_i hxb
  rw[setRow_other w b x _ hxb]
  exact h x ob hx
structure bD(y:TY)(mark room:Bool)(K:Nat)(hn:Bool)(Sr:Eye→Eye→Prop)(w:World)(be:Nat)(vn vs:Value)(e:Eye)(c:aK)(w':World)(dK bP:Value)(e':Eye)(c':aK):Prop where
 eye:bO y w' be dK bP e' mark room
 zn:Zn c' w'
 dis:∀b,EB be dK bP b→c' b=none
 keq:KEq c c'
 same:mark=false→c'=c∧Sr e e'
 ch:Ch (fun b=>EB be vn vs b∨c b≠none) w w'
 new:∀b,EB be dK bP b→EB be vn vs b∨w.heap.size≤b
 gr:Gr K hn e.n.length e.s.length e'.n.length e'.s.length
theorem bD.trans{y:TY}{mark room:Bool}{K1 K2:Nat}{h1 h2:Bool}{S1 S2 S:Eye→Eye→Prop}{w:World}{be:Nat}{vn vs:Value}{e:Eye}{c:aK}{w1:World}{gZ vs1:Value}{e1:Eye}{c1:aK}{w2:World}{fY cW:Value}{e2:Eye}{c2:aK}
  (a:bD y mark room K1 h1 S1 w be vn vs e c w1 gZ vs1 e1 c1)(b:bD y mark room K2 h2 S2 w1 be gZ vs1 e1 c1 w2 fY cW e2 c2)(hS:mark=false→S1 e e1→S2 e1 e2→S e e2):
  bD y mark room (K1+K2) (h1||h2) S w be vn vs e c w2 fY cW e2 c2:=by
 refine⟨b.eye,b.zn,b.dis,uN a.keq b.keq,?_,?_,?_,a.gr.seq b.gr⟩
 ·intro hm
  have p:=a.same hm
  have q:=b.same hm
  exact⟨q.1.trans p.1,hS hm p.2 q.2⟩
 ·refine a.ch.trans' b.ch ?_
  intro x hx hs
  rcases hs with hs|hs
  ·rcases a.new x hs with h|h
   ·exact .inl h
   ·exact absurd hx (by omega)
  ·exact .inr fun h0=>hs ((a.keq.1 x).1 h0)
 ·intro x hx
  rcases b.new x hx with h|h
  ·exact a.new x h
  ·exact .inr (Nat.le_trans a.ch.size h)
theorem bD.S{y:TY}{mark room:Bool}{K:Nat}{h:Bool}{S1 S:Eye→Eye→Prop}{w:World}{be:Nat}{vn vs:Value}{e:Eye}{c:aK}{w1:World}{gZ vs1:Value}{e1:Eye}{c1:aK}
  (a:bD y mark room K h S1 w be vn vs e c w1 gZ vs1 e1 c1)(hS:mark=false→S1 e e1→S e e1):bD y mark room K h S w be vn vs e c w1 gZ vs1 e1 c1:=
 ⟨a.eye,a.zn,a.dis,a.keq,fun hm=>⟨(a.same hm).1,hS hm (a.same hm).2⟩,a.ch,a.new,a.gr⟩
theorem bD.refl{y:TY}{mark room:Bool}{Sr:Eye→Eye→Prop}{w:World}{be:Nat}{vn vs:Value}{e:Eye}{c:aK}(hE:bO y w be vn vs e mark room)(hz:Zn c w)(hd:∀b,EB be vn vs b→c b=none)(hS:mark=false→Sr e e):
  bD y mark room 0 false Sr w be vn vs e c w vn vs e c:=⟨hE,hz,hd,kS c,fun hm=>⟨rfl,hS hm⟩,Ch.refl _ _,fun _ h=> .inl h,.refl _ _⟩
theorem bD.pre{y:TY}{mark room:Bool}{K:Nat}{h:Bool}{Sr:Eye→Eye→Prop}{w0 w:World}{be:Nat}{vn vs:Value}{e:Eye}{c:aK}{w1:World}{gZ vs1:Value}{e1:Eye}{c1:aK}(h0:Ch (fun _=>False) w0 w)
  (a:bD y mark room K h Sr w be vn vs e c w1 gZ vs1 e1 c1):bD y mark room K h Sr w0 be vn vs e c w1 gZ vs1 e1 c1:=
 ⟨a.eye,a.zn,a.dis,a.keq,a.same,(h0.mono fun _ _ h=>h.elim).trans' a.ch fun _ _ h=>h,fun b hb=>(a.new b hb).imp id fun h=>Nat.le_trans h0.size h,a.gr⟩
theorem qF{y:TY}{mark room:Bool}{w w1 w2:World}{be:Nat}{vn vs v':Value}{e:Eye}{c:aK}{x:Int}(hE:bO y w be vn vs e mark room)(hz:Zn c w)(hd:∀b,EB be vn vs b→c b=none)(h1:Ch (fun _=>False) w w1)
  (ho:w2.ownsRow 0 y.I 1 v' (e.n.length+1) (e.n.map (Value.int .i64)++ [.int .i64 x]))(h2:Ch (fun g=>vn.ownBlock=some g) w1 w2)(hv:∀g,v'.ownBlock=some g→vn.ownBlock=some g∨w1.heap.size≤g):
  (∃t,w2.heap[be]? =some (.cells (an vn vs e.at' mark room) t (0,0)))∧
  bD y mark room 1 true (fun a b=>b={a with n:=a.n++ [x]}) w be vn vs e c (w2.setRow be (an v' vs e.at' mark room)) v' vs {e with n:=e.n++ [x]} c:=by
 obtain⟨t,ht⟩:=hE.cell
 have ht1:=h1.at ht (fun h=>h)
 have fD:=h2.at ht1 hE.d1
 refine⟨⟨t,fD⟩,?_⟩
 have ga:=Ch.setRow w2 be (an v' vs e.at' mark room)
 have hbe:v'.ownBlock≠some be:=by
  intro h
  rcases hv be h with h|h
  ·exact hE.d1 h
  ·exact absurd (aq ht) (by have:=h1.size;omega)
 have aF:=hE.lt
 have hall:Ch (fun b=>EB be vn vs b∨c b≠none) w (w2.setRow be (an v' vs e.at' mark room)):=
  ((h1.mono fun _ _ h=>h.elim).trans' h2 fun b _ h=> .inl (.inr (.inl h))).trans' ga fun b _ h=> .inl (.inl h)
 have gM:∀b,EB be v' vs b→EB be vn vs b∨w.heap.size≤b:=by
  rintro b (h|h|h)
  ·exact .inl (.inl h)
  ·rcases hv b h with h|h
   ·exact .inl (.inr (.inl h))
   ·exact .inr (Nat.le_trans h1.size h)
  ·exact .inl (.inr (.inr h))
 refine⟨⟨⟨t,setRow_heap w2 be _ _ t (0,0) fD⟩,?_,?_,hbe,hE.d2,?_⟩,?_,?_,kS c,fun _=>⟨rfl,rfl⟩,hall,gM,?_⟩
 ·have:=ga.ownsRow ho fun g hg h=>hbe (by rw[hg,h])
  simpa using this
 ·have h3:=h1.ownsRow hE.s fun g _ h=>h
  have h4:=h2.ownsRow h3 fun g hg h=>hE.d3 g h hg
  exact ga.ownsRow h4 fun g hg h=>hE.d2 (by rw[hg,h])
 ·intro g hg hs
  rcases hv g hg with h|h
  ·exact hE.d3 g h hs
  ·exact absurd (aF g (.inr (.inr hs))) (by have:=h1.size;omega)
 ·exact((hz.keep h1 fun _ _ h=>h).keep h2 fun b hb h=>hb (hd b (.inr (.inl h)))).keep ga fun b hb h=>hb (hd b (.inl h))
 ·intro b hb
  rcases gM b hb with h|h
  ·exact hd b h
  ·cases hcb:c b with
   |none=>rfl
   |some o=>exact absurd (aq (hz b o hcb)) (by omega)
 ·simp only[List.length_append,List.length_cons,List.length_nil];exact .num _ _
theorem zw{y:TY}{mark room:Bool}{w w1 w2:World}{be:Nat}{vn vs v':Value}{e:Eye}{c:aK}{x:ByteArray}(hE:bO y w be vn vs e mark room)(hz:Zn c w)(hd:∀b,EB be vn vs b→c b=none)(h1:Ch (fun _=>False) w w1)
  (ho:w2.ownsRow 0 y.S 1 v' (e.s.length+1) (e.s.map Value.string++ [.string x]))(h2:Ch (fun g=>vs.ownBlock=some g) w1 w2)(hv:∀g,v'.ownBlock=some g→vs.ownBlock=some g∨w1.heap.size≤g):
  (∃t,w2.heap[be]? =some (.cells (an vn vs e.at' mark room) t (0,0)))∧
  bD y mark room 1 false (fun a b=>b={a with s:=a.s++ [x]}) w be vn vs e c (w2.setRow be (an vn v' e.at' mark room)) vn v' {e with s:=e.s++ [x]} c:=by
 obtain⟨t,ht⟩:=hE.cell
 have ht1:=h1.at ht (fun h=>h)
 have fD:=h2.at ht1 hE.d2
 refine⟨⟨t,fD⟩,?_⟩
 have ga:=Ch.setRow w2 be (an vn v' e.at' mark room)
 have hbe:v'.ownBlock≠some be:=by
  intro h
  rcases hv be h with h|h
  ·exact hE.d2 h
  ·exact absurd (aq ht) (by have:=h1.size;omega)
 have aF:=hE.lt
 have hall:Ch (fun b=>EB be vn vs b∨c b≠none) w (w2.setRow be (an vn v' e.at' mark room)):=
  ((h1.mono fun _ _ h=>h.elim).trans' h2 fun b _ h=> .inl (.inr (.inr h))).trans' ga fun b _ h=> .inl (.inl h)
 have gM:∀b,EB be vn v' b→EB be vn vs b∨w.heap.size≤b:=by
  rintro b (h|h|h)
  ·exact .inl (.inl h)
  ·exact .inl (.inr (.inl h))
  ·rcases hv b h with h|h
   ·exact .inl (.inr (.inr h))
   ·exact .inr (Nat.le_trans h1.size h)
 refine⟨⟨⟨t,setRow_heap w2 be _ _ t (0,0) fD⟩,?_,?_,hE.d1,hbe,?_⟩,?_,?_,kS c,fun _=>⟨rfl,rfl⟩,hall,gM,?_⟩
 ·have h3:=h1.ownsRow hE.n fun g _ h=>h
  have h4:=h2.ownsRow h3 fun g hg h=>hE.d3 g hg h
  exact ga.ownsRow h4 fun g hg h=>hE.d1 (by rw[hg,h])
 ·have:=ga.ownsRow ho fun g hg h=>hbe (by rw[hg,h])
  simpa using this
 ·intro g hg hs
  rcases hv g hs with h|h
  ·exact hE.d3 g hg h
  ·exact absurd (aF g (.inr (.inl hg))) (by have:=h1.size;omega)
 ·exact((hz.keep h1 fun _ _ h=>h).keep h2 fun b hb h=>hb (hd b (.inr (.inr h)))).keep ga fun b hb h=>hb (hd b (.inl h))
 ·intro b hb
  rcases gM b hb with h|h
  ·exact hd b h
  ·cases hcb:c b with
   |none=>rfl
   |some o=>exact absurd (aq (hz b o hcb)) (by omega)
 ·simp only[List.length_append,List.length_cons,List.length_nil];exact .str _ _
theorem uO{y:TY}{mark room:Bool}{w:World}{be:Nat}{vn vs:Value}{e:Eye}{c:aK}{x:Int}(hE:bO y w be vn vs e mark room)(hz:Zn c w)(hd:∀b,EB be vn vs b→c b=none)(hm:mark=true):
  bD y mark room 0 false (fun _ _=>True) w be vn vs e c (w.setRow be (an vn vs x mark room)) vn vs {e with at':=x} c:=by
 obtain⟨t,ht⟩:=hE.cell
 have a8:=Ch.setRow w be (an vn vs x mark room)
 exact⟨⟨⟨t,setRow_heap w be _ _ t (0,0) ht⟩,a8.ownsRow hE.n fun g hg h=>hE.d1 (by rw[hg,h]),a8.ownsRow hE.s fun g hg h=>hE.d2 (by rw[hg,h]),hE.d1,hE.d2,hE.d3⟩,
  hz.keep a8 fun b hb h=>hb (hd b (.inl h)),hd,kS c,fun h=>(by rw[hm]at h;cases h),a8.mono fun b _ h=> .inl (.inl h),fun _ h=> .inl h,.refl _ _⟩
theorem nP{y:TY}{mark room:Bool}{Sr:Eye→Eye→Prop}{w:World}{be:Nat}{vn vs:Value}{e:Eye}{c:aK}{b o:Nat}{cs:Array Value}{t:TypeId}{fz:Nat×Nat}{v0 v:Value}(hE:bO y w be vn vs e mark room)(hz:Zn c w)(hd:∀b,EB be vn vs b→c b=none)
  (hb:c b=some (.cells cs t fz))(hv0:cs[o]? =some v0)(hk:ng v0 v)(hm:mark=false→v=v0∧Sr e e):
  bD y mark room 0 false Sr w be vn vs e c (w.setRow b (cs.setIfInBounds o v)) vn vs e (stZ c b o v):=by
 have dL:pl c b o=some v0:=by simp only[pl,hb];exact hv0
 have a8:=Ch.setRow w b (cs.setIfInBounds o v)
 have gY:∀x,EB be vn vs x→¬ x=b:=fun x hx h=>by have:=hd x hx;rw[h,hb]at this;cases this
 have hkq:=yw dL hk
 refine⟨hE.keep a8 gY,hz.store hb,fun x hx=>(hkq.1 x).1 (hd x hx),hkq,fun h=>?_,a8.mono fun x _ h=> .inr (by subst h;rw[hb];simp),fun _ h=> .inl h,.refl _ _⟩
 obtain⟨rfl,hs⟩:=hm h
 exact⟨wq dL,hs⟩
end Go.TL.H
namespace Go.TL.H
open Go
abbrev eD(n:Nat):Edge:=⟨n,.data⟩
abbrev eP(n:Nat):Edge:=⟨n,.phase⟩
abbrev eC(n:Nat):Edge:=⟨n,.chain⟩
abbrev p1(d:Nat)(p:Op):Oper:=⟨some d,p,0, "", #[],none⟩
abbrev p0(p:Op):Oper:=⟨none,p,0, "", #[],none⟩
abbrev q1(d:Nat)(p:Op)(af:List Edge):Oper:=⟨some d,p,0, "",af.toArray,none⟩
abbrev q0(p:Op)(af:List Edge):Oper:=⟨none,p,0, "",af.toArray,none⟩
abbrev pt(d:Nat)(p:Op)(ty:TypeId):Oper:=⟨some d,p,ty, "", #[],none⟩
abbrev qt(d:Nat)(p:Op)(ty:TypeId)(af:List Edge):Oper:=⟨some d,p,ty, "",af.toArray,none⟩
abbrev rg(l:List Oper):Code:= .region 0 l.toArray false
abbrev rd(l:List Oper):Code:= .region 0 l.toArray true
abbrev t(n:Nat):Operand:= .tmp n
abbrev ci(n:Int):Operand:= .const (.int .i64 n)
abbrev Ptr(b o:Nat):Value:= .pointer (some ⟨b,o,none⟩)
abbrev eX(x:Operand)(T:TypeId):Op:= .call ⟨.builtin .len, #[x], #[T]⟩
abbrev ja(x y:Operand)(T:TypeId):Op:= .call ⟨.builtin .append, #[x,y], #[T,T]⟩
theorem kT{P:Program}{n:Nat}{sl:aT}{a:Act}{w:World}{R:Value→World→Prop}(h:SL n sl a)(hR:R (.tuple #[]) w):fin P [] R .normal a w:=⟨h.defers,.tuple #[],⟨[],rfl,rfl⟩,hR⟩
def oM(y:TY)(T:TypeId):List Oper:=
 [q1 21 (.move (t 0)) [],q1 22 (.move (t 0)) [],q1 23 (.nilCheck (t 22)) [eD 1],q1 24 (.fieldAddr y.E (t 23) 0) [eD 2],q1 25 (.load y.NL (t 24)) [eD 3],
  q1 26 (.move (t 1)) [],q1 27 (.nilCheck (t 26)) [eD 5],q1 28 (.load T (t 27)) [eD 6],q1 29 (.buildSlice y.NL 1 #[(0,t 28)]) [eD 7],qt 30 (ja (t 25) (t 29) y.NL) y.NL [eD 4,eD 8],
  q1 31 (.nilCheck (t 21)) [eD 0,eP 0,eP 1,eP 2,eP 3,eP 4,eP 5,eP 6,eP 7,eP 8,eP 9],
  q1 32 (.fieldAddr y.E (t 31) 0) [eD 10,eP 0,eP 1,eP 2,eP 3,eP 4,eP 5,eP 6,eP 7,eP 8,eP 9],
  q0 (.store y.NL (t 32) (t 30)) [eD 11,eD 9,eC 9,eP 0,eP 1,eP 2,eP 3,eP 4,eP 5,eP 6,eP 7,eP 8,eP 9]]
theorem nQ{P:Program}{y:TY}(K:Kit P y){mark room:Bool}{a:Act}{w:World}{be pb po:Nat}{vn vs:Value}{e:Eye}{c:aK}{T:TypeId}{z:Value}{cs:Array Value}{bt:TypeId}{fz:Nat×Nat}{x:Int}{Q:Exit→Act→World→Prop}
  (eI:SL 33 [(0,Ptr be 0),(1,Ptr pb po)] a)(hE:bO y w be vn vs e mark room)(hz:Zn c w)(hd:∀b,EB be vn vs b→c b=none)(hT:One P T z)(eu:c pb=some (.cells cs bt fz))(ea:cs[po]? =some (.int .i64 x))(hb:Bd 1 e.n.length e.s.length)
  (hQ:∀c a w,Q (.panic c) a w→False)
  (k:∀a' w' v',SL 33 [] a'→bD y mark room 1 true (fun a b=>b={a with n:=a.n++ [x]}) w be vn vs e c w' v' vs {e with n:=e.n++ [x]} c→Q .normal a' w'):NW P (rd (oM y T)) Q a w:=by
 refine eW 13 rfl K.mixed ?_
 obtain⟨tt,ht⟩:=hE.cell
 have hwp:=hz pb _ eu
 have last:∀(w1:World) (a:Act) (listed:Array Bool),Ch (fun _=>False) w w1→w1.heap[w.heap.size]? =some (.cells #[.int .i64 x] y.I (0,0))→
   listed= #[true,true,true,true,true,true,true,true,true,false,false,false,false]→
   SL 33 [(21,Ptr be 0),(25,vn),(29,.slice (some ⟨w.heap.size,0,none⟩) 1 1)] a→wpAny P .any (oM y T).toArray Q 4 listed a w1:=by
  rintro w1 a listed h1 gM rfl hs
  have hp:=hb.phi
  have dL:=lP e.n.length
  obtain⟨v',w2,hr,ho,a8,hv'⟩:=qm (o:=qt 30 (ja (t 25) (t 29) y.NL) y.NL [eD 4,eD 8]) (w:=w1) hs rfl rfl rfl K.nlU K.i (h1.ownsRow hE.n fun _ _ h=>h) gM rfl K.i16 (by omega)
  obtain⟨⟨t2,fD⟩,j3⟩:=qF hE hz hd h1 ho a8 hv'
  refine Y1 9 (by kernel_rfl) (aj hs rfl rfl rfl hr fun a hs=>?_)
  refine Y1 10 (by kernel_rfl) (aj hs rfl rfl rfl (ab hs rfl rfl) fun a hs=>?_)
  refine Y1 11 (by kernel_rfl) (aj hs rfl rfl rfl (ak hs rfl rfl K.e0) fun a hs=>?_)
  refine Y1 12 (by kernel_rfl) (eQ hs rfl rfl rfl (fJ hs rfl rfl rfl K.nl (by rcases ho.2 with⟨rfl,_⟩|⟨g,cap,cur,rfl,_⟩<;>rfl) (by rcases ho.2 with⟨rfl,_⟩|⟨g,cap,cur,rfl,_⟩<;>rfl) fD (by simp[an]) (by simp)) fun hs=>?_)
  refine Ye (by kernel_rfl) (k _ _ v' (hs.keep []) j3)
 have hc25:(an vn vs e.at' mark room)[0]? =some vn:=rfl
 refine Y (i:=0) eI rfl rfl rfl (by kernel_rfl) (by kernel_rfl) (by kernel_rfl) hQ (fun w=>aa eI (.inl rfl) rfl) fun a hs=>?_
 refine Y (i:=1) hs rfl rfl rfl (by kernel_rfl) (by kernel_rfl) (by kernel_rfl) hQ (fun w=>aa hs (.inl rfl) rfl) fun a hs=>?_
 refine Y (i:=2) hs rfl rfl rfl (by kernel_rfl) (by kernel_rfl) (by kernel_rfl) hQ (fun w=>ab hs rfl rfl) fun a hs=>?_
 refine Y (i:=3) hs rfl rfl rfl (by kernel_rfl) (by kernel_rfl) (by kernel_rfl) hQ (fun w=>ak hs rfl rfl K.e0) fun a hs=>?_
 refine Y (i:=5) hs rfl rfl rfl (by kernel_rfl) (by kernel_rfl) (by kernel_rfl) hQ (fun w=>aa hs (.inl rfl) rfl) fun a hs=>?_
 refine Y (i:=6) hs rfl rfl rfl (by kernel_rfl) (by kernel_rfl) (by kernel_rfl) hQ (fun w=>ab hs rfl rfl) fun a hs=>?_
 have key:∀(w0:World),w0.heap=w.heap→w0.os=w.os→w0.tape=w.tape→w0.output=w.output→Ch (fun _=>False) w (w0.alloc (.cells #[.int .i64 x] y.I))∧(w0.alloc (.cells #[.int .i64 x] y.I)).heap[w.heap.size]? =some (.cells #[.int .i64 x] y.I (0,0)):=by
  intro w0 e1 e2 e3 e4
  have h1:=Ch.alloc (fun _=>False) w0 (.cells #[.int .i64 x] y.I)
  exact⟨⟨h1.os.trans e2,h1.tape.trans e3,h1.output.trans e4,by rw[←e1];exact h1.size,fun b hb hn=>by rw[h1.keep b (by rw[e1];exact hb) hn,e1]⟩,by rw[←e1];exact heap_alloc_new w0 _⟩
 obtain⟨g1,g2⟩:=key {w with drawn:=w.drawn+1} rfl rfl rfl rfl
 refine Y2 4 7 (by kernel_rfl) (aj hs rfl rfl rfl (ai hs rfl rfl K.nl (w:={w with drawn:=w.drawn+1}) ht hc25) fun a hs=>?_) (aj hs rfl rfl rfl (ai hs rfl rfl hT (w:={w with drawn:=w.drawn+1}) hwp ea) fun a hs=>?_)
 ·refine Y1 7 (by kernel_rfl) (aj hs rfl rfl rfl (ai hs rfl rfl hT (w:={w with drawn:=w.drawn+1}) hwp ea) fun a hs=>?_)
  refine Y1 8 (by kernel_rfl) (aj hs rfl rfl rfl (dW hs rfl rfl K.nlU K.i rfl) fun a hs=>?_)
  exact last _ _ _ g1 g2 (by kernel_rfl) (hs.keep [21,25,29])
 ·refine Y2 4 8 (by kernel_rfl) (aj hs rfl rfl rfl (ai hs rfl rfl K.nl (w:={w with drawn:=w.drawn+1}) ht hc25) fun a hs=>?_) (aj hs rfl rfl rfl (dW hs rfl rfl K.nlU K.i rfl) fun a hs=>?_)
  ·refine Y1 8 (by kernel_rfl) (aj hs rfl rfl rfl (dW hs rfl rfl K.nlU K.i rfl) fun a hs=>?_)
   exact last _ _ _ g1 g2 (by kernel_rfl) (hs.keep [21,25,29])
  ·refine Y1 4 (by kernel_rfl) (aj hs rfl rfl rfl (ai hs rfl rfl K.nl (g1.at ht fun h=>h) hc25) fun a hs=>?_)
   exact last _ _ _ g1 g2 (by kernel_rfl) (hs.keep [21,25,29])
end Go.TL.H
namespace Go.TL.H
open Go
def oN(y:TY)(T:TypeId):List Oper:=
 [q1 37 (.move (t 0)) [],q1 38 (.move (t 0)) [],q1 39 (.nilCheck (t 38)) [eD 1],q1 40 (.fieldAddr y.E (t 39) 1) [eD 2],q1 41 (.load y.SS (t 40)) [eD 3],
  q1 42 (.move (t 1)) [],q1 43 (.nilCheck (t 42)) [eD 5],q1 44 (.load T (t 43)) [eD 6],q1 45 (.buildSlice y.SS 1 #[(0,t 44)]) [eD 7],qt 46 (ja (t 41) (t 45) y.SS) y.SS [eD 4,eD 8],
  q1 47 (.nilCheck (t 37)) [eD 0,eP 0,eP 1,eP 2,eP 3,eP 4,eP 5,eP 6,eP 7,eP 8,eP 9],
  q1 48 (.fieldAddr y.E (t 47) 1) [eD 10,eP 0,eP 1,eP 2,eP 3,eP 4,eP 5,eP 6,eP 7,eP 8,eP 9],
  q0 (.store y.SS (t 48) (t 46)) [eD 11,eD 9,eC 9,eP 0,eP 1,eP 2,eP 3,eP 4,eP 5,eP 6,eP 7,eP 8,eP 9]]
theorem nR{P:Program}{y:TY}(K:Kit P y){mark room:Bool}{a:Act}{w:World}{be pb po:Nat}{vn vs:Value}{e:Eye}{c:aK}{T:TypeId}{z:Value}{cs:Array Value}{bt:TypeId}{fz:Nat×Nat}{x:ByteArray}{Q:Exit→Act→World→Prop}
  (eI:SL 49 [(0,Ptr be 0),(1,Ptr pb po)] a)(hE:bO y w be vn vs e mark room)(hz:Zn c w)(hd:∀b,EB be vn vs b→c b=none)(hT:One P T z)(eu:c pb=some (.cells cs bt fz))(ea:cs[po]? =some (.string x))(hb:Bd 1 e.n.length e.s.length)
  (hQ:∀c a w,Q (.panic c) a w→False)
  (k:∀a' w' v',SL 49 [] a'→bD y mark room 1 false (fun a b=>b={a with s:=a.s++ [x]}) w be vn vs e c w' vn v' {e with s:=e.s++ [x]} c→Q .normal a' w'):NW P (rd (oN y T)) Q a w:=by
 refine eW 13 rfl K.mixed ?_
 obtain⟨tt,ht⟩:=hE.cell
 have hwp:=hz pb _ eu
 have last:∀(w1:World) (a:Act) (listed:Array Bool),Ch (fun _=>False) w w1→w1.heap[w.heap.size]? =some (.cells #[.string x] y.S (0,0))→
   listed= #[true,true,true,true,true,true,true,true,true,false,false,false,false]→
   SL 49 [(37,Ptr be 0),(41,vs),(45,.slice (some ⟨w.heap.size,0,none⟩) 1 1)] a→wpAny P .any (oN y T).toArray Q 4 listed a w1:=by
  rintro w1 a listed h1 gM rfl hs
  have hp:=hb.str
  obtain⟨v',w2,hr,ho,a8,hv'⟩:=qm (o:=qt 46 (ja (t 41) (t 45) y.SS) y.SS [eD 4,eD 8]) (w:=w1) hs rfl rfl rfl K.ssU K.s (h1.ownsRow hE.s fun _ _ h=>h) gM rfl K.s16 (by omega)
  obtain⟨⟨t2,fD⟩,j3⟩:=zw hE hz hd h1 ho a8 hv'
  refine Y1 9 (by kernel_rfl) (aj hs rfl rfl rfl hr fun a hs=>?_)
  refine Y1 10 (by kernel_rfl) (aj hs rfl rfl rfl (ab hs rfl rfl) fun a hs=>?_)
  refine Y1 11 (by kernel_rfl) (aj hs rfl rfl rfl (ak hs rfl rfl K.e1) fun a hs=>?_)
  refine Y1 12 (by kernel_rfl) (eQ hs rfl rfl rfl (fJ hs rfl rfl rfl K.ss (by rcases ho.2 with⟨rfl,_⟩|⟨g,cap,cur,rfl,_⟩<;>rfl) (by rcases ho.2 with⟨rfl,_⟩|⟨g,cap,cur,rfl,_⟩<;>rfl) fD (by simp[an]) (by simp)) fun hs=>?_)
  refine Ye (by kernel_rfl) (k _ _ v' (hs.keep []) j3)
 have hc25:(an vn vs e.at' mark room)[1]? =some vs:=rfl
 refine Y (i:=0) eI rfl rfl rfl (by kernel_rfl) (by kernel_rfl) (by kernel_rfl) hQ (fun w=>aa eI (.inl rfl) rfl) fun a hs=>?_
 refine Y (i:=1) hs rfl rfl rfl (by kernel_rfl) (by kernel_rfl) (by kernel_rfl) hQ (fun w=>aa hs (.inl rfl) rfl) fun a hs=>?_
 refine Y (i:=2) hs rfl rfl rfl (by kernel_rfl) (by kernel_rfl) (by kernel_rfl) hQ (fun w=>ab hs rfl rfl) fun a hs=>?_
 refine Y (i:=3) hs rfl rfl rfl (by kernel_rfl) (by kernel_rfl) (by kernel_rfl) hQ (fun w=>ak hs rfl rfl K.e1) fun a hs=>?_
 refine Y (i:=5) hs rfl rfl rfl (by kernel_rfl) (by kernel_rfl) (by kernel_rfl) hQ (fun w=>aa hs (.inl rfl) rfl) fun a hs=>?_
 refine Y (i:=6) hs rfl rfl rfl (by kernel_rfl) (by kernel_rfl) (by kernel_rfl) hQ (fun w=>ab hs rfl rfl) fun a hs=>?_
 have key:∀(w0:World),w0.heap=w.heap→w0.os=w.os→w0.tape=w.tape→w0.output=w.output→Ch (fun _=>False) w (w0.alloc (.cells #[.string x] y.S))∧(w0.alloc (.cells #[.string x] y.S)).heap[w.heap.size]? =some (.cells #[.string x] y.S (0,0)):=by
  intro w0 e1 e2 e3 e4
  have h1:=Ch.alloc (fun _=>False) w0 (.cells #[.string x] y.S)
  exact⟨⟨h1.os.trans e2,h1.tape.trans e3,h1.output.trans e4,by rw[←e1];exact h1.size,fun b hb hn=>by rw[h1.keep b (by rw[e1];exact hb) hn,e1]⟩,by rw[←e1];exact heap_alloc_new w0 _⟩
 obtain⟨g1,g2⟩:=key {w with drawn:=w.drawn+1} rfl rfl rfl rfl
 refine Y2 4 7 (by kernel_rfl) (aj hs rfl rfl rfl (ai hs rfl rfl K.ss (w:={w with drawn:=w.drawn+1}) ht hc25) fun a hs=>?_) (aj hs rfl rfl rfl (ai hs rfl rfl hT (w:={w with drawn:=w.drawn+1}) hwp ea) fun a hs=>?_)
 ·refine Y1 7 (by kernel_rfl) (aj hs rfl rfl rfl (ai hs rfl rfl hT (w:={w with drawn:=w.drawn+1}) hwp ea) fun a hs=>?_)
  refine Y1 8 (by kernel_rfl) (aj hs rfl rfl rfl (dW hs rfl rfl K.ssU K.s rfl) fun a hs=>?_)
  exact last _ _ _ g1 g2 (by kernel_rfl) (hs.keep [37,41,45])
 ·refine Y2 4 8 (by kernel_rfl) (aj hs rfl rfl rfl (ai hs rfl rfl K.ss (w:={w with drawn:=w.drawn+1}) ht hc25) fun a hs=>?_) (aj hs rfl rfl rfl (dW hs rfl rfl K.ssU K.s rfl) fun a hs=>?_)
  ·refine Y1 8 (by kernel_rfl) (aj hs rfl rfl rfl (dW hs rfl rfl K.ssU K.s rfl) fun a hs=>?_)
   exact last _ _ _ g1 g2 (by kernel_rfl) (hs.keep [37,41,45])
  ·refine Y1 4 (by kernel_rfl) (aj hs rfl rfl rfl (ai hs rfl rfl K.ss (g1.at ht fun h=>h) hc25) fun a hs=>?_)
   exact last _ _ _ g1 g2 (by kernel_rfl) (hs.keep [37,41,45])
end Go.TL.H
namespace Go.TL.H
open Go
def Out(y:TY)(mark room:Bool)(K:Nat)(hn:Bool)(Sr:Eye→Eye→Prop)(w:World)(be:Nat)(vn vs:Value)(e:Eye)(c:aK):Value→World→Prop:=fun v w'=>
 v= .tuple #[]∧∃dK bP e' c',bD y mark room K hn Sr w be vn vs e c w' dK bP e' c'
theorem pF(n:Int):IntKind.i64.min≤IntKind.wrap .i64 n∧IntKind.wrap .i64 n≤IntKind.i64.max:=by
 have h:=nO n
 have e1:IntKind.i64.min= -9223372036854775808:=by decide
 have e2:IntKind.i64.max=9223372036854775807:=by decide
 omega
def tC(y:TY)(T:TypeId):Code:=
 .seq (.seq (rg [p1 4 (.move (t 0)),p1 5 (.nilCheck (t 4)),p1 6 (.fieldAddr y.E (t 5) 2),p1 7 (.load y.B (t 6))])
  (.cond (t 7) (.seq
   (rg [p1 8 (.move (t 0)),p1 9 (.nilCheck (t 8)),p1 10 (.fieldAddr y.E (t 9) 3),p1 11 (.load y.I (t 10)),p1 12 (.binOp .add y.I (t 11) (ci 1) y.I),p1 13 (.nilCheck (t 8)),p1 14 (.fieldAddr y.E (t 13) 3),p0 (.store y.I (t 14) (t 12))])
   (rg [p1 15 (.move (t 1)),p1 16 (.move (t 0)),p1 17 (.nilCheck (t 16)),p1 18 (.fieldAddr y.E (t 17) 3),p1 19 (.load y.I (t 18)),p1 20 (.nilCheck (t 15)),p0 (.store T (t 20) (t 19))])) .skip))
  (rd (oM y T))
theorem zx{P:Program}{y:TY}(K:Kit P y){f:FuncId}{T:TypeId}{z:Value}(hB:Body P f 33 [] (tC y T))(hT:One P T z){mark room wr:Bool}{w:World}{d be pb po:Nat}{vn vs:Value}{e:Eye}{c:aK}
  (hE:bO y w be vn vs e mark room)(hz:Zn c w)(hd:∀b,EB be vn vs b→c b=none)(hp:Pl P wr room c d pb po (.int .i64))(hmw:mark=true→wr=true)(hb:Bd 1 e.n.length e.s.length):
  Ret P f [Ptr be 0,Ptr pb po] w (Out y mark room 1 true (fun a b=>∃x,pl c pb po=some (.int .i64 x)∧b={a with n:=a.n++ [x]}) w be vn vs e c):=by
 refine aJ hB ?_
 have hs:=SL.init (n:=33) [Ptr be 0,Ptr pb po] rfl
 revert hs
 generalize({tmps:=_,defers:=[]}:Act)=a
 intro hs
 obtain⟨tt,ht⟩:=hE.cell
 obtain⟨cs,bt,fz,v,eu,ea,hv,dZ,_⟩:=hp
 obtain⟨x,rfl⟩:∃x,v= .int .i64 x:=by cases hv with|int _ _ x=>exact⟨x,rfl⟩
 refine ah (ah (ae ?_))
 refine L hs rfl rfl (aa hs (.inl rfl) rfl) fun a hs=>?_
 refine L hs rfl rfl (ab hs rfl rfl) fun a hs=>?_
 refine L hs rfl rfl (ak hs rfl rfl K.e2) fun a hs=>?_
 refine L hs rfl rfl (ai hs rfl rfl K.b ht (v:= .bool mark) rfl) fun a hs=>?_
 refine Le (ar (t:=mark) (hs.ev rfl) (fun hm=>?_) fun hm=>?_)
 ·subst hm
  refine ah (ae ?_)
  refine L hs rfl rfl (aa hs (.inl rfl) rfl) fun a hs=>?_
  refine L hs rfl rfl (ab hs rfl rfl) fun a hs=>?_
  refine L hs rfl rfl (ak hs rfl rfl K.e3) fun a hs=>?_
  refine L hs rfl rfl (ai hs rfl rfl K.i ht (v:= .int .i64 e.at') rfl) fun a hs=>?_
  refine L hs rfl rfl (bJ hs rfl rfl rfl rfl) fun a hs=>?_
  refine L hs rfl rfl (ab hs rfl rfl) fun a hs=>?_
  refine L hs rfl rfl (ak hs rfl rfl K.e3) fun a hs=>?_
  refine Ls hs rfl rfl (fJ hs rfl rfl rfl K.i rfl rfl ht (by simp[an]) (by simp)) fun hs=>?_
  have q1:=uO (x:=IntKind.wrap .i64 (e.at'+1)) hE hz hd rfl
  obtain⟨tt1,ht1⟩:=q1.eye.cell
  refine Le (ae ?_)
  refine L hs rfl rfl (aa hs (.inl rfl) rfl) fun a hs=>?_
  refine L hs rfl rfl (aa hs (.inl rfl) rfl) fun a hs=>?_
  refine L hs rfl rfl (ab hs rfl rfl) fun a hs=>?_
  refine L hs rfl rfl (ak hs rfl rfl K.e3) fun a hs=>?_
  refine L hs rfl rfl (ai hs rfl rfl K.i ht1 (v:= .int .i64 (IntKind.wrap .i64 (e.at'+1))) rfl) fun a hs=>?_
  refine L hs rfl rfl (ab hs rfl rfl) fun a hs=>?_
  have aF:=(Array.getElem?_eq_some_iff.1 ea).1
  obtain rfl:=dZ (hmw rfl)
  refine Ls hs rfl rfl (fJ hs rfl rfl rfl hT rfl rfl (q1.zn pb _ eu) aF (by simp)) fun hs=>?_
  have q2:=nP (Sr:=fun _ _=>True) (v:= .int .i64 (IntKind.wrap .i64 (e.at'+1))) q1.eye q1.zn q1.dis eu ea (.inr (.inl ⟨.i64,x,_,rfl,rfl,(pF _).1,(pF _).2⟩)) (fun h=>by cases h)
  have hpb2:stZ c pb po (.int .i64 (IntKind.wrap .i64 (e.at'+1))) pb=some (.cells (cs.setIfInBounds po (.int .i64 (IntKind.wrap .i64 (e.at'+1)))) bt (0,0)):=by simp[stZ,eu]
  refine Le (nQ K (hs.keep [0,1]) q2.eye q2.zn q2.dis hT hpb2 (x:=IntKind.wrap .i64 (e.at'+1)) (by simp[aF]) hb (fun _ _ _ h=>h) fun a w' v' hs hP=>?_)
  exact kT hs ⟨rfl,_,_,_,_,(q1.trans (S:=fun _ _=>True) (q2.trans (S:=fun _ _=>True) hP fun h=>(by cases h)) fun h=>(by cases h)).S fun h=>(by cases h)⟩
 ·subst hm
  refine aw (nQ K (hs.keep [0,1]) hE hz hd hT eu ea hb (fun _ _ _ h=>h) fun a w' v' hs hP=>?_)
  exact kT hs ⟨rfl,_,_,_,_,hP.S fun _ h=>⟨x,by simp only[pl,eu];exact ea,h⟩⟩
def zy(y:TY):Code:=
 .seq (rd [q1 5 (.move (t 1)) [],q1 6 (.move (t 1)) [],q1 7 (.nilCheck (t 6)) [eD 1],q1 8 (.load y.B (t 7)) [eD 2],q1 9 (.move (t 0)) [],q1 10 (.nilCheck (t 9)) [eD 4],q1 11 (.fieldAddr y.E (t 10) 2) [eD 5],q1 12 (.load y.B (t 11)) [eD 6],
   q1 13 (.binOp .neq y.B (t 8) (t 12) y.B) [eD 3,eD 7],q1 14 (.nilCheck (t 5)) [eD 0,eP 0,eP 1,eP 2,eP 3,eP 4,eP 5,eP 6,eP 7,eP 8],q0 (.store y.B (t 14) (t 13)) [eD 9,eD 8,eP 0,eP 1,eP 2,eP 3,eP 4,eP 5,eP 6,eP 7,eP 8]])
  (.seq (rg [p1 4 (.assign (ci 0))])
   (.seq (.seq (rg [p1 15 (.move (t 1)),p1 16 (.nilCheck (t 15)),p1 17 (.load y.B (t 16))]) (.cond (t 17) (rg [p1 4 (.assign (ci 1))]) .skip))
    (rg [p1 18 (.move (t 0)),p1 19 (.move (t 0)),p1 20 (.nilCheck (t 19)),p1 21 (.fieldAddr y.E (t 20) 0),p1 22 (.load y.NL (t 21)),p1 23 (.move (t 4)),p1 24 (.buildSlice y.NL 1 #[(0,t 23)]),pt 25 (ja (t 22) (t 24) y.NL) y.NL,
     p1 26 (.nilCheck (t 18)),p1 27 (.fieldAddr y.E (t 26) 0),p0 (.store y.NL (t 27) (t 25))])))
def qG(b:Bool):Int:=match b with|true=>1|false=>0
theorem zz{P:Program}{y:TY}(K:Kit P y){f:FuncId}(hB:Body P f 28 [] (zy y)){mark room wr:Bool}{w:World}{d be pb po:Nat}{vn vs:Value}{e:Eye}{c:aK}
  (hE:bO y w be vn vs e mark room)(hz:Zn c w)(hd:∀b,EB be vn vs b→c b=none)(hp:Pl P wr room c d pb po .bool)(hb:Bd 1 e.n.length e.s.length):
  Ret P f [Ptr be 0,Ptr pb po] w (Out y mark room 1 true (fun a b=>∃x,pl c pb po=some (.bool x)∧b={a with n:=a.n++ [qG x]}) w be vn vs e c):=by
 refine aJ hB ?_
 have hs:=SL.init (n:=28) [Ptr be 0,Ptr pb po] rfl
 revert hs
 generalize({tmps:=_,defers:=[]}:Act)=a
 intro hs
 obtain⟨tt,ht⟩:=hE.cell
 obtain⟨cs,bt,fz,v,eu,ea,hv,dZ,hbl⟩:=hp
 obtain⟨x,rfl⟩:∃x,v= .bool x:=by cases hv with|bool _ x=>exact⟨x,rfl⟩
 have aF:=(Array.getElem?_eq_some_iff.1 ea).1
 have dm:=Ch.drew (fun _=>False) w
 refine ah (jy 9 K.mixed (by kernel_rfl) ?_)
 have hwp:=hz pb _ eu
 refine T hs rfl rfl (aa hs (.inl rfl) rfl) fun a hs=>?_
 refine T hs rfl rfl (aa hs (.inl rfl) rfl) fun a hs=>?_
 refine T hs rfl rfl (ab hs rfl rfl) fun a hs=>?_
 refine T hs rfl rfl (ai hs rfl rfl K.b hwp ea) fun a hs=>?_
 refine T hs rfl rfl (aa hs (.inl rfl) rfl) fun a hs=>?_
 refine T hs rfl rfl (ab hs rfl rfl) fun a hs=>?_
 refine T hs rfl rfl (ak hs rfl rfl K.e2) fun a hs=>?_
 refine T hs rfl rfl (ai hs rfl rfl K.b ht (v:= .bool mark) rfl) fun a hs=>?_
 refine T hs rfl rfl (zu hs rfl rfl rfl K.bU) fun a hs=>?_
 refine Te ?_
 refine L hs rfl rfl (ab hs rfl rfl) fun a hs=>?_
 refine Ls hs rfl rfl (fJ hs rfl rfl rfl K.b rfl rfl hwp aF (hbl rfl)) fun hs=>?_
 have hE1:=hE.keep dm fun _ _ h=>h
 have hz1:Zn c {w with drawn:=w.drawn+1}:=hz
 have q1:=nP (Sr:=fun a b=>b=a) (v:= .bool (x !=mark)) hE1 hz1 hd eu ea (.inr (.inr (.inl ⟨_,_,rfl,rfl⟩))) (fun h=>by subst h;exact⟨by simp,rfl⟩)
 have q1:=q1.pre dm
 obtain⟨tt1,ht1⟩:=q1.eye.cell
 have hpb2:stZ c pb po (.bool (x !=mark)) pb=some (.cells (cs.setIfInBounds po (.bool (x !=mark))) bt fz):=by simp[stZ,eu]
 refine Le (ah (ae ?_))
 refine L hs rfl rfl (aa hs (.inr rfl) rfl) fun a hs=>?_
 refine Le (ah (ah (ae ?_)))
 refine L hs rfl rfl (aa hs (.inl rfl) rfl) fun a hs=>?_
 refine L hs rfl rfl (ab hs rfl rfl) fun a hs=>?_
 refine L hs rfl rfl (ai hs rfl rfl K.b (q1.zn pb _ hpb2) (v:= .bool (x !=mark)) (by simp[aF])) fun a hs=>?_
 have tail:∀a,SL 28 [(0,Ptr be 0),(4,.int .i64 (qG (x !=mark)))] a→NW P
   (rg [p1 18 (.move (t 0)),p1 19 (.move (t 0)),p1 20 (.nilCheck (t 19)),p1 21 (.fieldAddr y.E (t 20) 0),p1 22 (.load y.NL (t 21)),p1 23 (.move (t 4)),p1 24 (.buildSlice y.NL 1 #[(0,t 23)]),pt 25 (ja (t 22) (t 24) y.NL) y.NL,
     p1 26 (.nilCheck (t 18)),p1 27 (.fieldAddr y.E (t 26) 0),p0 (.store y.NL (t 27) (t 25))])
   (fin P [] (Out y mark room 1 true (fun a b=>∃x,pl c pb po=some (.bool x)∧b={a with n:=a.n++ [qG x]}) w be vn vs e c)) a ({w with drawn:=w.drawn+1}.setRow pb (cs.setIfInBounds po (.bool (x !=mark)))):=by
  intro a hs
  refine ae ?_
  refine L hs rfl rfl (aa hs (.inl rfl) rfl) fun a hs=>?_
  refine L hs rfl rfl (aa hs (.inl rfl) rfl) fun a hs=>?_
  refine L hs rfl rfl (ab hs rfl rfl) fun a hs=>?_
  refine L hs rfl rfl (ak hs rfl rfl K.e0) fun a hs=>?_
  refine L hs rfl rfl (ai hs rfl rfl K.nl ht1 (v:=vn) rfl) fun a hs=>?_
  refine L hs rfl rfl (aa hs (.inl rfl) rfl) fun a hs=>?_
  refine L hs rfl rfl (dW hs rfl rfl K.nlU K.i rfl) fun a hs=>?_
  have a8:=Ch.alloc (fun _=>False) ({w with drawn:=w.drawn+1}.setRow pb (cs.setIfInBounds po (.bool (x !=mark)))) (.cells #[.int .i64 (qG (x !=mark))] y.I)
  have hp:=hb.phi
  have dL:=lP e.n.length
  obtain⟨v',w2,hr,ho,fq,hv'⟩:=qm (o:=pt 25 (ja (t 22) (t 24) y.NL) y.NL) hs rfl rfl rfl K.nlU K.i (a8.ownsRow q1.eye.n fun _ _ h=>h) (heap_alloc_new _ _) rfl K.i16 (by omega)
  obtain⟨⟨t2,fD⟩,j3⟩:=qF q1.eye q1.zn q1.dis a8 ho fq hv'
  refine L hs rfl rfl hr fun a hs=>?_
  refine L hs rfl rfl (ab hs rfl rfl) fun a hs=>?_
  refine L hs rfl rfl (ak hs rfl rfl K.e0) fun a hs=>?_
  refine Ls hs rfl rfl (fJ hs rfl rfl rfl K.nl (by rcases ho.2 with⟨rfl,_⟩|⟨g,cap,cur,rfl,_⟩<;>rfl) (by rcases ho.2 with⟨rfl,_⟩|⟨g,cap,cur,rfl,_⟩<;>rfl) fD (by simp[an]) (by simp)) fun hs=>?_
  refine Le (kT hs ⟨rfl,_,_,_,_,q1.trans j3 fun hm h1 h2=>?_⟩)
  subst hm
  exact⟨x,by simp only[pl,eu];exact ea,by rw[h2];simp⟩
 refine Le (ar (t:=(x !=mark)) (hs.ev rfl) (fun hm=>ae ?_) fun hm=>aw ?_)
 ·refine L hs rfl rfl (aa hs (.inr rfl) rfl) fun a hs=>Le (tail a ?_)
  rw[hm];exact hs.keep [0,4]
 ·refine tail a ?_
  rw[hm];exact hs.keep [0,4]
end Go.TL.H
