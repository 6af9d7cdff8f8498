/- What one operation makes of the state: unary operations, conversions, nil. -/
import Derived.Test.YtpoamlpahljebaaGreatDoorW03
import Derived.Laws.MakeOwn
namespace Go.TL
def xA(σ:St)(o:Oper)(op:UnOp)(x:Operand):Option (St×Prop):=
 match op,ev σ x with
 | .not,.p (.v (.bool b)) _=>some (σ.put o.dst (.p (.v (.bool (!b))) true),True)
 | .neg,.p (.v (.int k n)) _=>some (σ.put o.dst (.p (.v (.int k (0 - n))) true),k.wrap (0 - n)=0 - n)
 |_,_=>none
theorem Bw{C:Ctx}{E:Env}{σ σ':St}{a:Act}{w:World}{o:Oper}{op:UnOp}{t:TypeId}{x:Operand}{vc:Prop}(ho:o.op= .unOp op t x)
  (hf:xA σ o op x=some (σ',vc))(cU:vc)(h:aC C E σ a w)(hd:bA C o):bR C o σ' a w:=by
 unfold xA at hf
 split at hf
 ·rename_i b fr he
  simp only[ZS,ZT]at hf;obtain⟨rfl,_⟩:=hf
  exact cn h hd (v:= .bool (!b)) (by simp[execOp,ho,kf h he,Op.unary]) (dR true rfl)
 ·rename_i k n fr he
  simp only[ZS,ZT]at hf;obtain⟨rfl,rfl⟩:=hf
  have hvc':k.wrap (-n)= -n:=by simpa using cU
  exact cn h hd (v:= .int k (0 - n)) (by simp[execOp,ho,kf h he,Op.unary,Op.intArith,hvc']) (dR true rfl)
 ·cases hf
def xB(P:Program)(σ:St)(o:Oper)(src dst:TypeId)(x:Operand):Option (St×Prop):=
 match ev σ x,P.underlying src,P.underlying dst with
 | .p (.v (.int _ n)) _,some _,some (.int k)=>some (σ.put o.dst (.p (.v (.int k n)) true),k.wrap n=n)
 | .p (.v (.string s)) _,some _,some .string=>some (σ.put o.dst (.p (.v (.string s)) true),True)
 |_,_,_=>none
theorem Gy{C:Ctx}{E:Env}{σ σ':St}{a:Act}{w:World}{o:Oper}{src dst:TypeId}{x:Operand}{vc:Prop}(ho:o.op= .convert src dst x)
  (hf:xB C.P σ o src dst x=some (σ',vc))(cU:vc)(h:aC C E σ a w)(hd:bA C o):bR C o σ' a w:=by
 unfold xB at hf
 split at hf
 ·rename_i k' n fr d k he hu1 hu2
  simp only[ZS,ZT]at hf;obtain⟨rfl,rfl⟩:=hf
  have hx:=kf h he
  refine cn h hd (v:= .int k n) ?_ (dR true rfl)
  cases d<;>simp[execOp,ho,hx,convert,run_underlying hu1,run_underlying hu2,Conv.intToInt,cU]
 ·rename_i s fr d he hu1 hu2
  simp only[ZS,ZT]at hf;obtain⟨rfl,rfl⟩:=hf
  have hx:=kf h he
  refine cn h hd (v:= .string s) ?_ (dR true rfl)
  cases d<;>simp[execOp,ho,hx,convert,run_underlying hu1,run_underlying hu2]
 ·cases hf
def vC:SV→Option Bool
 | .ptr _ _=>some false
 | .pd _ _ _=>some false
 | .bn _ _ _ _=>some false
 | .p (.v (.pointer none)) _=>some true
 | .p (.ls []) _=>some true
 | .p (.ls (_::_)) _=>some false
 |_=>none
def Dp:SV→Option Bool
 | .fn _ _ _=>some false
 | .p (.v .nilFunc) _=>some true
 |_=>none
theorem yT{C:Ctx}{E:Env}{σ:St}{a:Act}{w:World}{x:Operand}{b:Bool}(h:aC C E σ a w)(hb:vC (ev σ x)=some b):∃p:Option Addr,a.eval x= .pointer p∧p.isNone=b:=by
 have az:=bO h x
 unfold vC at hb
 split at hb<;>(try (cases hb;done))<;>rename_i he<;>simp only[ZS]at hb<;>subst hb<;>rw[he]at az
 ·simp only[VR]at az;obtain⟨b,_,hx⟩:=az;exact⟨_,hx,rfl⟩
 ·simp only[VR]at az;obtain⟨b,o,hx,_⟩:=az;exact⟨_,hx,rfl⟩
 ·simp only[VR]at az;obtain⟨b,n,c,_,hx⟩:=az;exact⟨_,hx,rfl⟩
 ·exact⟨none,dh az,rfl⟩
 ·simp only[VR]at az;generalize a.eval x=v at az ⊢;cases az;exact⟨none,rfl,rfl⟩
 ·simp only[VR]at az;generalize a.eval x=v at az ⊢;cases az;exact⟨_,rfl,rfl⟩
theorem yU{C:Ctx}{E:Env}{σ:St}{a:Act}{w:World}{x:Operand}{b:Bool}(h:aC C E σ a w)(hb:Dp (ev σ x)=some b):(b=true∧a.eval x= .nilFunc)∨(b=false∧∃f p q,a.eval x= .func f p q):=by
 have az:=bO h x
 unfold Dp at hb
 split at hb<;>(try (cases hb;done))<;>rename_i he<;>simp only[ZS]at hb<;>subst hb<;>rw[he]at az
 ·simp only[VR]at az;obtain⟨vs,ws,hx,_⟩:=az;exact .inr ⟨rfl,_,_,_,hx⟩
 ·exact .inl ⟨rfl,dh az⟩
def px(P:Program)(σ:St)(t:TypeId)(x y:Operand):Option Bool:=
 match P.underlying t with
 |some (.pointer _)=>match vC (ev σ x),vC (ev σ y)with
  |some p,some true=>some p
  |some true,some q=>some q
  |_,_=>none
 |some (.func _ _ _)=>match Dp (ev σ x),Dp (ev σ y)with
  |some p,some true=>some p
  |some true,some q=>some q
  |_,_=>none
 |_=>none
def vD(P:Program)(σ:St)(o:Oper)(op:BinOp)(t:TypeId)(x y:Operand):Option (St×Prop):=
 match px P σ t x y,op with
 |some b,.eql=>some (σ.put o.dst (.p (.v (.bool b)) true),True)
 |some b,.neq=>some (σ.put o.dst (.p (.v (.bool (!b))) true),True)
 |_,_=>none
theorem Bx{P:Program}{w:World}{t e:TypeId}(hu:P.underlying t=some (.pointer e))(p q:Option Addr)(h:p=none∨q=none):(Op.equal t (.pointer p) (.pointer q)).run P w= .ok (p.isNone && q.isNone) w:=by
 show(Op.equalIn (9999+1) t _ _).run P w=_
 rw[Op.equalIn]
 rcases h with rfl|rfl
 ·cases q<;>simp[run_underlying hu]
 ·cases p<;>simp[run_underlying hu]
theorem td{P:Program}{w:World}{t:TypeId}{ps rs:Array TypeId}{v:Bool}(hu:P.underlying t=some (.func ps rs v)):
  (Op.equal t .nilFunc .nilFunc).run P w= .ok true w∧(∀f p q,(Op.equal t (.func f p q) .nilFunc).run P w= .ok false w)∧(∀f p q,(Op.equal t .nilFunc (.func f p q)).run P w= .ok false w):=by
 refine⟨?_,fun f p q=>?_,fun f p q=>?_⟩<;>(show(Op.equalIn (9999+1) t _ _).run P w=_;rw[Op.equalIn];simp[run_underlying hu])
theorem rq{P:Program}{w:World}{t:TypeId}{x y:Value}{b:Bool}(h:(Op.equal t x y).run P w= .ok b w)(hx:(∃p,x= .pointer p)∧(∃p,y= .pointer p)∨((∃f p q,x= .func f p q)∨x= .nilFunc)∧((∃f p q,y= .func f p q)∨y= .nilFunc)):
  (binOp .eql t x y).run P w= .ok (.bool b) w∧(binOp .neq t x y).run P w= .ok (.bool (!b)) w:=by
 rcases hx with⟨⟨p,rfl⟩,⟨q,rfl⟩⟩|⟨⟨f,p,q,rfl⟩|rfl,⟨f',p',q',rfl⟩|rfl⟩<;>simp only[binOp,Sem.run_bind,h,Result.andThen_ok,Sem.run_pure,and_self]
def mM(σ:St)(o:Oper)(isMax:Bool)(x y:Operand):Option (St×Prop):=
 match isInt (ev σ x),isInt (ev σ y)with
 |some (k,a),some (_,b)=>some (σ.put o.dst (.p (.v (.int k (match isMax with|true=>(if b>a then b else a)|false=>(if b<a then b else a)))) true),True)
 |_,_=>none
theorem I3{C:Ctx}{E:Env}{σ σ':St}{a:Act}{w:World}{o:Oper}{x y:Operand}{ts:Array TypeId}{vc:Prop}(ho:o.op= .call {callee:= .builtin .min,args:= #[x,y],argTypes:=ts})
  (hf:mM σ o false x y=some (σ',vc))(h:aC C E σ a w)(hd:bA C o):bR C o σ' a w:=by
 unfold mM at hf
 split at hf
 ·rename_i k m k' n hx hy
  simp only[ZS,ZT]at hf;obtain⟨rfl,_⟩:=hf
  refine cn h hd (v:= .int k (if n<m then n else m)) ?_ (dR true rfl)
  rw[fO ho]
  simp[builtin,Builtin.min_,Builtin.min2,iu h hx,iu h hy]
 ·cases hf
theorem I4{C:Ctx}{E:Env}{σ σ':St}{a:Act}{w:World}{o:Oper}{x y:Operand}{ts:Array TypeId}{vc:Prop}(ho:o.op= .call {callee:= .builtin .max,args:= #[x,y],argTypes:=ts})
  (hf:mM σ o true x y=some (σ',vc))(h:aC C E σ a w)(hd:bA C o):bR C o σ' a w:=by
 unfold mM at hf
 split at hf
 ·rename_i k m k' n hx hy
  simp only[ZS,ZT]at hf;obtain⟨rfl,_⟩:=hf
  refine cn h hd (v:= .int k (if n>m then n else m)) ?_ (dR true rfl)
  rw[fO ho]
  simp[builtin,Builtin.max_,Builtin.max2,iu h hx,iu h hy]
 ·cases hf
end Go.TL
namespace Go.TL
def gR:Value→Bool
 | .slice none 0 0=>true
 |_=>false
theorem qC{x:Value}(h:gR x=true):x= .slice none 0 0:=by
 unfold gR at h
 split at h
 ·rfl
 ·cases h
def zc(room:Bool)(x:Value):PV:=
 match gR x with
 |true=>match room with|true=> .rm 0 []|false=> .sl []
 |false=> .v x
theorem Gz{w:World}{bad:Nat→Prop}{lo:Nat}{room:Bool}{x:Value}(h:x.oneCell'=true):Rep w bad lo (zc room x) x:=by
 unfold zc
 cases hx:gR x with
 |true=>
  have:=qC hx;subst this
  cases room with
  |true=>exact .tH
  |false=>exact .nil none 0
 |false=>exact .v x h
def GA(room:Bool)(z:Value):Option (List PV):=
 match z.cells.toList.all (·.oneCell')with
 |true=>some (z.cells.toList.map (zc room))
 |false=>none
theorem PJ{C:Ctx}{E:Env}{σ:St}{a:Act}{w:World}{o:Oper}{d n c:Nat}{cs:Array Value}{t:TypeId}{ov:OV}(h:aC C E σ a w)(hd:bA C o)(dm:o.dst=some d)
  (dt:lk σ.tab d=none)(aW:(execOp a.eval o).run C.P w= .ok (.value (.slice (some ⟨w.heap.size,0,none⟩) n c)) (w.alloc (.cells cs t)))
  (dL:OR (w.alloc (.cells cs t)) (E.add d (.slice (some ⟨w.heap.size,0,none⟩) n c) w.heap.size) C.lo d ov):
  bR C o ⟨(d,.vec d)::σ.ah,(d,ov)::σ.tab⟩ a w:=by
 have hb:∀b,b<w.heap.size→(w.alloc (.cells cs t)).heap[b]? =w.heap[b]? :=fun b hb=>heap_alloc_old w _ b hb
 have aR:C.lo≤w.heap.size:=Nat.le_trans h.lo.le h.fr.size
 have c8:Fr w E (w.alloc (.cells cs t)) (E.add d (.slice (some ⟨w.heap.size,0,none⟩) n c) w.heap.size):=Fr.add rfl rfl rfl (by simp) hb (Nat.le_refl _)
 have dB:=Env.ua (w:=w) (b0:=w.heap.size) (x:= .slice (some ⟨w.heap.size,0,none⟩) n c) h.tab dt
 have lQ:=bV.add (w':=w.alloc (.cells cs t)) (x:= .slice (some ⟨w.heap.size,0,none⟩) n c) (b0:=w.heap.size) (ov:=ov) h.tab dt (by simp) hb (Nat.le_refl _) (by simp) aR dL
 refine⟨_,_,.inl aW,E.add d (.slice (some ⟨w.heap.size,0,none⟩) n c) w.heap.size,?_⟩
 have hdn:d<C.n:=hd d dm
 have:=h.upd c8 dB (fun k hk hn=>by simp only[Env.add];rw[if_neg (by omega)];exact hn) lQ o.dst hd (sv:= .vec d) (v:= .slice (some ⟨w.heap.size,0,none⟩) n c) (fun _ _=>by simp only[VR];exact⟨by simp[Env.add],_,_,_,rfl⟩)
 rw[dm]at this ⊢
 exact this
def By(P:Program)(H:Hint)(σ:St)(o:Oper)(t:TypeId)(l c:Operand):Option (St×Prop):=
 match isInt (ev σ l),isInt (ev σ c),o.dst,gy P t with
 |some (_,nl),some (_,nc),some d,some (e,i)=>match lk σ.tab d,i.zero,Nat.ble 1 i.size with
  |none,some z,true=>match Nat.beq z.cells.size i.size,lk H.ld d with
   |true,none=>match GA false z with
    |some zr=>some (⟨(d,.vec d)::σ.ah,(d,.vec e i.size (List.replicate nl.toNat zr) true)::σ.tab⟩,0≤nl∧nl≤nc∧nc.toNat*max i.bytes 1≤140737488355328)
    |none=>none
   |_,_=>none
  |_,_,_=>none
 |_,_,_,_=>none
theorem xe(z:Array Value)(n j:Nat)(h:j<n):(madeCells z n)[j]? =some (z[j % z.size]!):=by
 simp[madeCells,h]
theorem Nr{w:World}{bad:Nat→Prop}{lo:Nat}{room:Bool}{z:Value}{zr:List PV}{sz:Nat}(hz:z.cells.size=sz)(_hpos:0<sz)(hr:GA room z=some zr)(n:Nat):
  zr.length=sz∧∃f:Nat→Nat→Value,(∀(i:Nat) (row:List PV),(List.replicate n zr)[i]? =some row→row.length=sz)∧
   (∀(i:Nat) (row:List PV) (j:Nat) (x:PV),(List.replicate n zr)[i]? =some row→row[j]? =some x→(∀m,i<m→(madeCells z.cells (m*sz))[i*sz+j]? =some (f i j)))∧
   (∀(i:Nat) (row:List PV) (j:Nat) (x:PV),(List.replicate n zr)[i]? =some row→row[j]? =some x→Rep w bad lo x (f i j)):=by
 unfold GA at hr
 split at hr
 ·rename_i fS
  simp only[ZS]at hr;subst hr
  have hlen:(z.cells.toList.map (zc room)).length=sz:=by simp[hz]
  have a6:∀(i:Nat) (row:List PV),(List.replicate n (z.cells.toList.map (zc room)))[i]? =some row→row=z.cells.toList.map (zc room):=by
   intro i row hi
   rw[List.getElem?_replicate]at hi
   split at hi
   ·exact(Option.some.inj hi).symm
   ·cases hi
  refine⟨hlen,fun _ j=>z.cells[j]!,?_,?_,?_⟩
  ·intro i row hi;rw[a6 i row hi];exact hlen
  ·intro i row j x hi hj m hm
   rw[a6 i row hi]at hj
   have fo:j<sz:=by rw[←hlen];exact(ZY hj).1
   have:i*sz+j<m*sz:=by
    have:(i+1)*sz≤m*sz:=Nat.mul_le_mul_right _ hm
    rw[Nat.add_mul,Nat.one_mul]at this;omega
   rw[xe _ _ _ this,hz,Nat.mul_comm i sz,Nat.mul_add_mod,Nat.mod_eq_of_lt fo]
  ·intro i row j x hi hj
   rw[a6 i row hi]at hj
   have fo:j<z.cells.size:=by rw[hz, ←hlen];exact(ZY hj).1
   simp[fo]at hj;subst hj
   have h1:=List.all_eq_true.1 fS z.cells[j] (by simp)
   simp only[fo,getElem!_pos]
   exact Gz h1
 ·cases hr
theorem GB{C:Ctx}{H:Hint}{E:Env}{σ σ':St}{a:Act}{w:World}{o:Oper}{t:TypeId}{l c:Operand}{vc:Prop}(ho:o.op= .makeSlice t l c)
  (hf:By C.P H σ o t l c=some (σ',vc))(cU:vc)(h:aC C E σ a w)(hd:bA C o):bR C o σ' a w:=by
 unfold By at hf
 split at hf
 ·rename_i kl nl kc nc d e i hl hc dm oh
  obtain⟨hu,hi⟩:=nM oh
  have el:=iu h hl
  have ec:=iu h hc
  split at hf
  ·rename_i z dt hz eS
   have hpos':=ZX eS
   have aR:C.lo≤w.heap.size:=Nat.le_trans h.lo.le h.fr.size
   have key:(0≤nl∧nl≤nc∧nc.toNat*max i.bytes 1≤140737488355328)→
     (execOp a.eval o).run C.P w= .ok (.value (.slice (some ⟨w.heap.size,0,none⟩) nl.toNat nc.toNat)) (w.alloc (.cells (madeCells z.cells (nc.toNat*i.size)) e)):=by
    rintro⟨h1,h2,h3⟩
    have m1:nc.toNat*1≤nc.toNat*max i.bytes 1:=Nat.mul_le_mul_left _ (by omega)
    have m2:nc.toNat*i.bytes≤nc.toNat*max i.bytes 1:=Nat.mul_le_mul_left _ (by omega)
    have m3:(i.bytes:Int)*nc≤281474976710656:=by
     have e1:((nc.toNat*i.bytes:Nat):Int)≤140737488355328:=by omega
     rw[Int.natCast_mul]at e1
     have e2:(nc.toNat:Int)=nc:=by omega
     rw[e2,Int.mul_comm]at e1;omega
    have hr:=run_make (P:=C.P) w t e i z hu hi hz kl kc nl nc h1 h2 m3 (by omega)
    unfold execOp
    simp only[ho,el,ec,Sem.run_bind,hr,Result.andThen_ok,Sem.run_pure]
   split at hf
   ·rename_i mu hh
    have hzs':=ZU mu
    split at hf
    ·rename_i zr hzr
     simp only[ZS,ZT]at hf;obtain⟨rfl,rfl⟩:=hf
     have hvc':=cU
     obtain⟨h1,h2,h3⟩:=cU
     refine PJ h hd dm dt (key hvc') ?_
     obtain⟨g0,f,g1,g2,g3⟩:=Nr (w:=w.alloc (.cells (madeCells z.cells (nc.toNat*i.size)) e)) (bad:=(E.add d (.slice (some ⟨w.heap.size,0,none⟩) nl.toNat nc.toNat) w.heap.size).bad) (lo:=C.lo) hzs' hpos' hzr nl.toNat
     have av:∀(i:Nat) (row:List PV),(List.replicate nl.toNat zr)[i]? =some row→i<nl.toNat:=fun i row hi=>by
      have:=(ZY hi).1;simpa using this
     have m1:nc.toNat*1≤nc.toNat*max i.bytes 1:=Nat.mul_le_mul_left _ (by omega)
     have hle:nl.toNat*i.size≤nc.toNat*i.size:=Nat.mul_le_mul_right _ (by omega)
     refine⟨.slice (some ⟨w.heap.size,0,none⟩) nl.toNat nc.toNat,(madeCells z.cells (nc.toNat*i.size)).toList.take (nl.toNat*i.size),by simp[Env.add],hpos',⟨?_,.inr ⟨w.heap.size,nc.toNat,madeCells z.cells (nc.toNat*i.size),by simp,Nat.zero_le _,heap_alloc_new w _,by simp;omega,?_,by simp[size_madeCells],by simp⟩⟩,?_,f,g1,?_,g3⟩
     ·rw[List.length_take,Array.length_toList,size_madeCells,List.length_replicate];exact Nat.min_eq_left hle
     ·simp[maxLen];omega
     ·intro g hg
      simp only[Value.ownBlock,ZS]at hg;subst hg
      simp[Env.add]
     ·intro j row k x hj hk
      have ow:=av j row hj
      have hkl:k<i.size:=by rw[←g1 j row hj];exact(ZY hk).1
      have:j*i.size+k<nl.toNat*i.size:=by
       have:(j+1)*i.size≤nl.toNat*i.size:=Nat.mul_le_mul_right _ ow
       rw[Nat.add_mul,Nat.one_mul]at this;omega
      rw[List.getElem?_take,if_pos this]
      have:=g2 j row k x hj hk nc.toNat (by omega)
      simpa using this
    ·cases hf
   ·cases hf
  ·cases hf
 ·cases hf
end Go.TL
namespace Go.TL
theorem Bz{P:Program}{w:World}(t ty e:TypeId)(i:TypeInfo)(ht:P.underlying t=some (.slice e))(hi:P.info? e=some i)(g n cap:Nat)(b:Option Addr)(c:Nat)(hle:n≤cap):
  (Builtin.append_ #[t,t] ty #[.slice (some ⟨g,0,none⟩) n cap,.slice b 0 c]).run P w= .ok (.slice (some ⟨g,0,none⟩) n cap) w:=by
 cases b<;>simp[Builtin.append_,run_underlying ht,sizeOf,typeInfo,hi,Builtin.lenOf,hle,Builtin.firstCells,storeCells,loadCells,loadCellsFrom]
theorem Dq{P:Program}{w:World}{len cap:Nat}{kk:IntKind}{m:Int}(h0:0≤m)(h1:m≤(cap:Int)):
  (Instr.sliceBounds true len cap none (some (.int kk m)) none).run P w= .ok (0,m.toNat,cap) w:=by
 simp[Instr.sliceBounds,Instr.sliceBound,asIntOf,h0,h1]
end Go.TL
namespace Go.TL
def gX(C:Ctx)(o:Oper)(σ':St)(a:Act)(w:World):Prop:=
 ∃v,(∀w2,(execOp a.eval o).run C.P w2= .ok (.value v) w2)∧Holds C σ' (a.put o.dst v) w
theorem eW{C:Ctx}{E:Env}{σ:St}{a:Act}{w:World}{o:Oper}{sv:SV}{v:Value}(h:aC C E σ a w)(hd:bA C o)
  (aW:∀w2,(execOp a.eval o).run C.P w2= .ok (.value v) w2)(jW:VR w E C.lo sv v):gX C o (σ.put o.dst sv) a w:=
 ⟨v,aW,E,h.upd (Fr.refl w E) (fun _ _ h=>h) (fun _ _ h=>h) h.tab o.dst hd fun _ _=>jW⟩
theorem gX.out{C:Ctx}{o:Oper}{σ':St}{a:Act}{w:World}(h:gX C o σ' a w):bR C o σ' a w:=by
 obtain⟨v,h1,h2⟩:=h
 exact⟨v,w,.inl (h1 w),h2⟩
theorem py{C:Ctx}{E:Env}{σ σ':St}{a:Act}{w:World}{o:Oper}{x:Operand}{vc:Prop}(ho:o.op= .move x∨o.op= .assign x)
  (hf:xn σ o x=some (σ',vc))(h:aC C E σ a w)(hd:bA C o):gX C o σ' a w:=by
 simp only[xn,ZS,ZT]at hf;obtain⟨rfl,_⟩:=hf
 refine eW h hd (v:=a.eval x) ?_ (bO h x)
 rcases ho with ho|ho<;>simp[execOp,ho]
theorem zZ{C:Ctx}{E:Env}{σ σ':St}{a:Act}{w:World}{o:Oper}{c x y:Operand}{vc:Prop}(ho:o.op= .pick c x y)
  (hf:xo σ o c x y=some (σ',vc))(h:aC C E σ a w)(hd:bA C o):gX C o σ' a w:=by
 unfold xo at hf
 split at hf
 ·rename_i he
  simp only[ZS,ZT]at hf;obtain⟨rfl,_⟩:=hf
  exact eW h hd (v:=a.eval x) (by simp[execOp,ho,kf h he,asBool]) (bO h x)
 ·rename_i he
  simp only[ZS,ZT]at hf;obtain⟨rfl,_⟩:=hf
  exact eW h hd (v:=a.eval y) (by simp[execOp,ho,kf h he,asBool]) (bO h y)
 ·cases hf
theorem tf{C:Ctx}{E:Env}{σ σ':St}{a:Act}{w:World}{o:Oper}{x:Operand}{vc:Prop}(ho:o.op= .nilCheck x)
  (hf:qy σ o x=some (σ',vc))(h:aC C E σ a w)(hd:bA C o):gX C o σ' a w:=by
 have az:=bO h x
 unfold qy at hf
 split at hf<;>(try (cases hf;done))<;>rename_i he<;>simp only[ZS,ZT]at hf<;>obtain⟨rfl,_⟩:=hf<;>rw[he]at az<;>
  refine eW h hd (v:=a.eval x) ?_ az<;>simp only[VR]at az
 ·obtain⟨b,_,hx⟩:=az;simp[execOp,ho,hx]
 ·obtain⟨b,o',hx,_⟩:=az;simp[execOp,ho,hx]
 ·obtain⟨b,n,c,_,hx⟩:=az;simp[execOp,ho,hx]
 ·obtain⟨y',hx,_⟩:=az;simp[execOp,ho,hx]
 ·obtain⟨vs,ws,hx,_⟩:=az;simp[execOp,ho,hx]
theorem rX{C:Ctx}{E:Env}{σ σ':St}{a:Act}{w:World}{o:Oper}{s:TypeId}{x:Operand}{f:Nat}{vc:Prop}(ho:o.op= .fieldAddr s x f)
  (hf:pw C.P σ o s x f=some (σ',vc))(h:aC C E σ a w)(hd:bA C o):gX C o σ' a w:=by
 unfold pw at hf
 split at hf
 ·rename_i n m hn
  split at hf
  ·rename_i sv jW
   simp only[ZS,ZT]at hf;obtain⟨rfl,_⟩:=hf
   obtain⟨b,o',hx,hv⟩:=Np jW (bO h x)
   unfold cG at hn
   split at hn
   ·rename_i fields hu
    split at hn
    ·rename_i fd hfd
     split at hn
     ·rename_i i hi
      split at hn
      ·cases hn
      ·rename_i hz
       simp only[ZS,ZT]at hn;obtain⟨rfl,rfl⟩:=hn
       have hz':i.size≠0:=fun e=>by rw[e]at hz;simp at hz
       have hfd':fields[f]? =some fd:=by simpa using hfd
       refine eW h hd (v:= .pointer (some ⟨b,o'+fd.offset,none⟩)) ?_ hv
       simp[execOp,ho,hx,Instr.fieldAt,run_underlying hu,hfd',Instr.sureAddr,fieldPlace,sizeOf,typeInfo,hi,hz',Addr.add_lit]
     ·cases hn
    ·cases hn
   ·cases hn
  ·cases hf
 ·cases hf
theorem ud{C:Ctx}{E:Env}{σ σ':St}{a:Act}{w:World}{o:Oper}{x:Operand}{n:Nat}{vc:Prop}(ho:o.op= .extract x n)
  (hf:tc σ o x n=some (σ',vc))(h:aC C E σ a w)(hd:bA C o):gX C o σ' a w:=by
 have az:=bO h x
 unfold tc at hf
 split at hf
 ·rename_i xs he
  split at hf
  ·rename_i sv jW
   simp only[ZS,ZT]at hf;obtain⟨rfl,_⟩:=hf
   rw[he]at az;simp only[VR]at az
   obtain⟨vs,hx,gM⟩:=az
   obtain⟨v,hv1,hv⟩:=mX gM jW
   refine eW h hd (v:=v) ?_ hv
   simp[execOp,ho,hx,Instr.extract,hv1]
  ·cases hf
 ·cases hf
theorem jD{C:Ctx}{H:Hint}{E:Env}{σ σ':St}{a:Act}{w:World}{o:Oper}{t:TypeId}{x ix:Operand}{vc:Prop}(ho:o.op= .indexAddr t x ix)
  (hf:dP C.P H σ o t x ix=some (σ',vc))(cU:vc)(h:aC C E σ a w)(hd:bA C o):gX C o σ' a w:=by
 have az:=bO h x
 unfold dP at hf
 split at hf
 ·rename_i n d hn dm
  obtain⟨kk,hix⟩:=oG h hn
  split at hf
  ·rename_i rows fr e he hu
   split at hf
   ·rename_i row i a6 hi
    split at hf
    ·rename_i hlen
     have hlen':=ZU hlen
     simp only[ZS,ZT]at hf;obtain⟨rfl,rfl⟩:=hf
     obtain⟨h0,hr⟩:=cU
     rw[he]at az;simp only[VR]at az
     have av:n.toNat<rows.length:=(ZY hr).1
     generalize hv:a.eval x=v at az
     cases az with
     |nil b c=>simp at av
     |sl _ b off cap cs t' fz sz f eR hb bY aR gz hl hc hrr=>
      have bf:sz=i.size:=by rw[←hlen',hl _ _ hr]
      subst bf
      refine eW h hd (v:= .pointer (some ⟨b,off+n.toNat*i.size,none⟩)) ?_ ?_
      ·simp[execOp,ho,hv,hix,run_indexAt_slice (P:=C.P) (k:=kk) hu hi h0 (show n<(rows.length:Int) by omega),Addr.add_lit]
      ·simp only[VR]
       exact⟨b,off+n.toNat*i.size,rfl,cs,t',fz,f n.toNat,hb,bY,aR,fun j y hj=>hc _ _ _ _ hr hj,fun j y hj=>hrr _ _ _ _ hr hj⟩
    ·cases hf
   ·cases hf
  ·rename_i k e he hu
   split at hf
   ·rename_i t' sz rows fr i hl hi
    split at hf
    ·rename_i bf
     have hsz':=ZU bf
     simp only[ZS,ZT]at hf;obtain⟨rfl,rfl⟩:=hf
     obtain⟨h0,av⟩:=cU
     rw[he]at az;simp only[VR]at az
     obtain⟨v,xs,h1,h2,h3,h4,h5⟩:=h.tab.obj _ _ hl
     rw[az.1]at h1;cases h1
     rcases h3.2 with⟨_,hz⟩|⟨g,cap,cur,hv,_⟩
     ·omega
     ·refine eW h hd (v:= .pointer (some ⟨g,n.toNat*sz,none⟩)) ?_ ?_
      ·simp[execOp,ho,hv,hix,run_indexAt_slice (P:=C.P) (k:=kk) hu hi h0 av,Addr.add_lit,hsz']
      ·simp only[VR]
       rw[hv]at az
       exact⟨g,_,_,az.1,by simp⟩
    ·cases hf
   ·cases hf
  ·rename_i k off len e he hu
   split at hf
   ·rename_i i m hi hm
    split at hf
    ·rename_i hle
     have qu:=ZX hle
     simp only[ZS,ZT]at hf;obtain⟨rfl,_⟩:=hf
     rw[he]at az;simp only[VR]at az
     obtain⟨b,hb,hx⟩:=az
     have hnm:n=(m:Int):=by
      unfold uc at hm;split at hm
      ·simp only[ZS]at hm;subst hm;rfl
      ·cases hm
     subst hnm
     refine eW h hd (v:= .pointer (some ⟨b,off+m*i.size,none⟩)) ?_ (by simp only[VR];exact⟨b,hb,rfl⟩)
     have h2:(m:Int)<(len:Int):=by omega
     have av:m<len:=qu
     simp[execOp,ho,hx,hix,Instr.indexAt,asIntOf,run_underlying hu,Instr.sureAddr,av,sizeOf,typeInfo,hi,Addr.add_lit]
    ·cases hf
   ·cases hf
  ·cases hf
 ·cases hf
theorem BA{C:Ctx}{E:Env}{σ σ':St}{a:Act}{w:World}{o:Oper}{x:Operand}{t:TypeId}{vc:Prop}(ho:o.op= .call {callee:= .builtin .len,args:= #[x],argTypes:= #[t]})
  (hf:FV C.P σ o x t=some (σ',vc))(h:aC C E σ a w)(hd:bA C o):gX C o σ' a w:=by
 unfold FV at hf
 split at hf
 ·rename_i n hn
  simp only[ZS,ZT]at hf;obtain⟨rfl,_⟩:=hf
  have az:=bO h x
  refine eW h hd (v:= .int .i64 (n:Int)) ?_ (dR true rfl)
  intro w2
  rw[fO ho]
  unfold lenOf at hn
  split at hn
  ·rename_i k he
   split at hn
   ·rename_i t' sz rows fr d hl hu
    simp only[ZS]at hn;subst hn
    rw[he]at az;simp only[VR]at az
    obtain⟨v,xs,h1,h2,h3,h4,h5⟩:=h.tab.obj _ _ hl
    rw[az.1]at h1;cases h1
    have hv:∃p c,a.eval x= .slice p rows.length c:=by
     rcases h3.2 with⟨e,hz⟩|⟨g,cap,cur,e,_⟩
     ·exact⟨none,0,by rw[e,hz]⟩
     ·exact⟨_,cap,e⟩
    obtain⟨p,c,hv⟩:=hv
    simp[builtin,Builtin.len_,run_underlying hu,hv,goInt]
   ·cases hn
  ·rename_i rows fr he
   split at hn
   ·rename_i d hu
    simp only[ZS]at hn;subst hn
    rw[he]at az;simp only[VR]at az
    obtain⟨p,c,hv⟩:=rU az
    simp[builtin,Builtin.len_,run_underlying hu,hv,goInt]
   ·cases hn
  ·rename_i rows fr he
   split at hn
   ·rename_i d hu
    simp only[ZS]at hn;subst hn
    rw[he]at az;simp only[VR]at az
    obtain⟨p,hv,_⟩:=az
    simp[builtin,Builtin.len_,run_underlying hu,hv,goInt]
   ·cases hn
  ·rename_i fr he
   split at hn
   ·rename_i d hu
    simp only[ZS]at hn;subst hn
    simp[builtin,Builtin.len_,run_underlying hu,kf h he,goInt]
   ·cases hn
  ·rename_i s fr he
   split at hn
   ·rename_i hu
    simp only[ZS]at hn;subst hn
    simp[builtin,Builtin.len_,run_underlying hu,kf h he,goInt]
   ·cases hn
  ·cases hn
 ·cases hf
theorem qD{C:Ctx}{E:Env}{σ σ':St}{a:Act}{w:World}{o:Oper}{op:BinOp}{tx ty:TypeId}{x y:Operand}{vc:Prop}(ho:o.op= .binOp op tx x y ty)
  (hf:lx σ o op x y=some (σ',vc))(cU:vc)(h:aC C E σ a w)(hd:bA C o):gX C o σ' a w:=by
 unfold lx at hf
 split at hf
 ·rename_i k m k' n hx hy
  have ex:=iu h hx
  have ey:=iu h hy
  split at hf
  ·rename_i hk
   have hk':=of_decide_eq_true hk;subst hk'
   split at hf
   ·rename_i r hr
    simp only[ZS,ZT]at hf;obtain⟨rfl,rfl⟩:=hf
    refine eW h hd (v:= .int k r) ?_ (dR true rfl)
    cases op<;>simp only[arith,ZS,reduceCtorEq]at hr<;>subst hr<;>exact fun w2=>dV ho (by rw[ex];exact eqGuard_at_int _ _ _ _ _ _ _) (by rw[ex,ey];simp[binOp,Op.intArith,cU])
   ·split at hf
    ·rename_i c hc
     simp only[ZS,ZT]at hf;obtain⟨rfl,_⟩:=hf
     refine eW h hd (v:= .bool c) ?_ (dR true rfl)
     cases op<;>simp only[vB,ZS,reduceCtorEq]at hc<;>subst hc<;>exact fun w2=>dV ho (by rw[ex];exact eqGuard_at_int _ _ _ _ _ _ _) (by rw[ex,ey];simp[binOp,Op.intCmp])
    ·split at hf
     ·simp only[ZS,ZT]at hf;obtain⟨rfl,rfl⟩:=hf
      refine eW h hd (v:= .int k (m.tmod n)) ?_ (dR true rfl)
      exact fun w2=>dV ho (by rw[ex];exact eqGuard_at_int _ _ _ _ _ _ _) (by rw[ex,ey];simp[binOp,Op.intDiv,cU])
     ·simp only[ZS,ZT]at hf;obtain⟨rfl,rfl⟩:=hf
      refine eW h hd (v:= .int k (m.tdiv n)) ?_ (dR true rfl)
      exact fun w2=>dV ho (by rw[ex];exact eqGuard_at_int _ _ _ _ _ _ _) (by rw[ex,ey];simp[binOp,Op.intDiv,cU.1,cU.2])
     ·cases hf
  ·cases hf
 ·split at hf
  ·rename_i s r hx hy
   have ex:=rW h hx
   have ey:=rW h hy
   split at hf
   ·rename_i c hc
    simp only[ZS,ZT]at hf;obtain⟨rfl,_⟩:=hf
    refine eW h hd (v:= .bool c) ?_ (dR true rfl)
    cases op<;>simp only[qf,ZS,reduceCtorEq]at hc<;>subst hc<;>exact fun w2=>dV ho (by rw[ex];exact eqGuard_at_string _ _ _ _ _ _) (by rw[ex,ey];simp[binOp,Op.stringOp])
   ·split at hf
    ·simp only[ZS,ZT]at hf;obtain⟨rfl,rfl⟩:=hf
     refine eW h hd (v:= .string (s++r)) ?_ (dR true rfl)
     have:¬ (9223372036854775807<(s.size:Int)+(r.size:Int)):=by omega
     exact fun w2=>dV ho (by rw[ex];exact eqGuard_at_string _ _ _ _ _ _) (by rw[ex,ey];simp[binOp,Op.stringOp,this])
    ·cases hf
  ·cases hf
def gD:BinOp→Bool
 | .add| .sub| .mul| .quo| .rem=>true
 |_=>false
def rY(H:Hint)(σ:St)(o:Oper)(op:BinOp)(x y:Operand):Option (St×Prop):=
 match o.dst with
 |some d=>match lk H.ld d,isInt (ev σ x),isInt (ev σ y)with
  |some [.v (.int k0 z)],some (k,a),some (k',b)=>match decide (k=k'∧k=k0)with
   |true=>match arith op a b with
    |some n=>some (σ.put o.dst (.p (.v (.int k z)) true),k.wrap n=z)
    |none=>none
   |false=>none
  |_,_,_=>none
 |none=>none
theorem z6{C:Ctx}{H:Hint}{E:Env}{σ σ':St}{a:Act}{w:World}{o:Oper}{op:BinOp}{tx ty:TypeId}{x y:Operand}{vc:Prop}(ho:o.op= .binOp op tx x y ty)
  (hf:rY H σ o op x y=some (σ',vc))(cU:vc)(h:aC C E σ a w)(hd:bA C o):gX C o σ' a w:=by
 unfold rY at hf
 split at hf
 ·split at hf
  ·rename_i k0 z k m k' n hl hx hy
   have ex:=iu h hx
   have ey:=iu h hy
   split at hf
   ·rename_i hk
    obtain⟨hk',hk0⟩:=of_decide_eq_true hk;subst hk';subst hk0
    split at hf
    ·rename_i r hr
     simp only[ZS,ZT]at hf;obtain⟨rfl,rfl⟩:=hf
     refine eW h hd (v:= .int k z) ?_ (dR true rfl)
     cases op<;>simp only[arith,ZS,reduceCtorEq]at hr<;>subst hr<;>exact fun w2=>dV ho (by rw[ex];exact eqGuard_at_int _ _ _ _ _ _ _) (by rw[ex,ey];simp[binOp,Op.intArith,cU])
    ·cases hf
   ·cases hf
  ·cases hf
 ·cases hf
theorem qE{C:Ctx}{E:Env}{σ σ':St}{a:Act}{w:World}{o:Oper}{op:BinOp}{tx ty:TypeId}{x y:Operand}{vc:Prop}(ho:o.op= .binOp op tx x y ty)
  (hf:vD C.P σ o op tx x y=some (σ',vc))(h:aC C E σ a w)(hd:bA C o):gX C o σ' a w:=by
 unfold vD at hf
 have key:∀w2 b,px C.P σ tx x y=some b→(∀op',eqGuard op' tx x y (a.eval x) (a.eval y)=pure ())∧
   (binOp .eql tx (a.eval x) (a.eval y)).run C.P w2= .ok (.bool b) w2∧(binOp .neq tx (a.eval x) (a.eval y)).run C.P w2= .ok (.bool (!b)) w2:=by
  intro w2 b hb
  unfold px at hb
  split at hb
  ·rename_i e hu
   split at hb
   ·rename_i p hx hy
    simp only[ZS]at hb;subst hb
    obtain⟨p1,e1,n1⟩:=yT h hx
    obtain⟨p2,e2,n2⟩:=yT h hy
    have:p2=none:=by simpa using n2
    subst this
    rw[e1,e2]
    have hr:=Bx (P:=C.P) (w:=w2) hu p1 none (.inr rfl)
    rw[n1,Option.isNone_none,Bool.and_true]at hr
    exact⟨fun op'=>eqGuard_at_pointer _ _ _ _ _ _,rq hr (.inl ⟨⟨_,rfl⟩,⟨_,rfl⟩⟩)⟩
   ·rename_i q gl hx hy
    simp only[ZS]at hb;subst hb
    obtain⟨p1,e1,n1⟩:=yT h hx
    obtain⟨p2,e2,n2⟩:=yT h hy
    have:p1=none:=by simpa using n1
    subst this
    rw[e1,e2]
    have hr:=Bx (P:=C.P) (w:=w2) hu none p2 (.inl rfl)
    rw[n2,Option.isNone_none,Bool.true_and]at hr
    exact⟨fun op'=>eqGuard_at_pointer _ _ _ _ _ _,rq hr (.inl ⟨⟨_,rfl⟩,⟨_,rfl⟩⟩)⟩
   ·cases hb
  ·rename_i ps rs v hu
   split at hb
   ·rename_i p hx hy
    simp only[ZS]at hb;subst hb
    have e2:a.eval y= .nilFunc:=by
     rcases yU h hy with⟨_,e⟩|⟨e,_⟩
     ·exact e
     ·cases e
    rcases yU h hx with⟨rfl,e1⟩|⟨rfl,f,p,q,e1⟩<;>rw[e1,e2]
    ·exact⟨fun op'=>eqGuard_at_nilFunc _ _ _ _ _,rq (td hu).1 (.inr ⟨.inr rfl,.inr rfl⟩)⟩
    ·exact⟨fun op'=>eqGuard_at_func _ _ _ _ _ _ _ _,rq ((td hu).2.1 f p q) (.inr ⟨.inl ⟨_,_,_,rfl⟩,.inr rfl⟩)⟩
   ·rename_i q gl hx hy
    simp only[ZS]at hb;subst hb
    have e1:a.eval x= .nilFunc:=by
     rcases yU h hx with⟨_,e⟩|⟨e,_⟩
     ·exact e
     ·cases e
    rcases yU h hy with⟨rfl,e2⟩|⟨rfl,f,p,q,e2⟩<;>rw[e1,e2]
    ·exact⟨fun op'=>eqGuard_at_nilFunc _ _ _ _ _,rq (td hu).1 (.inr ⟨.inr rfl,.inr rfl⟩)⟩
    ·exact⟨fun op'=>eqGuard_at_nilFunc _ _ _ _ _,rq ((td hu).2.2 f p q) (.inr ⟨.inr rfl,.inl ⟨_,_,_,rfl⟩⟩)⟩
   ·cases hb
  ·cases hb
 split at hf
 ·rename_i b hb
  simp only[ZS,ZT]at hf;obtain⟨rfl,_⟩:=hf
  have:=fun w2=>key w2 b hb
  exact eW h hd (v:= .bool b) (fun w2=>dV ho ((this w2).1 _) (this w2).2.1) (dR true rfl)
 ·rename_i b hb
  simp only[ZS,ZT]at hf;obtain⟨rfl,_⟩:=hf
  have:=fun w2=>key w2 b hb
  exact eW h hd (v:= .bool (!b)) (fun w2=>dV ho ((this w2).1 _) (this w2).2.2) (dR true rfl)
 ·cases hf
end Go.TL
