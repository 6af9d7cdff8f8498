/- What one operation makes of the state: the operations without calls. -/
import Derived.Test.YtpoamlpahljebaaGreatDoorW01
namespace Go.TL
def bR(C:Ctx)(o:Oper)(σ':St)(a:Act)(w:World):Prop:=
 ∃v w',((execOp a.eval o).run C.P w= .ok (.value v) w'∨((execOp a.eval o).run C.P w= .ok .skip w'∧v=undef))∧Holds C σ' (a.put o.dst v) w'
def bA(C:Ctx)(o:Oper):Prop:=∀d,o.dst=some d→d<C.n
def ub(C:Ctx)(o:Oper)(σ':St)(a:Act)(w:World):Prop:=
 ∃v,(execOp a.eval o).run C.P w= .ok (.value v) w∧Holds C σ' (a.put o.dst v) w
theorem ub.out{C:Ctx}{o:Oper}{σ':St}{a:Act}{w:World}(h:ub C o σ' a w):bR C o σ' a w:=by
 obtain⟨v,h1,h2⟩:=h;exact⟨v,w,.inl h1,h2⟩
theorem s6{C:Ctx}{E:Env}{σ:St}{a:Act}{w:World}{o:Oper}{sv:SV}{v:Value}(h:aC C E σ a w)(hd:bA C o)
  (aW:(execOp a.eval o).run C.P w= .ok (.value v) w)(jW:VR w E C.lo sv v):ub C o (σ.put o.dst sv) a w:=
 ⟨v,aW,E,h.upd (Fr.refl w E) (fun _ _ h=>h) (fun _ _ h=>h) h.tab o.dst hd fun _ _=>jW⟩
theorem cn{C:Ctx}{E:Env}{σ:St}{a:Act}{w:World}{o:Oper}{sv:SV}{v:Value}(h:aC C E σ a w)(hd:bA C o)
  (aW:(execOp a.eval o).run C.P w= .ok (.value v) w)(jW:VR w E C.lo sv v):bR C o (σ.put o.dst sv) a w:=(s6 h hd aW jW).out
def pn(z:Value):Option (List SV):=
 match z.cells.toList.all (·.oneCell')with
 |true=>some (z.cells.toList.map fun v=> .p (.v v) true)
 |false=>none
theorem s7{w:World}{E:Env}{lo:Nat}{z:Value}{xs:List SV}(h:pn z=some xs):VRs w E lo xs z.cells.toList:=by
 unfold pn at h
 cases hq:z.cells.toList.all (·.oneCell')with
 |false=>simp[hq]at h
 |true=>
  simp only[hq,ZS]at h;subst h
  have:=List.all_eq_true.1 hq
  generalize z.cells.toList=l at this ⊢
  induction l with
  |nil=>exact df
  |cons x l ih=>exact bu (dR true (this x (by simp))) (ih fun y hy=>this y (by simp[hy]))
def xn(σ:St)(o:Oper)(x:Operand):Option (St×Prop):=some (σ.put o.dst (ev σ x),True)
def xo(σ:St)(o:Oper)(c x y:Operand):Option (St×Prop):=
 match ev σ c with
 | .p (.v (.bool true)) _=>some (σ.put o.dst (ev σ x),True)
 | .p (.v (.bool false)) _=>some (σ.put o.dst (ev σ y),True)
 |_=>none
theorem ek{w:World}{bad:Nat→Prop}{lo:Nat}{x v:Value}(h:Rep w bad lo (.v x) v):v=x:=by cases h;rfl
theorem dh{w:World}{E:Env}{lo:Nat}{x v:Value}{fr:Bool}(h:VR w E lo (.p (.v x) fr) v):v=x:=by simp only[VR]at h;exact ek h
theorem kf{C:Ctx}{E:Env}{σ:St}{a:Act}{w:World}{x:Operand}{y:Value}{fr:Bool}(h:aC C E σ a w)(he:ev σ x= .p (.v y) fr):a.eval x=y:=by
 have:=bO h x;rw[he]at this;exact dh this
theorem JB{C:Ctx}{E:Env}{σ:St}{a:Act}{w w1:World}{o:Oper}{d:Nat}{t:TypeId}{xs:List SV}{vs:List Value}(h:aC C E σ a w)(hd:bA C o)(dm:o.dst=some d)
  (dt:lk σ.tab d=none)(eJ:w1=w.alloc (.cells vs.toArray t))
  (aW:(execOp a.eval o).run C.P w= .ok (.value (.pointer (some ⟨w.heap.size,0,none⟩))) w1)(fH:VRs w E C.lo xs vs):
  bR C o ⟨(d,.ptr d 0)::σ.ah,(d,.box t xs)::σ.tab⟩ a w:=by
 subst eJ
 have hb:∀b,b<w.heap.size→(w.alloc (.cells vs.toArray t)).heap[b]? =w.heap[b]? :=fun b hb=>heap_alloc_old w _ b hb
 have aR:C.lo≤w.heap.size:=Nat.le_trans h.lo.le h.fr.size
 have c8:Fr w E (w.alloc (.cells vs.toArray t)) (E.add d (.pointer (some ⟨w.heap.size,0,none⟩)) w.heap.size):=
  Fr.add rfl rfl rfl (by simp) hb (Nat.le_refl _)
 have dB:=Env.ua (w:=w) (b0:=w.heap.size) (x:= .pointer (some ⟨w.heap.size,0,none⟩)) h.tab dt
 have lQ:=bV.add (w':=w.alloc (.cells vs.toArray t)) (x:= .pointer (some ⟨w.heap.size,0,none⟩)) (b0:=w.heap.size) (ov:= .box t xs) h.tab dt (by simp) hb (Nat.le_refl _) (by simp) aR
  ⟨w.heap.size,vs,by simp[Env.add],by simp[Env.add],heap_alloc_new w _,VRs.mono c8.keeps dB _ _ fH⟩
 refine⟨_,_,.inl aW,E.add d (.pointer (some ⟨w.heap.size,0,none⟩)) w.heap.size,?_⟩
 have hdn:d<C.n:=hd d dm
 have:=h.upd c8 dB (fun k hk hn=>by simp only[Env.add];rw[if_neg (by omega)];exact hn) lQ o.dst hd (sv:= .ptr d 0) (v:= .pointer (some ⟨w.heap.size,0,none⟩)) (fun _ _=>by simp only[VR];exact⟨w.heap.size,by simp[Env.add],rfl⟩)
 rw[dm]at this ⊢
 exact this
def yN(P:Program)(σ:St)(o:Oper)(t:TypeId):Option (St×Prop):=
 match o.dst,P.info? t with
 |some d,some i=>match lk σ.tab d,i.zero with
  |none,some z=>match pn z with
   |some xs=>some (⟨(d,.ptr d 0)::σ.ah,(d,.box t xs)::σ.tab⟩,True)
   |none=>none
  |_,_=>none
 |_,_=>none
theorem FF{C:Ctx}{E:Env}{σ σ':St}{a:Act}{w:World}{o:Oper}{t:TypeId}{vc:Prop}(ho:o.op= .alloc t)
  (hf:yN C.P σ o t=some (σ',vc))(h:aC C E σ a w)(hd:bA C o):bR C o σ' a w:=by
 unfold yN at hf
 split at hf
 ·rename_i d i dm hi
  split at hf
  ·rename_i z hl hz
   split at hf
   ·rename_i xs hx
    simp only[ZS,ZT]at hf;obtain⟨rfl,_⟩:=hf
    refine JB h hd dm hl rfl (vs:=z.cells.toList) ?_ (s7 hx)
    simp[execOp,ho,Instr.alloc,zeroValue,typeInfo,hi,hz,newVar,newRow]
   ·cases hf
  ·cases hf
 ·cases hf
def FU(σ:St)(o:Oper)(t:TypeId)(x:Operand):Option (St×Prop):=
 match o.dst,cellsOf (ev σ x)with
 |some d,some xs=>match lk σ.tab d with
  |none=>some (⟨(d,.ptr d 0)::σ.ah,(d,.box t xs)::σ.tab⟩,True)
  |_=>none
 |_,_=>none
theorem I0{C:Ctx}{E:Env}{σ σ':St}{a:Act}{w:World}{o:Oper}{t:TypeId}{x:Operand}{vc:Prop}(ho:o.op= .box t x)
  (hf:FU σ o t x=some (σ',vc))(h:aC C E σ a w)(hd:bA C o):bR C o σ' a w:=by
 unfold FU at hf
 split at hf
 ·rename_i d xs dm hx
  split at hf
  ·rename_i hl
   simp only[ZS,ZT]at hf;obtain⟨rfl,_⟩:=hf
   refine JB h hd dm hl rfl (vs:=(a.eval x).cells.toList) ?_ (tM hx (bO h x))
   simp[execOp,ho,Instr.box,newVar,newRow]
  ·cases hf
 ·cases hf
def lr(place:Nat→Option (Nat×Nat))(cells:List SV):List (Nat×SV)→Option (List SV)
 | []=>some cells
 |(i,x)::rest=>match place i,cellsOf x with
   |some (off,size),some xs=>match Nat.beq xs.length size,Nat.ble (off+xs.length) cells.length with
    |true,true=>lr place (spl cells off xs) rest
    |_,_=>none
   |_,_=>none
theorem Nl(l:List Value):∀(k off:Nat) (cs:Array Value),off+k+l.length≤cs.size→
  ((l.zipIdx k).foldl (fun cs (x:Value×Nat)=>cs.setIfInBounds (off+x.2) x.1) cs).toList=spl cs.toList (off+k) l:=by
 induction l with
 |nil=>intro k off cs _;simp[spl]
 |cons x l ih=>
  intro k off cs h
  simp only[List.length_cons]at h
  simp only[List.zipIdx_cons,List.foldl_cons]
  rw[ih (k+1) off _ (by simp;omega)]
  have e:=list_seg_step cs.toList (off+k) x l (by simp;omega)
  simp only[spl,Array.toList_setIfInBounds,List.length_cons]at e ⊢
  simpa[List.append_assoc,Nat.add_assoc]using e
theorem vx{w:World}{E:Env}{lo:Nat}(place:Nat→Option (Nat×Nat)):∀(ps:List (Nat×SV)) (qs:List (Nat×Value)) (cells:List SV) (cs:Array Value) (out:List SV),
  ps.length=qs.length→(∀(n:Nat) p q,ps[n]? =some p→qs[n]? =some q→p.1=q.1∧VR w E lo p.2 q.2)→
  VRs w E lo cells cs.toList→lr place cells ps=some out→∃r,Instr.fill place cs qs=some r∧VRs w E lo out r.toList
 | [],[],cells,cs,out,_,_,hc,hf=>by simp[lr]at hf;subst hf;exact⟨cs,rfl,hc⟩
 | [],_::_,_,_,_,hl,_,_,_=>by simp at hl
 |_::_,[],_,_,_,hl,_,_,_=>by simp at hl
 |(i,x)::ps,(j,v)::qs,cells,cs,out,hl,hp,hc,hf=>by
   have h0:=hp 0 (i,x) (j,v) rfl rfl
   obtain⟨e0,r0⟩:=h0
   simp only at e0 r0;subst e0
   simp only[lr]at hf
   split at hf
   ·rename_i off size xs fI hcx
    split at hf
    ·rename_i bf hle
     have hsz':=ZU bf
     have qu:=ZX hle
     have hvx:=tM hcx r0
     have hlen:=cX hvx
     have hlen2:=cX hc
     simp at hlen hlen2
     simp only[Instr.fill,fI]
     have c1:(decide (v.cells.size≠size)||decide (off+v.cells.size>cs.size))=false:=by
      simp;omega
     rw[if_neg (by simpa using c1)]
     have lI:=Nl v.cells.toList 0 off cs (by simp;omega)
     simp only[Nat.add_zero]at lI
     refine vx place ps qs (spl cells off xs) _ out (by simpa using hl) (fun n p q h1 h2=>hp (n+1) p q (by simpa using h1) (by simpa using h2)) ?_ hf
     have:=JA off hc hvx
     rw[←lI]at this
     rw[←Array.foldl_toList,Array.toList_zipIdx]
     exact this
    ·cases hf
   ·cases hf
def xp(P:Program)(t:TypeId)(parts:List (Nat×SV)):Option (List SV):=
 match P.info? t,P.underlying t with
 |some it,some (.array _ e)=>
  match it.zero,P.info? e with
  |some z,some ie=>match pn z with
   |some cs=>lr (fun i=>some (i*ie.size,ie.size)) cs parts
   |none=>none
  |_,_=>none
 |some it,some (.struct fields)=>
  match it.zero,fields.toList.mapM (fun f=>(P.info? f.type).map fun i=>(f.offset,i.size))with
  |some z,some places=>match pn z with
   |some cs=>lr (places.toArray[·]?) cs parts
   |none=>none
  |_,_=>none
 |_,_=>none
theorem Nn{P:Program}{w:World}{E:Env}{lo:Nat}{t:TypeId}{ps:List (Nat×SV)}{qs:List (Nat×Value)}{out:List SV}
  (hl:ps.length=qs.length)(hp:∀(n:Nat) p q,ps[n]? =some p→qs[n]? =some q→p.1=q.1∧VR w E lo p.2 q.2)
  (hf:xp P t ps=some out):∃r,P.built t qs=some r∧VRs w E lo out r.toList:=by
 unfold xp at hf
 unfold Program.built
 cases hi:P.info? t with
 |none=>simp[hi]at hf
 |some it=>
  cases hu:P.underlying t with
  |none=>simp[hi,hu]at hf
  |some d=>
   cases d with
   |array n e=>
    simp only[hi,hu]at hf ⊢
    cases hz:it.zero with
    |none=>simp[hz]at hf
    |some z=>
     cases he:P.info? e with
     |none=>simp[hz,he]at hf
     |some ie=>
      simp only[hz,he]at hf ⊢
      cases hq:pn z with
      |none=>simp[hq]at hf
      |some cs=>
       simp only[hq]at hf
       exact vx _ ps qs cs z.cells out hl hp (s7 hq) hf
   |struct fields=>
    simp only[hi,hu]at hf ⊢
    cases hz:it.zero with
    |none=>simp[hz]at hf
    |some z=>
     cases he:fields.toList.mapM (fun f=>(P.info? f.type).map fun i=>(f.offset,i.size))with
     |none=>simp[hz,he]at hf
     |some places=>
      simp only[hz,he]at hf ⊢
      cases hq:pn z with
      |none=>simp[hq]at hf
      |some cs=>
       simp only[hq]at hf
       exact vx _ ps qs cs z.cells out hl hp (s7 hq) hf
   |_=>simp[hi,hu]at hf
def gQ(σ:St):List (Nat×Operand)→List (Nat×SV)
 | []=>[]
 |(i,x)::r=>(i,ev σ x)::gQ σ r
theorem tN{C:Ctx}{E:Env}{σ:St}{a:Act}{w:World}(h:aC C E σ a w):∀l:List (Nat×Operand),
  (gQ σ l).length=(l.map fun(i,x)=>(i,a.eval x)).length∧
  ∀(n:Nat) p q,(gQ σ l)[n]? =some p→(l.map fun(i,x)=>(i,a.eval x))[n]? =some q→p.1=q.1∧VR w E C.lo p.2 q.2
 | []=>by simp[gQ]
 |(i,x)::r=>by
   have ih:=tN h r
   refine⟨by simp[gQ,ih.1],?_⟩
   intro n p q hp hq
   cases n with
   |zero=>simp[gQ]at hp hq;subst hp;subst hq;exact⟨rfl,bO h x⟩
   |succ n=>exact ih.2 n p q (by simpa[gQ]using hp) (by simpa using hq)
def yO(P:Program)(σ:St)(o:Oper)(t:TypeId)(parts:Array (Nat×Operand)):Option (St×Prop):=
 match xp P t (gQ σ parts.toList)with
 |some xs=>some (σ.put o.dst (.agg xs),True)
 |none=>none
theorem FG{C:Ctx}{E:Env}{σ σ':St}{a:Act}{w:World}{o:Oper}{t:TypeId}{parts:Array (Nat×Operand)}{vc:Prop}(ho:o.op= .build t parts)
  (hf:yO C.P σ o t parts=some (σ',vc))(h:aC C E σ a w)(hd:bA C o):bR C o σ' a w:=by
 unfold yO at hf
 split at hf
 ·rename_i xs hx
  simp only[ZS,ZT]at hf;obtain⟨rfl,_⟩:=hf
  have hp:=tN h parts.toList
  obtain⟨r,hr,hv⟩:=Nn hp.1 hp.2 hx
  refine cn h hd (v:= .agg r) ?_ (by simp only[VR];exact⟨r.toList,by simp,hv⟩)
  have:=run_build (P:=C.P) w t (parts.map fun(i,x)=>(i,a.eval x)) r (by simpa using hr)
  simp[execOp,ho,this]
 ·cases hf
end Go.TL
namespace Go.TL
def iq(P:Program)(t:TypeId):Option Bool:=
 match P.underlying t with
 |some (.struct _)=>some true
 |some (.array _ _)=>some true
 |some _=>some false
 |none=>none
theorem xq{P:Program}{t:TypeId}{b:Bool}(h:iq P t=some b)(w:World):(isAgg t).run P w= .ok b w:=by
 cases hu:P.underlying t with
 |none=>simp[iq,hu]at h
 |some d=>cases d<;>(simp[iq,hu]at h;subst h;simp[isAgg,run_underlying hu])
def mkp(fr:Bool):PV→SV
 | .v x=> .p (.v x) true
 | .sl rows=> .p (.sl rows) fr
 | .rm len rows=> .p (.rm len rows) fr
 | .ls rows=> .p (.ls rows) fr
 | .un=> .p .un true
 | .mp a rows=> .p (.mp a rows) fr
theorem yP{w:World}{E:Env}{lo:Nat}{fr:Bool}{x:PV}{v:Value}(h:Rep w E.bad (flo lo fr) x v):VR w E lo (mkp fr x) v:=by
 cases x with
 |v y=>simp only[mkp,VR];have:=ek h;subst this;cases h with|v _ hx=>exact .v _ hx
 |sl rows=>simpa only[mkp,VR]using h
 |rm len rows=>simpa only[mkp,VR]using h
 |ls rows=>simpa only[mkp,VR]using h
 |un=>cases h with|un _ hx=>simp only[mkp,VR];exact .un _ hx
 |mp a rows=>simpa only[mkp,VR]using h
theorem Ay{w:World}{E:Env}{lo:Nat}{fr:Bool}:∀(xs:List PV) (vs:List Value),xs.length=vs.length→
  (∀(j:Nat) x v,xs[j]? =some x→vs[j]? =some v→Rep w E.bad (flo lo fr) x v)→VRs w E lo (xs.map (mkp fr)) vs
 | [],[],_,_=>df
 |x::xs,v::vs,hl,h=>bu (yP (h 0 x v rfl rfl)) (Ay xs vs (by simpa using hl) fun j y u hy hu=>h (j+1) y u (by simpa using hy) (by simpa using hu))
 | [],_::_,hl,_=>by simp at hl
 |_::_,[],hl,_=>by simp at hl
theorem lu{P:Program}{w:World}{t:TypeId}{i:TypeInfo}{ag:Bool}{b o:Nat}{vs:List Value}(ha:iq P t=some ag)(hi:P.info? t=some i)
  (hc:∀(j:Nat) v,vs[j]? =some v→w.cell? ⟨b,o+j,none⟩=some v)(hl:vs.length=i.size)(h1:ag=false→vs.length=1):
  (Instr.loadAt t (.pointer (some ⟨b,o,none⟩))).run P w= .ok (match ag with|true=> .agg vs.toArray|false=>vs.headD undef) w:=by
 have hr:=xq ha w
 cases ag with
 |true=>
  have dQ:=run_loadCells_list (P:=P) w ⟨b,o,none⟩ vs (fun j v hv=>by rw[Addr.add_lit];exact hc j v hv)
  rw[hl]at dQ
  simp[Instr.loadAt,Instr.sureAddr,loadVar,hr,sizeOf,typeInfo,hi,dQ]
 |false=>
  have h1':=h1 rfl
  match vs,h1' with
  | [v],_=>
   have:=hc 0 v rfl
   simp only[Nat.add_zero]at this
   simp[Instr.loadAt,Instr.sureAddr,loadVar,hr,this]
def j0(P:Program)(t:TypeId)(off:Nat)(cells:List SV):Option SV:=
 match iq P t,P.info? t with
 |some true,some i=>match Nat.ble (off+i.size) cells.length with
  |true=>some (.agg ((cells.drop off).take i.size))
  |false=>none
 |some false,some i=>match Nat.beq i.size 1,(cells.drop off)with
  |true,x::_=>some x
  |_,_=>none
 |_,_=>none
theorem gC{w:World}{b:Nat}{cs:Array Value}{t:TypeId}{fz:Nat×Nat}(h:w.heap[b]? =some (.cells cs t fz))(j:Nat):w.cell? ⟨b,j,none⟩=cs[j]? :=by
 simp[World.cell?,h]
theorem vy{P:Program}{w:World}{E:Env}{lo:Nat}{t:TypeId}{off b o:Nat}{cells:List SV}{vs:List Value}{sv:SV}(hv:VRs w E lo cells vs)
  (hc:∀(j:Nat) v,vs[j]? =some v→w.cell? ⟨b,o+j,none⟩=some v)(hf:j0 P t off cells=some sv):
  ∃v,(Instr.loadAt t (.pointer (some ⟨b,o+off,none⟩))).run P w= .ok v w∧VR w E lo sv v:=by
 unfold j0 at hf
 split at hf
 ·rename_i i ha hi
  split at hf
  ·rename_i hle
   have qu:=ZX hle
   simp only[ZS]at hf;subst hf
   have hlen:=cX hv
   have hr:=lu (w:=w) (b:=b) (o:=o+off) (vs:=(vs.drop off).take i.size) ha hi
    (fun j v hj=>by
     rw[List.getElem?_take]at hj
     split at hj
     ·rw[List.getElem?_drop]at hj;rw[Nat.add_assoc];exact hc _ _ hj
     ·cases hj) (by simp;omega) (fun h=>by cases h)
   exact⟨_,hr,by simp only[VR];exact⟨_,rfl,oD _ (oE off hv)⟩⟩
  ·cases hf
 ·rename_i i ha hi
  split at hf
  ·rename_i x xs bf hdr
   have hsz':=ZU bf
   simp only[ZS]at hf;subst hf
   have hd:=oE off hv
   rw[hdr]at hd
   cases hvd:vs.drop off with
   |nil=>rw[hvd]at hd;simp[VRs]at hd
   |cons v rest=>
    rw[hvd]at hd
    have hr:=lu (w:=w) (b:=b) (o:=o+off) (vs:=[v]) ha hi
     (fun j u hj=>by
      cases j with
      |zero=>
       simp at hj;subst hj
       refine hc (off+0) v ?_|>fun h=>by simpa[Nat.add_assoc]using h
       have:(vs.drop off)[0]? =some v:=by rw[hvd];rfl
       simpa[List.getElem?_drop]using this
      |succ j=>simp at hj) (by simp[hsz']) (fun _=>rfl)
    exact⟨v,by simpa using hr,(aH.1 hd).1⟩
  ·cases hf
 ·cases hf
structure Hint where
 ld:List (Nat×List PV)
 st:List (Nat×List PV)
def ji(P:Program)(H:Hint)(σ:St)(o:Oper)(t:TypeId)(x:Operand):Option (St×Prop):=
 match ev σ x with
 | .ptr k off=>match lk σ.tab k with
  |some (.box _ cells)=>match j0 P t off cells with
   |some sv=>some (σ.put o.dst sv,True)
   |none=>none
  |_=>none
 | .pd row off fr=>match j0 P t off (row.map (mkp fr))with
  |some sv=>some (σ.put o.dst sv,True)
  |none=>none
 | .bn k sz i off=>match lk σ.tab k,o.dst with
  |some (.vec _ gm rows fr),some d=>match lk H.ld d with
   |some row=>match j0 P t off (row.map (mkp fr)),Nat.beq sz gm with
    |some sv,true=>some (σ.put o.dst sv,rows[i]? =some row)
    |_,_=>none
   |none=>none
  |_,_=>none
 |_=>none
theorem I1{w:World}{E:Env}{lo sz:Nat}{fr:Bool}{rows:List (List PV)}{xs:List Value}(h:de w E.bad (flo lo fr) sz rows xs){i:Nat}{row:List PV}(hi:rows[i]? =some row):
  ∃vs:List Value,VRs w E lo (row.map (mkp fr)) vs∧∀(j:Nat) v,vs[j]? =some v→xs[i*sz+j]? =some v:=by
 obtain⟨f,h1,h2,h3⟩:=h
 refine⟨(List.range row.length).map (f i),Ay _ _ (by simp) ?_,?_⟩
 ·intro j x v hx hv
  have hj:j<row.length:=(ZY hx).1
  simp[hj]at hv;subst hv
  exact h3 i row j x hi hx
 ·intro j v hv
  have hj:j<row.length:=by
   have:=(ZY hv).1;simpa using this
  simp[hj]at hv;subst hv
  exact h2 i row j row[j] hi (by simp[hj])
theorem No{w:World}{E:Env}{lo:Nat}{fr:Bool}{row:List PV}{b o:Nat}(h:yK w E.bad (flo lo fr) row b o):
  ∃vs:List Value,VRs w E lo (row.map (mkp fr)) vs∧∀(j:Nat) v,vs[j]? =some v→w.cell? ⟨b,o+j,none⟩=some v:=by
 obtain⟨cs,t,fz,f,hb,_,_,h1,h2⟩:=h
 refine⟨(List.range row.length).map f,Ay _ _ (by simp) ?_,?_⟩
 ·intro j x v hx hv
  have hj:j<row.length:=(ZY hx).1
  simp[hj]at hv;subst hv
  exact h2 j x hx
 ·intro j v hv
  have hj:j<row.length:=by
   have:=(ZY hv).1;simpa using this
  simp[hj]at hv;subst hv
  rw[gC hb]
  exact h1 j row[j] (by simp[hj])
theorem EA{w:World}{E:Env}{lo k:Nat}{t:TypeId}{sz:Nat}{rows:List (List PV)}{fr:Bool}(dL:OR w E lo k (.vec t sz rows fr)){b n c:Nat}
  (hv:E.val k=some (.slice (some ⟨b,0,none⟩) n c)):E.own b=some k∧n=rows.length∧n≤c∧0<sz∧∃cur:Array Value,w.heap[b]? =some (.cells cur t (0,0))∧cur.size=c*sz∧
   de w E.bad (flo lo fr) sz rows (cur.toList.take (n*sz)):=by
 obtain⟨v,xs,h1,h2,h3,h4,h5⟩:=dL
 rw[hv]at h1;cases h1
 obtain⟨h31,h32⟩:=h3
 rcases h32 with⟨h,_⟩|⟨g,cap,cur,he,_,hg,hle,_,bf,htk⟩
 ·cases h
 ·simp only[Value.slice.injEq,ZS,Addr.mk.injEq]at he
  obtain⟨⟨rfl,_⟩,rfl,rfl⟩:=he
  exact⟨h4 _ rfl,rfl,hle,h2,cur,hg,bf,by rw[htk];exact h5⟩
theorem rR{C:Ctx}{H:Hint}{E:Env}{σ σ':St}{a:Act}{w:World}{o:Oper}{t:TypeId}{x:Operand}{vc:Prop}(ho:o.op= .load t x)
  (hf:ji C.P H σ o t x=some (σ',vc))(cU:vc)(h:aC C E σ a w)(hd:bA C o):ub C o σ' a w:=by
 have az:=bO h x
 unfold ji at hf
 split at hf
 ·rename_i k off he
  rw[he]at az;simp only[VR]at az
  obtain⟨b,hb,hx⟩:=az
  split at hf
  ·rename_i bt cells hl
   split at hf
   ·rename_i sv jW
    simp only[ZS,ZT]at hf;obtain⟨rfl,_⟩:=hf
    obtain⟨b',vs,h1,h2,h3,h4⟩:=h.tab.obj k _ hl
    rw[hb]at h1;simp at h1;subst h1
    obtain⟨v,hr,hv⟩:=vy (P:=C.P) (b:=b) (o:=0) h4 (fun j v hj=>by rw[gC h3];simpa using hj) jW
    simp only[Nat.zero_add]at hr
    exact s6 h hd (v:=v) (by simp[execOp,ho,hx,hr]) hv
   ·cases hf
  ·cases hf
 ·rename_i row off fr he
  rw[he]at az;simp only[VR]at az
  obtain⟨b,o',hx,hrep⟩:=az
  split at hf
  ·rename_i sv jW
   simp only[ZS,ZT]at hf;obtain⟨rfl,_⟩:=hf
   obtain⟨vs,h1,h2⟩:=No hrep
   obtain⟨v,hr,hv⟩:=vy (P:=C.P) (b:=b) (o:=o') h1 h2 jW
   exact s6 h hd (v:=v) (by simp[execOp,ho,hx,hr]) hv
  ·cases hf
 ·rename_i k sz i off he
  rw[he]at az;simp only[VR]at az
  obtain⟨b,n,c,hb,hx⟩:=az
  split at hf
  ·rename_i d tt gm rows fr dd hl dm
   split at hf
   ·rename_i row a6
    split at hf
    ·rename_i sv jW hszz
     have:=ZU hszz;subst this
     simp only[ZS,ZT]at hf;obtain⟨rfl,rfl⟩:=hf
     obtain⟨_,hn,hnc,hszp,cur,hg,fZ,hrr⟩:=EA (h.tab.obj k _ hl) hb
     obtain⟨vs,h1,h2⟩:=I1 hrr cU
     obtain⟨v,hr,hv⟩:=vy (P:=C.P) (b:=b) (o:=i*sz) h1 (fun j v hj=>by
      have:=h2 j v hj
      rw[gC hg]
      rw[List.getElem?_take]at this
      split at this
      ·simpa using this
      ·cases this) jW
     exact s6 h hd (v:=v) (by simp[execOp,ho,hx,hr]) hv
    ·cases hf
   ·cases hf
  ·cases hf
 ·cases hf
theorem xr{C:Ctx}{H:Hint}{E:Env}{σ σ':St}{a:Act}{w:World}{o:Oper}{t:TypeId}{x:Operand}{vc:Prop}(ho:o.op= .load t x)
  (hf:ji C.P H σ o t x=some (σ',vc))(cU:vc)(h:aC C E σ a w)(hd:bA C o):bR C o σ' a w:=(rR ho hf cU h hd).out
theorem Dk{C:Ctx}{E:Env}{σ:St}{a:Act}{w w1:World}{o:Oper}{k:Nat}{ov:OV}(h:aC C E σ a w)(hd:bA C o)(hk:lk σ.tab k≠none)
  (aW:(execOp a.eval o).run C.P w= .ok .skip w1)(hos:w1.os=w.os)(htp:w1.tape=w.tape)(hou:w1.output=w.output)(hs:w1.heap.size=w.heap.size)
  (hb:∀b,E.own b≠some k→w1.heap[b]? =w.heap[b]?)(dL:OR w1 E C.lo k ov):bR C o ((⟨σ.ah,(k,ov)::rm σ.tab k⟩:St).put o.dst .u) a w:=
 ⟨undef,w1,.inr ⟨aW,rfl⟩,E,h.upd (Fr.set hos htp hou hs hb) (fun _ _ h=>h) (fun _ _ h=>h) (h.tab.set hk hs hb dL) o.dst hd fun _ _=>by simp[VR]⟩
def j3(P:Program)(H:Hint)(σ:St)(o:Oper)(t:TypeId)(x y:Operand):Option (St×Prop):=
 match cellsOf (ev σ y),P.info? t with
 |some xs,some i=>match Ax xs,Nat.beq xs.length i.size with
  |true,true=>match ev σ x with
   | .ptr k off=>match lk σ.tab k with
    |some (.box bt cells)=>match Nat.ble (off+xs.length) cells.length with
     |true=>some ((⟨σ.ah,(k,.box bt (spl cells off xs))::rm σ.tab k⟩:St).put o.dst .u,True)
     |false=>none
    |_=>none
   | .bn k sz n off=>match lk σ.tab k,lq xs with
    |some (.vec bt gm rows fr),some (ys,jX)=>match lk H.st k,Nat.beq sz gm with
     |some row,true=>match Nat.ble (off+xs.length) row.length with
      |true=>some ((⟨σ.ah,(k,.vec bt gm (rows.set n (spl row off ys)) (fr && jX))::rm σ.tab k⟩:St).put o.dst .u,rows[n]? =some row)
      |false=>none
     |_,_=>none
    |_,_=>none
   |_=>none
  |_,_=>none
 |_,_=>none
theorem pq{P:Program}{w:World}{t bt:TypeId}{i:TypeInfo}{b off:Nat}{v:Value}{cur:Array Value}(hi:P.info? t=some i)(hs:v.cells.toList.length=i.size)
  (hg:w.heap[b]? =some (.cells cur bt (0,0)))(hle:off+v.cells.toList.length≤cur.size)(h1:∀u∈v.cells.toList,u.oneCell'=true):
  (Instr.storeAt t (.pointer (some ⟨b,off,none⟩)) v).run P w= .ok () (w.setRow b (spl cur.toList off v.cells.toList).toArray):=by
 have hst:=run_storeCells_at P b off bt v.cells.toList 0 cur w hg (by simpa using hle) h1
 have fm:v.cells.size=i.size:=by simpa using hs
 simp only[Nat.add_zero]at hst
 simp[Instr.storeAt,Instr.sureAddr,storeVar,sizeOf,typeInfo,hi,fm,hst,spl,List.append_assoc]
theorem gW{α:Type}(cs:List α)(off:Nat)(new:List α)(h:off+new.length≤cs.length):(spl cs off new).length=cs.length:=by
 simp[spl];omega
theorem mY{α:Type}(cs:List α)(off:Nat)(new:List α)(h:off+new.length≤cs.length)(j:Nat):
  (spl cs off new)[j]? =if off≤j∧j<off+new.length then new[j - off]? else cs[j]? :=by
 unfold spl
 rw[List.getElem?_append]
 simp only[List.length_take,Nat.min_eq_left (show off≤cs.length by omega)]
 split
 ·rename_i hj
  rw[if_neg (by omega),List.getElem?_take,if_pos hj]
 ·rename_i hj
  rw[List.getElem?_append]
  split
  ·rename_i hj2
   rw[if_pos (by omega)]
  ·rename_i hj2
   rw[if_neg (by omega),List.getElem?_drop]
   congr 1;omega
theorem xa{C:Ctx}{H:Hint}{E:Env}{σ σ':St}{a:Act}{w:World}{o:Oper}{t:TypeId}{x y:Operand}{vc:Prop}(ho:o.op= .store t x y)
  (hf:j3 C.P H σ o t x y=some (σ',vc))(cU:vc)(h:aC C E σ a w)(hd:bA C o):bR C o σ' a w:=by
 have az:=bO h x
 unfold j3 at hf
 split at hf
 ·rename_i xs i fH hi
  have gM:=tM fH (bO h y)
  have hlen:=cX gM
  have hszy:(a.eval y).cells.toList.length=(a.eval y).cells.size:=by simp
  split at hf
  ·rename_i tJ bf
   have hsz':=ZU bf
   have h1:=Gu tJ gM
   split at hf
   ·rename_i k off he
    rw[he]at az;simp only[VR]at az
    obtain⟨b,hb,hx⟩:=az
    split at hf
    ·rename_i bt cells hl
     split at hf
     ·rename_i hle
      have qu:=ZX hle
      simp only[ZS,ZT]at hf;obtain⟨rfl,_⟩:=hf
      obtain⟨b',vs,e1,e2,e3,e4⟩:=h.tab.obj k _ hl
      rw[hb]at e1;simp at e1;subst e1
      have hvl:=cX e4
      have hr:=pq (P:=C.P) (off:=off) (v:=a.eval y) hi (by omega) e3 (by simp;omega) h1
      have hk0:lk σ.tab k≠none:=by rw[hl];simp
      refine Dk h hd hk0 (w1:=w.setRow b (spl vs off (a.eval y).cells.toList).toArray) (by simp[execOp,ho,hx,hr]) rfl rfl rfl (by simp) ?_ ?_
      ·intro c hc
       exact setRow_other w b c _ (fun e=>hc (by rw[e];exact e2))
      ·refine⟨b,spl vs off (a.eval y).cells.toList,hb,e2,setRow_heap w b _ _ bt _ e3,?_⟩
       have db:eL w E (w.setRow b (spl vs off (a.eval y).cells.toList).toArray) E:=⟨fun c _ hn=>⟨setRow_other w b c _ (fun e=>by subst e;rw[hn]at e2;cases e2),hn⟩,rfl⟩
       exact VRs.mono db (fun _ _ h=>h) _ _ (JA off e4 gM)
     ·cases hf
    ·cases hf
   ·rename_i k sz n off he
    rw[he]at az;simp only[VR]at az
    obtain⟨b,nn,c,hb,hx⟩:=az
    split at hf
    ·rename_i bt gm rows fr ys jX hl hys
     split at hf
     ·rename_i row a6 hszz
      have:=ZU hszz;subst this
      split at hf
      ·rename_i hle
       have qu:=ZX hle
       simp only[ZS,ZT]at hf;obtain⟨rfl,rfl⟩:=hf
       have dL:=h.tab.obj k _ hl
       obtain⟨e2,hn,hnc,hszp,cur,hg,fZ,f,r1,r2,r3⟩:=EA dL hb
       obtain⟨g1,g2,g,g3,g4⟩:=mW xs ys jX hys _ gM
       have ea:n<rows.length:=(ZY cU).1
       have hrl:=r1 n row cU
       have fR:n*sz+sz≤cur.size:=by
        rw[fZ]
        have:(n+1)*sz≤c*sz:=Nat.mul_le_mul_right _ (by omega)
        rw[Nat.add_mul,Nat.one_mul]at this;exact this
       have hyl:ys.length=(a.eval y).cells.toList.length:=g2.symm
       have hr:=pq (P:=C.P) (off:=n*sz+off) (v:=a.eval y) hi (by omega) hg (by omega) h1
       have hk0:lk σ.tab k≠none:=by rw[hl];simp
       refine Dk h hd hk0 (w1:=w.setRow b (spl cur.toList (n*sz+off) (a.eval y).cells.toList).toArray) (by simp[execOp,ho,hx,hr]) rfl rfl rfl (by simp) ?_ ?_
       ·intro c hc
        exact setRow_other w b c _ (fun e=>hc (by rw[e];exact e2))
       ·obtain⟨v,vxs,q1,q2,q3,q4,q5⟩:=dL
        rw[hb]at q1;cases q1
        have db:eL w E (w.setRow b (spl cur.toList (n*sz+off) (a.eval y).cells.toList).toArray) E:=⟨fun c _ hn=>⟨setRow_other w b c _ (fun e=>by subst e;rw[hn]at e2;cases e2),hn⟩,rfl⟩
        obtain⟨q31,q32⟩:=q3
        rcases q32 with⟨q,_⟩|⟨gg,cap,cur',qe,_,qg,qle,qm,qsz,qtk⟩
        ·cases q
        simp only[Value.slice.injEq,ZS,Addr.mk.injEq]at qe
        obtain⟨⟨rfl,_⟩,rfl,rfl⟩:=qe
        rw[hg]at qg;simp at qg;subst qg
        have dM:(spl cur.toList (n*sz+off) (a.eval y).cells.toList).length=cur.size:=by rw[gW _ _ _ (by simp;omega)];simp
        refine⟨_,(spl cur.toList (n*sz+off) (a.eval y).cells.toList).take (rows.length*sz),hb,hszp,⟨?_,.inr ⟨b,c,_,by rw[hn];simp,Nat.zero_le _,setRow_heap w b _ _ bt _ hg,by simp;omega,by omega,by simp[dM,fZ],by simp⟩⟩,q4,?_⟩
        ·simp only[List.length_take,dM,fZ,List.length_set]
         exact Nat.min_eq_left (Nat.mul_le_mul_right _ (by omega))
        ·refine⟨fun i j=>if i=n∧off≤j∧j<off+ys.length then g (j - off)else f i j,?_,?_,?_⟩
         ·intro i fF fc
          by_cases gN:n=i
          ·subst gN
           rw[List.getElem?_set_self ea]at fc;simp at fc;subst fc
           rw[gW _ _ _ (by omega)];exact hrl
          ·rw[List.getElem?_set_ne gN]at fc;exact r1 i fF fc
         ·intro i fF j x' fc hj
          have hilt:i<rows.length:=by have:=(ZY fc).1;simpa using this
          have hjlt:j<sz:=by
           by_cases gN:n=i
           ·subst gN
            rw[List.getElem?_set_self ea]at fc;simp at fc;subst fc
            have:=(ZY hj).1
            rw[gW _ _ _ (by omega)]at this;omega
           ·rw[List.getElem?_set_ne gN]at fc;rw[←r1 i fF fc];exact(ZY hj).1
          have hij:i*sz+j<rows.length*sz:=by
           have:(i+1)*sz≤rows.length*sz:=Nat.mul_le_mul_right _ (by omega)
           rw[Nat.add_mul,Nat.one_mul]at this;omega
          rw[List.getElem?_take,if_pos hij,mY _ _ _ (by simp;omega)]
          by_cases gN:n=i
          ·subst gN
           rw[List.getElem?_set_self ea]at fc;simp at fc;subst fc
           rw[mY _ _ _ (by omega)]at hj
           by_cases ga:off≤j∧j<off+ys.length
           ·rw[if_pos (by omega)];dsimp only;rw[if_pos ⟨rfl,ga⟩]
            rw[if_pos ga]at hj
            have:=g3 (j - off) x' hj
            rw[show n*sz+j - (n*sz+off)=j - off by omega];exact this
           ·rw[if_neg (by omega)];dsimp only;rw[if_neg (fun hh=>ga hh.2)]
            rw[if_neg ga]at hj
            have:=r2 n row j x' cU hj
            rw[List.getElem?_take,if_pos (by rw[hn];exact hij)]at this
            exact this
          ·rw[List.getElem?_set_ne gN]at fc
           have gl:¬ (n*sz+off≤i*sz+j∧i*sz+j<n*sz+off+(a.eval y).cells.toList.length):=by
            intro hh
            rcases Nat.lt_or_gt_of_ne gN with av|hgt
            ·have:(n+1)*sz≤i*sz:=Nat.mul_le_mul_right _ (by omega)
             rw[Nat.add_mul,Nat.one_mul]at this;omega
            ·have:(i+1)*sz≤n*sz:=Nat.mul_le_mul_right _ (by omega)
             rw[Nat.add_mul,Nat.one_mul]at this;omega
           rw[if_neg gl];dsimp only;rw[if_neg (fun hh=>gN hh.1.symm)]
           have:=r2 i fF j x' fc hj
           rw[List.getElem?_take,if_pos (by rw[hn];exact hij)]at this
           exact this
         ·intro i fF j x' fc hj
          by_cases gN:n=i
          ·subst gN
           rw[List.getElem?_set_self ea]at fc;simp at fc;subst fc
           rw[mY _ _ _ (by omega)]at hj
           by_cases ga:off≤j∧j<off+ys.length
           ·dsimp only;rw[if_pos ⟨rfl,ga⟩]
            rw[if_pos ga]at hj
            exact(g4 (j - off) x' hj).mono (jg _ _ _).2 db.rep
           ·dsimp only;rw[if_neg (fun hh=>ga hh.2)]
            rw[if_neg ga]at hj
            exact(r3 n row j x' cU hj).mono (jg _ _ _).1 db.rep
          ·rw[List.getElem?_set_ne gN]at fc
           dsimp only;rw[if_neg (fun hh=>gN hh.1.symm)]
           exact(r3 i fF j x' fc hj).mono (jg _ _ _).1 db.rep
      ·cases hf
     ·cases hf
    ·cases hf
   ·cases hf
  ·cases hf
 ·cases hf
def cG(P:Program)(s:TypeId)(f:Nat):Option (Nat×Nat):=
 match P.underlying s with
 |some (.struct fields)=>match fields.toList[f]? with
  |some fd=>match P.info? fd.type with
   |some i=>match Nat.beq i.size 0 with|true=>none|false=>some (fd.offset,i.size)
   |none=>none
  |none=>none
 |_=>none
def shift(n m:Nat):SV→Option SV
 | .ptr k off=>some (.ptr k (off+n))
 | .pd row 0 fr=>some (.pd ((row.drop n).take m) 0 fr)
 | .bn k sz i off=>some (.bn k sz i (off+n))
 |_=>none
theorem Np{w:World}{E:Env}{lo n m:Nat}{s s':SV}{v:Value}(hs:shift n m s=some s')(h:VR w E lo s v):
  ∃b o,v= .pointer (some ⟨b,o,none⟩)∧VR w E lo s' (.pointer (some ⟨b,o+n,none⟩)):=by
 cases s with
 |ptr k off=>
  simp only[shift,ZS]at hs;subst hs;simp only[VR]at h ⊢
  obtain⟨b,h1,rfl⟩:=h;exact⟨b,off,rfl,b,h1,rfl⟩
 |pd row off fr=>
  cases off with
  |succ off=>simp[shift]at hs
  |zero=>
   simp only[shift,ZS]at hs;subst hs;simp only[VR]at h ⊢
   obtain⟨b,o,rfl,cs,t,fz,f,h1,h2,h3,h4,h5⟩:=h
   have dC:∀(j:Nat) x,((row.drop n).take m)[j]? =some x→row[n+j]? =some x:=by
    intro j x hx
    rw[List.getElem?_take]at hx
    split at hx
    ·rw[List.getElem?_drop]at hx;exact hx
    ·cases hx
   exact⟨b,o+0,rfl,b,o+n,rfl,cs,t,fz,fun j=>f (n+j),h1,h2,h3,fun j x hx=>by have:=h4 _ x (dC j x hx);rw[Nat.add_assoc];exact this,fun j x hx=>h5 _ x (dC j x hx)⟩
 |bn k sz i off=>
  simp only[shift,ZS]at hs;subst hs;simp only[VR]at h ⊢
  obtain⟨b,n',c,h1,rfl⟩:=h;exact⟨b,_,rfl,b,n',c,h1,by rw[Nat.add_assoc]⟩
 |_=>simp[shift]at hs
def pw(P:Program)(σ:St)(o:Oper)(s:TypeId)(x:Operand)(f:Nat):Option (St×Prop):=
 match cG P s f with
 |some (n,m)=>match shift n m (ev σ x)with
  |some sv=>some (σ.put o.dst sv,True)
  |none=>none
 |none=>none
def qy(σ:St)(o:Oper)(x:Operand):Option (St×Prop):=
 match ev σ x with
 | .ptr k off=>some (σ.put o.dst (.ptr k off),True)
 | .pd row off fr=>some (σ.put o.dst (.pd row off fr),True)
 | .bn k sz i off=>some (σ.put o.dst (.bn k sz i off),True)
 | .cL t y=>some (σ.put o.dst (.cL t y),True)
 | .fn (.func f) first aQ=>some (σ.put o.dst (.fn (.func f) first aQ),True)
 |_=>none
end Go.TL
namespace Go.TL
def Env.re(E:Env)(k d:Nat)(x:Value):Env:=
 ⟨fun j=>if j=d then some x else if j=k then none else E.val j,fun c=>if x.ownBlock=some c then some d else if E.own c=some k then none else E.own c,E.ext⟩
theorem Nq{w:World}{E:Env}{lo k d:Nat}{x:Value}{T:Tab}(h:bV w E lo T)(hd:lk (rm T k) d=none):But k E (E.re k d x):=by
 intro j y hj hy
 have hjd:j≠d:=fun e=>by
  subst e;rw[cM _ _ _ hj]at hd;rw[h.dead j hd]at hy;cases hy
 simp[Env.re,hjd,hj,hy]
theorem bV.re{w w':World}{E:Env}{lo k d:Nat}{x:Value}{T:Tab}{ov:OV}(h:bV w E lo T)(hd:lk (rm T k) d=none)(hs:w.heap.size≤w'.heap.size)
  (hb:∀b,b<w.heap.size→E.own b≠some k→w'.heap[b]? =w.heap[b]?)(hx:∀g,x.ownBlock=some g→(E.own g=some k∨w.heap.size≤g)∧g<w'.heap.size)
  (aR:lo≤w.heap.size)(dL:OR w' (E.re k d x) lo d ov):
  bV w' (E.re k d x) lo ((d,ov)::nK k .u (fun _=> .u) (rm T k))∧eL w E w' (E.re k d x):=by
 have db:eL w E w' (E.re k d x):=by
  refine⟨?_,rfl⟩
  intro b av hn
  refine⟨hb b av (by rw[hn];simp),?_⟩
  simp only[Env.re]
  split
  ·rename_i hg
   rcases(hx b hg).1 with h1|h1
   ·rw[hn]at h1;cases h1
   ·omega
  ·rw[if_neg (by rw[hn];simp)];exact hn
 have hbut:=Nq (x:=x) h hd
 have cD:∀j,j≠k→j≠d→∀b,(E.re k d x).own b=some j ↔ E.own b=some j:=by
  intro j eI hjd b
  simp only[Env.re]
  split
  ·rename_i hg
   constructor
   ·intro e;simp at e;exact absurd e.symm hjd
   ·intro e
    rcases(hx b hg).1 with h1|h1
    ·rw[e]at h1;simp at h1;exact absurd h1 eI
    ·have:=(h.own b j e).1;omega
  ·split
   ·rename_i hk
    constructor
    ·intro e;cases e
    ·intro e;rw[hk]at e;simp at e;exact absurd e.symm eI
   ·exact Iff.rfl
 refine⟨⟨?_,?_,?_,?_⟩,db⟩
 ·intro j o hl
  by_cases he:j=d
  ·subst he;rw[aB]at hl;cases hl;exact dL
  ·rw[aw _ _ _ _ he,jB]at hl
   by_cases eI:j=k
   ·subst eI;rw[lp]at hl;simp at hl
   ·rw[cM _ _ _ eI]at hl
    cases hq:lk T j with
    |none=>simp[hq]at hl
    |some o0=>
     simp[hq]at hl;subst hl
     exact OR.fz eI db hbut (fun _ _=>by simp[VR]) (fun _ _ _=>by simp[VR]) (cD j eI he)
      (fun b ho=>hb b (h.own b j ho).1 (by rw[ho];simp[eI])) (h.obj j o0 hq)
 ·intro j hl
  have he:j≠d:=fun e=>by subst e;rw[aB]at hl;cases hl
  rw[aw _ _ _ _ he,jB]at hl
  simp only[Env.re,if_neg he]
  by_cases eI:j=k
  ·simp[eI]
  ·rw[if_neg eI]
   rw[cM _ _ _ eI]at hl
   exact h.dead j (by simpa using hl)
 ·intro b j ho
  by_cases he:j=d
  ·subst he
   refine⟨?_,?_,by rw[aB];simp⟩
   ·simp only[Env.re]at ho
    split at ho
    ·rename_i hg;exact(hx b hg).2
    ·split at ho
     ·cases ho
     ·have:=(h.own b j ho).1;omega
   ·simp only[Env.re]at ho
    split at ho
    ·rename_i hg
     rcases(hx b hg).1 with h1|h1
     ·exact(h.own b k h1).2.1
     ·omega
    ·split at ho
     ·cases ho
     ·exact(h.own b j ho).2.1
  ·have eI:j≠k:=by
    intro e;subst e
    simp only[Env.re]at ho
    split at ho
    ·simp at ho;exact he ho.symm
    ·split at ho
     ·cases ho
     ·rename_i hn;exact hn ho
   have h1:=h.own b j ((cD j eI he b).1 ho)
   refine⟨by omega,h1.2.1,?_⟩
   rw[aw _ _ _ _ he,jB,cM _ _ _ eI]
   simpa using h1.2.2
 ·intro b hxx
  have h1:=h.ext b hxx
  refine⟨by omega,?_⟩
  simp only[Env.re]
  split
  ·rename_i hg
   rcases(hx b hg).1 with h2|h2
   ·rw[h1.2]at h2;cases h2
   ·omega
  ·rw[if_neg (by rw[h1.2];simp)];exact h1.2
def St.re(σ:St)(k d:Nat)(ov:OV):St:=⟨(d,.vec d)::gP k .u (fun _=> .u) σ.ah,(d,ov)::nK k .u (fun _=> .u) (rm σ.tab k)⟩
theorem Gv{C:Ctx}{E:Env}{σ:St}{a:Act}{w w':World}{o:Oper}{k d:Nat}{x:Value}{ov:OV}(h:aC C E σ a w)(hd:bA C o)(dm:o.dst=some d)
  (dt:lk (rm σ.tab k) d=none)(aW:(execOp a.eval o).run C.P w= .ok (.value x) w')(hos:w'.os=w.os)(htp:w'.tape=w.tape)(hou:w'.output=w.output)
  (hs:w.heap.size≤w'.heap.size)(hb:∀b,b<w.heap.size→E.own b≠some k→w'.heap[b]? =w.heap[b]?)
  (hx:∀g,x.ownBlock=some g→(E.own g=some k∨w.heap.size≤g)∧g<w'.heap.size)(dM:∃p n c,x= .slice p n c)
  (dL:eL w E w' (E.re k d x)→OR w' (E.re k d x) C.lo d ov):bR C o (σ.re k d ov) a w:=by
 have aR:C.lo≤w.heap.size:=Nat.le_trans h.lo.le h.fr.size
 have db:eL w E w' (E.re k d x):=by
  refine⟨?_,rfl⟩
  intro b av hn
  refine⟨hb b av (by rw[hn];simp),?_⟩
  simp only[Env.re]
  split
  ·rename_i hg
   rcases(hx b hg).1 with h1|h1
   ·rw[hn]at h1;cases h1
   ·omega
  ·rw[if_neg (by rw[hn];simp)];exact hn
 have ht:=bV.re h.tab dt hs hb hx aR (dL db)
 refine⟨x,w',.inl aW,E.re k d x,?_⟩
 have hdn:d<C.n:=hd d dm
 have:=h.Yy (k:=k) (E':=E.re k d x) ⟨hos,htp,hou,hs,db.keep,db.ext⟩ (Nq h.tab dt) (fun j hj hn=>by
  simp only[Env.re];rw[if_neg (by omega)]
  rcases hn with hn|hn
  ·split
   ·rfl
   ·exact hn
  ·rw[if_pos hn]) ht.1 o.dst hd (sv:= .vec d) (v:=x) (fun _ _=>by simp only[VR];exact⟨by simp[Env.re],dM⟩)
 rw[dm]at this ⊢
 exact this
structure R8(w:World)(bad:Nat→Prop)(lo sz:Nat)(rows:List (List PV))(x:Value):Prop where
 out:(rows=[]∧∃b c,x= .slice b 0 c)∨∃(a:Addr) (c:Nat) (news:List Value),x= .slice (some a) rows.length c∧news.length=rows.length*sz∧
  (∀(j:Nat) u,news[j]? =some u→w.cell? (a.add j)=some u)∧(∀u∈news,u.oneCell'=true)∧de w bad lo sz rows news
def qz(T:Tab):SV→Option (List (List PV)×Bool)
 | .vec k=>match lk T k with
  |some (.vec _ _ rows fr)=>some (rows,fr)
  |_=>none
 | .p (.sl rows) fr=>some (rows,fr)
 | .p (.v (.slice none 0 0)) _=>some ([],true)
 | .pc rows fr=>some (rows,fr)
 |_=>none
theorem vz{w:World}{bad:Nat→Prop}{lo sz:Nat}{rows:List (List PV)}{x:Value}(h:Rep w bad lo (.sl rows) x)
  (bf:∀(i:Nat) (row:List PV),rows[i]? =some row→row.length=sz)(eS:0<sz):R8 w bad lo sz rows x:=by
 cases h with
 |nil b c=>exact⟨.inl ⟨rfl,b,c,rfl⟩⟩
 |sl _ b off cap cs t fz eT f eR hb bY aR gz hlen hc hr=>
  by_cases hn:rows=[]
  ·subst hn;exact⟨.inl ⟨rfl,some ⟨b,off,none⟩,cap,rfl⟩⟩
  ·have hs:eT=sz:=by
    have h0:rows[0]? =some (rows[0]'(List.length_pos_iff.2 hn)):=by simp[List.length_pos_iff.2 hn]
    rw[←hlen 0 _ h0,bf 0 _ h0]
   subst hs
   have ku:∀j,j<rows.length*eT→cs[off+j]? =some (f (j / eT) (j % eT))∧Rep w bad lo ((rows.getD (j / eT) []).getD (j % eT) default) (f (j / eT) (j % eT)):=by
    intro j hj
    have hq:j / eT<rows.length:=(Nat.div_lt_iff_lt_mul eS).2 hj
    have hm:j % eT<eT:=Nat.mod_lt _ eS
    have a6:rows[j / eT]? =some rows[j / eT]:=by simp[hq]
    have hcl:rows[j / eT][j % eT]? =some (rows[j / eT][j % eT]'(by rw[hlen _ _ a6];exact hm)):=by simp[hlen _ _ a6,hm]
    have h1:=hc _ _ _ _ a6 hcl
    have h2:=hr _ _ _ _ a6 hcl
    have e:off+j / eT*eT+j % eT=off+j:=by
     have:=Nat.div_add_mod j eT;rw[Nat.mul_comm]at this;omega
    rw[e]at h1
    refine⟨h1,?_⟩
    have:((rows.getD (j / eT) []).getD (j % eT) default)=rows[j / eT][j % eT]'(by rw[hlen _ _ a6];exact hm):=by simp[List.getD,a6,hcl]
    rw[this];exact h2
   refine⟨.inr ⟨⟨b,off,none⟩,cap,(List.range (rows.length*eT)).map fun j=>f (j / eT) (j % eT),rfl,by simp,?_,?_,?_⟩⟩
   ·intro j u hu
    have hj:j<rows.length*eT:=by have:=(ZY hu).1;simpa using this
    simp[hj]at hu;subst hu
    rw[Addr.add_lit,gC hb];exact(ku j hj).1
   ·intro u hu
    obtain⟨j,hj,rfl⟩:=List.mem_map.1 hu
    exact(ku j (by simpa using hj)).2.one
   ·refine⟨f,hlen,?_,hr⟩
    intro i row j x hi hj
    have hil:i<rows.length:=(ZY hi).1
    have fo:j<eT:=by rw[←hlen i row hi];exact(ZY hj).1
    have av:i*eT+j<rows.length*eT:=by
     have:(i+1)*eT≤rows.length*eT:=Nat.mul_le_mul_right _ (by omega)
     rw[Nat.add_mul,Nat.one_mul]at this;omega
    have e1:(i*eT+j) / eT=i:=by rw[Nat.mul_comm,Nat.mul_add_div eS,Nat.div_eq_of_lt fo];simp
    have e2:(i*eT+j) % eT=j:=by rw[Nat.mul_comm,Nat.mul_add_mod,Nat.mod_eq_of_lt fo]
    simp[av,e1,e2]
theorem I2{w:World}{bad:Nat→Prop}{lo sz:Nat}{rows:List (List PV)}{xs:List Value}(h:de w bad lo sz rows xs)(hl:xs.length=rows.length*sz)(eS:0<sz):
  ∀u∈xs,u.oneCell'=true:=by
 obtain⟨f,h1,h2,h3⟩:=h
 intro u hu
 obtain⟨j,hj,rfl⟩:=List.mem_iff_getElem.1 hu
 rw[hl]at hj
 have hq:j / sz<rows.length:=(Nat.div_lt_iff_lt_mul eS).2 hj
 have hm:j % sz<sz:=Nat.mod_lt _ eS
 have a6:rows[j / sz]? =some rows[j / sz]:=by simp[hq]
 have hcl:rows[j / sz][j % sz]? =some (rows[j / sz][j % sz]'(by rw[h1 _ _ a6];exact hm)):=by simp[h1 _ _ a6,hm]
 have e:j / sz*sz+j % sz=j:=by
  have:=Nat.div_add_mod j sz;rw[Nat.mul_comm]at this;omega
 have h4:=h2 _ _ _ _ a6 hcl
 rw[e]at h4
 have h5:=(h3 _ _ _ _ a6 hcl).one
 rw[List.getElem?_eq_some_iff]at h4
 obtain⟨_,h4⟩:=h4
 rw[h4];exact h5
theorem Dl{C:Ctx}{E:Env}{σ:St}{a:Act}{w:World}{sv:SV}{v:Value}{rows:List (List PV)}{fr:Bool}{sz:Nat}(h:aC C E σ a w)(hs:qz σ.tab sv=some (rows,fr))
  (hv:VR w E C.lo sv v)(bf:∀(i:Nat) (row:List PV),rows[i]? =some row→row.length=sz)(eS:0<sz):R8 w E.bad (flo C.lo fr) sz rows v:=by
 unfold qz at hs
 split at hs
 ·rename_i k
  split at hs
  ·rename_i t' eT cC fr' hl
   simp only[ZS,ZT]at hs;obtain⟨rfl,rfl⟩:=hs
   obtain⟨x,xs,h1,h2,h3,h4,h5⟩:=h.tab.obj k _ hl
   simp only[VR]at hv
   rw[hv.1]at h1;cases h1
   rcases h3.2 with⟨rfl,hn⟩|⟨g,cap,cur,rfl,hb,hg,hle,hcm,fZ,htk⟩
   ·exact⟨.inl ⟨List.eq_nil_of_length_eq_zero hn,none,0,rfl⟩⟩
   ·by_cases hn:cC=[]
    ·subst hn;exact⟨.inl ⟨rfl,some ⟨g,0,none⟩,cap,rfl⟩⟩
    have hss:eT=sz:=by
     obtain⟨f,f1,_⟩:=h5
     have h0:cC[0]? =some (cC[0]'(List.length_pos_iff.2 hn)):=by simp[List.length_pos_iff.2 hn]
     rw[←f1 0 _ h0,bf 0 _ h0]
    subst hss
    refine⟨.inr ⟨⟨g,0,none⟩,cap,xs,rfl,h3.1,?_,I2 h5 h3.1 eS,h5⟩⟩
    intro j u hu
    rw[Addr.add_lit,gC hg]
    rw[←htk,List.getElem?_take]at hu
    split at hu
    ·simpa using hu
    ·cases hu
  ·cases hs
 ·simp only[ZS,ZT]at hs;obtain⟨rfl,rfl⟩:=hs
  simp only[VR]at hv
  exact vz hv bf eS
 ·simp only[ZS,ZT]at hs;obtain⟨rfl,rfl⟩:=hs
  have:=dh hv;subst this
  exact⟨.inl ⟨rfl,none,0,rfl⟩⟩
 ·simp only[ZS,ZT]at hs;obtain⟨rfl,rfl⟩:=hs
  simp only[VR]at hv
  obtain⟨_,_,hv⟩:=hv
  exact vz hv bf eS
 ·cases hs
theorem de.append{w:World}{bad:Nat→Prop}{lo sz:Nat}{r1 r2:List (List PV)}{x1 x2:List Value}(h1:de w bad lo sz r1 x1)(hl:x1.length=r1.length*sz)
  (h2:de w bad lo sz r2 x2):de w bad lo sz (r1++r2) (x1++x2):=by
 obtain⟨f,a1,a2,a3⟩:=h1
 obtain⟨g,b1,b2,b3⟩:=h2
 refine⟨fun i j=>if i<r1.length then f i j else g (i - r1.length) j,?_,?_,?_⟩
 ·intro i row hi
  rw[List.getElem?_append]at hi
  split at hi
  ·exact a1 i row hi
  ·exact b1 _ row hi
 ·intro i row j x hi hj
  rw[List.getElem?_append]at hi
  split at hi
  ·rename_i av
   simp only[av,if_true]
   have fo:j<sz:=by rw[←a1 i row hi];exact(ZY hj).1
   have:i*sz+j<x1.length:=by
    rw[hl]
    have:(i+1)*sz≤r1.length*sz:=Nat.mul_le_mul_right _ (by omega)
    rw[Nat.add_mul,Nat.one_mul]at this;omega
   rw[List.getElem?_append_left this]
   exact a2 i row j x hi hj
  ·rename_i av
   simp only[av,if_false]
   have hge:x1.length≤i*sz+j:=by
    rw[hl]
    have:r1.length*sz≤i*sz:=Nat.mul_le_mul_right _ (by omega)
    omega
   rw[List.getElem?_append_right hge]
   have:=b2 _ row j x hi hj
   rw[Nat.sub_mul]at this
   rw[hl]
   have hle:r1.length*sz≤i*sz:=Nat.mul_le_mul_right _ (by omega)
   rw[show i*sz+j - r1.length*sz=i*sz - r1.length*sz+j by omega]
   exact this
 ·intro i row j x hi hj
  rw[List.getElem?_append]at hi
  split at hi
  ·rename_i av
   simp only[av,if_true];exact a3 i row j x hi hj
  ·rename_i av
   simp only[av,if_false];exact b3 _ row j x hi hj
theorem nL{P:Program}{w:World}(t ty e:TypeId)(i:TypeInfo)(z:Value)(ht:P.underlying t=some (.slice e))(hi:P.info? e=some i)(hz:i.zero=some z)
  (mu:z.cells.size=i.size)(bf:0<i.size)(v:Value)(n:Nat)(xs:List Value)(cD:w.ownsRow 0 e i.size v n xs)
  (x:Value)(m:Nat)(news:List Value)(hx:(m=0∧news=[]∧∃b c,x= .slice b 0 c)∨∃(a:Addr) (c:Nat),x= .slice (some a) m c∧news.length=m*i.size∧
   (∀(j:Nat) u,news[j]? =some u→w.cell? (a.add j)=some u)∧(∀u∈news,u.oneCell'=true))
  (hbytes:(n+m)*i.bytes≤140737488355328)(hlen:n+m≤140737488355328):
  ∃v' w',(Builtin.append_ #[t,t] ty #[v,x]).run P w= .ok v' w'∧w'.ownsRow 0 e i.size v' (n+m) (xs++news)∧w.grownBy w' v.ownBlock∧
   (∀g,v'.ownBlock=some g→(v.ownBlock=some g∨w.heap.size≤g)∧g<w'.heap.size)∧∃p n c,v'= .slice p n c:=by
 have hmax:n+m≤maxLen:=by simp only[maxLen];omega
 have hshape:∃p c,v= .slice p n c∧n≤c:=by
  rcases cD.2 with⟨rfl,rfl⟩|⟨g,cap,cur,rfl,_,_,hle,_⟩
  ·exact⟨none,0,rfl,Nat.le_refl _⟩
  ·exact⟨_,cap,rfl,hle⟩
 rcases hx with⟨rfl,rfl,b,c,rfl⟩|⟨a,c,rfl,hl,hnews,h1⟩
 ·obtain⟨p,cp,rfl,hle⟩:=hshape
  refine⟨.slice p n cp,w,?_,by simpa using cD,⟨rfl,rfl,rfl,Nat.le_refl _,fun _ _ _=>rfl⟩,?_,p,n,cp,rfl⟩
  ·have hf:(Builtin.firstCells i.size 0 (.slice b 0 c)).run P w= .ok #[] w:=by
    cases b with
    |none=>exact run_firstCells_none w _ _ _ _
    |some b=>exact run_firstCells_some (P:=P) w i.size 0 b 0 c [] (by simp) (by simp)
   cases p<;>simp[Builtin.append_,run_underlying ht,sizeOf,typeInfo,hi,Builtin.lenOf,hle,hf,storeCells]
  ·intro g hg
   exact⟨.inl hg,(cD.lt g hg).2⟩
 ·have hr:=run_append_own (P:=P) w 0 t ty e i z i.size i.bytes ht hi hz rfl rfl mu bf v n xs cD a m c news hl hnews h1 hmax hbytes (Nat.zero_le _)
  obtain⟨v',w',aW,ho,hg,_⟩:=hr
  refine⟨v',w',aW,ho,hg,?_,?_⟩
  ·intro g hgv
   refine⟨?_,(ho.lt g hgv).2⟩
   rcases cD.2 with⟨rfl,rfl⟩|⟨gg,cap,cur,rfl,_,hgg,hle,hcm,fZ,htk⟩
   ·have ga:=run_append_own (P:=P) w w.heap.size t ty e i z i.size i.bytes ht hi hz rfl rfl mu bf (.slice none 0 0) 0 xs ⟨cD.1,.inl ⟨rfl,rfl⟩⟩ a m c news hl hnews h1 hmax hbytes (Nat.le_refl _)
    obtain⟨v2,w2,hrun2,ho2,_⟩:=ga
    rw[aW]at hrun2
    injection hrun2 with e1 e2
    subst e1;subst e2
    exact .inr (ho2.lt g hgv).1
   ·by_cases kx:n+m≤cap
    ·have fR:n*i.size+news.length≤cur.size:=by rw[hl,fZ, ←Nat.add_mul];exact Nat.mul_le_mul_right _ kx
     have ga:=run_append_room (P:=P) w t ty e i ht hi gg n cap cur hgg a m c news hl hnews h1 kx fR
     rw[aW]at ga
     injection ga with e1 e2
     subst e1
     exact .inl hgv
    ·have holds:∀(j:Nat) u,xs[j]? =some u→w.cell? ((⟨gg,0,none⟩:Addr).add j)=some u:=by
      intro j u hu
      rw[Addr.add_lit,gC hgg]
      rw[←htk,List.getElem?_take]at hu
      split at hu
      ·simpa using hu
      ·cases hu
     have ga:=run_append_grow (P:=P) w t ty e i z ht hi hz ⟨gg,0,none⟩ n cap xs cD.1 holds a m c news hl hnews (by omega) (by omega) (growslice_fits (by omega) hbytes)
     rw[aW]at ga
     injection ga with e1 e2
     subst e1
     simp[Value.ownBlock]at hgv
     subst hgv
     exact .inr (Nat.le_refl _)
  ·rcases ho.2 with⟨rfl,_⟩|⟨g,cap,cur,rfl,_⟩
   ·exact⟨_,_,_,rfl⟩
   ·exact⟨_,_,_,rfl⟩
end Go.TL
