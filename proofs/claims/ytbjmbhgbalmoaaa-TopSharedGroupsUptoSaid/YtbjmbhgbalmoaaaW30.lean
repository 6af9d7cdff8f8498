/- Runs where a range over a function may stand, or within a round of one: code by its shape; any order by an invariant. -/
import Derived.Test.YtbjmbhgbalmoaaaW28
import Derived.RangeFuncLeaves
import Derived.RangeFuncRecord
import Derived.OrdersIn
namespace Go.TL.H
open Go
abbrev FW(r:Option Nat):Fence:={Fence.wide with round:=r}
theorem xn(k:Bool)(ro:Option Nat)(ρ:Operand→Value)(o:Oper):(st k o).semAt ro ρ=o.semAt ro ρ:=by
 obtain⟨dst,op,ty,pos,af,g⟩:=o
 cases ro with
 |none=>exact oI k ρ _
 |some l=>
  cases op
  case call c=>
   obtain⟨cal,args,ts⟩:=c
   cases cal<;>rfl
  all_goals rfl
section
variable {P:Program} {r:Option Nat} {n:Nat} {Q:Exit→Act→World→Prop} {K:Act→World→Prop} {a:Act} {w w':World} {o:Oper}
theorem vK{k:Bool}(h:(st k o).wpIn (FW r) n P a w K Q):o.wpIn (FW r) n P a w K Q:=by
 refine⟨fun _ _=>trivial,?_⟩
 have:=h.2
 rw[xn]at this
 exact this
theorem rF{k:Bool}{ops:Array Oper}:∀(l:List Oper) (a:Act) (w:World),wpListIn (FW r) n P (ops.toList.map (st k)).toArray Q (l.map (st k)) a w→wpListIn (FW r) n P ops Q l a w
 | [],_,_,h=>h
 |o::l,a,w,h=>by
  simp only[List.map_cons,wpListIn,jU,jk]at h ⊢
  split
  ·rename_i hw
   rw[if_pos hw]at h
   exact Oper.wpIn_mono (fun a w h=>rF l a w h) (vK h)
  ·rename_i hw
   rw[if_neg hw]at h
   exact⟨fun _ _=>trivial,rF l _ _ h.2⟩
theorem lr{ops:Array Oper}{md:Region.Mode}:∀(fuel:Nat) (listed:Array Bool) (a:Act) (w:World),wpAnyIn (FW r) n P md (ops.toList.map (st true)).toArray Q fuel listed a w→wpAnyIn (FW r) n P md ops Q fuel listed a w
 |0,listed,a,w,h=>by unfold wpAnyIn at h ⊢;rw[kO]at h;exact h
 |fuel+1,listed,a,w,h=>by
  unfold wpAnyIn at h ⊢
  rw[kO]at h
  refine⟨h.1,fun i hi=>?_⟩
  have:=h.2 i hi
  unfold wpOpIn at this ⊢
  rw[nN]at this
  cases ho:ops[i]? with
  |none=>simp only[ho,Option.map_none]at this ⊢;exact lr fuel _ _ _ this
  |some o=>
   simp only[ho,Option.map_some,jU,jk]at this ⊢
   split
   ·rename_i hw
    rw[if_pos hw]at this
    exact Oper.wpIn_mono (fun a w h=>lr fuel _ a w h) (vK this)
   ·rename_i hw
    rw[if_neg hw]at this
    exact⟨fun _ _=>trivial,lr fuel _ _ _ this.2⟩
def NI(r:Option Nat)(P:Program)(c':Code)(Q:Exit→Act→World→Prop)(a:Act)(w:World):Prop:=∀c,norm c=c'→c.wpIn (FW r) 0 P Q a w
theorem yk{c':Code}(h:NI none P c' Q a w):NW P c' Q a w:=fun c hc=>wpIn_wide.1 (h c hc)
theorem iW{l:List Oper}(h:wpListIn (FW r) 0 P l.toArray Q l a w):NI r P (.region 0 l.toArray false) Q a w:=by
 intro c hc
 cases c<;>simp only[norm,reduceCtorEq,Code.region.injEq]at hc
 rename_i id ops d
 obtain⟨_,h1,rfl⟩:=hc
 have fX:ops.toList.map (st false)=l:=by simpa using congrArg Array.toList h1
 subst fX
 exact wpIn_region_list (rF _ _ _ h)
theorem yY{l:List Oper}(k:Nat)(hk:l.length=k)(hm:P.follows .mixedOrders=true)(h:wpAnyIn (FW r) 0 P .any l.toArray Q k (Array.replicate k false) a {w with drawn:=w.drawn+1}):NI r P (.region 0 l.toArray true) Q a w:=by
 subst hk
 intro c hc
 cases c<;>simp only[norm,reduceCtorEq,Code.region.injEq]at hc
 rename_i id ops d
 obtain⟨_,h1,rfl⟩:=hc
 have fX:ops.toList.map (st true)=l:=by simpa using congrArg Array.toList h1
 subst fX
 refine wpIn_region_any hm (lr _ _ _ _ ?_)
 simpa using h
theorem rG{id:Nat}{x:Code}(h:NI r P x (Exit.inBlock id Q) a w):NI r P (.block id x) Q a w:=by
 intro c hc
 cases c<;>simp only[norm,reduceCtorEq,Code.block.injEq]at hc
 obtain⟨rfl,h1⟩:=hc
 exact wpIn_block (h _ h1)
theorem sX{v:Value}(hd:∀c,o.op≠ .defer c)(hr:(execOp a.eval o).run P w= .ok (.value v) w')(k:K (a.put o.dst v) w'):o.wpIn (FW r) n P a w K Q:=by
 refine⟨fun _ _=>trivial,?_⟩
 rw[Oper.semAt_eq _ _ _ hd,hr];exact k
theorem nE(hd:∀c,o.op≠ .defer c)(hn:o.dst=none)(hr:(execOp a.eval o).run P w= .ok .skip w')(k:K a w'):o.wpIn (FW r) n P a w K Q:=by
 refine⟨fun _ _=>trivial,?_⟩
 rw[Oper.semAt_eq _ _ _ hd,hr]
 have e:a.put o.dst undef=a:=by rw[hn];rfl
 show K (a.put o.dst undef) w'
 rw[e];exact k
variable {ops:Array Oper} {i:Nat}
theorem sY(hi:ops[i]? =some o)(hg:o.guard=none)(h:o.wpIn (FW r) n P a w K Q):wpOpIn (FW r) n P ops Q i K a w:=by
 unfold wpOpIn
 simp only[hi]
 rw[if_pos (by unfold Region.wanted;rw[hg])]
 exact h
def kK(o:Oper):Bool:=match o.op with| .defer _=>true|_=>false
theorem qa(h:kK o=false):∀c,o.op≠ .defer c:=fun c e=>by simp[kK,e]at h
theorem xp{v:Value}(hi:ops[i]? =some o)(hg:o.guard=none)(hd:kK o=false)(hr:(execOp a.eval o).run P w= .ok (.value v) w')(k:K (a.put o.dst v) w'):wpOpIn (FW r) n P ops Q i K a w:=
 sY hi hg (sX (qa hd) hr k)
theorem vL(hi:ops[i]? =some o)(hg:o.guard=none)(hd:kK o=false)(hn:o.dst=none)(hr:(execOp a.eval o).run P w= .ok .skip w')(k:K a w'):wpOpIn (FW r) n P ops Q i K a w:=
 sY hi hg (nE (qa hd) hn hr k)
theorem mf{rest:List Oper}(hg:o.guard=none)(h:o.wpIn (FW r) n P a w (wpListIn (FW r) n P ops Q rest) Q):wpListIn (FW r) n P ops Q (o::rest) a w:=by
 unfold wpListIn
 rw[if_pos (by unfold Region.wanted;rw[hg])]
 exact h
theorem LI{m:Nat}{sl:aT}{v:Value}{rest:List Oper}(h:SL m sl a)(hg:o.guard=none)(hde:∀c,o.op≠ .defer c)(hd:dok m o.dst=true)(hr:(execOp a.eval o).run P w= .ok (.value v) w')
  (k:∀a',SL m (bz o.dst v sl) a'→wpListIn (FW r) n P ops Q rest a' w'):wpListIn (FW r) n P ops Q (o::rest) a w:=
 mf hg (sX hde hr (k _ (h.put hd v)))
def eH(l:List Bool):Nat:=(l.filter (!·)).length
theorem oE:∀(l:List Bool) (i:Nat),l[i]? =some false→eH (l.set i true)+1=eH l
 | [],i,h=>by simp at h
 |b::l,0,h=>by simp at h;subst h;simp[eH]
 |b::l,i+1,h=>by
  have:=oE l i (by simpa using h)
  cases b<;>simp[eH]at this ⊢ <;>omega
theorem m9:∀(l:List Bool),eH l=0→∀i,i<l.length→l[i]? =some true
 | [],_,i,hi=>by simp at hi
 |b::l,h,i,hi=>by
  cases b with
  |false=>simp[eH]at h
  |true=>
   cases i with
   |zero=>rfl
   |succ i=>simpa using m9 l (by simpa[eH]using h) i (by simpa using hi)
theorem yZ{I:Array Bool→Act→World→Prop}(hdag:∀(i:Nat) (o:Oper),ops[i]? =some o→∀e∈o.after,e.on<i)
  (hstep:∀listed a w i,listed.size=ops.size→I listed a w→i∈Region.ready .any ops listed→wpOpIn (FW r) n P ops Q i (I (listed.setIfInBounds i true)) a w)
  (hend:∀listed a w,(∀i,i<ops.size→listed.getD i false=true)→I listed a w→Q .normal a w):∀(fuel:Nat) (listed:Array Bool) (a:Act) (w:World),listed.size=ops.size→eH listed.toList≤fuel→I listed a w→wpAnyIn (FW r) n P .any ops Q fuel listed a w:=by
 have all:∀listed:Array Bool,listed.size=ops.size→Region.ready .any ops listed=[]→∀i,i<ops.size→listed.getD i false=true:=by
  intro listed hs hr i
  induction i using Nat.strongRecOn with
  |_ i ih=>
   intro hi
   cases hl:listed.getD i false with
   |true=>rfl
   |false=>
    exfalso
    have hm:i∈Region.ready .any ops listed:=mem_ready.2 ⟨by
     have:i<listed.size:=by omega
     simpa[Array.getD,this]using hl,ops[i],by simp[hi],fun e he _=>ih e.on (hdag i _ (by simp[hi]) e he) (Nat.lt_trans (hdag i _ (by simp[hi]) e he) hi)⟩
    rw[hr]at hm;cases hm
 have fls:∀(listed:Array Bool) i,listed.size=ops.size→i∈Region.ready .any ops listed→listed.toList[i]? =some false:=by
  intro listed i hs hm
  obtain⟨h1,o,ho,_⟩:=mem_ready.1 hm
  have hi:i<ops.size:=(Array.getElem?_eq_some_iff.1 ho).1
  have hl:i<listed.size:=by omega
  simp only[Array.getD,hl,dif_pos]at h1
  simp[hl];simpa using h1
 intro fuel
 induction fuel with
 |zero=>
  intro listed a w hs hf hI
  have h0:=m9 _ (Nat.le_zero.1 hf)
  have hall:∀i,i<ops.size→listed.getD i false=true:=fun i hi=>by
   have:=h0 i (by simpa[hs]using hi)
   have hl:i<listed.size:=by omega
   simp[hl]at this
   simp[Array.getD,hl,this]
  refine⟨?_,hend listed a w hall hI⟩
  cases hr:Region.ready .any ops listed with
  |nil=>rfl
  |cons i r=>
   have hm:i∈Region.ready .any ops listed:=by rw[hr];simp
   have h1:=fls listed i hs hm
   have:=h0 i (by have:=(CA h1).1;exact this)
   rw[h1]at this;cases this
 |succ fuel ih=>
  intro listed a w hs hf hI
  refine⟨fun hr=>hend listed a w (all listed hs hr) hI,fun i hi=>?_⟩
  have h1:=fls listed i hs hi
  have:=oE _ i h1
  refine wpOpIn_mono (fun a' w' h=>ih _ a' w' (by simpa using hs) ?_ h) (hstep listed a w i hs hI hi)
  rw[Array.toList_setIfInBounds];omega
end
end Go.TL.H
namespace Go.TL.H
open Go
def IsL(gA gB:Nat)(v:Value):Prop:=∃g m,v= .slice (some ⟨g,0,none⟩) m 2∧(g=gA∨g=gB)∧m≤2
def IsF(v:Value):Prop:=∃f a b,v= .func f a b
def IsE(gA gB:Nat)(v:Value):Prop:=∃sl fv,v= .agg #[sl,fv]∧IsL gA gB sl∧IsF fv
def yl(i:Nat)(o:Oper):Nat:=match Nat.ble 50 i,o.op with
 |false,.move _=>1
 |false,.slice _ _ _ _ _=>1
 |false,.build _ _=>2
 |false,.call _=>3
 |_,_=>0
def KOk(gA gB:Nat):Nat→Value→Prop
 |1,v=>IsL gA gB v
 |2,v=>IsE gA gB v
 |3,v=>IsF v
 |_,_=>True
def Bu(gA gB:Nat)(es:Array MapEntry)(cl:Nat):Prop:=(∀(i:Nat) (e:MapEntry),es[i]? =some e→∃s sl fv,e.key= .string s∧s.size≤64∧e.val= .agg #[sl,fv]∧IsL gA gB sl∧IsF fv)∧∀x∈es.toList,x.born<cl
def onB(o:Oper)(j:Nat):Bool:=o.after.toList.any fun e=>match Region.binds .any e with|true=>Nat.beq e.on j|false=>false
def A2:Op→Option Operand| .move x=>some x|_=>none
def y0:Op→Option Operand| .assign x=>some x|_=>none
def A3:Op→Option TypeId| .makeMap t none=>some t|_=>none
def oT:Operand→Option Nat| .tmp t=>some t|_=>none
def isD(d:Nat):Option Nat→Bool|some x=>Nat.beq x d|none=>false
def c0(MT:Nat)(o:Oper):Bool:=match isD 5 o.dst,A3 o.op with|true,some t=>Nat.beq t MT|_,_=>false
def c50(o:Oper):Bool:=match isD 40 o.dst,isD 5 ((A2 o.op).bind oT)with|true,true=>onB o 0|_,_=>false
def c51(o:Oper):Bool:=match isD 0 o.dst,isD 40 ((y0 o.op).bind oT),onB o 50 with|true,true,true=>onB o 0|_,_,_=>false
def mM(n:Nat):List Oper→Bool
 | []=>true
 |o::r=>match o.dst with
  |none=>mM n r
  |some d=>match Nat.beq d 1,Nat.beq d 2,Nat.blt d n,r.all (fun o'=>match o'.dst with|some d'=> !(Nat.beq d' d)|none=>true)with
   |false,false,true,true=>mM n r
   |_,_,_,_=>false
theorem rH{n:Nat}:∀{r:List Oper},mM n r=true→∀(i:Nat) (o:Oper) d,r[i]? =some o→o.dst=some d→d≠1∧d≠2∧d<n∧∀(j:Nat) (o':Oper),r[j]? =some o'→o'.dst=some d→i=j
 | [],_,i,o,d,hi,_=>by simp at hi
 |x::r,h,i,o,d,hi,hd=>by
  have tl:mM n r=true∧∀d,x.dst=some d→d≠1∧d≠2∧d<n∧∀o'∈r,o'.dst≠some d:=by
   simp only[mM]at h
   split at h
   ·rename_i hx;exact⟨h,fun d hd=>by rw[hx]at hd;cases hd⟩
   ·rename_i d0 hx
    split at h
    ·rename_i h1 h2 h3 h4
     refine⟨h,fun d hd=>?_⟩
     rw[hx]at hd;cases hd
     refine⟨fun e=>by subst e;simp at h1,fun e=>by subst e;simp at h2,by simpa[Nat.blt_eq]using h3,fun o' ho' he=>?_⟩
     have:=List.all_eq_true.1 h4 o' ho'
     simp[he]at this
    ·cases h
  cases i with
  |zero=>
   simp at hi;subst hi
   obtain⟨h1,h2,h3,h4⟩:=tl.2 d hd
   refine⟨h1,h2,h3,fun j o' hj he=>?_⟩
   cases j with
   |zero=>rfl
   |succ j=>exact absurd he (h4 o' (CE (by simpa using hj)))
  |succ i=>
   obtain⟨h1,h2,h3,h4⟩:=rH tl.1 i o d (by simpa using hi) hd
   refine⟨h1,h2,h3,fun j o' hj he=>?_⟩
   cases j with
   |zero=>simp at hj;subst hj;exact absurd hd ((tl.2 d he).2.2.2 o (CE (by simpa using hi)))
   |succ j=>rw[h4 j o' (by simpa using hj) he]
theorem gv{a:Act}{d t:Nat}{v:Value}(hd:d<a.tmps.size):(a.put (some d) v).tmps.getD t undef=if t=d then v else a.tmps.getD t undef:=by
 by_cases h:t=d
 ·subst h;simp[Act.put,hd]
 ·simp[Act.put,Ne.symm h,h]
structure TI(gA gB n:Nat)(w0:World)(ops:Array Oper)(listed:Array Bool)(a:Act)(w:World):Prop where
 size:a.tmps.size=n
 defers:a.defers=[]
 s1:IsL gA gB (a.tmps.getD 1 undef)
 s2:IsL gA gB (a.tmps.getD 2 undef)
 sl:∀(j:Nat) (o:Oper) (d:Nat),ops[j]? =some o→o.dst=some d→listed.getD j false=true→KOk gA gB (yl j o) (a.tmps.getD d undef)
 ch:Ch (fun _=>False) w0 w
 mp:listed.getD 0 false=true→∃b es cl,a.tmps.getD 5 undef= .map (some b)∧w0.heap.size≤b∧w.heap[b]? =some (.map es cl)∧Bu gA gB es cl∧es.size+eH listed.toList≤60∧
  (listed.getD 50 false=true→a.tmps.getD 40 undef= .map (some b))∧(listed.getD 51 false=true→a.tmps.getD 0 undef= .map (some b))
 l50:listed.getD 50 false=true→listed.getD 0 false=true
 l51:listed.getD 51 false=true→listed.getD 0 false=true
 fl:eH listed.toList≤60
theorem vM{listed:Array Bool}{i j:Nat}(h:(listed.setIfInBounds i true).getD j false=true):j=i∨listed.getD j false=true:=by
 by_cases hij:i=j
 ·exact .inl hij.symm
 ·rw[getD_set_ne false hij]at h;exact .inr h
section
variable {P:Program} {gA gB n:Nat} {w0:World} {ops:Array Oper} {listed:Array Bool} {a:Act} {w:World} {i:Nat} {o:Oper} {d:Nat}
theorem TI.val{v:Value}{w':World}(hu:mM n ops.toList=true)(h:TI gA gB n w0 ops listed a w)(ho:ops[i]? =some o)(hf:eH (listed.setIfInBounds i true).toList+1=eH listed.toList)(hd:o.dst=some d)
  (hv:KOk gA gB (yl i o) v)(a8:Ch (fun _=>False) w w')(h5:d≠5)(h40:d≠40)(h00:d≠0)(hi0:i≠0)(hi50:i≠50)(hi51:i≠51):TI gA gB n w0 ops (listed.setIfInBounds i true) (a.put o.dst v) w':=by
 obtain⟨u1,u2,u3,u4⟩:=rH hu i o d (by simpa using ho) hd
 have hdn:d<a.tmps.size:=by rw[h.size];exact u3
 rw[hd]
 have old:∀j,j≠i→(listed.setIfInBounds i true).getD j false=listed.getD j false:=fun j hj=>getD_set_ne false (Ne.symm hj)
 refine⟨by simp[Act.put,h.size],h.defers,?_,?_,?_,h.ch.trans a8,?_,?_,?_,by have:=h.fl;omega⟩
 ·rw[gv hdn,if_neg (Ne.symm u1)];exact h.s1
 ·rw[gv hdn,if_neg (Ne.symm u2)];exact h.s2
 ·intro j o' d' hj hd' hl
  rcases vM hl with rfl|hl
  ·rw[ho]at hj;cases hj
   rw[hd]at hd';cases hd'
   rw[gv hdn,if_pos rfl];exact hv
  ·rw[gv hdn]
   split
   ·rename_i e;subst e
    have:=u4 j o' (by simpa using hj) hd'
    subst this
    rw[ho]at hj;cases hj;exact hv
   ·exact h.sl j o' d' hj hd' hl
 ·intro h0
  rw[old 0 (Ne.symm hi0)]at h0
  obtain⟨b,es,cl,m1,m2,m3,m4,m5,m6,m7⟩:=h.mp h0
  refine⟨b,es,cl,by rw[gv hdn,if_neg (Ne.symm h5)];exact m1,m2,a8.at m3 fun h=>h,m4,by omega,fun h=>?_,fun h=>?_⟩
  ·rw[old 50 (Ne.symm hi50)]at h;rw[gv hdn,if_neg (Ne.symm h40)];exact m6 h
  ·rw[old 51 (Ne.symm hi51)]at h;rw[gv hdn,if_neg (Ne.symm h00)];exact m7 h
 ·rw[old 50 (Ne.symm hi50),old 0 (Ne.symm hi0)];exact h.l50
 ·rw[old 51 (Ne.symm hi51),old 0 (Ne.symm hi0)];exact h.l51
structure Cr(P:Program)(EN MT SL dv ST:Nat):Prop where
 ok:aD P dv=true
 div:∀(w:World) g,Ret P dv [.func (.func g) #[] #[]] w fun v w'=>IsF v∧Ch (fun _=>False) w w'
 slU:∃e inf,P.underlying SL=some (.slice e)∧P.info? e=some inf∧inf.size=1
 built:∀p m c f x y,P.built EN [(0,.slice p m c),(1,.func f x y)]=some #[.slice p m c,.func f x y]
 mtU:P.underlying MT=some (.map ST EN)
 stU:P.underlying ST=some .string
end
def rI(P:Program)(f:FuncId):List Oper:=match(P.funcs[f]?).bind (·.body)with
 |some c=>(match norm c with| .seq _ (.seq _ (.seq (.region _ ops _) _))=>ops.toList|_=>[])
 |none=>[]
end Go.TL.H
