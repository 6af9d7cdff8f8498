/- A map literal whose entries come in any order: a table of lists and functions. -/
import Derived.Test.YtpoamlpahljebaaGreatDoorW27
namespace Go.TL.H
open Go
def IsL(gA gB:Nat)(v:Value):Prop:=∃g m,v= .slice (some ⟨g,0,none⟩) m 2∧(g=gA∨g=gB)∧m≤2
def IsF(v:Value):Prop:=∃f a b,v= .func f a b
def IsE(gA gB:Nat)(v:Value):Prop:=∃sl fv,v= .agg #[sl,fv]∧IsL gA gB sl∧IsF fv
def SM(i:Nat)(o:Oper):Nat:=match Nat.ble 50 i,o.op with
 |false,.move _=>1
 |false,.slice _ _ _ _ _=>1
 |false,.build _ _=>2
 |false,.call _=>3
 |_,_=>0
def KOk(gA gB:Nat):Nat→Value→Prop
 |1,v=>IsL gA gB v
 |2,v=>IsE gA gB v
 |3,v=>IsF v
 |_,_=>True
def YM(gA gB:Nat)(es:Array MapEntry)(cl:Nat):Prop:=(∀(i:Nat) (e:MapEntry),es[i]? =some e→∃s sl fv,e.key= .string s∧s.size≤64∧e.val= .agg #[sl,fv]∧IsL gA gB sl∧IsF fv)∧∀x∈es.toList,x.born<cl
def XZ:Op→Option TypeId| .makeMap t none=>some t|_=>none
def oT:Operand→Option Nat| .tmp t=>some t|_=>none
def oF:Operand→Option Nat| .func t=>some t|_=>none
def isD(d:Nat):Option Nat→Bool|some x=>Nat.beq x d|none=>false
def c0(MT:Nat)(o:Oper):Bool:=match isD 5 o.dst,XZ o.op with|true,some t=>Nat.beq t MT|_,_=>false
def zL(n:Nat):List Oper→Bool
 | []=>true
 |o::r=>match o.dst with
  |none=>zL n r
  |some d=>match Nat.beq d 1,Nat.beq d 2,Nat.blt d n,r.all (fun o'=>match o'.dst with|some d'=> !(Nat.beq d' d)|none=>true)with
   |false,false,true,true=>zL n r
   |_,_,_,_=>false
theorem IJ{n:Nat}:∀{r:List Oper},zL n r=true→∀(i:Nat) (o:Oper) d,r[i]? =some o→o.dst=some d→d≠1∧d≠2∧d<n∧∀(j:Nat) (o':Oper),r[j]? =some o'→o'.dst=some d→i=j
 | [],_,i,o,d,hi,_=>by simp at hi
 |x::r,h,i,o,d,hi,hd=>by
  have tl:zL n r=true∧∀d,x.dst=some d→d≠1∧d≠2∧d<n∧∀o'∈r,o'.dst≠some d:=by
   simp only[zL]at h
   split at h
   ·rename_i hx;exact⟨h,fun d hd=>by rw[hx]at hd;cases hd⟩
   ·rename_i d0 hx
    split at h
    ·rename_i h1 h2 h3 h4
     refine⟨h,fun d hd=>?_⟩
     rw[hx]at hd;cases hd
     refine⟨fun e=>by subst e;simp at h1,fun e=>by subst e;simp at h2,by simpa[Nat.blt_eq]using h3,fun o' kT he=>?_⟩
     have:=List.all_eq_true.1 h4 o' kT
     simp[he]at this
    ·cases h
  cases i with
  |zero=>
   simp at hi;subst hi
   obtain⟨h1,h2,h3,h4⟩:=tl.2 d hd
   refine⟨h1,h2,h3,fun j o' hj he=>?_⟩
   cases j with
   |zero=>rfl
   |succ j=>exact absurd he (h4 o' (Z2 (by simpa using hj)))
  |succ i=>
   obtain⟨h1,h2,h3,h4⟩:=IJ tl.1 i o d (by simpa using hi) hd
   refine⟨h1,h2,h3,fun j o' hj he=>?_⟩
   cases j with
   |zero=>simp at hj;subst hj;exact absurd hd ((tl.2 d he).2.2.2 o (Z2 (by simpa using hi)))
   |succ j=>rw[h4 j o' (by simpa using hj) he]
theorem mo{a:Act}{d t:Nat}{v:Value}(hd:d<a.tmps.size):(a.put (some d) v).tmps.getD t undef=if t=d then v else a.tmps.getD t undef:=by
 by_cases h:t=d
 ·subst h;simp[Act.put,hd]
 ·simp[Act.put,Ne.symm h,h]
structure TI(gA gB n:Nat)(w0:World)(ops:Array Oper)(listed:Array Bool)(a:Act)(w:World):Prop where
 size:a.tmps.size=n
 defers:a.defers=[]
 s1:IsL gA gB (a.tmps.getD 1 undef)
 s2:IsL gA gB (a.tmps.getD 2 undef)
 sl:∀(j:Nat) (o:Oper) (d:Nat),ops[j]? =some o→o.dst=some d→listed.getD j false=true→KOk gA gB (SM j o) (a.tmps.getD d undef)
 ch:Ch (fun _=>False) w0 w
 mp:listed.getD 0 false=true→∃b es cl,a.tmps.getD 5 undef= .map (some b)∧w0.heap.size≤b∧w.heap[b]? =some (.map es cl)∧YM gA gB es cl∧es.size+js listed.toList≤60∧
  (listed.getD 50 false=true→a.tmps.getD 40 undef= .map (some b))∧(listed.getD 51 false=true→a.tmps.getD 0 undef= .map (some b))
 l50:listed.getD 50 false=true→listed.getD 0 false=true
 l51:listed.getD 51 false=true→listed.getD 0 false=true
 fl:js listed.toList≤60
theorem O6{listed:Array Bool}{i j:Nat}(h:(listed.setIfInBounds i true).getD j false=true):j=i∨listed.getD j false=true:=by
 by_cases hij:i=j
 ·exact .inl hij.symm
 ·rw[getD_set_ne false hij]at h;exact .inr h
section
variable {P:Program} {gA gB n:Nat} {w0:World} {ops:Array Oper} {listed:Array Bool} {a:Act} {w:World} {i:Nat} {o:Oper} {d:Nat}
theorem TI.val{v:Value}{w':World}(hu:zL n ops.toList=true)(h:TI gA gB n w0 ops listed a w)(ho:ops[i]? =some o)(hf:js (listed.setIfInBounds i true).toList+1=js listed.toList)(hd:o.dst=some d)
  (hv:KOk gA gB (SM i o) v)(bp:Ch (fun _=>False) w w')(h5:d≠5)(h40:d≠40)(h00:d≠0)(hi0:i≠0)(hi50:i≠50)(hi51:i≠51):TI gA gB n w0 ops (listed.setIfInBounds i true) (a.put o.dst v) w':=by
 obtain⟨u1,u2,u3,u4⟩:=IJ hu i o d (by simpa using ho) hd
 have hdn:d<a.tmps.size:=by rw[h.size];exact u3
 rw[hd]
 have old:∀j,j≠i→(listed.setIfInBounds i true).getD j false=listed.getD j false:=fun j hj=>getD_set_ne false (Ne.symm hj)
 refine⟨by simp[Act.put,h.size],h.defers,?_,?_,?_,h.ch.trans bp,?_,?_,?_,by have:=h.fl;omega⟩
 ·rw[mo hdn,if_neg (Ne.symm u1)];exact h.s1
 ·rw[mo hdn,if_neg (Ne.symm u2)];exact h.s2
 ·intro j o' d' hj hd' hl
  rcases O6 hl with rfl|hl
  ·rw[ho]at hj;cases hj
   rw[hd]at hd';cases hd'
   rw[mo hdn,if_pos rfl];exact hv
  ·rw[mo hdn]
   split
   ·rename_i e;subst e
    have:=u4 j o' (by simpa using hj) hd'
    subst this
    rw[ho]at hj;cases hj;exact hv
   ·exact h.sl j o' d' hj hd' hl
 ·intro h0
  rw[old 0 (Ne.symm hi0)]at h0
  obtain⟨b,es,cl,m1,m2,m3,m4,m5,m6,m7⟩:=h.mp h0
  refine⟨b,es,cl,by rw[mo hdn,if_neg (Ne.symm h5)];exact m1,m2,bp.at m3 fun h=>h,m4,by omega,fun h=>?_,fun h=>?_⟩
  ·rw[old 50 (Ne.symm hi50)]at h;rw[mo hdn,if_neg (Ne.symm h40)];exact m6 h
  ·rw[old 51 (Ne.symm hi51)]at h;rw[mo hdn,if_neg (Ne.symm h00)];exact m7 h
 ·rw[old 50 (Ne.symm hi50),old 0 (Ne.symm hi0)];exact h.l50
 ·rw[old 51 (Ne.symm hi51),old 0 (Ne.symm hi0)];exact h.l51
structure ZR(P:Program)(EN MT SL dv ST:Nat):Prop where
 ok:aP P dv=true
 div:∀(w:World) g,Ret P dv [.func (.func g) #[] #[]] w fun v w'=>IsF v∧Ch (fun _=>False) w w'
 slU:∃e inf,P.underlying SL=some (.slice e)∧P.info? e=some inf∧inf.size=1
 built:∀p m c f x y,P.built EN [(0,.slice p m c),(1,.func f x y)]=some #[.slice p m c,.func f x y]
 mtU:P.underlying MT=some (.map ST EN)
 stU:P.underlying ST=some .string
end
end Go.TL.H
