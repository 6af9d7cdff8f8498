/- What one operation makes of the state: the operations without calls. -/
import Derived.Test.YtbjmbhgbalmoaaaW01
namespace Go.TL
def tw(C:Ctx)(o:Oper)(σ':St)(a:Act)(w:World):Prop:=
 ∃v w',((execOp a.eval o).run C.P w= .ok (.value v) w'∨((execOp a.eval o).run C.P w= .ok .skip w'∧v=undef))∧Holds C σ' (a.put o.dst v) w'
def AH(C:Ctx)(o:Oper):Prop:=∀d,o.dst=some d→d<C.n
def r9(C:Ctx)(o:Oper)(σ':St)(a:Act)(w:World):Prop:=
 ∃v,(execOp a.eval o).run C.P w= .ok (.value v) w∧Holds C σ' (a.put o.dst v) w
theorem r9.out{C:Ctx}{o:Oper}{σ':St}{a:Act}{w:World}(h:r9 C o σ' a w):tw C o σ' a w:=by
 obtain⟨v,h1,h2⟩:=h;exact⟨v,w,.inl h1,h2⟩
def iK(z:Value):Option (List SV):=
 match z.cells.toList.all (·.oneCell')with
 |true=>some (z.cells.toList.map fun v=> .p (.v v) true)
 |false=>none
theorem lM{w:World}{E:Env}{lo:Nat}{z:Value}{xs:List SV}(h:iK z=some xs):VRs w E lo xs z.cells.toList:=by
 unfold iK at h
 cases hq:z.cells.toList.all (·.oneCell')with
 |false=>simp[hq]at h
 |true=>
  simp only[hq,Ct]at h;subst h
  have:=List.all_eq_true.1 hq
  generalize z.cells.toList=l at this ⊢
  induction l with
  |nil=>exact r8
  |cons x l ih=>exact dI (Bc true (this x (by simp))) (ih fun y hy=>this y (by simp[hy]))
theorem ji{w:World}{bad:Nat→Prop}{lo:Nat}{x v:Value}(h:Rep w bad lo (.v x) v):v=x:=by cases h;rfl
theorem sa{w:World}{E:Env}{lo:Nat}{x v:Value}{fr:Bool}(h:VR w E lo (.p (.v x) fr) v):v=x:=by simp only[VR]at h;exact ji h
end Go.TL
namespace Go.TL
def fF(P:Program)(t:TypeId):Option Bool:=
 match P.underlying t with
 |some (.struct _)=>some true
 |some (.array _ _)=>some true
 |some _=>some false
 |none=>none
theorem uB{P:Program}{t:TypeId}{b:Bool}(h:fF P t=some b)(w:World):(isAgg t).run P w= .ok b w:=by
 cases hu:P.underlying t with
 |none=>simp[fF,hu]at h
 |some d=>cases d<;>(simp[fF,hu]at h;subst h;simp[isAgg,run_underlying hu])
theorem eT{P:Program}{w:World}{t:TypeId}{i:TypeInfo}{ag:Bool}{b o:Nat}{vs:List Value}(ha:fF P t=some ag)(hi:P.info? t=some i)
  (hc:∀(j:Nat) v,vs[j]? =some v→w.cell? ⟨b,o+j,none⟩=some v)(hl:vs.length=i.size)(h1:ag=false→vs.length=1):
  (Instr.loadAt t (.pointer (some ⟨b,o,none⟩))).run P w= .ok (match ag with|true=> .agg vs.toArray|false=>vs.headD undef) w:=by
 have hr:=uB ha w
 cases ag with
 |true=>
  have dQ:=run_loadCells_list (P:=P) w ⟨b,o,none⟩ vs (fun j v hv=>by rw[Addr.add_lit];exact hc j v hv)
  rw[hl]at dQ
  simp[Instr.loadAt,Instr.sureAddr,loadVar,hr,sizeOf,typeInfo,hi,dQ]
 |false=>
  have fX:=h1 rfl
  match vs,fX with
  | [v],_=>
   have:=hc 0 v rfl
   simp only[Nat.add_zero]at this
   simp[Instr.loadAt,Instr.sureAddr,loadVar,hr,this]
theorem dF{w:World}{b:Nat}{cs:Array Value}{t:TypeId}{fz:Nat×Nat}(h:w.heap[b]? =some (.cells cs t fz))(j:Nat):w.cell? ⟨b,j,none⟩=cs[j]? :=by
 simp[World.cell?,h]
structure Hint where
 ld:List (Nat×List PV)
 st:List (Nat×List PV)
theorem mT{P:Program}{w:World}{t bt:TypeId}{i:TypeInfo}{b off:Nat}{v:Value}{cur:Array Value}(hi:P.info? t=some i)(hs:v.cells.toList.length=i.size)
  (hg:w.heap[b]? =some (.cells cur bt (0,0)))(hle:off+v.cells.toList.length≤cur.size)(h1:∀u∈v.cells.toList,u.oneCell'=true):
  (Instr.storeAt t (.pointer (some ⟨b,off,none⟩)) v).run P w= .ok () (w.setRow b (spl cur.toList off v.cells.toList).toArray):=by
 have hst:=run_storeCells_at P b off bt v.cells.toList 0 cur w hg (by simpa using hle) h1
 have fe:v.cells.size=i.size:=by simpa using hs
 simp only[Nat.add_zero]at hst
 simp[Instr.storeAt,Instr.sureAddr,storeVar,sizeOf,typeInfo,hi,fe,hst,spl,List.append_assoc]
theorem jj{α:Type}(cs:List α)(off:Nat)(new:List α)(h:off+new.length≤cs.length):(spl cs off new).length=cs.length:=by
 simp[spl];omega
theorem mg{α:Type}(cs:List α)(off:Nat)(new:List α)(h:off+new.length≤cs.length)(j:Nat):
  (spl cs off new)[j]? =if off≤j∧j<off+new.length then new[j - off]? else cs[j]? :=by
 unfold spl
 rw[List.getElem?_append]
 simp only[List.length_take,Nat.min_eq_left (show off≤cs.length by omega)]
 split
 ·rename_i hj
  rw[if_neg (by omega),List.getElem?_take,if_pos hj]
 ·rename_i hj
  rw[List.getElem?_append]
  split
  ·rename_i hj2
   rw[if_pos (by omega)]
  ·rename_i hj2
   rw[if_neg (by omega),List.getElem?_drop]
   congr 1;omega
def aO(P:Program)(s:TypeId)(f:Nat):Option (Nat×Nat):=
 match P.underlying s with
 |some (.struct fields)=>match fields.toList[f]? with
  |some fd=>match P.info? fd.type with
   |some i=>match Nat.beq i.size 0 with|true=>none|false=>some (fd.offset,i.size)
   |none=>none
  |none=>none
 |_=>none
end Go.TL
namespace Go.TL
def Env.re(E:Env)(k d:Nat)(x:Value):Env:=
 ⟨fun j=>if j=d then some x else if j=k then none else E.val j,fun c=>if x.ownBlock=some c then some d else if E.own c=some k then none else E.own c,E.ext⟩
theorem zk{w:World}{E:Env}{lo k d:Nat}{x:Value}{T:Tab}(h:b9 w E lo T)(hd:lk (rm T k) d=none):But k E (E.re k d x):=by
 intro j y hj hy
 have hjd:j≠d:=fun e=>by
  subst e;rw[dH _ _ _ hj]at hd;rw[h.dead j hd]at hy;cases hy
 simp[Env.re,hjd,hj,hy]
theorem b9.re{w w':World}{E:Env}{lo k d:Nat}{x:Value}{T:Tab}{ov:OV}(h:b9 w E lo T)(hd:lk (rm T k) d=none)(hs:w.heap.size≤w'.heap.size)
  (hb:∀b,b<w.heap.size→E.own b≠some k→w'.heap[b]? =w.heap[b]?)(hx:∀g,x.ownBlock=some g→(E.own g=some k∨w.heap.size≤g)∧g<w'.heap.size)
  (aV:lo≤w.heap.size)(hor:OR w' (E.re k d x) lo d ov):
  b9 w' (E.re k d x) lo ((d,ov)::ia k .u (fun _=> .u) (rm T k))∧hY w E w' (E.re k d x):=by
 have hkeep:hY w E w' (E.re k d x):=by
  refine⟨?_,rfl⟩
  intro b aF hn
  refine⟨hb b aF (by rw[hn];simp),?_⟩
  simp only[Env.re]
  split
  ·rename_i hg
   rcases(hx b hg).1 with h1|h1
   ·rw[hn]at h1;cases h1
   ·omega
  ·rw[if_neg (by rw[hn];simp)];exact hn
 have hbut:=zk (x:=x) h hd
 have bI:∀j,j≠k→j≠d→∀b,(E.re k d x).own b=some j ↔ E.own b=some j:=by
  intro j gX hjd b
  simp only[Env.re]
  split
  ·rename_i hg
   constructor
   ·intro e;simp at e;exact absurd e.symm hjd
   ·intro e
    rcases(hx b hg).1 with h1|h1
    ·rw[e]at h1;simp at h1;exact absurd h1 gX
    ·have:=(h.own b j e).1;omega
  ·split
   ·rename_i hk
    constructor
    ·intro e;cases e
    ·intro e;rw[hk]at e;simp at e;exact absurd e.symm gX
   ·exact Iff.rfl
 refine⟨⟨?_,?_,?_,?_⟩,hkeep⟩
 ·intro j o hl
  by_cases he:j=d
  ·subst he;rw[aE]at hl;cases hl;exact hor
  ·rw[av _ _ _ _ he,na]at hl
   by_cases gX:j=k
   ·subst gX;rw[nJ]at hl;simp at hl
   ·rw[dH _ _ _ gX]at hl
    cases hq:lk T j with
    |none=>simp[hq]at hl
    |some o0=>
     simp[hq]at hl;subst hl
     exact OR.fz gX hkeep hbut (fun _ _=>by simp[VR]) (fun _ _ _=>by simp[VR]) (bI j gX he)
      (fun b ho=>hb b (h.own b j ho).1 (by rw[ho];simp[gX])) (h.obj j o0 hq)
 ·intro j hl
  have he:j≠d:=fun e=>by subst e;rw[aE]at hl;cases hl
  rw[av _ _ _ _ he,na]at hl
  simp only[Env.re,if_neg he]
  by_cases gX:j=k
  ·simp[gX]
  ·rw[if_neg gX]
   rw[dH _ _ _ gX]at hl
   exact h.dead j (by simpa using hl)
 ·intro b j ho
  by_cases he:j=d
  ·subst he
   refine⟨?_,?_,by rw[aE];simp⟩
   ·simp only[Env.re]at ho
    split at ho
    ·rename_i hg;exact(hx b hg).2
    ·split at ho
     ·cases ho
     ·have:=(h.own b j ho).1;omega
   ·simp only[Env.re]at ho
    split at ho
    ·rename_i hg
     rcases(hx b hg).1 with h1|h1
     ·exact(h.own b k h1).2.1
     ·omega
    ·split at ho
     ·cases ho
     ·exact(h.own b j ho).2.1
  ·have gX:j≠k:=by
    intro e;subst e
    simp only[Env.re]at ho
    split at ho
    ·simp at ho;exact he ho.symm
    ·split at ho
     ·cases ho
     ·rename_i hn;exact hn ho
   have h1:=h.own b j ((bI j gX he b).1 ho)
   refine⟨by omega,h1.2.1,?_⟩
   rw[av _ _ _ _ he,na,dH _ _ _ gX]
   simpa using h1.2.2
 ·intro b hxx
  have h1:=h.ext b hxx
  refine⟨by omega,?_⟩
  simp only[Env.re]
  split
  ·rename_i hg
   rcases(hx b hg).1 with h2|h2
   ·rw[h1.2]at h2;cases h2
   ·omega
  ·rw[if_neg (by rw[h1.2];simp)];exact h1.2
def St.re(σ:St)(k d:Nat)(ov:OV):St:=⟨(d,.vec d)::gO k .u (fun _=> .u) σ.az,(d,ov)::ia k .u (fun _=> .u) (rm σ.tab k)⟩
structure AI(w:World)(bad:Nat→Prop)(lo sz:Nat)(rows:List (List PV))(x:Value):Prop where
 out:(rows=[]∧∃b c,x= .slice b 0 c)∨∃(a:Addr) (c:Nat) (news:List Value),x= .slice (some a) rows.length c∧news.length=rows.length*sz∧
  (∀(j:Nat) u,news[j]? =some u→w.cell? (a.add j)=some u)∧(∀u∈news,u.oneCell'=true)∧bE w bad lo sz rows news
theorem tz{w:World}{bad:Nat→Prop}{lo sz:Nat}{rows:List (List PV)}{x:Value}(h:Rep w bad lo (.sl rows) x)
  (db:∀(i:Nat) (row:List PV),rows[i]? =some row→row.length=sz)(jQ:0<sz):AI w bad lo sz rows x:=by
 cases h with
 |nil b c=>exact⟨.inl ⟨rfl,b,c,rfl⟩⟩
 |sl _ b off cap cs t fz cY f dS hb bh aV dZ hlen hc hr=>
  by_cases hn:rows=[]
  ·subst hn;exact⟨.inl ⟨rfl,some ⟨b,off,none⟩,cap,rfl⟩⟩
  ·have hs:cY=sz:=by
    have h0:rows[0]? =some (rows[0]'(List.length_pos_iff.2 hn)):=by simp[List.length_pos_iff.2 hn]
    rw[←hlen 0 _ h0,db 0 _ h0]
   subst hs
   have gI:∀j,j<rows.length*cY→cs[off+j]? =some (f (j / cY) (j % cY))∧Rep w bad lo ((rows.getD (j / cY) []).getD (j % cY) default) (f (j / cY) (j % cY)):=by
    intro j hj
    have hq:j / cY<rows.length:=(Nat.div_lt_iff_lt_mul jQ).2 hj
    have hm:j % cY<cY:=Nat.mod_lt _ jQ
    have dk:rows[j / cY]? =some rows[j / cY]:=by simp[hq]
    have hcl:rows[j / cY][j % cY]? =some (rows[j / cY][j % cY]'(by rw[hlen _ _ dk];exact hm)):=by simp[hlen _ _ dk,hm]
    have h1:=hc _ _ _ _ dk hcl
    have h2:=hr _ _ _ _ dk hcl
    have e:off+j / cY*cY+j % cY=off+j:=by
     have:=Nat.div_add_mod j cY;rw[Nat.mul_comm]at this;omega
    rw[e]at h1
    refine⟨h1,?_⟩
    have:((rows.getD (j / cY) []).getD (j % cY) default)=rows[j / cY][j % cY]'(by rw[hlen _ _ dk];exact hm):=by simp[List.getD,dk,hcl]
    rw[this];exact h2
   refine⟨.inr ⟨⟨b,off,none⟩,cap,(List.range (rows.length*cY)).map fun j=>f (j / cY) (j % cY),rfl,by simp,?_,?_,?_⟩⟩
   ·intro j u hu
    have hj:j<rows.length*cY:=by have:=(CA hu).1;simpa using this
    simp[hj]at hu;subst hu
    rw[Addr.add_lit,dF hb];exact(gI j hj).1
   ·intro u hu
    obtain⟨j,hj,rfl⟩:=List.mem_map.1 hu
    exact(gI j (by simpa using hj)).2.one
   ·refine⟨f,hlen,?_,hr⟩
    intro i row j x hi hj
    have fh:i<rows.length:=(CA hi).1
    have cd:j<cY:=by rw[←hlen i row hi];exact(CA hj).1
    have aF:i*cY+j<rows.length*cY:=by
     have:(i+1)*cY≤rows.length*cY:=Nat.mul_le_mul_right _ (by omega)
     rw[Nat.add_mul,Nat.one_mul]at this;omega
    have e1:(i*cY+j) / cY=i:=by rw[Nat.mul_comm,Nat.mul_add_div jQ,Nat.div_eq_of_lt cd];simp
    have e2:(i*cY+j) % cY=j:=by rw[Nat.mul_comm,Nat.mul_add_mod,Nat.mod_eq_of_lt cd]
    simp[aF,e1,e2]
theorem bE.append{w:World}{bad:Nat→Prop}{lo sz:Nat}{r1 r2:List (List PV)}{x1 x2:List Value}(h1:bE w bad lo sz r1 x1)(hl:x1.length=r1.length*sz)
  (h2:bE w bad lo sz r2 x2):bE w bad lo sz (r1++r2) (x1++x2):=by
 obtain⟨f,a1,a2,a3⟩:=h1
 obtain⟨g,b1,b2,b3⟩:=h2
 refine⟨fun i j=>if i<r1.length then f i j else g (i - r1.length) j,?_,?_,?_⟩
 ·intro i row hi
  rw[List.getElem?_append]at hi
  split at hi
  ·exact a1 i row hi
  ·exact b1 _ row hi
 ·intro i row j x hi hj
  rw[List.getElem?_append]at hi
  split at hi
  ·rename_i aF
   simp only[aF,if_true]
   have cd:j<sz:=by rw[←a1 i row hi];exact(CA hj).1
   have:i*sz+j<x1.length:=by
    rw[hl]
    have:(i+1)*sz≤r1.length*sz:=Nat.mul_le_mul_right _ (by omega)
    rw[Nat.add_mul,Nat.one_mul]at this;omega
   rw[List.getElem?_append_left this]
   exact a2 i row j x hi hj
  ·rename_i aF
   simp only[aF,if_false]
   have hge:x1.length≤i*sz+j:=by
    rw[hl]
    have:r1.length*sz≤i*sz:=Nat.mul_le_mul_right _ (by omega)
    omega
   rw[List.getElem?_append_right hge]
   have:=b2 _ row j x hi hj
   rw[Nat.sub_mul]at this
   rw[hl]
   have hle:r1.length*sz≤i*sz:=Nat.mul_le_mul_right _ (by omega)
   rw[show i*sz+j - r1.length*sz=i*sz - r1.length*sz+j by omega]
   exact this
 ·intro i row j x hi hj
  rw[List.getElem?_append]at hi
  split at hi
  ·rename_i aF
   simp only[aF,if_true];exact a3 i row j x hi hj
  ·rename_i aF
   simp only[aF,if_false];exact b3 _ row j x hi hj
theorem ib{P:Program}{w:World}(t ty e:TypeId)(i:TypeInfo)(z:Value)(ht:P.underlying t=some (.slice e))(hi:P.info? e=some i)(hz:i.zero=some z)
  (hzs:z.cells.size=i.size)(db:0<i.size)(v:Value)(n:Nat)(xs:List Value)(bI:w.ownsRow 0 e i.size v n xs)
  (x:Value)(m:Nat)(news:List Value)(hx:(m=0∧news=[]∧∃b c,x= .slice b 0 c)∨∃(a:Addr) (c:Nat),x= .slice (some a) m c∧news.length=m*i.size∧
   (∀(j:Nat) u,news[j]? =some u→w.cell? (a.add j)=some u)∧(∀u∈news,u.oneCell'=true))
  (hbytes:(n+m)*i.bytes≤140737488355328)(hlen:n+m≤140737488355328):
  ∃v' w',(Builtin.append_ #[t,t] ty #[v,x]).run P w= .ok v' w'∧w'.ownsRow 0 e i.size v' (n+m) (xs++news)∧w.grownBy w' v.ownBlock∧
   (∀g,v'.ownBlock=some g→(v.ownBlock=some g∨w.heap.size≤g)∧g<w'.heap.size)∧∃p n c,v'= .slice p n c:=by
 have hmax:n+m≤maxLen:=by simp only[maxLen];omega
 have hshape:∃p c,v= .slice p n c∧n≤c:=by
  rcases bI.2 with⟨rfl,rfl⟩|⟨g,cap,cur,rfl,_,_,hle,_⟩
  ·exact⟨none,0,rfl,Nat.le_refl _⟩
  ·exact⟨_,cap,rfl,hle⟩
 rcases hx with⟨rfl,rfl,b,c,rfl⟩|⟨a,c,rfl,hl,hnews,h1⟩
 ·obtain⟨p,cp,rfl,hle⟩:=hshape
  refine⟨.slice p n cp,w,?_,by simpa using bI,⟨rfl,rfl,rfl,Nat.le_refl _,fun _ _ _=>rfl⟩,?_,p,n,cp,rfl⟩
  ·have hf:(Builtin.firstCells i.size 0 (.slice b 0 c)).run P w= .ok #[] w:=by
    cases b with
    |none=>exact run_firstCells_none w _ _ _ _
    |some b=>exact run_firstCells_some (P:=P) w i.size 0 b 0 c [] (by simp) (by simp)
   cases p<;>simp[Builtin.append_,run_underlying ht,sizeOf,typeInfo,hi,Builtin.lenOf,hle,hf,storeCells]
  ·intro g hg
   exact⟨.inl hg,(bI.lt g hg).2⟩
 ·have hr:=run_append_own (P:=P) w 0 t ty e i z i.size i.bytes ht hi hz rfl rfl hzs db v n xs bI a m c news hl hnews h1 hmax hbytes (Nat.zero_le _)
  obtain⟨v',w',cf,ho,hg,_⟩:=hr
  refine⟨v',w',cf,ho,hg,?_,?_⟩
  ·intro g hgv
   refine⟨?_,(ho.lt g hgv).2⟩
   rcases bI.2 with⟨rfl,rfl⟩|⟨gg,cap,cur,rfl,_,hgg,hle,hcm,dR,htk⟩
   ·have dE:=run_append_own (P:=P) w w.heap.size t ty e i z i.size i.bytes ht hi hz rfl rfl hzs db (.slice none 0 0) 0 xs ⟨bI.1,.inl ⟨rfl,rfl⟩⟩ a m c news hl hnews h1 hmax hbytes (Nat.le_refl _)
    obtain⟨v2,w2,hrun2,ho2,_⟩:=dE
    rw[cf]at hrun2
    injection hrun2 with e1 e2
    subst e1;subst e2
    exact .inr (ho2.lt g hgv).1
   ·by_cases hroom:n+m≤cap
    ·have dx:n*i.size+news.length≤cur.size:=by rw[hl,dR, ←Nat.add_mul];exact Nat.mul_le_mul_right _ hroom
     have dE:=run_append_room (P:=P) w t ty e i ht hi gg n cap cur hgg a m c news hl hnews h1 hroom dx
     rw[cf]at dE
     injection dE with e1 e2
     subst e1
     exact .inl hgv
    ·have holds:∀(j:Nat) u,xs[j]? =some u→w.cell? ((⟨gg,0,none⟩:Addr).add j)=some u:=by
      intro j u hu
      rw[Addr.add_lit,dF hgg]
      rw[←htk,List.getElem?_take]at hu
      split at hu
      ·simpa using hu
      ·cases hu
     have dE:=run_append_grow (P:=P) w t ty e i z ht hi hz ⟨gg,0,none⟩ n cap xs bI.1 holds a m c news hl hnews (by omega) (by omega) (growslice_fits (by omega) hbytes)
     rw[cf]at dE
     injection dE with e1 e2
     subst e1
     simp[Value.ownBlock]at hgv
     subst hgv
     exact .inr (Nat.le_refl _)
  ·rcases ho.2 with⟨rfl,_⟩|⟨g,cap,cur,rfl,_⟩
   ·exact⟨_,_,_,rfl⟩
   ·exact⟨_,_,_,rfl⟩
end Go.TL
