/- Maps of strings, and chains: what operations on them do. -/
import Derived.Test.YtpoamlpahljebaaGreatDoorW07
import Derived.MapKept
namespace Go.TL
open Go.MapKept
theorem CQ{a:Option Nat}{e:MapEntry}{vs:List Value}(h:ez a e=some vs):∃us,vs=e.key::us:=by
 unfold ez at h
 split at h
 ·simp only[ZS]at h;exact⟨_,h.symm⟩
 ·split at h
  ·simp only[ZS]at h;exact⟨_,h.symm⟩
  ·cases h
 ·cases h
def oY(rows:List (List PV)):Prop:=∀row∈rows,∃s r,row= .v (.string s)::r
theorem oY.of{P:Program}{e:TypeId}{cs:List CK}{rows:List (List PV)}(hc:cks P e= .str::cs)(h:c9 P e rows):oY rows:=by
 intro row hr
 have:=Ty.to hc (h row hr)
 obtain⟨s,r,rfl,_⟩:=xH this
 exact⟨s,r,rfl⟩
theorem dF.at{w:World}{bad:Nat→Prop}{lo:Nat}{a:Option Nat}{rows:List (List PV)}{es:Array MapEntry}{clock:Nat}(h:dF w bad lo a rows es clock){i:Nat}{e:MapEntry}(hi:es[i]? =some e):
  ∃row vs,row∈rows∧ez a e=some vs∧∃g:Nat→Value,∀(j:Nat) (x:PV),row[j]? =some x→vs[j]? =some (g j)∧Rep w bad lo x (g j):=by
 obtain⟨f,⟨h1,h2,_⟩,h3⟩:=h
 have av:i<rows.length:=by rw[←h1];exact(Array.getElem?_eq_some_iff.1 hi).1
 have hr:rows[i]? =some rows[i]:=by simp[av]
 obtain⟨vs,h4,h5⟩:=h2 i _ e hr hi
 exact⟨rows[i],vs,List.getElem_mem av,h4,f i,fun j x hx=>⟨h5 j x hx,h3 i _ j x hr hx⟩⟩
theorem dF.keys{w:World}{bad:Nat→Prop}{lo:Nat}{a:Option Nat}{rows:List (List PV)}{es:Array MapEntry}{clock:Nat}(h:dF w bad lo a rows es clock)(hk:oY rows):∀x∈es.toList,IsKey .string x.key:=by
 intro x hx
 obtain⟨i,hi⟩:=List.getElem?_of_mem hx
 obtain⟨row,vs,hm,hc,g,hg⟩:=h.at (i:=i) (by simpa using hi)
 obtain⟨s,r,rfl⟩:=hk row hm
 obtain⟨us,rfl⟩:=CQ hc
 have:=hg 0 _ rfl
 have e1:=ek this.2
 simp only[List.getElem?_cons_zero,ZS]at this
 rw[this.1,e1];trivial
def ql(w:World)(bad:Nat→Prop)(lo:Nat)(a:Option Nat)(row:List PV)(key val:Value):Prop:=
 ∃vs,ez a {key,val,born:=0}=some vs∧∃g:Nat→Value,∀(j:Nat) (x:PV),row[j]? =some x→vs[j]? =some (g j)∧Rep w bad lo x (g j)
theorem Jn{a:Option Nat}{e:MapEntry}:ez a e=ez a {key:=e.key,val:=e.val,born:=0}:=rfl
theorem dF.push{w:World}{bad:Nat→Prop}{lo:Nat}{a:Option Nat}{rows:List (List PV)}{es:Array MapEntry}{clock:Nat}(h:dF w bad lo a rows es clock){row:List PV}{e:MapEntry}(hr:ql w bad lo a row e.key e.val)(hb:e.born=clock):
  dF w bad lo a (rows++ [row]) (es.push e) (clock+1):=by
 obtain⟨f,⟨h1,h2,h0⟩,h3⟩:=h
 obtain⟨vs,hv,g,hg⟩:=hr
 refine⟨fun i j=>if i<rows.length then f i j else g j,⟨by simp[h1],?_,fun x hx=>?_⟩,?_⟩
 rotate_left
 ·simp only[Array.toList_push,List.mem_append,List.mem_singleton]at hx
  rcases hx with hx|rfl
  ·exact Nat.lt_succ_of_lt (h0 x hx)
  ·omega
 rotate_left
 ·intro i r e' hi he
  rw[List.getElem?_append]at hi
  rw[Array.getElem?_push,h1]at he
  by_cases av:i<rows.length
  ·rw[if_pos av]at hi
   rw[if_neg (by omega)]at he
   obtain⟨us,h4,h5⟩:=h2 i r e' hi he
   exact⟨us,h4,fun j x hx=>by simp only[if_pos av];exact h5 j x hx⟩
  ·rw[if_neg av]at hi
   have e0:i=rows.length:=by have:=(ZY hi).1;simp at this;omega
   subst e0
   simp at hi he;subst hi;subst he
   exact⟨vs,hv,fun j x hx=>by simp only[if_neg av];exact(hg j x hx).1⟩
 ·intro i r j x hi hj
  rw[List.getElem?_append]at hi
  by_cases av:i<rows.length
  ·rw[if_pos av]at hi;simp only[if_pos av];exact h3 i r j x hi hj
  ·rw[if_neg av]at hi
   have e0:i=rows.length:=by have:=(ZY hi).1;simp at this;omega
   subst e0
   simp at hi;subst hi
   simp only[if_neg av];exact(hg j x hj).2
theorem dF.set{w:World}{bad:Nat→Prop}{lo:Nat}{a:Option Nat}{rows:List (List PV)}{es:Array MapEntry}{clock:Nat}(h:dF w bad lo a rows es clock){row:List PV}{k:Nat}{u:MapEntry→MapEntry}{key val:Value}
  (hu:∀e,(u e).key=key∧(u e).val=val∧(u e).born=e.born)(hr:ql w bad lo a row key val):dF w bad lo a (rows.set k row) (es.modify k u) clock:=by
 obtain⟨f,⟨h1,h2,h0⟩,h3⟩:=h
 obtain⟨vs,hv,g,hg⟩:=hr
 refine⟨fun i j=>if i=k then g j else f i j,⟨by simp[h1],?_,fun x hx=>?_⟩,?_⟩
 rotate_left
 ·obtain⟨i,hi⟩:=List.getElem?_of_mem hx
  rw[Array.getElem?_toList,Array.getElem?_modify]at hi
  split at hi
  ·obtain⟨e1,he,rfl⟩:=Option.map_eq_some_iff.1 hi
   rw[(hu e1).2.2];exact h0 e1 (by rw[←Array.getElem?_toList]at he;exact Z2 he)
  ·exact h0 x (by rw[←Array.getElem?_toList]at hi;exact Z2 hi)
 rotate_left
 ·intro i r e' hi he
  rw[List.getElem?_set]at hi
  rw[Array.getElem?_modify]at he
  by_cases e0:i=k
  ·subst e0
   simp only[if_true]at hi he
   split at hi
   ·simp only[ZS]at hi;subst hi
    obtain⟨e1,_,rfl⟩:=Option.map_eq_some_iff.1 he
    refine⟨vs,?_,fun j x hx=>by simp only[if_true];exact(hg j x hx).1⟩
    rw[Jn,(hu e1).1,(hu e1).2.1];exact hv
   ·cases hi
  ·rw[if_neg (Ne.symm e0)]at hi he
   obtain⟨us,h4,h5⟩:=h2 i r e' hi he
   exact⟨us,h4,fun j x hx=>by simp only[if_neg e0];exact h5 j x hx⟩
 ·intro i r j x hi hj
  rw[List.getElem?_set]at hi
  by_cases e0:i=k
  ·subst e0
   simp only[if_true]at hi
   split at hi
   ·simp only[ZS]at hi;subst hi;simp only[if_true];exact(hg j x hj).2
   ·cases hi
  ·rw[if_neg (Ne.symm e0)]at hi
   simp only[if_neg e0];exact h3 i r j x hi hj
theorem Mc{P:Program}{w:World}{t kt et:TypeId}{b:Nat}{es:Array MapEntry}{clock:Nat}{z:Value}{s:ByteArray}{c:Bool}(ht:P.underlying t=some (.map kt et))(hk:P.underlying kt=some .string)
  (hb:w.heap[b]? =some (.map es clock))(oC:∀x∈es.toList,IsKey .string x.key)(hz:(zeroValue et).run P w= .ok z w):
  (∃(i:Nat) (e:MapEntry),es[i]? =some e∧(Instr.lookup t (.map (some b)) (.string s) c).run P w= .ok (if c then .tuple #[e.val,.bool true]else e.val) w)∨
   (Instr.lookup t (.map (some b)) (.string s) c).run P w= .ok (if c then .tuple #[z,.bool false]else z) w:=by
 rcases findNow_spec (d:= .string) (k:= .string s) trivial es.toList 0 oC with⟨h1,h2⟩|⟨j,e,h1,h2,h3⟩
 ·refine .inr ?_
  simp[Instr.lookup,run_underlying ht,run_getObj_map hb,run_checkKey hk (d:= .string) (k:= .string s) trivial,run_findKey hk h1,hz,Result.andThen]
 ·refine .inl ⟨j,e,by simpa using h2,?_⟩
  simp[Instr.lookup,run_underlying ht,run_getObj_map hb,run_checkKey hk (d:= .string) (k:= .string s) trivial,run_findKey hk h1,Result.andThen]
theorem Ej{P:Program}{w:World}{t kt et:TypeId}{z:Value}{s:ByteArray}{c:Bool}(ht:P.underlying t=some (.map kt et))(hk:P.underlying kt=some .string)(hz:(zeroValue et).run P w= .ok z w):
  (Instr.lookup t (.map none) (.string s) c).run P w= .ok (if c then .tuple #[z,.bool false]else z) w:=by
 have h1:Instr.findNow .string (.string s) [] 0=some none:=rfl
 simp[Instr.lookup,run_underlying ht,run_checkKey hk (d:= .string) (k:= .string s) trivial,run_findKey hk h1,hz,Result.andThen]
theorem xi{P:Program}{w:World}{t kt et:TypeId}{b:Nat}{es:Array MapEntry}{clock:Nat}{s:ByteArray}{v:Value}(ht:P.underlying t=some (.map kt et))(hk:P.underlying kt=some .string)
  (hb:w.heap[b]? =some (.map es clock))(oC:∀x∈es.toList,IsKey .string x.key):
  ∃eK clock',(Instr.mapUpdate t (.map (some b)) (.string s) v).run P w= .ok () {w with heap:=w.heap.setIfInBounds b (.map eK clock')}∧
   ((eK=es.push {key:= .string s,val:=v,born:=clock}∧clock'=clock+1)∨∃(j:Nat) (e:MapEntry),es[j]? =some e∧eK=(es.modify j fun e=>{e with key:= .string s,val:=v})∧clock'=clock):=by
 rcases findNow_spec (d:= .string) (k:= .string s) trivial es.toList 0 oC with⟨h1,h2⟩|⟨j,e,h1,h2,h3⟩
 ·refine⟨_,clock+1,?_,.inl ⟨rfl,rfl⟩⟩
  simp[Instr.mapUpdate,run_underlying ht,run_getObj_map hb,run_checkKey hk (d:= .string) (k:= .string s) trivial,run_findKey hk h1,run_setObj_map _ hb,Result.andThen]
 ·have hj:es[j]? =some e:=by simpa using h2
  refine⟨_,clock,?_,.inr ⟨j,e,hj,rfl,rfl⟩⟩
  simp[Instr.mapUpdate,run_underlying ht,run_getObj_map hb,run_checkKey hk (d:= .string) (k:= .string s) trivial,run_findKey hk h1,hj,h3,run_keyThatStays (d:= .string) (k:= .string s) trivial,run_setObj_map _ hb,Result.andThen]
def mvS(a:Option Nat)(fr:Bool)(row:List PV):SV:=
 match a,row with
 |none,x::_=>mkp fr x
 |none,[]=> .u
 |some n,row=> .agg (row.map (mkp fr)++List.replicate (n - row.length) .u)
theorem SD{w:World}{E:Env}{lo:Nat}:∀us:List Value,VRs w E lo (List.replicate us.length .u) us
 | []=>by simp[VRs]
 |u::us=>by simp only[List.length_cons,List.replicate_succ,VRs,VR,true_and];exact SD us
theorem Kg{w:World}{E:Env}{lo:Nat}{fr:Bool}:∀(row:List PV) (us:List Value),row.length≤us.length→(∀(j:Nat) x,row[j]? =some x→∃v,us[j]? =some v∧Rep w E.bad (flo lo fr) x v)→
  VRs w E lo (row.map (mkp fr)++List.replicate (us.length - row.length) .u) us
 | [],us,_,_=>by simpa only[List.map_nil,List.nil_append,List.length_nil,Nat.sub_zero]using SD us
 |x::row,[],h,_=>by simp at h
 |x::row,u::us,h,hg=>by
  obtain⟨v,h1,h2⟩:=hg 0 x rfl
  simp only[List.getElem?_cons_zero,ZS]at h1;subst h1
  simp only[List.map_cons,List.cons_append,List.length_cons,Nat.add_sub_add_right,VRs]
  exact⟨yP h2,Kg row us (by simpa using h) fun j y hy=>by have:=hg (j+1) y (by simpa using hy);simpa using this⟩
theorem Kh{w:World}{E:Env}{lo:Nat}{fr:Bool}{a:Option Nat}{x:PV}{row:List PV}{key u:Value}(h:ql w E.bad (flo lo fr) a (x::row) key u):VR w E lo (mvS a fr row) u:=by
 obtain⟨vs,hv,g,hg⟩:=h
 cases a with
 |none=>
  simp only[ez,ZS]at hv;subst hv
  cases row with
  |nil=>simp[mvS,VR]
  |cons y row=>
   have:=hg 1 y rfl
   simp only[List.getElem?_cons_succ,List.getElem?_cons_zero,ZS]at this
   rw[←this.1]at this;exact yP this.2
 |some n=>
  unfold ez at hv
  split at hv
  ·rename_i he;cases he
  ·rename_i n' cs he hu
   cases he
   split at hv
   ·rename_i hn
    have hn:=of_decide_eq_true hn
    simp only[ZS]at hv;subst hv
    simp only at hu;subst hu
    simp only[mvS,VR]
    refine⟨cs.toList,by simp,?_⟩
    have hlen:row.length≤cs.toList.length:=by
     rcases Nat.eq_zero_or_pos row.length with h0|h0
     ·omega
     ·have hj:(x::row)[row.length]? =some ((x::row)[row.length]'(by simp)):=by simp
      have:=(ZY (hg _ _ hj).1).1
      simp only[List.length_cons]at this;omega
    have:=Kg (w:=w) (E:=E) (lo:=lo) (fr:=fr) row cs.toList hlen fun j y hy=>⟨g (j+1),by
     have:=hg (j+1) y (by simpa using hy)
     exact⟨by simpa using this.1,this.2⟩⟩
    rw[show cs.toList.length=n by simpa using hn]at this
    exact this
   ·cases hv
  ·cases hv
inductive CR(T:Tab):SV→Option Nat→List (List PV)→Bool→Prop
 |own {k:Nat} {a:Option Nat} {rows:List (List PV)} {fr:Bool} (h:lk T k=some (.mp a rows fr)):CR T (.ref k) a rows fr
 |pure (a:Option Nat) (rows:List (List PV)) (fr:Bool):CR T (.p (.mp a rows) fr) a rows fr
theorem VV{C:Ctx}{E:Env}{σ:St}{a:Act}{w:World}{m:Operand}{q:Option Nat}{rows:List (List PV)}{fr:Bool}(h:aC C E σ a w)(hm:CR σ.tab (ev σ m) q rows fr):
  (a.eval m= .map none∧rows=[])∨∃b es clock,a.eval m= .map (some b)∧w.heap[b]? =some (.map es clock)∧dF w E.bad (flo C.lo fr) q rows es clock:=by
 have az:=bO h m
 generalize ev σ m=sv at hm az
 cases hm with
 |own hl=>
  obtain⟨b,es,cl,h1,_,h3,h4⟩:=h.tab.obj _ _ hl
  simp only[VR]at az
  rw[h1]at az
  exact .inr ⟨b,es,cl,(Option.some.inj az.1).symm,h3,h4⟩
 |pure=>
  simp only[VR]at az
  generalize a.eval m=v at az ⊢
  cases az with
  |lD=>exact .inl ⟨rfl,rfl⟩
  |mp _ _ b es cl f hb _ _ hc hr=>exact .inr ⟨b,es,cl,rfl,hb,f,hc,hr⟩
def lkS(c:Bool)(x:SV)(b:Bool):SV:=match c with|true=> .bL [x,.p (.v (.bool b)) true]|false=>x
theorem OI{C:Ctx}{E:Env}{σ:St}{a:Act}{w:World}{o:Oper}{t kt et:TypeId}{m x:Operand}{c:Bool}{q:Option Nat}{rows:List (List PV)}{fr:Bool}{z:Value}{s:ByteArray}(ho:o.op= .lookup t m x c)(h:aC C E σ a w)(hd:bA C o)
  (ht:C.P.underlying t=some (.map kt et))(hk:C.P.underlying kt=some .string)(hz:(zeroValue et).run C.P w= .ok z w)(hm:CR σ.tab (ev σ m) q rows fr)(hr:oY rows)(hx:isStr (ev σ x)=some s)
  {row0:List PV}(h0:ql w E.bad (flo C.lo fr) q (.v (.string s)::row0) (.string s) z):
  ∃y row b,(row=row0∨y::row∈rows)∧bR C o (σ.put o.dst (lkS c (mvS q fr row) b)) a w:=by
 have ex:=rW h hx
 have key:∀(u:Value) (y:PV) (row:List PV) (kv:Value) (b:Bool),ql w E.bad (flo C.lo fr) q (y::row) kv u→(Instr.lookup t (a.eval m) (a.eval x) c).run C.P w= .ok (if c then .tuple #[u,.bool b]else u) w→
   bR C o (σ.put o.dst (lkS c (mvS q fr row) b)) a w:=by
  intro u y row kv b hR aW
  refine cn h hd (v:=if c then .tuple #[u,.bool b]else u) ?_ ?_
  ·simp[execOp,ho,aW]
  ·have:=Kh hR
   cases c with
   |false=>exact this
   |true=>
    simp only[lkS,VR,if_true]
    exact⟨[u,.bool b],rfl,bu this (bu (dR true rfl) df)⟩
 rcases VV h hm with⟨hv,rfl⟩|⟨b,es,cl,hv,hb,hM⟩
 ·exact⟨.v (.string s),row0,false,.inl rfl,key z _ row0 _ false h0 (by rw[hv,ex];exact Ej ht hk hz)⟩
 ·rcases Mc (P:=C.P) (c:=c) (s:=s) ht hk hb (hM.keys hr) hz with⟨i,e,hi,aW⟩|aW
  ·obtain⟨row,vs,gx,hc,g,hg⟩:=hM.at hi
   obtain⟨s',r,rfl⟩:=hr row gx
   exact⟨_,r,true,.inr gx,key e.val _ r e.key true ⟨vs,hc,g,hg⟩ (by rw[hv,ex];exact aW)⟩
  ·exact⟨.v (.string s),row0,false,.inl rfl,key z _ row0 _ false h0 (by rw[hv,ex];exact aW)⟩
theorem Md{C:Ctx}{E:Env}{σ:St}{a:Act}{w:World}{o:Oper}{d:Nat}{t:TypeId}(q:Option Nat)(ho:o.op= .makeMap t none)(h:aC C E σ a w)(hd:bA C o)(dm:o.dst=some d)(dt:lk σ.tab d=none):
  bR C o ⟨(d,.ref d)::σ.ah,(d,.mp q [] true)::σ.tab⟩ a w:=by
 have hb:∀b,b<w.heap.size→(w.alloc (.map #[] 0)).heap[b]? =w.heap[b]? :=fun b hb=>heap_alloc_old w _ b hb
 have aR:C.lo≤w.heap.size:=Nat.le_trans h.lo.le h.fr.size
 have dB:=Env.ua (w:=w) (b0:=w.heap.size) (x:= .map (some w.heap.size)) h.tab dt
 have lQ:=bV.add (w':=w.alloc (.map #[] 0)) (x:= .map (some w.heap.size)) (b0:=w.heap.size) (ov:= .mp q [] true) h.tab dt (by simp) hb (Nat.le_refl _) (by simp) aR
  ⟨w.heap.size, #[],0,by simp[Env.add],by simp[Env.add],heap_alloc_new w _,fun _ _=>undef,⟨rfl,by simp,by simp⟩,by simp⟩
 refine⟨.map (some w.heap.size),w.alloc (.map #[] 0),.inl (by simp[execOp,ho,Instr.makeMap]),E.add d (.map (some w.heap.size)) w.heap.size,?_⟩
 have hdn:d<C.n:=hd d dm
 have c8:Fr w E (w.alloc (.map #[] 0)) (E.add d (.map (some w.heap.size)) w.heap.size):=Fr.add rfl rfl rfl (by simp) hb (Nat.le_refl _)
 have:=h.upd c8 dB (fun k hk hn=>by simp only[Env.add];rw[if_neg (by omega)];exact hn) lQ o.dst hd (sv:= .ref d) (v:= .map (some w.heap.size)) (fun _ _=>by simp only[VR];exact⟨by simp[Env.add],rfl⟩)
 rw[dm]at this ⊢
 exact this
theorem Ig{C:Ctx}{E:Env}{σ:St}{a:Act}{w:World}{o:Oper}{t kt et:TypeId}{m x v:Operand}{k:Nat}{q:Option Nat}{rows:List (List PV)}{fr fr':Bool}{s:ByteArray}{row:List PV}(ho:o.op= .mapUpdate t m x v∨o.op= .insert t m x v)(h:aC C E σ a w)(hd:bA C o)
  (ht:C.P.underlying t=some (.map kt et))(hk:C.P.underlying kt=some .string)(hm:ev σ m= .ref k)(hl:lk σ.tab k=some (.mp q rows fr))(hr:oY rows)(hx:isStr (ev σ x)=some s)
  (hv:ql w E.bad (flo C.lo fr') q (.v (.string s)::row) (.string s) (a.eval v)):
  ∃cC,(cC=rows++ [.v (.string s)::row]∨∃j,cC=rows.set j (.v (.string s)::row))∧bR C o ((⟨σ.ah,(k,.mp q cC (fr && fr'))::rm σ.tab k⟩:St).put o.dst .u) a w:=by
 have ex:=rW h hx
 obtain⟨b,es,cl,h1,h2,h3,h4⟩:=h.tab.obj _ _ hl
 have az:=bO h m
 rw[hm]at az;simp only[VR]at az
 rw[h1]at az
 have em:=(Option.some.inj az.1).symm
 obtain⟨eK,kX,aW,hes⟩:=xi (P:=C.P) (w:=w) (v:=a.eval v) (s:=s) ht hk h3 (h4.keys hr)
 have av:=an h3
 have hother:∀c,E.own c≠some k→({w with heap:=w.heap.setIfInBounds b (.map eK kX)}:World).heap[c]? =w.heap[c]? :=fun c hc=>(heap_set (w:=w) h3).2 c (fun e=>hc (by rw[e];exact h2))
 have db:∀c o',w.heap[c]? =some o'→¬ E.bad c→({w with heap:=w.heap.setIfInBounds b (.map eK kX)}:World).heap[c]? =some o'∧¬ E.bad c:=fun c o' hc hn=>⟨(hother c (by rw[(yM hn).1];simp)).trans hc,hn⟩
 have g1:=h4.mono (jg C.lo fr fr').1 db
 have g2:ql {w with heap:=w.heap.setIfInBounds b (.map eK kX)} E.bad (flo C.lo (fr && fr')) q (.v (.string s)::row) (.string s) (a.eval v):=by
  obtain⟨vs,e1,g,e2⟩:=hv
  exact⟨vs,e1,g,fun j x hx=>⟨(e2 j x hx).1,(e2 j x hx).2.mono (jg C.lo fr fr').2 db⟩⟩
 have done:∀cC,dF {w with heap:=w.heap.setIfInBounds b (.map eK kX)} E.bad (flo C.lo (fr && fr')) q cC eK kX→bR C o ((⟨σ.ah,(k,.mp q cC (fr && fr'))::rm σ.tab k⟩:St).put o.dst .u) a w:=by
  intro cC hM
  refine Dk h hd (by rw[hl];simp) (w1:={w with heap:=w.heap.setIfInBounds b (.map eK kX)}) ?_ rfl rfl rfl (by simp) hother ⟨b,eK,kX,h1,h2,(heap_set h3).1,hM⟩
  rcases ho with ho|ho<;>simp[execOp,ho,em,ex,aW]
 rcases hes with⟨rfl,rfl⟩|⟨j,e,_,rfl,rfl⟩
 ·exact⟨_,.inl rfl,done _ (g1.push g2 rfl)⟩
 ·exact⟨_,.inr ⟨j,rfl⟩,done _ (g1.set (fun _=>⟨rfl,rfl,rfl⟩) g2)⟩
theorem Q0{C:Ctx}{E:Env}{σ:St}{a:Act}{w:World}{o:Oper}{t:TypeId}{x:Operand}{xs:List SV}{row:List PV}{rows:List (List PV)}{fr:Bool}(ho:o.op= .box t x)(h:aC C E σ a w)(hd:bA C o)
  (gM:VRs w E C.lo xs (a.eval x).cells.toList)(hp:lq xs=some (row++ [.ls rows],fr)):bR C o (σ.put o.dst (.p (.ls (row::rows)) fr)) a w:=by
 obtain⟨_,_,f,f1,f2⟩:=mW xs _ fr hp _ gM
 have hb:∀b,b<w.heap.size→(w.alloc (.cells (a.eval x).cells.toList.toArray t)).heap[b]? =w.heap[b]? :=fun b hb=>heap_alloc_old w _ b hb
 have c8:Fr w E (w.alloc (.cells (a.eval x).cells.toList.toArray t)) E:=⟨rfl,rfl,rfl,by simp,fun b av hn=>⟨hb b av,hn⟩,rfl⟩
 have fy:¬ E.bad w.heap.size:=lU (by
  cases hq:E.own w.heap.size with
  |none=>rfl
  |some k=>exact absurd (h.tab.own _ _ hq).1 (Nat.lt_irrefl _)) fun he=>Nat.lt_irrefl _ (h.tab.ext _ he).1
 refine⟨.pointer (some ⟨w.heap.size,0,none⟩),_,.inl (by simp[execOp,ho,Instr.box,newVar,newRow];rfl),E,?_⟩
 refine h.upd c8 (fun _ _ h=>h) (fun _ _ h=>h) (h.tab.same (by simp) hb) o.dst hd fun _ _=>?_
 simp only[VR]
 refine .ls row rows w.heap.size 0 _ t (0,0) f (heap_alloc_new w _) fy (Nat.le_trans (Bt _ _) (Nat.le_trans h.lo.le h.fr.size)) (fun j y hy=>?_) fun j y hy=>(f2 j y hy).mono (Nat.le_refl _) c8.keeps.rep
 simpa using f1 j y hy
theorem run_eq_map{P:Program}{w:World}{t k e:TypeId}(hu:P.underlying t=some (.map k e))(p q:Option Nat)(h:p=none∨q=none):(Op.equal t (.map p) (.map q)).run P w= .ok (p.isNone && q.isNone) w:=by
 show(Op.equalIn (9999+1) t _ _).run P w=_
 rw[Op.equalIn]
 rcases h with rfl|rfl
 ·cases q<;>simp[run_underlying hu]
 ·cases p<;>simp[run_underlying hu]
def opB(op:BinOp)(b:Bool):Bool:=match op with| .eql=>b|_=> !b
theorem Fs{C:Ctx}{E:Env}{σ:St}{a:Act}{w:World}{o:Oper}{op:BinOp}{tx ty k e:TypeId}{x y:Operand}{p:Option Nat}(ho:o.op= .binOp op tx x y ty)(kU:op= .eql∨op= .neq)(hu:C.P.underlying tx=some (.map k e))
  (hx:a.eval x= .map p)(hy:a.eval y= .map none)(h:aC C E σ a w)(hd:bA C o):bR C o (σ.put o.dst (.p (.v (.bool (opB op p.isNone))) true)) a w:=by
 have hr:=run_eq_map (P:=C.P) (w:=w) hu p none (.inr rfl)
 rw[Option.isNone_none,Bool.and_true]at hr
 rcases kU with rfl|rfl
 ·exact cn h hd (v:= .bool p.isNone) (dV ho (by rw[hx,hy];simp[eqGuard]) (by rw[hx,hy];simp[binOp,hr])) (dR true rfl)
 ·exact cn h hd (v:= .bool !p.isNone) (dV ho (by rw[hx,hy];simp[eqGuard]) (by rw[hx,hy];simp[binOp,hr])) (dR true rfl)
theorem Tz{C:Ctx}{E:Env}{σ:St}{a:Act}{w:World}{o:Oper}{x:Operand}{row:List PV}{rows:List (List PV)}{fr:Bool}(ho:o.op= .nilCheck x)(h:aC C E σ a w)(hd:bA C o)
  (hx:ev σ x= .p (.ls (row::rows)) fr):bR C o (σ.put o.dst (.pd (row++ [.ls rows]) 0 fr)) a w:=by
 have az:=bO h x
 rw[hx]at az;simp only[VR]at az
 generalize hv:a.eval x=v at az
 cases az with
 |ls _ _ b off cs t fz f hb bY aR hc hr=>
  refine cn h hd (v:= .pointer (some ⟨b,off,none⟩)) (by simp[execOp,ho,hv]) ?_
  simp only[VR]
  exact⟨b,off,rfl,cs,t,fz,f,hb,bY,aR,hc,hr⟩
end Go.TL
