/- To go along a map's entries; to take one out. -/
import Derived.Test.YtpoamlpahljebaaGreatDoorW22
import Derived.Maps.RangeRun
import Derived.Test.YtpoamlpahljebaaGreatDoorW23
namespace Go.TL
open Go.MapKept
theorem Q7{C:Ctx}{E:Env}{σ:St}{a:Act}{w:World}{o:Oper}{d:Nat}{t kt et:TypeId}{x:Operand}{q:Option Nat}{rows:List (List PV)}{fr:Bool}(ho:o.op= .range t x)(h:aC C E σ a w)(hd:bA C o)(dm:o.dst=some d)(dt:lk σ.tab d=none)
  (ht:C.P.underlying t=some (.map kt et))(hx:Rep w E.bad (flo C.lo fr) (.mp q rows) (a.eval x)):bR C o ⟨(d,.ref d)::σ.ah,(d,.it q rows fr rows.length false)::σ.tab⟩ a w:=by
 have hdn:d<C.n:=hd d dm
 have aR:C.lo≤w.heap.size:=Nat.le_trans h.lo.le h.fr.size
 have main:∀ob:Obj,(Instr.range t (a.eval x)).run C.P w= .ok (.pointer (some ⟨w.heap.size,0,none⟩)) (w.alloc ob)→yL w E.bad (flo C.lo fr) q rows rows.length false ob→
   bR C o ⟨(d,.ref d)::σ.ah,(d,.it q rows fr rows.length false)::σ.tab⟩ a w:=by
  intro ob aW hit
  have hb:∀b,b<w.heap.size→(w.alloc ob).heap[b]? =w.heap[b]? :=fun b hb=>heap_alloc_old w _ hb
  have dB:=Env.ua (w:=w) (b0:=w.heap.size) (x:= .pointer (some ⟨w.heap.size,0,none⟩)) h.tab dt
  have hit':yL (w.alloc ob) (E.add d (.pointer (some ⟨w.heap.size,0,none⟩)) w.heap.size).bad (flo C.lo fr) q rows rows.length false ob:=hit.mono (Nat.le_refl _) fun b ob' hb' hn=>by
   have av:=an hb'
   refine⟨(hb b av).trans hb',fun hc=>hn ?_⟩
   rcases hc with hc|hc
   ·simp only[Env.add]at hc;rw[if_neg (by omega)]at hc;exact .inl hc
   ·exact .inr hc
  have lQ:=bV.add (w':=w.alloc ob) (x:= .pointer (some ⟨w.heap.size,0,none⟩)) (b0:=w.heap.size) (ov:= .it q rows fr rows.length false) h.tab dt (by simp) hb (Nat.le_refl _) (by simp) aR
   ⟨w.heap.size,ob,by simp[Env.add],by simp[Env.add],heap_alloc_new w _,hit'⟩
  refine⟨.pointer (some ⟨w.heap.size,0,none⟩),w.alloc ob,.inl (by simp[execOp,ho,aW]),E.add d (.pointer (some ⟨w.heap.size,0,none⟩)) w.heap.size,?_⟩
  have c8:Fr w E (w.alloc ob) (E.add d (.pointer (some ⟨w.heap.size,0,none⟩)) w.heap.size):=Fr.add rfl rfl rfl (by simp) hb (Nat.le_refl _)
  have:=h.upd c8 dB (fun k hk hn=>by simp only[Env.add];rw[if_neg (by omega)];exact hn) lQ o.dst hd (sv:= .ref d) (v:= .pointer (some ⟨w.heap.size,0,none⟩)) (fun _ _=>by simp only[VR];exact⟨by simp[Env.add],rfl⟩)
  rw[dm]at this ⊢
  exact this
 generalize hv:a.eval x=v at hx main
 cases hx with
 |lD=>
  refine main (.mapIter none 0 #[] 0) (by simp[Instr.range,run_underlying ht,Result.andThen]) ⟨none,0, #[],0,rfl,.lD _,fun _=>rfl,fun m hm=>by cases hm⟩
 |mp _ _ b es cl f hb bY hlo' hc hr=>
  refine main (.mapIter (some b) cl #[] cl) (by simp[Instr.range,run_underlying ht,MapKept.run_getObj_map hb,Result.andThen]) ⟨some b,cl, #[],cl,rfl,.mp _ _ b es cl f hb bY hlo' hc hr,fun h=>(by cases h),fun m hm=>?_⟩
  cases hm
  refine⟨es,cl,hb,bY,rfl,rfl,?_,fun h=>by cases h⟩
  exact Nat.le_trans Array.size_filter_le (Nat.le_of_eq hc.1)
theorem TC{C:Ctx}{E:Env}{σ:St}{a:Act}{w:World}{o:Oper}{x:Operand}{k:Nat}{q:Option Nat}{rows:List (List PV)}{fr on:Bool}{n:Nat}(ho:o.op= .next x false)(h:aC C E σ a w)(hd:bA C o)
  (hx:ev σ x= .ref k)(hl:lk σ.tab k=some (.it q rows fr n on)):
  bR C o (σ.put o.dst (.bL [.p (.v (.bool false)) true])) a w∨
   (0<n∧bR C o ((⟨σ.ah,(k,.it q rows fr (n - 1) true)::rm σ.tab k⟩:St).put o.dst (.bL [.p (.v (.bool true)) true,.u,.u])) a w):=by
 obtain⟨b,ob,h1,h2,h3,mp,since0,seen,last,rfl,h4,h5,h6⟩:=h.tab.obj _ _ hl
 have az:=bO h x
 rw[hx]at az;simp only[VR]at az
 rw[h1]at az
 have em:=(Option.some.inj az.1).symm
 cases mp with
 |none=>
  left
  refine cn h hd (v:= .tuple #[.bool false]) ?_ (by simp only[VR];exact⟨[.bool false],rfl,bu (dR true rfl) df⟩)
  simp[execOp,ho,em,Instr.next,getObj,Sem.run,h3,Result.andThen]
 |some m=>
  obtain⟨es,cl,g1,g2,e8,e9,g3,g4⟩:=h6 m rfl
  subst e8;subst e9
  have hold:∀x∈es.toList,x.born<last:=by
   cases h4 with
   |mp _ _ _ eK last' f hb _ _ hc hr=>
    rw[g1]at hb
    obtain⟨rfl,rfl⟩:=Obj.map.inj (Option.some.inj hb)
    exact hc.2.2
  rcases run_next_at (P:=C.P) w o.type b m last last seen es last h3 g1 hold (Nat.le_refl _)with⟨_,aW⟩|⟨e,he,w1,eJ,aW⟩
  ·left
   refine cn h hd (v:= .tuple #[.bool false]) ?_ (by simp only[VR];exact⟨[.bool false],rfl,bu (dR true rfl) df⟩)
   simp[execOp,ho,em,aW]
  ·right
   have av:=left_shrinks es seen e he
   have hle:(leftOf es seen).size≤n:=g3
   refine⟨by omega,?_⟩
   have e1:w1.heap=w.heap:=by rcases eJ with rfl|rfl<;>rfl
   have e2:w1.os=w.os:=by rcases eJ with rfl|rfl<;>rfl
   have e3:w1.tape=w.tape:=by rcases eJ with rfl|rfl<;>rfl
   have e4:w1.output=w.output:=by rcases eJ with rfl|rfl<;>rfl
   have h3':w1.heap[b]? =some (.mapIter (some m) last seen last):=by rw[e1];exact h3
   have hs:=heap_set (o':=Obj.mapIter (some m) last (seen.push e.born) last) h3'
   have hb:∀c,E.own c≠some k→(ChangeMaps.setBlock w1 b (.mapIter (some m) last (seen.push e.born) last)).heap[c]? =w.heap[c]? :=fun c hc=>by
    rw[←e1];exact hs.2 c fun e=>hc (by rw[e];exact h2)
   have dL:OR (ChangeMaps.setBlock w1 b (.mapIter (some m) last (seen.push e.born) last)) E C.lo k (.it q rows fr (n - 1) true):=by
    have db:∀c o',w.heap[c]? =some o'→¬ E.bad c→(ChangeMaps.setBlock w1 b (.mapIter (some m) last (seen.push e.born) last)).heap[c]? =some o'∧¬ E.bad c:=fun c o' hc hn=>⟨(hb c (by rw[(yM hn).1];simp)).trans hc,hn⟩
    refine⟨b,_,h1,h2,hs.1,some m,last,seen.push e.born,last,rfl,h4.mono (Nat.le_refl _) db,fun h=>(by cases h),fun m' hm'=>?_⟩
    cases hm'
    refine⟨es,last,(db m _ g1 g2).1,g2,rfl,rfl,?_,fun _=>⟨e.born,by simp,e,?_,rfl⟩⟩
    ·show(leftOf es (seen.push e.born)).size≤n - 1
     omega
    ·exact(mem_left he).1
   refine⟨.tuple #[.bool true,e.key,e.val],ChangeMaps.setBlock w1 b (.mapIter (some m) last (seen.push e.born) last),.inl (by simp[execOp,ho,em,aW]),E,h.upd (Fr.set (w':=ChangeMaps.setBlock w1 b (.mapIter (some m) last (seen.push e.born) last)) e2 e3 e4 (by simp[ChangeMaps.setBlock,e1]) hb) (fun _ _ h=>h) (fun _ _ h=>h) (h.tab.set (by rw[hl];simp) (by simp[ChangeMaps.setBlock,e1]) hb dL) o.dst hd fun _ _=>?_⟩
   simp only[VR]
   exact⟨[.bool true,e.key,e.val],rfl,bu (dR true rfl) (bu (by simp[VR]) (bu (by simp[VR]) df))⟩
theorem Q8{C:Ctx}{E:Env}{σ:St}{a:Act}{w:World}{o:Oper}{x:Operand}{k:Nat}{q:Option Nat}{rows:List (List PV)}{fr:Bool}{n:Nat}(ho:o.op= .entry x)(h:aC C E σ a w)(hd:bA C o)
  (hx:ev σ x= .ref k)(hl:lk σ.tab k=some (.it q rows fr n true))(hr:oY rows):
  ∃s row,.v (.string s)::row∈rows∧bR C o (σ.put o.dst (.bL [mkp fr (.v (.string s)),mvS q fr row])) a w:=by
 obtain⟨b,ob,h1,h2,h3,mp,since0,seen,last,rfl,h4,h5,h6⟩:=h.tab.obj _ _ hl
 have az:=bO h x
 rw[hx]at az;simp only[VR]at az
 rw[h1]at az
 have em:=(Option.some.inj az.1).symm
 cases mp with
 |none=>exact absurd (h5 rfl) (by simp)
 |some m=>
  obtain⟨es,cl,g1,g2,e8,e9,g3,g4⟩:=h6 m rfl
  subst e8;subst e9
  obtain⟨s,hs,e0,he0,dO⟩:=g4 rfl
  cases h4 with
  |mp _ _ _ eK last' f hb _ _ hc hrr=>
   rw[g1]at hb
   obtain⟨rfl,rfl⟩:=Obj.map.inj (Option.some.inj hb)
   have hM:dF w E.bad (flo C.lo fr) q rows es last:=⟨f,hc,hrr⟩
   cases hf:es.find? (·.born==s)with
   |none=>
    rw[←Array.find?_toList,List.find?_eq_none]at hf
    exact absurd dO (by simpa using hf e0 he0)
   |some e=>
    have gx:e∈es.toList:=by rw[←Array.find?_toList]at hf;exact List.mem_of_find?_eq_some hf
    obtain⟨i,hi⟩:=List.getElem?_of_mem gx
    obtain⟨row,vs,hm,hcv,g,hg⟩:=hM.at (i:=i) (by simpa using hi)
    obtain⟨s',r,rfl⟩:=hr row hm
    refine⟨s',r,hm,cn h hd (v:= .tuple #[e.key,e.val]) ?_ ?_⟩
    ·simp[execOp,ho,em,Instr.entry,getObj,Sem.run,h3,g1,hs,hf,Result.andThen]
    ·simp only[VR]
     refine⟨[e.key,e.val],rfl,bu ?_ (bu (Kh (key:=e.key) ⟨vs,hcv,g,hg⟩) df)⟩
     obtain⟨us,rfl⟩:=CQ hcv
     have:=hg 0 _ rfl
     simp only[List.getElem?_cons_zero,ZS]at this
     rw[this.1];exact yP this.2
theorem dF.erase{w:World}{bad:Nat→Prop}{lo:Nat}{a:Option Nat}{rows:List (List PV)}{es:Array MapEntry}{clock:Nat}(h:dF w bad lo a rows es clock)(k:Nat):dF w bad lo a (rows.eraseIdx k) (es.eraseIdxIfInBounds k) clock:=by
 obtain⟨f,⟨h1,h2,h0⟩,h3⟩:=h
 by_cases hk:k<es.size
 ·have e1:(es.eraseIdxIfInBounds k).toList=es.toList.eraseIdx k:=by simp[Array.eraseIdxIfInBounds,hk]
  have get:∀i,(es.eraseIdxIfInBounds k)[i]? =if i<k then es[i]? else es[i+1]? :=fun i=>by
   rw[←Array.getElem?_toList,e1,List.getElem?_eraseIdx];simp
  refine⟨fun i=>if i<k then f i else f (i+1),⟨?_,fun i row e hi he=>?_,fun e he=>?_⟩,fun i row j x hi hj=>?_⟩
  ·rw[←Array.length_toList,e1,List.length_eraseIdx,List.length_eraseIdx];simp[hk, ←h1]
  ·rw[List.getElem?_eraseIdx]at hi
   rw[get]at he
   by_cases av:i<k
   ·rw[if_pos av]at hi he;simp only[if_pos av];exact h2 i row e hi he
   ·rw[if_neg av]at hi he;simp only[if_neg av];exact h2 (i+1) row e hi he
  ·rw[e1]at he;exact h0 e (List.mem_of_mem_eraseIdx he)
  ·rw[List.getElem?_eraseIdx]at hi
   by_cases av:i<k
   ·rw[if_pos av]at hi;simp only[if_pos av];exact h3 i row j x hi hj
   ·rw[if_neg av]at hi;simp only[if_neg av];exact h3 (i+1) row j x hi hj
 ·rw[List.eraseIdx_of_length_le (by omega)]
  rw[show es.eraseIdxIfInBounds k=es by simp[Array.eraseIdxIfInBounds,hk]]
  exact⟨f,⟨h1,h2,h0⟩,h3⟩
theorem ON{C:Ctx}{E:Env}{σ:St}{a:Act}{w:World}{o:Oper}{t kt et ty:TypeId}{m x:Operand}{k:Nat}{q:Option Nat}{rows:List (List PV)}{fr:Bool}{s:ByteArray}
  (ho:o.op= .call {callee:= .builtin .delete,args:= #[m,x],argTypes:= #[t,ty]})(h:aC C E σ a w)(hd:bA C o)
  (ht:C.P.underlying t=some (.map kt et))(hk:C.P.underlying kt=some .string)(hm:ev σ m= .ref k)(hl:lk σ.tab k=some (.mp q rows fr))(hr:oY rows)(hx:isStr (ev σ x)=some s):
  ∃cC,(cC=rows∨∃j,cC=rows.eraseIdx j)∧bR C o ((⟨σ.ah,(k,.mp q cC fr)::rm σ.tab k⟩:St).put o.dst .u) a w:=by
 have ex:=rW h hx
 obtain⟨b,es,cl,h1,h2,h3,h4⟩:=h.tab.obj _ _ hl
 have az:=bO h m
 rw[hm]at az;simp only[VR]at az
 rw[h1]at az
 have em:=(Option.some.inj az.1).symm
 have done:∀eK cC,dF w E.bad (flo C.lo fr) q cC eK cl→(Builtin.delete_ #[t,ty] o.type #[a.eval m,a.eval x]).run C.P w= .ok (.tuple #[]) {w with heap:=w.heap.setIfInBounds b (.map eK cl)}→
   bR C o ((⟨σ.ah,(k,.mp q cC fr)::rm σ.tab k⟩:St).put o.dst .u) a w:=by
  intro eK cC hM aW
  have hb:∀c,E.own c≠some k→({w with heap:=w.heap.setIfInBounds b (.map eK cl)}:World).heap[c]? =w.heap[c]? :=fun c hc=>(heap_set (w:=w) h3).2 c (fun e=>hc (by rw[e];exact h2))
  have db:∀c o',w.heap[c]? =some o'→¬ E.bad c→({w with heap:=w.heap.setIfInBounds b (.map eK cl)}:World).heap[c]? =some o'∧¬ E.bad c:=fun c o' hc hn=>⟨(hb c (by rw[(yM hn).1];simp)).trans hc,hn⟩
  refine⟨.tuple #[],{w with heap:=w.heap.setIfInBounds b (.map eK cl)},.inl ?_,E,h.upd (Fr.set (w':={w with heap:=w.heap.setIfInBounds b (.map eK cl)}) rfl rfl rfl (by simp) hb) (fun _ _ h=>h) (fun _ _ h=>h) (h.tab.set (by rw[hl];simp) (by simp) hb (show OR {w with heap:=w.heap.setIfInBounds b (.map eK cl)} E C.lo k (.mp q cC fr)from⟨b,eK,cl,h1,h2,(heap_set h3).1,hM.mono (Nat.le_refl _) db⟩)) o.dst hd (sv:= .u) fun _ _=>by simp only[VR]⟩
  rw[fO ho]
  simp only[List.map_toArray,List.map_cons,List.map_nil]
  simp[builtin,aW]
 have oC:=h4.keys hr
 rcases findNow_spec (d:= .string) (k:= .string s) trivial es.toList 0 oC with⟨e1,_⟩|⟨j,e,e1,e2,_⟩
 ·refine⟨rows,.inl rfl,done es rows h4 ?_⟩
  simp[Builtin.delete_,em,ex,run_underlying ht,MapKept.run_getObj_map h3,run_checkKey hk (d:= .string) (k:= .string s) trivial,run_findKey hk e1,run_setObj_map _ h3,Result.andThen]
 ·refine⟨_,.inr ⟨0+j,rfl⟩,done _ _ (h4.erase (0+j)) ?_⟩
  simp[Builtin.delete_,em,ex,run_underlying ht,MapKept.run_getObj_map h3,run_checkKey hk (d:= .string) (k:= .string s) trivial,run_findKey hk e1,run_setObj_map _ h3,Result.andThen]
end Go.TL
namespace Go.TL
theorem OO{σ:DSt}(hs:σ.sc)(d:Nat){ov:DO}(ho:Sc σ.nx ov.vars):(σ.addRef d ov).sc:=by
 refine⟨fun t' v hl=>?_,fun t' v hl=>?_,hs.tys,hs.lin,hs.prs⟩
 ·simp only[DSt.addRef,cK]at hl
  split at hl
  ·simp only[ZS]at hl;subst hl;exact Sc.nil
  ·exact hs.ah t' v hl
 ·simp only[DSt.addRef,cK]at hl
  split at hl
  ·simp only[ZS]at hl;subst hl;exact ho
  ·exact hs.tab t' v hl
def zH(P:Program)(σ:DSt)(o:Oper)(t:TypeId)(x:Operand):bj:=
 match Bi P t,o.dst with
 |some (_,_,q,_),some d=>match lk σ.tab d with
  |none=>match dev σ x with
   | .p (.mp q' l) fr=>match gw q q' with
    |true=>some ([σ.addRef d (.it q l fr (bJ l) false)],[])
    |false=>none
   | .p (.ej (.map none)) fr=>some ([σ.addRef d (.it q none fr (bJ none) false)],[])
   |_=>none
  |some _=>none
 |_,_=>none
theorem yw{P:Program}{I:Pr}{n:Nat}{σ:DSt}{o:Oper}{t:TypeId}{x:Operand}{outs:List DSt}{q:List Seq}(ho:o.op= .range t x)(h:zH P σ o t x=some (outs,q)):aS P I n o σ outs:=by
 unfold zH at h
 split at h
 ·rename_i kt et qq z d ht dm
  split at h
  ·rename_i hf
   have main:∀l fr,(σ.sc→Sc σ.nx (a8 l))→(∀ρ w E lo v,VR w E lo ((dev σ x).v ρ) v→Rep w E.bad (flo lo fr) (.mp qq (lvV ρ l)) v)→aS P I n o σ [σ.addRef d (.it qq l fr (bJ l) false)]:=by
    intro l fr oz hrep
    refine aS.of (fun hs=>?_) fun hs ρ ab C E a w hC hh hd=>?_
    ·intro σ' a7
     simp only[List.mem_singleton]at a7;subst a7
     exact⟨OO hs d (by simp only[DO.vars,Sc.app];exact⟨oz hs,dX (oz hs)⟩),Nat.le_refl _⟩
    ·have hx:=hrep ρ w E C.lo (a.eval x) (by rw[←aK];exact bO hh x)
     have gh:=Q7 (C:=C) (σ:=σ.v ρ) ho hh hd dm (oL hf) (hC▸(zF ht).1) hx
     refine⟨_,ZW ..,ρ,_,au.refl _ _,⟨ab.g,ab.tys,ab.lin,ab.prs⟩,gh,?_⟩
     refine⟨fun t'=>?_,fun t'=>?_⟩
     ·simp only[DSt.addRef,DSt.v,cV,DV.v,cK]
     ·simp only[DSt.addRef,DSt.v,aU,DO.v,eG,Int.toNat_natCast,cK]
   split at h
   ·rename_i q' l fr hx
    split at h
    ·rename_i hq
     simp only[ZS,ZT]at h;obtain⟨rfl,rfl⟩:=h
     have:=eH hq;subst this
     refine main l fr (fun hs=>?_) fun ρ w E lo v hv=>?_
     ·have:=hs.dev x;rw[hx]at this;exact this
     ·rw[hx]at hv;exact hv
    ·cases h
   ·rename_i fr hx
    simp only[ZS,ZT]at h;obtain⟨rfl,rfl⟩:=h
    refine main none fr (fun _=>Sc.nil) fun ρ w E lo v hv=>?_
    rw[hx]at hv
    simp only[DV.v,DP.v,VR]at hv
    have:=ek hv;subst this
    exact .lD _
   ·cases h
  ·cases h
 ·cases h
def Is(P:Program)(n:Nat)(σ:DSt)(o:Oper)(t:TypeId)(x:Operand):bj:=
 match dev σ x with
 | .ref k=>match σ.cos n [.fz k]with
  |some σ1=>zH P σ1 o t x
  |none=>none
 |_=>zH P σ o t x
theorem Jp{P:Program}{I:Pr}{n:Nat}{σ:DSt}{o:Oper}{t:TypeId}{x:Operand}{outs:List DSt}{q:List Seq}(ho:o.op= .range t x)(h:Is P n σ o t x=some (outs,q)):aS P I n o σ outs:=by
 unfold Is at h
 split at h
 ·split at h
  ·rename_i σ1 h1;exact(sD h1).step (yw ho h)
  ·cases h
 ·exact yw ho h
def Gf(σ:DSt)(o:Oper)(k:Nat)(q:Option Nat)(l:LV)(fr:Bool)(m:Lin):DSt:=
 ((σ.grow 0 [] [(Lin.scale (-1) m).aN 1] []).setObj k (.it q l fr (m.aN (-1)) true)).put o.dst (.bL [.p (.bl (.lit true)) true,.u,.u])
def Ms(σ:DSt)(o:Oper)(x:Operand):bj:=
 match dev σ x with
 | .ref k=>match lk σ.tab k with
  |some (.it q l fr m _)=>some ([σ.put o.dst (.bL [.p (.bl (.lit false)) true]),Gf σ o k q l fr m],[])
  |_=>none
 |_=>none
theorem Mt{P:Program}{I:Pr}{n:Nat}{σ:DSt}{o:Oper}{x:Operand}{outs:List DSt}{q:List Seq}(ho:o.op= .next x false)(h:Ms σ o x=some (outs,q)):aS P I n o σ outs:=by
 unfold Ms at h
 split at h
 ·rename_i k hx
  split at h
  ·rename_i qq l fr m on hl
   simp only[ZS,ZT]at h;obtain⟨rfl,rfl⟩:=h
   have hms:σ.sc→Sc σ.nx (a8 l)∧Sc σ.nx m.vars:=fun hs=>by have:=hs.tab k _ hl;simpa only[DO.vars,Sc.app]using this
   have hgs:∀hs:σ.sc,jT (σ.nx+0) [] [(Lin.scale (-1) m).aN 1] []:=fun hs=>⟨by simp,by
    simp only[List.mem_cons,List.mem_nil_iff,or_false];rintro e rfl;exact Lin.bI (Lin.dW (hms hs).2),by simp⟩
   refine aS.of (fun hs=>?_) fun hs ρ ab C E a w hC hh hd=>?_
   ·intro σ' a7
    simp only[List.mem_cons,List.mem_nil_iff,or_false]at a7
    rcases a7 with rfl|rfl
    ·exact⟨hs.put o.dst (by simp[DV.vars,aD,DP.vars,BF.vars,Sc.nil]),by rw[di];exact Nat.le_refl _⟩
    ·refine⟨(ns (hs.grow (hgs hs)) (by simp only[DO.vars,Sc.app];exact⟨(hms hs).1,Lin.bI (hms hs).2⟩)).put o.dst (by simp[DV.vars,aD,DP.vars,BF.vars,Sc.nil]),by rw[Gf,di];exact Nat.le_refl _⟩
   ·rcases TC (C:=C) (σ:=σ.v ρ) ho hh hd (by rw[aK,hx];rfl) (by rw[dJ hl];rfl)with gh|⟨eS,gh⟩
    ·refine⟨_,ZW ..,ρ,_,au.refl _ _,ab.put _ _,gh,?_⟩
     rw[eF];exact cq.put (cq.refl _) _ _
    ·have ef:(σ.grow 0 [] [(Lin.scale (-1) m).aN 1] []).ok P I ρ:=ab.grow hs (au.refl _ _) ab.g trivial (by
      simp only[bh,Lin.aO,Lin.bE,and_true];omega) trivial
     refine⟨Gf σ o k qq l fr m,by simp,ρ,_,au.refl _ _,?_,gh,?_⟩
     ·exact(show((σ.grow 0 [] [(Lin.scale (-1) m).aN 1] []).setObj k (.it qq l fr (m.aN (-1)) true)).ok P I ρ from⟨ef.g,ef.tys,ef.lin,ef.prs⟩).put _ _
     ·rw[Gf,eF,mT]
      have e:(m.v ρ).toNat - 1=(m.v ρ+ -1).toNat:=by omega
      simp only[DO.v,Lin.aO,DV.v,dvs,DP.v,BF.v,e]
      exact((cq.refl _).setObj k _).put _ _
  ·cases h
 ·cases h
def It(P:Program)(σ:DSt)(o:Oper)(x:Operand):bj:=
 match dev σ x with
 | .ref k=>match lk σ.tab k with
  |some (.it q (some l) fr _ true)=>match lk σ.tys l with
   |some e=>match cks P e with
    | .str::cs=>match iv (.str::cs) σ.nx with
     |some R=>match R.cells with
      |c::r=>some ([(σ.grow (R.nx - σ.nx) R.tys R.lin []).put o.dst (.bL [tS fr c,mvD q fr r])],[])
      | []=>none
     |none=>none
    |_=>none
   |none=>none
  |_=>none
 |_=>none
theorem Jq{P:Program}{I:Pr}{n:Nat}{σ:DSt}{o:Oper}{x:Operand}{outs:List DSt}{q:List Seq}(ho:o.op= .entry x)(h:It P σ o x=some (outs,q)):aS P I n o σ outs:=by
 unfold It at h
 split at h
 ·rename_i k hx
  split at h
  ·rename_i qq l fr m hl
   split at h
   ·rename_i e aJ
    split at h
    ·rename_i cs fZ
     split at h
     ·rename_i R hR
      split at h
      ·rename_i c r hc
       simp only[ZS,ZT]at h;obtain⟨rfl,rfl⟩:=h
       have ed:=oK _ σ.nx R hR
       have hn:σ.nx+(R.nx - σ.nx)=R.nx:=by have:=ed.le;omega
       have hcr:Sc R.nx c.vars∧Sc R.nx (bP r):=by have:=ed.cells;rw[hc]at this;simpa only[bP,Sc.app]using this
       refine aS.of (fun hs=>?_) fun hs ρ ab C E a w hC hh hd=>?_
       ·intro σ' a7
        simp only[List.mem_singleton]at a7;subst a7
        refine⟨(hs.grow ?_).put o.dst ?_,by rw[di];exact Nat.le_add_right _ _⟩
        ·rw[hn];exact⟨ed.tys,ed.lin,by simp⟩
        ·simp only[DSt.grow,hn,DV.vars,aD,Sc.app]
         refine⟨?_,OK hcr.2,Sc.nil⟩
         cases c<;>exact hcr.1
       ·have eb:=eE ab.tys aJ
        obtain⟨s,row,gx,gh⟩:=Q8 (C:=C) (σ:=σ.v ρ) ho hh hd (by rw[aK,hx];rfl) (by rw[dJ hl];rfl) (oY.of fZ eb.2)
        obtain⟨ρ1,g⟩:=rD (P:=P) (.str::cs) σ.nx R _ ρ hR (Ty.to fZ (eb.2 _ gx)) ab.g
        have vu:=g.cells
        rw[hc]at vu
        simp only[ar,List.cons.injEq]at vu
        refine⟨_,ZW ..,ρ1,_,g.ag,(ab.grow (n:=R.nx - σ.nx) (prs:=[]) hs g.ag g.g g.tys g.lin trivial).put _ _,gh,?_⟩
        rw[eF]
        have e1:(DV.bL [tS fr c,mvD qq fr r]).v ρ1= .bL [mkp fr (.v (.string s)),mvS qq fr row]:=by
         simp only[DV.v,dvs, ←Hg,SF,vu.1,vu.2]
        rw[e1]
        exact cq.put (DSt.fX hs g.ag) _ _
      ·cases h
     ·cases h
    ·cases h
   ·cases h
  ·cases h
 ·cases h
def Q9(P:Program)(σ:DSt)(o:Oper)(t:TypeId)(m x:Operand):bj:=
 match Bi P t,dev σ m,Ii (dev σ x)with
 |some (_,et,q,_),.ref k,some _=>match lk σ.tab k,cks P (mE et)with
  |some (.mp q' l fr),.str::_=>match gw q q',Ek σ (mE et) l with
   |true,true=>some ([((σ.grow 1 [(σ.nx,mE et)] [(Lin.at (4*σ.nx+1)).ax (-1) (bJ l)] []).setObj k (.mp q (some σ.nx) fr)).put o.dst .u],[])
   |_,_=>none
  |_,_=>none
 |_,_,_=>none
theorem OP{P:Program}{I:Pr}{n:Nat}{σ:DSt}{o:Oper}{t ty:TypeId}{m x:Operand}{outs:List DSt}{q:List Seq}(ho:o.op= .call {callee:= .builtin .delete,args:= #[m,x],argTypes:= #[t,ty]})(h:Q9 P σ o t m x=some (outs,q)):aS P I n o σ outs:=by
 unfold Q9 at h
 split at h
 ·rename_i kt et qq z k e ht hm hx
  split at h
  ·rename_i q' l fr cs hl fZ
   split at h
   ·rename_i hq hly
    simp only[ZS,ZT]at h;obtain⟨rfl,rfl⟩:=h
    have:=eH hq;subst this
    have av:σ.nx<σ.nx+1:=Nat.lt_succ_self _
    refine aS.of (fun hs=>?_) fun hs ρ ab C E a w hC hh hd=>?_
    ·intro σ' a7
     simp only[List.mem_singleton]at a7;subst a7
     have jd:Sc (σ.nx+1) (bJ l).vars:=dX ((hs.tab k _ hl).mono (Nat.le_succ _))
     have hg:=hs.grow (n:=1) (tys:=[(σ.nx,mE et)]) (lin:=[(Lin.at (4*σ.nx+1)).ax (-1) (bJ l)]) (prs:=[]) ⟨by simp,by
      simp only[List.mem_cons,List.mem_nil_iff,or_false];rintro e rfl;exact Lin.aE (ib av (by omega)) jd,by simp⟩
     refine⟨(ns hg (by simp only[DO.vars,a8,Sc.cons];exact⟨av,Sc.nil⟩)).put o.dst (by simp[DV.vars,Sc.nil]),by rw[di];exact Nat.le_succ _⟩
    ·obtain⟨h1,h2,h3⟩:=zF ht
     have eb:=CS ab hly
     obtain⟨cC,gb,gh⟩:=ON (C:=C) (σ:=σ.v ρ) ho hh hd (hC▸h1) (hC▸h2) (by rw[aK,hm];rfl) (by rw[dJ hl];rfl) (oY.of fZ eb.2) (by rw[aK];exact(Ij hx).1)
     have jt:bK P (mE et) cC∧cC.length≤(lvV ρ l).length:=by
      rcases gb with rfl|⟨j,rfl⟩
      ·exact⟨eb,Nat.le_refl _⟩
      ·have hle:=List.length_eraseIdx_le (lvV ρ l) j
       exact⟨⟨Nat.le_trans hle eb.1,fun r hr=>eb.2 r (List.mem_of_mem_eraseIdx hr)⟩,hle⟩
     have hla:∀ρ',au σ.nx ρ ρ'→(bJ l).v ρ'=((lvV ρ l).length:Int):=fun ρ' ha=>by rw[Lin.ag ha (dX (hs.tab k _ hl)),eG]
     obtain⟨ag,ok',hvv⟩:=Mh (e:=mE et) hs ab (lin:=[(Lin.at (4*σ.nx+1)).ax (-1) (bJ l)]) jt.1 (by
      have:=hla _ (da ρ σ.nx σ.nx (vaL cC) (Nat.le_refl _))
      simp only[bh,Lin.bQ,Lin.bN,dI,this,and_true]
      rw[bg]
      have e1:(vaL cC).l=cC:=rfl
      rw[e1];omega)
     have S:=DSt.fX hs ag
     have okk:((σ.grow 1 [(σ.nx,mE et)] [(Lin.at (4*σ.nx+1)).ax (-1) (bJ l)] []).setObj k (.mp qq (some σ.nx) fr)).ok P I (up ρ σ.nx (vaL cC)):=⟨ok'.g,ok'.tys,ok'.lin,ok'.prs⟩
     refine⟨_,ZW ..,_,_,ag,okk.put _ _,gh,?_⟩
     rw[eF,mT,dVU]
     simp only[DO.v,hvv]
     exact(S.setObj k _).put _ _
   ·cases h
  ·cases h
 ·cases h
def Mu(P:Program)(n:Nat)(σ:DSt)(o:Oper):bj:=
 match o.op with
 | .range t x=>Is P n σ o t x
 | .next x false=>Ms σ o x
 | .entry x=>It P σ o x
 | .call ⟨.builtin .delete,⟨[m,x]⟩,⟨[t,_]⟩⟩=>Q9 P σ o t m x
 |_=>none
theorem Mv{P:Program}{I:Pr}{n:Nat}:Handler P I n (Mu P n):=by
 intro σ o outs q h hV
 unfold Mu at h
 split at h
 ·rename_i ho;exact Jp ho h
 ·rename_i ho;exact Mt ho h
 ·rename_i ho;exact Jq ho h
 ·rename_i ho;exact OP ho h
 ·cases h
def Mw(σ:DSt)(_:Oper):bj:=match cW σ ⟨1,[]⟩with|true=>some ([],[])|false=>none
theorem Mx{P:Program}{I:Pr}{n:Nat}:Handler P I n Mw:=by
 intro σ o outs q h hV
 unfold Mw at h
 split at h
 ·rename_i hp
  simp only[ZS,ZT]at h;obtain⟨rfl,rfl⟩:=h
  refine aS.of (fun _=>by simp) fun hs ρ ab C E a w hC hh hd=>?_
  have:=cB ab hp
  simp[Lin.v,bZ]at this
 ·cases h
end Go.TL
namespace Go.TL
def XP(P:Program)(n:Nat):DSt→Oper→bj:=hOr (Ic P) (hOr (Ma P) (hOr (Mq P n) (Mu P n)))
def VW(P:Program)(n:Nat)(SS:List (Spec×Option Nat)):DSt→Oper→bj:=hOr (L6 P n SS) (hOr (XP P n) Mw)
theorem OQ{P:Program}{I:Pr}{n:Nat}{SS:List (Spec×Option Nat)}(hS:∀p∈SS,uW P I p.1 p.2):Handler P I n (VW P n SS):=sT (L7 hS) (sT (sT Jm (sT Mb (sT Mr Mv))) Mx)
end Go.TL
namespace Go.TL
def oZ:Nat:=1000000
theorem XQ{w:World}{E:Env}{lo:Nat}:∀{xs:List SV} {vs:List Value},VRs w E lo xs vs→VR w E lo (mk xs) (if h:vs.toArray.size=1 then vs.toArray[0]else .tuple vs.toArray)
 | [],vs,h=>by
  have:=cX h
  cases vs with
  |nil=>simp only[mk,VR];exact⟨[],rfl,h⟩
  |cons v vs=>simp at this
 | [x],vs,h=>by
  have:=cX h
  match vs,this,h with
  | [v],_,h=>simpa[mk]using(aH.1 h).1
 |x::y::r,vs,h=>by
  have hl:=cX h
  have hs:¬ vs.toArray.size=1:=by simp at hl ⊢;omega
  rw[dif_neg hs]
  simp only[mk,VR];exact⟨vs,rfl,h⟩
theorem Jr{P:Program}{fn:Func}{tmps:Array Value}{w:World}{vs:List Value}(h:(fn.results.toList.mapM (jR tmps)).run P w= .ok vs w):
  (results fn tmps).run P w= .ok (if h:vs.toArray.size=1 then vs.toArray[0]else .tuple vs.toArray) w:=by
 have hres:results fn tmps=(fn.results.mapM (jR tmps)>>=fun vs=>pure (if h:vs.size=1 then vs[0]else .tuple vs)):=by
  unfold results
  congr 1
 rw[hres]
 simp[Array.mapM_eq_mapM_toList,h]
def My(P:Program)(fn:Func)(R:SV→Tab→Prop)(σ:St):Prop:=
 ∃rs,na P σ fn.results.toList=some rs∧rs.length≤oZ∧∃σ2 xs,Imp P oZ ⟨fk 0 rs,σ.tab⟩ σ2∧xs.length=rs.length∧(∀i x,xs[i]? =some x→lk σ2.ah i=some x)∧R (mk xs) σ2.tab
def SG(P:Program)(fn:Func)(R:SV→Tab→Prop):Exit→St→Prop:=fun e σ=>
 match e with
 | .normal=>∃σ1,Imp P fn.ntmps σ σ1∧My P fn R σ1
 | .ret=>∃σ1,Imp P fn.ntmps σ σ1∧My P fn R σ1
 |_=>False
theorem CW{w:World}{E:Env}{lo:Nat}:∀{xs:List SV} {vs:List Value},xs.length=vs.length→(∀(i:Nat) (x:SV) (v:Value),xs[i]? =some x→vs[i]? =some v→VR w E lo x v)→VRs w E lo xs vs
 | [],[],_,_=>by simp[VRs]
 |x::xs,v::vs,hl,h=>bu (h 0 x v rfl rfl) (CW (by simpa using hl) fun i y u hy hu=>h (i+1) y u (by simpa using hy) (by simpa using hu))
 | [],_::_,hl,_=>by simp at hl
 |_::_,[],hl,_=>by simp at hl
theorem Mz{P:Program}{f:FuncId}{fn:Func}{c:Code}{args:List SV}{T:Tab}{R:SV→Tab→Prop}(hf:P.funcs[f]? =some fn)(hb:fn.body=some c)(hn:Nat.ble args.length fn.ntmps=true)
  (hnb:Nat.ble fn.ntmps oZ=true)(hids:Dt oZ T=true)(h:AWP P fn.ntmps c ⟨fk 0 args,T⟩ (SG P fn R)):FnS P f args T R:=by
 intro lo w E vals aR ht hv
 have hlen:=cX hv
 have ox:=ZX hn
 have hnb':=ZX hnb
 refine calls_of_wp hf hb ?_
 have hold:Holds (mkC P fn.ntmps lo w E) ⟨fk 0 args,T⟩ {tmps:=vals.toArray++Array.replicate (fn.ntmps - vals.toArray.size) undef,defers:=[]} w:=by
  refine⟨E,by simp[mkC];omega,rfl,?_,ht,Fr.refl w E,aR,?_,fun k x hk=> .inl hk⟩
  ·intro t sv hl
   rw[nO]at hl
   simp at hl
   obtain⟨v,hv1,hv2⟩:=mX hv hl
   have av:t<vals.length:=(ZY hv1).1
   have:(vals.toArray++Array.replicate (fn.ntmps - vals.toArray.size) undef).getD t undef=v:=by
    simp only[Array.getD_eq_getD_getElem?,Array.getElem?_append,List.size_toArray,av,if_true,List.getElem?_toArray,hv1,Option.getD_some]
   simp only[this]
   exact hv2
  ·intro k hk
   exact Nat.le_trans hnb' (Du hids k fun e=>hk (ht.dead k e))
 refine wp_mono (h lo w E _ w hold) ?_
 rintro e a' w' ⟨σ,hq,hs⟩
 have fin:(∃σ1,Imp P fn.ntmps σ σ1∧My P fn R σ1)→a'.defers=[]∧∃v,(results fn a'.tmps).run P w'= .ok v w'∧∃r v_1 T' E',Ending.returned v= .returned v_1∧R r T'∧Fr w E w' E'∧bV w' E' lo T'∧VR w' E' lo r v_1∧∀k x,E.val k=some x→E'.val k=some x∨E'.val k=none:=by
  rintro⟨σ,himp,rs,hr,hrl,σ2,xs,himp2,hxl,hl,hR⟩
  obtain⟨E',hs⟩:=himp lo w E a' w' hs
  obtain⟨vs,h1,h2⟩:=z8 hs _ _ hr
  have hvl:=cX h2
  have hold2:Holds (mkC P oZ lo w E) ⟨fk 0 rs,σ.tab⟩ {tmps:=vs.toArray++Array.replicate (oZ - vs.toArray.size) undef,defers:=[]} w':=by
   refine⟨E',by simp[mkC];omega,rfl,?_,hs.tab,hs.fr,hs.lo,fun k hk=>Du hids k fun e=>hk (ht.dead k e),hs.lL⟩
   intro t sv hl
   rw[nO]at hl
   simp at hl
   obtain⟨v,hv1,hv2⟩:=mX h2 hl
   have av:t<vs.length:=(ZY hv1).1
   have:(vs.toArray++Array.replicate (oZ - vs.toArray.size) undef).getD t undef=v:=by
    simp only[Array.getD_eq_getD_getElem?,Array.getElem?_append,List.size_toArray,av,if_true,List.getElem?_toArray,hv1,Option.getD_some]
   simp only[this]
   exact hv2
  obtain⟨E2,hs2⟩:=himp2 lo w E _ w' hold2
  have fH:VRs w' E2 lo xs vs:=by
   refine CW (by omega) ?_
   intro i x v hx hv
   have:=hs2.ah i x (hl i x hx)
   have av:i<vs.length:=(ZY hv).1
   have e:(vs.toArray++Array.replicate (oZ - vs.toArray.size) undef).getD i undef=v:=by
    simp only[Array.getD_eq_getD_getElem?,Array.getElem?_append,List.size_toArray,av,if_true,List.getElem?_toArray,hv,Option.getD_some]
   simp only[e]at this
   exact this
  exact⟨hs.defers,_,Jr h1,mk xs,_,σ2.tab,E2,rfl,hR,hs2.fr,hs2.tab,XQ fH,hs2.lL⟩
 cases e with
 |normal=>exact fin hq
 |ret=>exact fin hq
 |_=>exact hq.elim
def CX(P:Program)(σ:DSt):ResultVar→Option DV
 | .tmp t=>some (σ.get t)
 | .cell x t=>match σ.get x with
  | .ptr k off=>match lk σ.tab k with
   |some (.box _ cells)=>gG P t off cells
   |_=>none
  |_=>none
def kR(P:Program)(σ:DSt):List ResultVar→Option (List DV)
 | []=>some []
 |r::rs=>match CX P σ r,kR P σ rs with
  |some x,some xs=>some (x::xs)
  |_,_=>none
theorem Ra{P:Program}{ρ:Ro}{σ:DSt}{r:ResultVar}{x:DV}(h:CX P σ r=some x):vE P (σ.v ρ) r=some (x.v ρ):=by
 cases r with
 |tmp t=>simp only[CX,ZS]at h;subst h;simp only[vE,Hc]
 |cell x t=>
  simp only[CX]at h
  split at h
  ·rename_i k off he
   split at h
   ·rename_i bt cells hl
    simp only[vE,Hc,he,DV.v,dJ hl,DO.v,jL,h,Option.map_some]
   ·cases h
  ·cases h
theorem CY{P:Program}{ρ:Ro}{σ:DSt}:∀{rs:List ResultVar} {xs:List DV},kR P σ rs=some xs→na P (σ.v ρ) rs=some (dvs ρ xs)
 | [],xs,h=>by simp only[kR,ZS]at h;subst h;simp[na,dvs]
 |r::rs,xs,h=>by
  simp only[kR]at h
  split at h
  ·rename_i x xs' h1 h2
   simp only[ZS]at h;subst h
   simp only[na,Ra (ρ:=ρ) h1,CY h2,dvs]
  ·cases h
def sV(nv:Nat)(σ:DSt):List cb→Option (List Seq)
 | []=>none
 |p::r=>match wx oZ nv σ (p.st nv) (fun _=>[])with
  |some []=>some []
  |some q=>match sV nv σ r with
   |some []=>some []
   |_=>some q
  |none=>sV nv σ r
theorem sW{nv:Nat}{σ:DSt}:∀{ps:List cb} {q:List Seq},sV nv σ ps=some q→∃p∈ps,wx oZ nv σ (p.st nv) (fun _=>[])=some q
 |p::r,q,h=>by
  simp only[sV]at h
  split at h
  ·rename_i h1;simp only[ZS]at h;subst h;exact⟨p,ZW ..,h1⟩
  ·rename_i q' gl h1
   split at h
   ·rename_i h2
    simp only[ZS]at h;subst h
    obtain⟨p',h3,h4⟩:=sW h2
    exact⟨p',ZV _ h3,h4⟩
   ·simp only[ZS]at h;subst h;exact⟨p,ZW ..,h1⟩
  ·obtain⟨p',h3,h4⟩:=sW h;exact⟨p',ZV _ h3,h4⟩
def MA(P:Program)(rs:List ResultVar)(s:Spec)(σ:DSt):Option (List Seq):=
 match kR P σ rs with
 |some xs=>match Nat.ble xs.length 1000 with
  |true=>sV s.nv ⟨fL 0 xs,σ.tab,σ.tys,σ.lin,σ.prs,σ.nx,σ.hc⟩ s.mJ
  |false=>none
 |none=>none
theorem FN(xs:List SV)(i:Nat):lk (fk 0 xs) i=xs[i]? :=by rw[nO];simp
theorem Kl{P:Program}{I:Pr}{fn:Func}{s:Spec}{σ:DSt}{q:List Seq}(h:MA P fn.results.toList s σ=some q)(hV:Valid P I q){ρ0 ρ:Ro}(hag:au s.nv ρ0 ρ)(ab:σ.ok P I ρ)
  (hlen:∀p∈s.mJ,p.res.length=fn.results.size):My P fn (pI P I s ρ0) (σ.v ρ):=by
 unfold MA at h
 split at h
 ·rename_i xs hx
  split at h
  ·rename_i hb
   obtain⟨p,hp,hi⟩:=sW h
   obtain⟨θ,c,_⟩:=A7 hi hV ρ ⟨ab.g,ab.tys,ab.lin,ab.prs⟩
   have ig:xs.length=fn.results.size:=by
    have:∀(rs:List ResultVar) (xs:List DV),kR P σ rs=some xs→xs.length=rs.length:=by
     intro rs
     induction rs with
     |nil=>intro xs h;simp only[kR,ZS]at h;subst h;rfl
     |cons r rs ih=>
      intro xs h
      simp only[kR]at h
      split at h
      ·rename_i x xs' h1 h2
       simp only[ZS]at h;subst h
       simp[ih _ h2]
      ·cases h
    simpa using this _ _ hx
   refine⟨dvs ρ xs,CY hx,?_,(p.st s.nv).v (ap ρ θ),dvs (ap ρ θ) p.res,?_,?_,?_,p,hp,ap ρ θ,fun k hk=>(c.ag k hk).trans (hag k hk),⟨c.g,c.tys,c.lin,c.prs⟩,(XN _ _).symm,rfl⟩
   ·have:=ZX hb
    simp only[gF,List.length_map,oZ];omega
   ·have:=c.imp
    simp only[DSt.v,nY]at this ⊢
    exact this
   ·simp only[gF,List.length_map];rw[hlen p hp,ig]
   ·intro i x hx
    simp only[cb.st,DSt.v,nY,FN];exact hx
  ·cases h
 ·cases h
def MB(n:Nat):aF→Bool
 | []=>true
 |(k,_)::r=>match Nat.ble n k with|true=>MB n r|false=>false
theorem OS{ρ:Ro}{n:Nat}:∀T:aF,Dt n (aU ρ T)=MB n T
 | []=>rfl
 |(k,x)::r=>by simp only[aU,Dt,MB,OS r];rfl
def Spec.start(s:Spec)(hc:List Cert):DSt:=
 {s.pre with hc:=hc,lin:=(Lin.at (4*s.nv+2)).ax (-1) s.kQ::s.kQ.ax (-1) (Lin.at (4*s.nv+2))::s.lin,prs:= .pr 0 [s.nv]::s.prs,nx:=s.nv+1}
def Gg(n:Nat):List cb→Bool
 | []=>true
 |p::r=>match Nat.beq p.res.length n with|true=>Gg n r|false=>false
theorem yx{n:Nat}:∀{l:List cb},Gg n l=true→∀p∈l,p.res.length=n
 |p::r,h,x,hx=>by
  simp only[Gg]at h
  split at h
  ·rename_i h1
   rcases Z1 hx with rfl|hx
   ·exact ZU h1
   ·exact yx h x hx
  ·cases h
def MD(P:Program)(rs:List ResultVar)(s:Spec):List DSt→Option (List Seq)
 | []=>some []
 |σ::r=>match MA P rs s σ,MD P rs s r with
  |some a,some b=>some (a++b)
  |_,_=>none
theorem Bl{P:Program}{rs:List ResultVar}{s:Spec}:∀{l:List DSt} {q:List Seq},MD P rs s l=some q→∀σ∈l,∃p,MA P rs s σ=some p∧∀x∈p,x∈q
 |σ0::r,q,h,σ,hσ=>by
  simp only[MD]at h
  split at h
  ·rename_i a b h1 h2
   simp only[ZS]at h;subst h
   rcases Z1 hσ with rfl|hσ
   ·exact⟨a,h1,fun s hs=>ZZ (.inl hs)⟩
   ·obtain⟨p,e1,e2⟩:=Bl h2 σ hσ
    exact⟨p,e1,fun s hs=>ZZ (.inr (e2 s hs))⟩
  ·cases h
def sX:List (Exit×DSt)→Option (List DSt)
 | []=>some []
 |(.ret,σ)::r=>match sX r with|some l=>some (σ::l)|none=>none
 |_=>none
theorem CZ:∀{l:List (Exit×DSt)} {S:List DSt},sX l=some S→∀e σ,(e,σ)∈l→e= .ret∧σ∈S
 | [],S,h,e,σ,hm=>by simp at hm
 |(.ret,σ0)::r,S,h,e,σ,hm=>by
   simp only[sX]at h
   split at h
   ·rename_i l hl
    simp only[ZS]at h;subst h
    rcases Z1 hm with hm|hm
    ·simp only[ZT]at hm;rw[hm.1,hm.2];exact⟨rfl,ZW ..⟩
    ·obtain⟨h1,h2⟩:=CZ hl e σ hm;exact⟨h1,ZV _ h2⟩
   ·cases h
 |(.normal,_)::_,S,h,_,_,_=>by simp[sX]at h
 |(.exit _,_)::_,S,h,_,_,_=>by simp[sX]at h
 |(.panic _,_)::_,S,h,_,_,_=>by simp[sX]at h
def Km(P:Program)(SS:List (Spec×Option Nat))(s:Spec)(A:Ann)(n:Nat)(rs:List ResultVar)(c:Code):Option (List Seq):=
 match Nat.ble s.args.length n,Nat.ble n oZ,MB oZ s.tab,Gg rs.length s.mJ,qV 0 (s.start A.hc),qV 0 s.pre,scB s.nv s.kQ.vars with
 |true,true,true,true,true,true,true=>match exec P n (VW P n SS) A c 0 (s.start A.hc) [s.start A.hc]with
  |some R=>match sX R.oth with
   |some S=>match MD P rs s (R.nor++S)with
    |some q=>some (R.q++(q++todo {s.pre with hc:=A.hc} [.le (Lin.scale (-1) s.kQ)]))
    |none=>none
   |none=>none
  |none=>none
 |_,_,_,_,_,_,_=>none
def verify(P:Program)(SS:List (Spec×Option Nat))(s:Spec)(A:Ann):Option (List Seq):=
 match P.funcs[s.fn]? with
 |some fn=>match fn.body with
  |some c=>Km P SS s A fn.ntmps fn.results.toList c
  |none=>none
 |none=>none
def uY(k:Nat):List (List PV):=match k with|0=>[]|k+1=>[List.replicate k (.v (.bool true))]
theorem VX(k:Nat):rz (List.replicate k (.v (.bool true)))=k:=by
 induction k with
 |zero=>simp[rz]
 |succ k ih=>rw[List.replicate_succ,eA,ih];simp[pz];omega
theorem ME(k:Nat):rsz (uY k)=k:=by
 cases k with
 |zero=>simp[uY,rsz]
 |succ k=>simp only[uY,eY,nf,VX];omega
theorem MF(k:Nat):(uY k).length≤dy:=by cases k<;>simp[uY,dy]
theorem OT{P:Program}{I:Pr}(_hI:VU I){SS:List (Spec×Option Nat)}{s:Spec}{A:Ann}{q:List Seq}(h:verify P SS s A=some q)(hS:∀p∈SS,uW P I p.1 p.2)(hV:Valid P I q){N:Nat}
  (hN:∀va:Va,rsz va.l≤N→I 0 [va]):ka P I (N+1) s:=by
 unfold verify at h
 split at h
 ·rename_i fn hf
  split at h
  ·rename_i c hb
   unfold Km at h
   split at h
   ·rename_i e1 e2 e3 e4 e5 e6 e7
    split at h
    ·rename_i R hR
     split at h
     ·rename_i S hSr
      split at h
      ·rename_i q' hq
       simp only[ZS]at h;subst h
       have V1:Valid P I R.q:=fun s hs=>hV s (ZZ (.inl hs))
       have V2:Valid P I q':=fun s hs=>hV s (ZZ (.inr (ZZ (.inl hs))))
       have V3:Valid P I (todo {s.pre with hc:=A.hc} [.le (Lin.scale (-1) s.kQ)]):=fun s hs=>hV s (ZZ (.inr (ZZ (.inr hs))))
       intro ρ ab hm
       have hge:=(jq (σ:={s.pre with hc:=A.hc}) (ρ:=ρ) ⟨ab.g,ab.tys,ab.lin,ab.prs⟩ V3).1
       simp only[G.v,Lin.bE]at hge
       have oz:=(Ba e5).2
       have hpsc:=(Ba e6).2
       let va:Va:={(default:Va)with l:=uY (s.kQ.v ρ).toNat}
       have hva:rsz va.l=(s.kQ.v ρ).toNat:=ME _
       let ρ1:Ro:=fun k=>if k=s.nv then va else ρ k
       have hag:au s.nv ρ ρ1:=fun k hk=>by simp only[ρ1];rw[if_neg (by omega)]
       have hvok:mQ va:=uA (MF _)
       have hg1:Gok ρ1:=by
        have key:∀k,mQ (ρ1 k):=by
         intro k
         simp only[ρ1]
         split
         ·exact hvok
         ·exact⟨ab.g.lo k,ab.g.hi k,ab.g.st k,ab.g.ln k⟩
        exact⟨fun k=>(key k).lo,fun k=>(key k).hi,fun k=>(key k).st,fun k=>(key k).ln⟩
       have hpre1:s.pre.ok P I ρ1:=ab.ag hpsc hag hg1
       have hm1:s.kQ.v ρ1=s.kQ.v ρ:=Lin.ag hag (p7 e7)
       have hat:(Lin.at (4*s.nv+2)).v ρ1=s.kQ.v ρ:=by
        rw[Lin.bN]
        unfold aV
        have q1:(4*s.nv+2) % 4=2:=by omega
        have q2:(4*s.nv+2) / 4=s.nv:=by omega
        simp only[q1,q2,ρ1,if_true,hva]
        omega
       have hst:(s.start A.hc).ok P I ρ1:=by
        refine⟨hg1,hpre1.tys,⟨?_,?_,hpre1.lin⟩,⟨?_,hpre1.prs⟩⟩
        ·rw[Lin.bQ,hat,hm1];omega
        ·rw[Lin.bQ,hat,hm1];omega
        ·simp only[PF.v,List.map_cons,List.map_nil,ρ1,if_true]
         refine hN va ?_
         rw[hva];omega
       have x:=Tx (OQ hS) c A 0 (s.start A.hc) [s.start A.hc] R hR V1 oz (by simpa using oz)
       have rj:dvs ρ1 s.args=dvs ρ s.args∧aU ρ1 s.tab=aU ρ s.tab:=by
        have h6:=e6
        unfold qV at h6
        split at h6
        ·have hs:=p7 h6
         simp only[Sc.app]at hs
         refine⟨sq hag ?_,Ed hag hs.2.1⟩
         have:∀(k:Nat) (l:List DV),kE (fL k l)=aD l:=by
          intro k l
          induction l generalizing k with
          |nil=>simp[fL,kE,aD]
          |cons x xs ih=>simp only[fL,kE,aD,ih]
         have h7:=hs.1
         simp only[Spec.pre,this]at h7
         exact h7
        ·cases h6
       have aW:=x.run (s.start A.hc) (by simp) ρ1 hst hst (SG P fn (pI P I s ρ)) (fun _ _ h=>h) ?_ ?_
       ·refine Mz hf hb ?_ e2 ?_ ?_
        ·simp only[gF,List.length_map];exact e1
        ·rw[OS];exact e3
        ·rw[←rj.1, ←rj.2, ←nY]
         exact aW
       ·intro σ' a7 ρ' ha cR _ st im
        obtain⟨p,h1,h2⟩:=Bl hq σ' (ZZ (.inl a7))
        exact⟨_,im,Kl h1 (fun s hs=>V2 s (h2 s hs)) (fun k hk=>(ha k (Nat.lt_succ_of_lt hk)).trans (hag k hk)) cR (by simpa using yx e4)⟩
       ·intro e σ' a7 ρ' ha cR st im
        obtain⟨rfl,h0⟩:=CZ hSr e σ' a7
        obtain⟨p,h1,h2⟩:=Bl hq σ' (ZZ (.inr h0))
        exact⟨_,im,Kl h1 (fun s hs=>V2 s (h2 s hs)) (fun k hk=>(ha k (Nat.lt_succ_of_lt hk)).trans (hag k hk)) cR (by simpa using yx e4)⟩
      ·cases h
     ·cases h
    ·cases h
   ·cases h
  ·cases h
 ·cases h
def inN(B:Pr)(N:Nat):Pr:=fun id args=>match id with|0=>∀va∈args,rsz va.l≤N|k+1=>B (k+1) args
def nzB:List PF→Bool
 | []=>true
 | .pr 0 _::_=>false
 |_::r=>nzB r
theorem pL{B B':Pr}{ρ:Ro}(hB:∀k,B (k+1)=B' (k+1)):∀{l:List PF},nzB l=true→c5 B ρ l→c5 B' ρ l
 | [],_,_=>trivial
 | .row _ _ _::r,h,v=>⟨v.1,pL hB (l:=r) h v.2⟩
 | .app _ _ _::r,h,v=>⟨v.1,pL hB (l:=r) h v.2⟩
 | .lit _ _::r,h,v=>⟨v.1,pL hB (l:=r) h v.2⟩
 | .sub _ _ _ _::r,h,v=>⟨v.1,pL hB (l:=r) h v.2⟩
 | .set _ _ _ _::r,h,v=>⟨v.1,pL hB (l:=r) h v.2⟩
 | .je _::r,h,v=>⟨v.1,pL hB (l:=r) h v.2⟩
 | .cat _ _ _::r,h,v=>⟨v.1,pL hB (l:=r) h v.2⟩
 | .pr (k+1) args::r,h,v=>⟨by have:=v.1;simp only[PF.v]at this ⊢;rw[←hB k];exact this,pL hB (l:=r) h v.2⟩
 | .pr 0 _::_,h,_=>by simp[nzB]at h
def zI:List cb→Bool
 | []=>true
 |p::r=>match nzB p.prs with|true=>zI r|false=>false
theorem As:∀{l:List cb},zI l=true→∀p∈l,nzB p.prs=true
 |p::r,h,x,hx=>by
  simp only[zI]at h
  split at h
  ·rename_i h1
   rcases Z1 hx with rfl|hx
   ·exact h1
   ·exact As h x hx
  ·cases h
def Spec.nz(s:Spec):Bool:=match nzB s.prs with|true=>zI s.mJ|false=>false
theorem ka.sub{P:Program}{B B':Pr}{N:Nat}{s:Spec}(hz:s.nz=true)(hB:∀k,B (k+1)=B' (k+1))(h:ka P B N s):ka P B' N s:=by
 unfold Spec.nz at hz
 split at hz
 ·rename_i h1
  intro ρ ab hm
  have:=h ρ ⟨ab.g,ab.tys,ab.lin,pL (fun k=>(hB k).symm) h1 ab.prs⟩ hm
  refine this.mono ?_
  rintro r T' ⟨p,hp,ρ',h2,h3,h4,h5⟩
  exact⟨p,hp,ρ',h2,⟨h3.g,h3.tys,h3.lin,pL hB (As hz p hp) h3.prs⟩,h4,h5⟩
 ·cases hz
structure aA(P:Program)(B:Pr)(s:Spec):Prop where
 nz:s.nz=true
 ok:∀N,ka P B N s
def Gh:List Spec→List (Spec×Option Nat)
 | []=>[]
 |s::r=>(s,none)::Gh r
def Gi(m:Nat):List Spec→List (Spec×Option Nat)
 | []=>[]
 |s::r=>(s,some m)::Gi m r
theorem Fu{p:Spec×Option Nat}:∀{l:List Spec},p∈Gh l→p.1∈l∧p.2=none
 |s::r,h=>by
  simp only[Gh,List.mem_cons]at h
  rcases h with rfl|h
  ·exact⟨ZW ..,rfl⟩
  ·obtain⟨a,b⟩:=Fu h;exact⟨ZV _ a,b⟩
theorem Fv{m:Nat}{p:Spec×Option Nat}:∀{l:List Spec},p∈Gi m l→p.1∈l∧p.2=some m
 |s::r,h=>by
  simp only[Gi,List.mem_cons]at h
  rcases h with rfl|h
  ·exact⟨ZW ..,rfl⟩
  ·obtain⟨a,b⟩:=Fv h;exact⟨ZV _ a,b⟩
def uZ(P:Program)(D G:List Spec)(s:Spec)(A:Ann):Option (List Seq):=
 match s.nz with
 |true=>verify P (Gi s.nv G++Gh D) s A
 |false=>none
theorem TD(N:Nat):VU (inN (aI) N):=⟨fun id vs h=>by cases id with|zero=>exact absurd rfl h|succ k=>rfl⟩
theorem Rb{P:Program}{D G:List Spec}(hD:∀s∈D,aA P aI s)(hG:∀s∈G,∃A q,uZ P D G s A=some q∧∀N,Valid P (inN aI N) q):∀s∈G,aA P aI s:=by
 have hB:∀N k,inN aI N (k+1)=aI (k+1):=fun N k=>rfl
 have hnz:∀s∈G,s.nz=true:=by
  intro s hs
  obtain⟨A,q,h,_⟩:=hG s hs
  unfold uZ at h
  split at h
  ·assumption
  ·cases h
 have key:∀N,∀s∈G,ka P aI N s:=by
  intro N
  induction N with
  |zero=>
   intro s hs ρ ab hm
   omega
  |succ N ih=>
   intro s hs
   obtain⟨A,q,h,hv⟩:=hG s hs
   unfold uZ at h
   rw[hnz s hs]at h
   refine ka.sub (B:=inN aI N) (hnz s hs) (hB N) (OT (TD N) h ?_ (hv N) (N:=N) ?_)
   ·intro p hp
    rcases Z0 hp with hp|hp
    ·obtain⟨h1,h2⟩:=Fv hp
     rw[h2]
     exact⟨N,fun va h=>h va (by simp),ka.sub (hnz _ h1) (fun k=>(hB N k).symm) (ih _ h1)⟩
    ·obtain⟨h1,h2⟩:=Fu hp
     rw[h2]
     intro ρ ab
     exact ka.sub (hD _ h1).nz (fun k=>(hB N k).symm) ((hD _ h1).ok ((p.1.kQ.v ρ).toNat+1)) ρ ab (by omega)
   ·intro va hva x hx
    simp only[List.mem_singleton]at hx;subst hx;exact hva
 exact fun s hs=>⟨hnz s hs,fun N=>key N s hs⟩
end Go.TL
