/- Maps of strings, and chains: what operations on them do. -/
import Derived.Test.YtbjmbhgbalmoaaaW08
import Derived.MapKept
namespace Go.TL
open Go.MapKept
theorem tV{a:Option Nat}{e:MapEntry}{vs:List Value}(h:jB a e=some vs):∃us,vs=e.key::us:=by
 unfold jB at h
 split at h
 ·simp only[Ct]at h;exact⟨_,h.symm⟩
 ·split at h
  ·simp only[Ct]at h;exact⟨_,h.symm⟩
  ·cases h
 ·cases h
def xc(rows:List (List PV)):Prop:=∀row∈rows,∃s r,row= .v (.string s)::r
theorem xc.of{P:Program}{e:TypeId}{cs:List CK}{rows:List (List PV)}(hc:cks P e= .str::cs)(h:cB P e rows):xc rows:=by
 intro row hr
 have:=Ty.to hc (h row hr)
 obtain⟨s,r,rfl,_⟩:=uH this
 exact⟨s,r,rfl⟩
theorem dV.at{w:World}{bad:Nat→Prop}{lo:Nat}{a:Option Nat}{rows:List (List PV)}{es:Array MapEntry}{clock:Nat}(h:dV w bad lo a rows es clock){i:Nat}{e:MapEntry}(hi:es[i]? =some e):
  ∃row vs,row∈rows∧jB a e=some vs∧∃g:Nat→Value,∀(j:Nat) (x:PV),row[j]? =some x→vs[j]? =some (g j)∧Rep w bad lo x (g j):=by
 obtain⟨f,⟨h1,h2,_⟩,h3⟩:=h
 have aF:i<rows.length:=by rw[←h1];exact(Array.getElem?_eq_some_iff.1 hi).1
 have hr:rows[i]? =some rows[i]:=by simp[aF]
 obtain⟨vs,h4,h5⟩:=h2 i _ e hr hi
 exact⟨rows[i],vs,List.getElem_mem aF,h4,f i,fun j x hx=>⟨h5 j x hx,h3 i _ j x hr hx⟩⟩
theorem dV.keys{w:World}{bad:Nat→Prop}{lo:Nat}{a:Option Nat}{rows:List (List PV)}{es:Array MapEntry}{clock:Nat}(h:dV w bad lo a rows es clock)(hk:xc rows):∀x∈es.toList,IsKey .string x.key:=by
 intro x hx
 obtain⟨i,hi⟩:=List.getElem?_of_mem hx
 obtain⟨row,vs,hm,hc,g,hg⟩:=h.at (i:=i) (by simpa using hi)
 obtain⟨s,r,rfl⟩:=hk row hm
 obtain⟨us,rfl⟩:=tV hc
 have:=hg 0 _ rfl
 have e1:=ji this.2
 simp only[List.getElem?_cons_zero,Ct]at this
 rw[this.1,e1];trivial
def rj(w:World)(bad:Nat→Prop)(lo:Nat)(a:Option Nat)(row:List PV)(key val:Value):Prop:=
 ∃vs,jB a {key,val,born:=0}=some vs∧∃g:Nat→Value,∀(j:Nat) (x:PV),row[j]? =some x→vs[j]? =some (g j)∧Rep w bad lo x (g j)
theorem rX{a:Option Nat}{e:MapEntry}:jB a e=jB a {key:=e.key,val:=e.val,born:=0}:=rfl
theorem dV.push{w:World}{bad:Nat→Prop}{lo:Nat}{a:Option Nat}{rows:List (List PV)}{es:Array MapEntry}{clock:Nat}(h:dV w bad lo a rows es clock){row:List PV}{e:MapEntry}(hr:rj w bad lo a row e.key e.val)(hb:e.born=clock):
  dV w bad lo a (rows++ [row]) (es.push e) (clock+1):=by
 obtain⟨f,⟨h1,h2,h0⟩,h3⟩:=h
 obtain⟨vs,hv,g,hg⟩:=hr
 refine⟨fun i j=>if i<rows.length then f i j else g j,⟨by simp[h1],?_,fun x hx=>?_⟩,?_⟩
 rotate_left
 ·simp only[Array.toList_push,List.mem_append,List.mem_singleton]at hx
  rcases hx with hx|rfl
  ·exact Nat.lt_succ_of_lt (h0 x hx)
  ·omega
 rotate_left
 ·intro i r e' hi he
  rw[List.getElem?_append]at hi
  rw[Array.getElem?_push,h1]at he
  by_cases aF:i<rows.length
  ·rw[if_pos aF]at hi
   rw[if_neg (by omega)]at he
   obtain⟨us,h4,h5⟩:=h2 i r e' hi he
   exact⟨us,h4,fun j x hx=>by simp only[if_pos aF];exact h5 j x hx⟩
  ·rw[if_neg aF]at hi
   have e0:i=rows.length:=by have:=(CA hi).1;simp at this;omega
   subst e0
   simp at hi he;subst hi;subst he
   exact⟨vs,hv,fun j x hx=>by simp only[if_neg aF];exact(hg j x hx).1⟩
 ·intro i r j x hi hj
  rw[List.getElem?_append]at hi
  by_cases aF:i<rows.length
  ·rw[if_pos aF]at hi;simp only[if_pos aF];exact h3 i r j x hi hj
  ·rw[if_neg aF]at hi
   have e0:i=rows.length:=by have:=(CA hi).1;simp at this;omega
   subst e0
   simp at hi;subst hi
   simp only[if_neg aF];exact(hg j x hj).2
theorem dV.set{w:World}{bad:Nat→Prop}{lo:Nat}{a:Option Nat}{rows:List (List PV)}{es:Array MapEntry}{clock:Nat}(h:dV w bad lo a rows es clock){row:List PV}{k:Nat}{u:MapEntry→MapEntry}{key val:Value}
  (hu:∀e,(u e).key=key∧(u e).val=val∧(u e).born=e.born)(hr:rj w bad lo a row key val):dV w bad lo a (rows.set k row) (es.modify k u) clock:=by
 obtain⟨f,⟨h1,h2,h0⟩,h3⟩:=h
 obtain⟨vs,hv,g,hg⟩:=hr
 refine⟨fun i j=>if i=k then g j else f i j,⟨by simp[h1],?_,fun x hx=>?_⟩,?_⟩
 rotate_left
 ·obtain⟨i,hi⟩:=List.getElem?_of_mem hx
  rw[Array.getElem?_toList,Array.getElem?_modify]at hi
  split at hi
  ·obtain⟨e1,he,rfl⟩:=Option.map_eq_some_iff.1 hi
   rw[(hu e1).2.2];exact h0 e1 (by rw[←Array.getElem?_toList]at he;exact CE he)
  ·exact h0 x (by rw[←Array.getElem?_toList]at hi;exact CE hi)
 rotate_left
 ·intro i r e' hi he
  rw[List.getElem?_set]at hi
  rw[Array.getElem?_modify]at he
  by_cases e0:i=k
  ·subst e0
   simp only[if_true]at hi he
   split at hi
   ·simp only[Ct]at hi;subst hi
    obtain⟨e1,_,rfl⟩:=Option.map_eq_some_iff.1 he
    refine⟨vs,?_,fun j x hx=>by simp only[if_true];exact(hg j x hx).1⟩
    rw[rX,(hu e1).1,(hu e1).2.1];exact hv
   ·cases hi
  ·rw[if_neg (Ne.symm e0)]at hi he
   obtain⟨us,h4,h5⟩:=h2 i r e' hi he
   exact⟨us,h4,fun j x hx=>by simp only[if_neg e0];exact h5 j x hx⟩
 ·intro i r j x hi hj
  rw[List.getElem?_set]at hi
  by_cases e0:i=k
  ·subst e0
   simp only[if_true]at hi
   split at hi
   ·simp only[Ct]at hi;subst hi;simp only[if_true];exact(hg j x hj).2
   ·cases hi
  ·rw[if_neg (Ne.symm e0)]at hi
   simp only[if_neg e0];exact h3 i r j x hi hj
theorem tX{P:Program}{w:World}{t kt et:TypeId}{b:Nat}{es:Array MapEntry}{clock:Nat}{z:Value}{s:ByteArray}{c:Bool}(ht:P.underlying t=some (.map kt et))(hk:P.underlying kt=some .string)
  (hb:w.heap[b]? =some (.map es clock))(hks:∀x∈es.toList,IsKey .string x.key)(hz:(zeroValue et).run P w= .ok z w):
  (∃(i:Nat) (e:MapEntry),es[i]? =some e∧(Instr.lookup t (.map (some b)) (.string s) c).run P w= .ok (if c then .tuple #[e.val,.bool true]else e.val) w)∨
   (Instr.lookup t (.map (some b)) (.string s) c).run P w= .ok (if c then .tuple #[z,.bool false]else z) w:=by
 rcases findNow_spec (d:= .string) (k:= .string s) trivial es.toList 0 hks with⟨h1,h2⟩|⟨j,e,h1,h2,h3⟩
 ·refine .inr ?_
  simp[Instr.lookup,run_underlying ht,run_getObj_map hb,run_checkKey hk (d:= .string) (k:= .string s) trivial,run_findKey hk h1,hz,Result.andThen]
 ·refine .inl ⟨j,e,by simpa using h2,?_⟩
  simp[Instr.lookup,run_underlying ht,run_getObj_map hb,run_checkKey hk (d:= .string) (k:= .string s) trivial,run_findKey hk h1,Result.andThen]
theorem lK{P:Program}{w:World}{t kt et:TypeId}{b:Nat}{es:Array MapEntry}{clock:Nat}{s:ByteArray}{v:Value}(ht:P.underlying t=some (.map kt et))(hk:P.underlying kt=some .string)
  (hb:w.heap[b]? =some (.map es clock))(hks:∀x∈es.toList,IsKey .string x.key):
  ∃fi clock',(Instr.mapUpdate t (.map (some b)) (.string s) v).run P w= .ok () {w with heap:=w.heap.setIfInBounds b (.map fi clock')}∧
   ((fi=es.push {key:= .string s,val:=v,born:=clock}∧clock'=clock+1)∨∃(j:Nat) (e:MapEntry),es[j]? =some e∧fi=(es.modify j fun e=>{e with key:= .string s,val:=v})∧clock'=clock):=by
 rcases findNow_spec (d:= .string) (k:= .string s) trivial es.toList 0 hks with⟨h1,h2⟩|⟨j,e,h1,h2,h3⟩
 ·refine⟨_,clock+1,?_,.inl ⟨rfl,rfl⟩⟩
  simp[Instr.mapUpdate,run_underlying ht,run_getObj_map hb,run_checkKey hk (d:= .string) (k:= .string s) trivial,run_findKey hk h1,run_setObj_map _ hb,Result.andThen]
 ·have hj:es[j]? =some e:=by simpa using h2
  refine⟨_,clock,?_,.inr ⟨j,e,hj,rfl,rfl⟩⟩
  simp[Instr.mapUpdate,run_underlying ht,run_getObj_map hb,run_checkKey hk (d:= .string) (k:= .string s) trivial,run_findKey hk h1,hj,h3,run_keyThatStays (d:= .string) (k:= .string s) trivial,run_setObj_map _ hb,Result.andThen]
inductive ye(T:Tab):SV→Option Nat→List (List PV)→Bool→Prop
 |own {k:Nat} {a:Option Nat} {rows:List (List PV)} {fr:Bool} (h:lk T k=some (.mp a rows fr)):ye T (.ref k) a rows fr
 |pure (a:Option Nat) (rows:List (List PV)) (fr:Bool):ye T (.p (.mp a rows) fr) a rows fr
end Go.TL
