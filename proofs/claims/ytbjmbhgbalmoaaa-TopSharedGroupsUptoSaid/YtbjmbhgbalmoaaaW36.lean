/- The finder: from. -/
import Derived.Test.YtbjmbhgbalmoaaaW35
set_option maxRecDepth 100000
namespace Go.TL.H.Gq
open Go
variable {P:Program} {w:World} {R:Nat→Nat}
abbrev stp(W:List (Nat×Nat)):List Value:=W.flatMap fun x=>[iv x.1,iv x.2]
theorem jA(W:List (Nat×Nat)):(stp W).length=W.length*2:=by
 induction W with
 |nil=>rfl
 |cons x W ih=>simp only[stp,List.flatMap_cons,List.length_append,List.length_cons,List.length_nil]at ih ⊢;omega
theorem jP(W:List (Nat×Nat))(v k:Nat):stp (W++ [(v,k)])=stp W++ [iv v,iv k]:=by simp[stp]
def Wy(w:World)(R:Nat→Nat)(v:Value)(W:List (Nat×Nat)):Prop:=w.ownsRow 0 84 2 v W.length (stp W)∧∀g,v.ownBlock=some g→R g=8
theorem Wy.up{S:List Nat}{R R':Nat→Nat}{w w':World}{v:Value}{W:List (Nat×Nat)}(h:Wy w R v W)(u:Up S R R' w w')(hk:8 ∉ S):Wy w' R' v W:=
 ⟨u.1.ownsRow h.1 fun g hg=>by rw[h.2 g hg];exact hk,fun g hg=>(u.2 g (h.1.lt g hg).2).trans (h.2 g hg)⟩
theorem Wy.mem{v:Value}{W:List (Nat×Nat)}(h:Wy w R v W)(hx:W≠ []):∃g cap cs,v= .slice (some ⟨g,0,none⟩) W.length cap∧W.length≤cap∧cap≤maxLen∧Cl w R 8 g 84 cs∧cs.length=cap*2∧cs.take (W.length*2)=stp W:=by
 rcases h.1.2 with⟨_,h0⟩|⟨g,cap,cur,e,_,hg,hnc,hm,hs,ht⟩
 ·exact absurd (List.length_eq_zero_iff.1 h0) hx
 ·exact⟨g,cap,cur.toList,e,hnc,hm,⟨by simpa using hg,h.2 g (by rw[e];rfl)⟩,by simpa using hs,ht⟩
theorem Wy.of{g cap:Nat}{cs:List Value}{W:List (Nat×Nat)}(h:Cl w R 8 g 84 cs)(hc:cs.length=cap*2)(hn:W.length≤cap)(hm:cap≤maxLen)(ht:cs.take (W.length*2)=stp W):Wy w R (.slice (some ⟨g,0,none⟩) W.length cap) W:=
 ⟨⟨jA W,.inr ⟨g,cap,cs.toArray,rfl,Nat.zero_le _,h.1,hn,hm,by simpa using hc,by simpa using ht⟩⟩,fun g' e=>by simp[Value.ownBlock]at e;rw[←e];exact h.2⟩
theorem ta{cs:List Value}{V:List (Nat×Nat)}{v k:Nat}(ht:cs.take ((V++ [(v,k)]).length*2)=stp (V++ [(v,k)])):cs[V.length*2]? =some (iv v)∧cs[V.length*2+1]? =some (iv k):=by
 rw[jP]at ht
 have hl:=jA V
 constructor
 ·have:(cs.take ((V++ [(v,k)]).length*2))[V.length*2]? =(stp V++ [iv v,iv k])[V.length*2]? :=by rw[ht]
  rw[List.getElem?_take_of_lt (by simp<;>omega),List.getElem?_append_right (by omega),hl]at this
  simpa using this
 ·have:(cs.take ((V++ [(v,k)]).length*2))[V.length*2+1]? =(stp V++ [iv v,iv k])[V.length*2+1]? :=by rw[ht]
  rw[List.getElem?_take_of_lt (by simp;omega),List.getElem?_append_right (by omega),hl]at this
  simpa using this
theorem zb{cs:List Value}{V:List (Nat×Nat)}{v k k':Nat}(ht:cs.take ((V++ [(v,k)]).length*2)=stp (V++ [(v,k)])):(cs.set (V.length*2+1) (iv k')).take ((V++ [(v,k')]).length*2)=stp (V++ [(v,k')]):=by
 rw[show(V++ [(v,k')]).length=(V++ [(v,k)]).length by simp,List.take_set,ht,jP,jP,List.set_append_right _ _ (by rw[jA];omega),jA]
 simp
theorem tc{cs:List Value}{V:List (Nat×Nat)}{v k:Nat}(ht:cs.take ((V++ [(v,k)]).length*2)=stp (V++ [(v,k)])):cs.take (V.length*2)=stp V:=by
 have h1:=congrArg (List.take (V.length*2)) ht
 rw[List.take_take,jP,show min (V.length*2) ((V++ [(v,k)]).length*2)=V.length*2 by simp<;>omega,List.take_append_of_le_length (by rw[jA];omega),List.take_of_length_le (l:=stp V) (by rw[jA];omega)]at h1
 exact h1
section
variable {ops:Array Oper} {Q:Exit→Act→World→Prop} {o:Oper} {n:Nat} {sl:aT} {a:Act} {rest:List Oper}
theorem yn{x ix:Operand}{b m c i:Nat}{k:IntKind}{zs:List Value}(h:SL n sl a)(ho:o.op= .indexAddr 86 x ix)(ex:ev sl x=some (.slice (some ⟨b,0,none⟩) m c))(ei:ev sl ix=some (.int k (i:Nat)))
  (ht:P.underlying 86=some (.slice 84))(hT:Big P 84 zs)(hz:zs.length=2)(h1:i<m):(execOp a.eval o).run P w= .ok (.value (Ptr b (i*2))) w:=by
 obtain⟨inf,hi,_,hs,_⟩:=hT.is
 have:=j5 (w:=w) h ho ex ei ht hi (by omega) (by omega)
 rw[this,hs,hz];simp[Ptr]
theorem Av{x hi:Operand}{b m c i:Nat}{k:IntKind}{zs:List Value}(h:SL n sl a)(ho:o.op= .slice 86 x none (some hi) none)(ex:ev sl x=some (.slice (some ⟨b,0,none⟩) m c))(ei:ev sl hi=some (.int k (i:Nat)))
  (ht:P.underlying 86=some (.slice 84))(hT:Big P 84 zs)(h1:i≤m)(h2:m≤c):(execOp a.eval o).run P w= .ok (.value (.slice (some ⟨b,0,none⟩) i c)) w:=by
 obtain⟨inf,hi',_⟩:=hT.is
 have hb:=(kM (P:=P) (w:=w) (len:=m) (cap:=c) true (lo:=none) (hi:=some (.int k (i:Nat))) (l:=none) (h:=some (i:Int)) (fun _ h=>by cases h) (fun _=>rfl) (fun n h=>⟨k,by cases h;rfl⟩) (fun h=>by cases h) ⟨trivial,by simp only;omega,trivial⟩ h2).1
 have hpp:(if c=0 then some (⟨b,0,none⟩:Addr)else some ((⟨b,0,none⟩:Addr).add (0*inf.size)))=some ⟨b,0,none⟩:=by simp[Addr.add]
 unfold execOp
 simp only[ho,h.ev ex,h.ev ei,Instr.sliceAt,Sem.run_bind,run_underlying ht,Result.andThen_ok,Instr.slice,Option.map_none,Option.map_some,hb,sizeOf,typeInfo,run_program,hi',Sem.run_pure,eV,dO,Nat.sub_zero,hpp,Int.toNat_natCast]
theorem yo{x:Operand}{v0 v1:Value}(h:SL n sl a)(ho:o.op= .buildSlice 86 1 #[(0,x)])(ex:ev sl x=some (.agg #[v0,v1]))(ht:P.underlying 86=some (.slice 84))(hT:Big P 84 [iv 0,iv 0]):
  (execOp a.eval o).run P w= .ok (.value (.slice (some ⟨w.heap.size,0,none⟩) 1 1)) (w.alloc (.cells #[v0,v1] 84)):=by
 obtain⟨i,hi,ha,hs,hz,_⟩:=hT.is
 have hr:Array.range 2= #[0,1]:=rfl
 simp[execOp,ho,Instr.buildSlice,run_underlying ht,sizeOf,typeInfo,zeroValue,hi,hz,hs,newRow,h.ev ex,hr,Instr.fill,Value.cells]
theorem A5{o1 o2:Oper}{x y:Operand}{d1:Nat}{v:Value}{v0 v1:Nat}{W:List (Nat×Nat)}(h:SL n sl a)(hg1:o1.guard=none)(iC:o2.guard=none)(hd:o1.dst=some d1)(hd1:dok n o1.dst=true)(hd2:dok n o2.dst=true)(ho1:o1.op= .buildSlice 86 1 #[(0,x)])
  (ho2:o2.op= .call ⟨.builtin .append, #[y,.tmp d1], #[86,86]⟩)(ex:ev sl x=some (.agg #[iv v0,iv v1]))(ey:ev sl y=some v)(hy:y≠ .tmp d1)(ht:P.underlying 86=some (.slice 84))(hT:Big P 84 [iv 0,iv 0])(hx:Wy w R v W)(hm:W.length+1≤1099511627)
  (K:∀v' w' R' a',Wy w' R' v' (W++ [(v0,v1)])→Up [8] R R' w w'→SL n (bz o2.dst v' (bz o1.dst (.slice (some ⟨w.heap.size,0,none⟩) 1 1) sl)) a'→wpList P ops Q rest a' w'):wpList P ops Q (o1::o2::rest) a w:=by
 refine L h (by unfold Region.wanted;rw[hg1]) hd1 (yo h ho1 ex ht hT) fun a h=>?_
 have u1:=Up.alloc [] R w (.cells #[iv v0,iv v1] 84) 9
 have x1:=hx.up u1 (by simp)
 have hb:=heap_alloc_new w (.cells #[iv v0,iv v1] 84)
 have ey':ev (bz o1.dst (.slice (some ⟨w.heap.size,0,none⟩) 1 1) sl) y=some v:=by
  rw[hd]
  cases y with
  |tmp t=>simp only[ev,bz];rw[av _ _ _ _ (fun e=>hy (by rw[e]))];exact ey
  |_=>exact ey
 have ex':=h.ev (x:= .tmp d1) (v:= .slice (some ⟨w.heap.size,0,none⟩) 1 1) (by rw[hd];simp only[ev,bz];exact aE _ _ _)
 obtain⟨i,hi,ha,hs,hz,hby⟩:=hT.is
 have ef:i.size=2:=hs
 have h1:(W.length+1)*i.bytes≤(W.length+1)*1024:=Nat.mul_le_mul_left _ hby
 obtain⟨v',w',cf,ho',hg,hbk,_⟩:=ib (P:=P) (w:=w.alloc (.cells #[iv v0,iv v1] 84)) 86 o2.type 84 i _ ht hi hz (by rw[ef];rfl) (by omega) v W.length (stp W) (by rw[ef];exact x1.1) (.slice (some ⟨w.heap.size,0,none⟩) 1 1) 1 [iv v0,iv v1]
  (.inr ⟨⟨w.heap.size,0,none⟩,1,rfl,by simp[ef],fun j u' hj=>by
   rw[Addr.add_lit,dF hb]
   simpa using hj,by intro u hu;simp at hu;rcases hu with rfl|rfl<;>rfl⟩) (by omega) (by omega)
 have hrun':(execOp a.eval o2).run P (w.alloc (.cells #[iv v0,iv v1] 84))= .ok (.value v') w':=by
  have ey2:=h.ev ey'
  unfold execOp
  simp only[ho2,resolve,invoke,builtin,Sem.run_bind,Sem.run_pure,Result.andThen_ok,List.map_toArray,List.map_cons,List.map_nil,ex',ey2,cf]
 have u2:Up [8] (ext R w.heap.size 9) (ext (ext R w.heap.size 9) (w.alloc (.cells #[iv v0,iv v1] 84)).heap.size 8) (w.alloc (.cells #[iv v0,iv v1] 84)) w':=
  ⟨⟨hg.os,hg.tape,hg.output,hg.size,fun g hl hn=>hg.block g hl fun e=>hn (by simp[x1.2 g e.symm])⟩,fun c hc=>by simp[ext]at hc ⊢;intro h;omega⟩
 refine L h (by unfold Region.wanted;rw[iC]) hd2 hrun' fun a h=>K v' w' _ a ⟨?_,fun g hgv=>?_⟩ ((u1.mono (by simp)).trans u2) h
 ·rw[jP];rw[ef]at ho';simpa using ho'
 ·rcases(hbk g hgv).1 with h1|h1
  ·rw[u2.2 g (x1.1.lt g h1).2];exact x1.2 g h1
  ·simp only[ext];rw[if_neg (by omega)]
end
end Go.TL.H.Gq
