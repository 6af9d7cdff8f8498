/- Lists in lists that are appended to; a map of names. -/
import Derived.Test.YtbjmbhgbalmoaaaW37
set_option maxRecDepth 100000
namespace Go.TL.H.Gq
open Go
variable {P:Program} {w:World} {R:Nat→Nat} {lo:Nat}
theorem ke{bad:Nat→Prop}{rows:List (List PV)}{xs cs:List Value}{T:TypeId}{g cap:Nat}(h:bE w bad lo 1 rows xs)(hl:xs.length=rows.length)(hb:w.heap[g]? =some (.cells cs.toArray T (0,0)))(bh:¬ bad g)(aV:lo≤g)(hc:rows.length≤cap)(ht:cs.take xs.length=xs):
  Rep w bad lo (.sl rows) (.slice (some ⟨g,0,none⟩) rows.length cap):=by
 obtain⟨f,h1,h2,h3⟩:=h
 refine Rep.sl rows g 0 cap cs.toArray T (0,0) 1 f hc hb bh aV (fun _=>rfl) h1 (fun i row j x hi hj=>?_) h3
 have h4:=h2 i row j x hi hj
 have fh:i<rows.length:=(CA hi).1
 have cd:j<1:=by rw[←h1 i row hi];exact(CA hj).1
 rw[←ht,List.getElem?_take_of_lt (by omega)]at h4
 simpa using h4
def Pl(w:World)(R:Nat→Nat)(base:Nat)(os:List Value)(ll:List (List Nat)):Prop:=os.length=ll.length∧∀(i:Nat) v l,os[i]? =some v→ll[i]? =some l→Ow w R (base+i) 3 v (ivs l)
theorem Pl.up{S:List Nat}{R':Nat→Nat}{w':World}{base:Nat}{os:List Value}{ll:List (List Nat)}(h:Pl w R base os ll)(u:Up S R R' w w')(hk:∀x∈S,x<base):Pl w' R' base os ll:=
 ⟨h.1,fun i v l h1 h2=>(h.2 i v l h1 h2).up u fun hm=>by have:=hk _ hm;omega⟩
theorem Pl.app{R':Nat→Nat}{w':World}{base i x:Nat}{os:List Value}{ll:List (List Nat)}{v':Value}{l:List Nat}(h:Pl w R base os ll)(hl:ll[i]? =some l)(ho:Ow w' R' (base+i) 3 v' (ivs l++ [iv x]))(u:Up [base+i] R R' w w'):Pl w' R' base (os.set i v') (ll.set i (l++ [x])):=by
 refine⟨by simp[h.1],fun j v m h1 h2=>?_⟩
 by_cases e:i=j
 ·subst e
  have hi:=(CA hl).1
  rw[List.getElem?_set_self (by rw[h.1];exact hi)]at h1
  rw[List.getElem?_set_self hi]at h2
  cases h1;cases h2
  simpa using ho
 ·rw[List.getElem?_set_ne e]at h1 h2
  exact(h.2 j v m h1 h2).up u (by simp;omega)
theorem Pl.new(base n:Nat):Pl w R base (List.replicate n (.slice none 0 0)) (List.replicate n []):=by
 refine⟨by simp,fun i v l h1 h2=>?_⟩
 rw[List.getElem?_replicate]at h1 h2
 by_cases hi:i<n
 ·rw[if_pos hi]at h1 h2
  cases h1;cases h2;exact Ow.nil w R _ 3
 ·rw[if_neg hi]at h1;cases h1
theorem Pl.rows{R':Nat→Nat}{base:Nat}{os:List Value}{ll:List (List Nat)}(h:Pl w R base os ll)(hR:∀c,base≤R c→R' c=0∧lo≤c):bE w (fun c=>R' c≠0) lo 1 (cM ll) os:=by
 have inner:∀(i:Nat) l,ll[i]? =some l→Rep w (fun c=>R' c≠0) lo (.sl (eZ l)) (os.getD i undef):=fun i l hl=>by
  have hi:=(CA hl).1
  obtain⟨v,hv⟩:∃v,os[i]? =some v:=⟨_,List.getElem?_eq_getElem (by rw[h.1];exact hi)⟩
  have ho:=h.2 i v l hv hl
  rw[List.getD_eq_getElem?_getD,hv,Option.getD_some]
  rcases ho.1.2 with⟨rfl,h0⟩|⟨g,cap,cur,e,_,hg,hnc,_,hs,ht⟩
  ·have:l=[]:=by simpa using h0
   subst this;exact .nil none 0
  ·have hr:=hR g (by rw[ho.2 g (by rw[e];rfl)];omega)
   rw[e]
   exact s8 (R:=R') (cs:=cur.toList) ⟨by simpa using hg,hr.1⟩ (by simpa using ht) hnc hr.2
 refine⟨fun i _=>os.getD i undef,fun i row hi=>?_,fun i row j x hi hj=>?_,fun i row j x hi hj=>?_⟩
 ·simp only[List.getElem?_map,Option.map_eq_some_iff]at hi;obtain⟨l,_,rfl⟩:=hi;rfl
 ·simp only[List.getElem?_map,Option.map_eq_some_iff]at hi;obtain⟨l,hl,rfl⟩:=hi
  have fh:=(CA hl).1
  cases j with
  |zero=>simp[List.getD_eq_getElem?_getD,show i<os.length by rw[h.1];exact fh]
  |succ j=>simp at hj
 ·simp only[List.getElem?_map,Option.map_eq_some_iff]at hi;obtain⟨l,hl,rfl⟩:=hi
  cases j with
  |zero=>simp at hj;subst hj;exact inner i l hl
  |succ j=>simp at hj
def Mp(w:World)(R:Nat→Nat)(b N:Nat):Prop:=R b=22∧∃es cl,w.heap[b]? =some (.map es cl)∧∀e∈es.toList,∃(s:ByteArray) (j:Nat),e.key= .string s∧e.val=iv j∧j<N
theorem Mp.up{S:List Nat}{R':Nat→Nat}{w':World}{b N:Nat}(h:Mp w R b N)(u:Up S R R' w w')(hk:22 ∉ S):Mp w' R' b N:=by
 obtain⟨h1,es,cl,h2,h3⟩:=h
 exact⟨(u.2 b (aq h2)).trans h1,es,cl,u.1.at h2 (by rw[h1];exact hk),h3⟩
section
variable {Q:Exit→Act→World→Prop} {n:Nat} {sl:aT} {a:Act} {v:Value} {ops:Array Oper} {rest:List Oper}
theorem Lmu{o:Oper}{m x y:Operand}{b N j:Nat}{s:ByteArray}(G:GT P)(h:SL n sl a)(hg:o.guard=none)(hd:o.dst=none)(ho:o.op= .mapUpdate 81 m x y)(em:ev sl m=some (.map (some b)))(ex:ev sl x=some (.string s))(ey:ev sl y=some (iv j))(hM:Mp w R b N)(hj:j<N)
  (K:∀w',Mp w' R b N→Up [22] R R w w'→wpList P ops Q rest a w'):wpList P ops Q (o::rest) a w:=by
 obtain⟨h1,es,cl,h2,h3⟩:=hM
 obtain⟨fi,iD,hr,hes⟩:=TL.lK (P:=P) (w:=w) (s:=s) (v:=iv j) G.u81 G.u9 h2 (fun x hx=>by obtain⟨s',_,e,_⟩:=h3 x hx;rw[e];trivial)
 obtain⟨c1,c2⟩:=fm (w:=w) (b:=b) (o:= .map fi iD) (aq h2)
 refine Ls h (by unfold Region.wanted;rw[hg]) hd (w':={w with heap:=w.heap.setIfInBounds b (.map fi iD)}) (by simp[execOp,ho,h.ev em,h.ev ex,h.ev ey,hr]) fun _=>K _ ⟨h1,fi,iD,c2,fun e he=>?_⟩ ⟨c1.mono fun c _ e=>by subst e;simp[h1],fun _ _=>rfl⟩
 rcases hes with⟨rfl,_⟩|⟨i,e0,hi,rfl,_⟩
 ·simp only[Array.toList_push,List.mem_append,List.mem_singleton]at he
  rcases he with he|rfl
  ·exact h3 e he
  ·exact⟨s,j,rfl,rfl,hj⟩
 ·obtain⟨k,hk⟩:=List.getElem?_of_mem he
  rw[Array.getElem?_toList,Array.getElem?_modify]at hk
  split at hk
  ·obtain⟨e1,he1,rfl⟩:=Option.map_eq_some_iff.1 hk
   exact⟨s,j,rfl,rfl,hj⟩
  ·exact h3 e (by rw[←Array.getElem?_toList]at hk;exact CE hk)
end
end Go.TL.H.Gq
set_option maxRecDepth 100000
namespace Go.TL.H.Gq
open Go
variable {P:Program} {w:World} {R:Nat→Nat} {lo:Nat}
abbrev ly(ll:List (List (List UInt8))):List (List PV):=ll.map fun l=>[PV.sl (bG l)]
theorem xy(G:GT P){b N:Nat}{s:ByteArray}(hM:Mp w R b N):∃(c:Bool) (j:Nat),(Instr.lookup 81 (.map (some b)) (.string s) true).run P w= .ok (.tuple #[iv j,.bool c]) w∧(c=true→j<N):=by
 obtain⟨h1,es,cl,h2,h3⟩:=hM
 have hz:(zeroValue 3).run P w= .ok (iv 0) w:=by
  obtain⟨i,hi,_,_,hz,_⟩:=G.o3.is
  simp[zeroValue,typeInfo,hi,hz]
 rcases TL.tX (P:=P) (w:=w) (s:=s) (c:=true) G.u81 G.u9 h2 (fun x hx=>by obtain⟨s',_,e,_⟩:=h3 x hx;rw[e];trivial) hz with⟨i,e,he,hr⟩|hr
 ·obtain⟨_,j,_,ev,hj⟩:=h3 e (by rw[←Array.getElem?_toList]at he;exact CE he)
  rw[ev]at hr
  exact⟨true,j,hr,fun _=>hj⟩
 ·exact⟨false,0,hr,fun h=>by cases h⟩
theorem lz{P:Program}{n k l:Nat}{sl:aT}{a:Act}{w:World}{v u:Value}{R:Value→World→Prop}(h:SL n sl a)(hv:lk sl k=some v)(hu:lk sl l=some u)(hR:R (.tuple #[v,u]) w):fin P [.tmp k,.tmp l] R .ret a w:=by
 refine⟨h.defers,.tuple #[v,u],⟨[v,u],?_,rfl⟩,hR⟩
 have e4:=h.az k _ hv
 have e5:=h.az l _ hu
 simp[gh,e4,e5]
theorem Aw{o:Oper}{n:Nat}{sl:aT}{a:Act}{x:Operand}{b N:Nat}(G:GT P)(h:SL n sl a)(ho:o.op= .call ⟨.builtin .len, #[x], #[81]⟩)(ex:ev sl x=some (.map (some b)))(hM:Mp w R b N):∃m:Nat,(execOp a.eval o).run P w= .ok (.value (iv m)) w:=by
 obtain⟨h1,es,cl,h2,h3⟩:=hM
 refine⟨es.size,?_⟩
 rw[fG ho]
 simp[builtin,Builtin.len_,run_underlying G.u81,h.ev ex,goInt,MapKept.run_getObj_map h2]
theorem Lmk{Q:Exit→Act→World→Prop}{n:Nat}{sl:aT}{a:Act}{ops:Array Oper}{rest:List Oper}(R:Nat→Nat){o:Oper}{t e:TypeId}{l c:Operand}{z:Value}{m:Nat}{k1 k2:IntKind}(k:Nat)(h:SL n sl a)(hg:o.guard=none)(hd:dok n o.dst=true)(ho:o.op= .makeSlice t l c)(el:ev sl l=some (.int k1 (m:Nat)))(ec:ev sl c=some (.int k2 (m:Nat)))(ht:P.underlying t=some (.slice e))(hT:One P e z)(hm:m≤1099511627776)
  (K:∀b' w' R' a',Cl w' R' k b' e (List.replicate m z)→Up [] R R' w w'→w.heap.size≤b'→SL n (bz o.dst (.slice (some ⟨b',0,none⟩) m m) sl) a'→wpList P ops Q rest a' w'):wpList P ops Q (o::rest) a w:=
 L h (by unfold Region.wanted;rw[hg]) hd (nU h ho el ec ht hT hm) fun a h=>K _ _ _ a (Cl.new w R k e _) (Up.alloc [] R w _ k) (Nat.le_refl _) h
def SE(n:Nat):List Nat:=20::22::(List.range n).map (1000+ ·)
theorem oF{n x:Nat}(h:x∈SE n):20≤x∧x≠99:=by
 simp only[SE,List.mem_cons,List.mem_map]at h
 rcases h with rfl|rfl|⟨y,_,rfl⟩<;>omega
def EdC(N j q:Nat)(ll:List (List Nat))(uu:List (List (List UInt8))):Prop:=ll.length=N∧(∀l∈ll,∀x∈l,x<N)∧∀(i:Nat) l u,ll[i]? =some l→uu[i]? =some u→l.length≤if i<j then u.length else if i=j then q else 0
def EdI(w0 w:World)(R R':Nat→Nat)(bo bm N:Nat)(ll:List (List Nat))(os:List Value):Prop:=Pl w R' 1000 os ll∧Cl w R' 20 bo 24 os∧Mp w R' bm N∧Up (SE N) R R' w0 w
def e6(ll:List (List (List UInt8))):Nat:=(ll.map List.length).sum
def xz(N:Nat)(E:List (List Nat))(ll:List (List (List UInt8))):Prop:=E.length=N∧ll.length=N∧(∀l∈E,∀x∈l,x<N)∧∀(i:Nat) l u,E[i]? =some l→ll[i]? =some u→l.length≤u.length
theorem vW(G:GT P)(B:GB P){vN vU:Value}{ss:List (List UInt8)}{uu:List (List (List UInt8))}(hN:Fz w R 0 (.sl (bG ss)) vN)(hU:Fz w R 0 (.sl (ly uu)) vU)(hR:∀c,R c=0∨R c=99)
  (h1:ss.length≤1073741824)(h2:uu.length≤1073741824)(h3:∀l∈uu,l.length≤1073741824):
  Ret P 27 [vN,vU] w fun r w'=>∃R',Up [] R R' w w'∧(∀c,R' c=0∨R' c=99)∧((∃e:Int,e≠0∧r= .tuple #[.slice none 0 0,iv e])∨∃E v,r= .tuple #[v,iv 0]∧Fz w' R' 0 (.sl (cM E)) v∧xz ss.length E uu∧ss.length≤20000∧e6 uu≤200000):=by
 obtain⟨pN,cN,rfl⟩:=aZ hN
 obtain⟨pU,cU,rfl⟩:=aZ hU
 have eN:(bG ss).length=ss.length:=by simp[bG]
 have eU:(ly uu).length=uu.length:=by simp
 rw[eN]at hN
 rw[eU]at hU
 refine aJ B.b27 ?_
 rw[eN,eU]
 have h0:=SL.init (n:=97) [.slice pN ss.length cN,.slice pU uu.length cU] rfl
 (revert h0;generalize({tmps:=_,defers:=[]}:Act)=a;intro h0)
 refine ah (ae ?_)
 (first|refine L h0 rfl rfl (aa h0 (.inl rfl) rfl) fun a h0=>?_|refine L h0 rfl rfl (aa h0 (.inr rfl) rfl) fun a h0=>?_|refine L h0 rfl rfl (ab h0 rfl rfl) fun a h0=>?_);(first|refine L h0 rfl rfl (aa h0 (.inl rfl) rfl) fun a h0=>?_|refine L h0 rfl rfl (aa h0 (.inr rfl) rfl) fun a h0=>?_|refine L h0 rfl rfl (ab h0 rfl rfl) fun a h0=>?_)
 refine Le (ah (ae ?_))
 (first|refine L h0 rfl rfl (aa h0 (.inl rfl) rfl) fun a h0=>?_|refine L h0 rfl rfl (aa h0 (.inr rfl) rfl) fun a h0=>?_|refine L h0 rfl rfl (ab h0 rfl rfl) fun a h0=>?_)
 have h0:SL 97 [(0,.slice pN ss.length cN),(1,.slice pU uu.length cU),(6,iv (0:Nat))] a:=h0.keep [0,1,6]
 refine Le (ah (ah (ae ?_)))
 (first|refine L h0 rfl rfl (aa h0 (.inl rfl) rfl) fun a h0=>?_|refine L h0 rfl rfl (aa h0 (.inr rfl) rfl) fun a h0=>?_|refine L h0 rfl rfl (ab h0 rfl rfl) fun a h0=>?_)
 refine L h0 rfl rfl (aM h0 rfl rfl G.u23) fun a h0=>?_
 (first|refine L h0 rfl rfl (aa h0 (.inl rfl) rfl) fun a h0=>?_|refine L h0 rfl rfl (aa h0 (.inr rfl) rfl) fun a h0=>?_|refine L h0 rfl rfl (ab h0 rfl rfl) fun a h0=>?_)
 refine Le (NW.mono (Q:=fun e a w1=>e= .normal∧w1=w∧SL 97 [(0,.slice pN ss.length cN),(1,.slice pU uu.length cU),(6,iv (e6 uu:Nat))] a) ?_ ?_)
 ·refine au (aW (fun m a w1=>w1=w∧∃j:Nat,m+j=uu.length∧e6 (uu.take j)≤j*1073741824∧SL 97 [(0,.slice pN ss.length cN),(1,.slice pU uu.length cU),(6,iv (e6 (uu.take j):Nat)),(19,.slice pU uu.length cU),(20,iv (uu.length:Nat)),(21,iv j)] a) uu.length ⟨rfl,0,rfl,by simp[e6],h0.keep [0,1,6,19,20,21]⟩ ?_)
  rintro m a _ ⟨rfl,j,hmj,hs,h0⟩
  refine ah (ae ?_)
  refine L h0 rfl rfl (aG h0 rfl rfl rfl rfl) fun a h0=>?_
  refine Le (ah (ar (h0.ev rfl) (fun hc=>aw ?_) (fun hc=>aN ?_)))
  ·have hj:j<uu.length:=by simpa using hc
   obtain⟨g,off,cap,cs,t,fz,u,hk,q1,q2,q3⟩:=da (x:= .sl (bG uu[j])) (i:=j) hU (by simp[hj])
   rw[eU]at hk;cases hk
   obtain⟨pu,cu,rfl⟩:=aZ q3
   rw[show(bG uu[j]).length=uu[j].length by simp[bG]]at q2 q3
   have cd:=h3 _ (List.getElem_mem hj)
   have hsum:e6 (uu.take (j+1))=e6 (uu.take j)+uu[j].length:=by
    unfold e6;rw[List.take_add_one,List.getElem?_eq_getElem hj,List.map_append,List.sum_append];rfl
   refine ah (au (ah (ae ?_)))
   refine L h0 rfl rfl (aH h0 rfl rfl rfl G.u23 G.o22 hj) fun a h0=>?_
   refine L h0 rfl rfl (ai h0 rfl rfl G.o22 q1 q2) fun a h0=>?_
   (first|refine L h0 rfl rfl (aa h0 (.inl rfl) rfl) fun a h0=>?_|refine L h0 rfl rfl (aa h0 (.inr rfl) rfl) fun a h0=>?_|refine L h0 rfl rfl (ab h0 rfl rfl) fun a h0=>?_)
   refine Le (ae ?_)
   (first|refine L h0 rfl rfl (aa h0 (.inl rfl) rfl) fun a h0=>?_|refine L h0 rfl rfl (aa h0 (.inr rfl) rfl) fun a h0=>?_|refine L h0 rfl rfl (ab h0 rfl rfl) fun a h0=>?_);(first|refine L h0 rfl rfl (aa h0 (.inl rfl) rfl) fun a h0=>?_|refine L h0 rfl rfl (aa h0 (.inr rfl) rfl) fun a h0=>?_|refine L h0 rfl rfl (ab h0 rfl rfl) fun a h0=>?_)
   refine L h0 rfl rfl (aM h0 rfl rfl G.u22) fun a h0=>?_
   refine L h0 rfl rfl (cC (e6 (uu.take (j+1)):Nat) h0 rfl rfl rfl (by omega) (by omega) (by omega)) fun a h0=>?_
   (first|refine L h0 rfl rfl (aa h0 (.inl rfl) rfl) fun a h0=>?_|refine L h0 rfl rfl (aa h0 (.inr rfl) rfl) fun a h0=>?_|refine L h0 rfl rfl (ab h0 rfl rfl) fun a h0=>?_)
   refine Le (ae ?_)
   refine L h0 rfl rfl (cC (j+1:Nat) h0 rfl rfl rfl (by omega) (by omega) (by omega)) fun a h0=>?_
   (first|refine L h0 rfl rfl (aa h0 (.inl rfl) rfl) fun a h0=>?_|refine L h0 rfl rfl (aa h0 (.inr rfl) rfl) fun a h0=>?_|refine L h0 rfl rfl (ab h0 rfl rfl) fun a h0=>?_)
   exact Le ⟨m - 1,by omega,rfl,j+1,by omega,by omega,h0.keep [0,1,6,19,20,21]⟩
  ·have hj:j=uu.length:=by simp at hc;omega
   subst hj
   refine⟨rfl,rfl,?_⟩
   have:=h0.keep [0,1,6]
   rw[List.take_length]at this
   exact this
 rintro _ a w0 ⟨rfl,rfl,h0⟩
 have hsm:∀(ll:List (List (List UInt8))),(∀l∈ll,l.length≤1073741824)→e6 ll≤ll.length*1073741824:=by
  intro ll
  induction ll with
  |nil=>intro _;simp[e6]
  |cons x ll ih=>intro h;have h1:=ih fun l hl=>h l (by simp[hl]);have h2:=h x (by simp);simp only[e6,List.map_cons,List.sum_cons,List.length_cons]at h1 ⊢;omega
 refine ah (ah (ae ?_))
 (first|refine L h0 rfl rfl (aa h0 (.inl rfl) rfl) fun a h0=>?_|refine L h0 rfl rfl (aa h0 (.inr rfl) rfl) fun a h0=>?_|refine L h0 rfl rfl (ab h0 rfl rfl) fun a h0=>?_)
 refine L h0 rfl rfl (aM h0 rfl rfl G.u22) fun a h0=>?_
 refine L h0 rfl rfl (aG h0 rfl rfl rfl rfl) fun a h0=>?_
 (first|refine L h0 rfl rfl (aa h0 (.inl rfl) rfl) fun a h0=>?_|refine L h0 rfl rfl (aa h0 (.inr rfl) rfl) fun a h0=>?_|refine L h0 rfl rfl (ab h0 rfl rfl) fun a h0=>?_)
 have stop:∀{a:Act} {e:Int},e≠0→SL 97 [(4,.slice none 0 0),(5,iv e)] a→fin P [.tmp 4,.tmp 5] (fun r w'=>∃R',Up [] R R' w0 w'∧(∀c,R' c=0∨R' c=99)∧((∃e:Int,e≠0∧r= .tuple #[.slice none 0 0,iv e])∨∃E v,r= .tuple #[v,iv 0]∧Fz w' R' 0 (.sl (cM E)) v∧xz ss.length E uu∧ss.length≤20000∧e6 uu≤200000)) .ret a w0:=fun he h0=>lz h0 rfl rfl ⟨R,Up.rfl,hR,.inl ⟨_,he,rfl⟩⟩
 refine(?_:wpList P _ _ _ a w0)
 by_cases hb:20000<ss.length
 ·have hc:decide (((ss.length:Nat):Int)>20000)=true:=by simp;omega
  simp only[hc]at h0
  refine Lu h0 ((wg h0 rfl rfl rfl rfl).trans rfl) rfl fun a h0=>?_;refine Lu h0 ((wg h0 rfl rfl rfl rfl).trans rfl) rfl fun a h0=>?_
  refine L h0 rfl rfl (bM (b:=true) (u:= .bool true) h0 rfl rfl (fun _=>rfl) (fun h=>by cases h)) fun a h0=>?_
  refine Le (ar (t:=true) (h0.ev rfl) (fun _=>ah (ae ?_)) (fun h=>by cases h))
  (first|refine L h0 rfl rfl (aa h0 (.inl rfl) rfl) fun a h0=>?_|refine L h0 rfl rfl (aa h0 (.inr rfl) rfl) fun a h0=>?_|refine L h0 rfl rfl (ab h0 rfl rfl) fun a h0=>?_);(first|refine L h0 rfl rfl (aa h0 (.inl rfl) rfl) fun a h0=>?_|refine L h0 rfl rfl (aa h0 (.inr rfl) rfl) fun a h0=>?_|refine L h0 rfl rfl (ab h0 rfl rfl) fun a h0=>?_)
  exact Le (aP (stop (e:=3) (by decide) (h0.keep [4,5])))
 have hc:decide (((ss.length:Nat):Int)>20000)=false:=by simp;omega
 simp only[hc]at h0
 refine L h0 ((wg h0 rfl rfl rfl rfl).trans rfl) rfl (aa h0 (.inl rfl) rfl) fun a h0=>?_
 refine L h0 ((wg h0 rfl rfl rfl rfl).trans rfl) rfl (aG h0 rfl rfl rfl rfl) fun a h0=>?_
 refine L h0 rfl rfl (bM (b:=false) (u:= .bool (decide (((e6 uu:Nat):Int)>200000))) h0 rfl rfl (fun h=>by cases h) (fun _=>rfl)) fun a h0=>?_
 refine Le (ar (h0.ev rfl) (fun _=>ah (ae ?_)) (fun hs=>aw ?_))
 ·(first|refine L h0 rfl rfl (aa h0 (.inl rfl) rfl) fun a h0=>?_|refine L h0 rfl rfl (aa h0 (.inr rfl) rfl) fun a h0=>?_|refine L h0 rfl rfl (ab h0 rfl rfl) fun a h0=>?_);(first|refine L h0 rfl rfl (aa h0 (.inl rfl) rfl) fun a h0=>?_|refine L h0 rfl rfl (aa h0 (.inr rfl) rfl) fun a h0=>?_|refine L h0 rfl rfl (ab h0 rfl rfl) fun a h0=>?_)
  exact Le (aP (stop (e:=3) (by decide) (h0.keep [4,5])))
 have hs:e6 uu≤200000:=by simp at hs;omega
 have h0:SL 97 [(0,.slice pN ss.length cN),(1,.slice pU uu.length cU)] a:=h0.keep [0,1]
 refine ah (ae ?_)
 refine L (v:= .map (some w0.heap.size)) (w':=w0.alloc (.map #[] 0)) h0 rfl rfl (by simp[execOp,Instr.makeMap]) fun a h0=>?_
 have u1:=Up.alloc [] R w0 (.map #[] 0) 22
 have m1:Mp (w0.alloc (.map #[] 0)) (ext R w0.heap.size 22) w0.heap.size ss.length:=⟨by simp[ext], #[],0,heap_alloc_new _ _,by simp⟩
 have lb:∀c,c<w0.heap.size→ext R w0.heap.size 22 c=R c:=u1.2
 have n1:=hN.up u1 (by simp)
 have v1:=hU.up u1 (by simp)
 obtain⟨R1,hR1⟩:∃R1,R1=ext R w0.heap.size 22:=⟨_,rfl⟩
 rw[←hR1]at u1 m1 lb n1 v1
 obtain⟨bm,hbm⟩:∃bm,bm=w0.heap.size:=⟨_,rfl⟩
 rw[←hbm]at m1 h0
 generalize w0.alloc (.map #[] 0)=w1 at*
 (first|refine L h0 rfl rfl (aa h0 (.inl rfl) rfl) fun a h0=>?_|refine L h0 rfl rfl (aa h0 (.inr rfl) rfl) fun a h0=>?_|refine L h0 rfl rfl (ab h0 rfl rfl) fun a h0=>?_)
 have h0:SL 97 [(0,.slice pN ss.length cN),(1,.slice pU uu.length cU),(9,.map (some bm))] a:=h0.keep [0,1,9]
 refine Le (ah (ah (ae ?_)))
 (first|refine L h0 rfl rfl (aa h0 (.inl rfl) rfl) fun a h0=>?_|refine L h0 rfl rfl (aa h0 (.inr rfl) rfl) fun a h0=>?_|refine L h0 rfl rfl (ab h0 rfl rfl) fun a h0=>?_)
 refine L h0 rfl rfl (aM h0 rfl rfl G.u22) fun a h0=>?_
 (first|refine L h0 rfl rfl (aa h0 (.inl rfl) rfl) fun a h0=>?_|refine L h0 rfl rfl (aa h0 (.inr rfl) rfl) fun a h0=>?_|refine L h0 rfl rfl (ab h0 rfl rfl) fun a h0=>?_)
 refine Le (NW.mono (Q:=fun e a w2=>e= .normal∧SL 97 [(0,.slice pN ss.length cN),(1,.slice pU uu.length cU),(9,.map (some bm))] a∧Mp w2 R1 bm ss.length∧Up [22] R1 R1 w1 w2) ?_ ?_)
 ·refine au (aW (fun m a w2=>∃j:Nat,m+j=ss.length∧SL 97 [(0,.slice pN ss.length cN),(1,.slice pU uu.length cU),(9,.map (some bm)),(38,.slice pN ss.length cN),(39,iv (ss.length:Nat)),(40,iv j)] a∧Mp w2 R1 bm ss.length∧Up [22] R1 R1 w1 w2) ss.length ⟨0,rfl,h0.keep [0,1,9,38,39,40],m1,Up.rfl⟩ ?_)
  rintro m a w2 ⟨j,hmj,h0,m2,u2⟩
  refine ah (ae ?_)
  refine L h0 rfl rfl (aG h0 rfl rfl rfl rfl) fun a h0=>?_
  refine Le (ah (ar (h0.ev rfl) (fun hc=>aw ?_) (fun hc=>aN ⟨rfl,h0.keep [0,1,9],m2,u2⟩)))
  have hj:j<ss.length:=by simpa using hc
  have n2:=n1.up u2 (by decide)
  obtain⟨g,off,cap,cs,t,fz,u,hk,q1,q2,q3⟩:=da (x:= .v (Proofs.encStr ss[j])) (i:=j) n2 (by simp[bG,hj])
  rw[eN]at hk;cases hk
  have hu:u=Proofs.encStr ss[j]:=by cases q3;rfl
  subst hu
  refine ah (au (ah (ae ?_)))
  (first|refine L h0 rfl rfl (aa h0 (.inl rfl) rfl) fun a h0=>?_|refine L h0 rfl rfl (aa h0 (.inr rfl) rfl) fun a h0=>?_|refine L h0 rfl rfl (ab h0 rfl rfl) fun a h0=>?_)
  refine L h0 rfl rfl (aH h0 rfl rfl rfl G.u22 G.o9 hj) fun a h0=>?_
  refine L h0 rfl rfl (ai h0 rfl rfl G.o9 q1 q2) fun a h0=>?_
  (first|refine L h0 rfl rfl (aa h0 (.inl rfl) rfl) fun a h0=>?_|refine L h0 rfl rfl (aa h0 (.inr rfl) rfl) fun a h0=>?_|refine L h0 rfl rfl (ab h0 rfl rfl) fun a h0=>?_);(first|refine L h0 rfl rfl (aa h0 (.inl rfl) rfl) fun a h0=>?_|refine L h0 rfl rfl (aa h0 (.inr rfl) rfl) fun a h0=>?_|refine L h0 rfl rfl (ab h0 rfl rfl) fun a h0=>?_)
  refine Le (ae ?_)
  (first|refine L h0 rfl rfl (aa h0 (.inl rfl) rfl) fun a h0=>?_|refine L h0 rfl rfl (aa h0 (.inr rfl) rfl) fun a h0=>?_|refine L h0 rfl rfl (ab h0 rfl rfl) fun a h0=>?_);(first|refine L h0 rfl rfl (aa h0 (.inl rfl) rfl) fun a h0=>?_|refine L h0 rfl rfl (aa h0 (.inr rfl) rfl) fun a h0=>?_|refine L h0 rfl rfl (ab h0 rfl rfl) fun a h0=>?_);(first|refine L h0 rfl rfl (aa h0 (.inl rfl) rfl) fun a h0=>?_|refine L h0 rfl rfl (aa h0 (.inr rfl) rfl) fun a h0=>?_|refine L h0 rfl rfl (ab h0 rfl rfl) fun a h0=>?_)
  refine Lmu G h0 rfl rfl rfl rfl rfl rfl m2 hj fun w3 m3 u3=>?_
  refine Le (ae ?_)
  refine L h0 rfl rfl (cC (j+1:Nat) h0 rfl rfl rfl (by omega) (by omega) (by omega)) fun a h0=>?_
  (first|refine L h0 rfl rfl (aa h0 (.inl rfl) rfl) fun a h0=>?_|refine L h0 rfl rfl (aa h0 (.inr rfl) rfl) fun a h0=>?_|refine L h0 rfl rfl (ab h0 rfl rfl) fun a h0=>?_)
  exact Le ⟨m - 1,by omega,j+1,by omega,h0.keep [0,1,9,38,39,40],m3,u2.trans u3⟩
 rintro _ a w2 ⟨rfl,h0,m2,u2⟩
 have n2:=n1.up u2 (by decide)
 have v2:=v1.up u2 (by decide)
 refine ah (ah (ae ?_))
 (first|refine L h0 rfl rfl (aa h0 (.inl rfl) rfl) fun a h0=>?_|refine L h0 rfl rfl (aa h0 (.inr rfl) rfl) fun a h0=>?_|refine L h0 rfl rfl (ab h0 rfl rfl) fun a h0=>?_)
 refine L h0 rfl rfl (aM h0 rfl rfl G.u23) fun a h0=>?_
 (first|refine L h0 rfl rfl (aa h0 (.inl rfl) rfl) fun a h0=>?_|refine L h0 rfl rfl (aa h0 (.inr rfl) rfl) fun a h0=>?_|refine L h0 rfl rfl (ab h0 rfl rfl) fun a h0=>?_)
 refine L h0 rfl rfl (aM h0 rfl rfl G.u22) fun a h0=>?_
 refine L h0 rfl rfl (aG h0 rfl rfl rfl rfl) fun a h0=>?_
 (first|refine L h0 rfl rfl (aa h0 (.inl rfl) rfl) fun a h0=>?_|refine L h0 rfl rfl (aa h0 (.inr rfl) rfl) fun a h0=>?_|refine L h0 rfl rfl (ab h0 rfl rfl) fun a h0=>?_)
 have eR:∀c,c<w2.heap.size→(fun c=>if c<w0.heap.size then R c else 0) c=0∨(fun c=>if c<w0.heap.size then R c else 0) c=99:=fun c _=>by
  simp only;split
  ·exact hR c
  ·exact .inl rfl
 have u12:Up [22] R R1 w0 w2:=(u1.mono (by simp)).trans u2
 have fin2:∀(w':World) (Rx:Nat→Nat) (S:List Nat),Up S R Rx w0 w'→0 ∉ S→99 ∉ S→Up [] R (fun c=>if c<w0.heap.size then R c else 0) w0 w':=fun w' Rx S hu h0' h99=>
  ⟨hu.1.mono fun c _ hc=>by rcases hR c with h|h<;>rw[h]at hc<;>first|exact absurd hc h0'|exact absurd hc h99,fun c hc=>by simp[hc]⟩
 have eR2:∀c,(fun c=>if c<w0.heap.size then R c else 0) c=0∨(fun c=>if c<w0.heap.size then R c else 0) c=99:=fun c=>by
  simp only;split
  ·exact hR c
  ·exact .inl rfl
 have stop2:∀{a:Act},SL 97 [(4,.slice none 0 0),(5,iv 2)] a→fin P [.tmp 4,.tmp 5] (fun r w'=>∃R',Up [] R R' w0 w'∧(∀c,R' c=0∨R' c=99)∧((∃e:Int,e≠0∧r= .tuple #[.slice none 0 0,iv e])∨∃E v,r= .tuple #[v,iv 0]∧Fz w' R' 0 (.sl (cM E)) v∧xz ss.length E uu∧ss.length≤20000∧e6 uu≤200000)) .ret a w2:=fun h0=>lz h0 rfl rfl ⟨_,fin2 w2 R1 [22] u12 (by decide) (by decide),eR2,.inl ⟨2,by decide,rfl⟩⟩
 by_cases hq:uu.length=ss.length
 rotate_left
 ·have hc:((((uu.length:Nat):Int)) !=(ss.length:Int))=true:=by simp;omega
  simp only[hc]at h0
  refine Lu h0 ((wg h0 rfl rfl rfl rfl).trans rfl) rfl fun a h0=>?_;refine Lu h0 ((wg h0 rfl rfl rfl rfl).trans rfl) rfl fun a h0=>?_;refine Lu h0 ((wg h0 rfl rfl rfl rfl).trans rfl) rfl fun a h0=>?_;refine Lu h0 ((wg h0 rfl rfl rfl rfl).trans rfl) rfl fun a h0=>?_;refine Lu h0 ((wg h0 rfl rfl rfl rfl).trans rfl) rfl fun a h0=>?_
  refine L h0 rfl rfl (bM (b:=true) (u:= .bool true) h0 rfl rfl (fun _=>rfl) (fun h=>by cases h)) fun a h0=>?_
  refine Le (ar (t:=true) (h0.ev rfl) (fun _=>ah (ae ?_)) (fun h=>by cases h))
  (first|refine L h0 rfl rfl (aa h0 (.inl rfl) rfl) fun a h0=>?_|refine L h0 rfl rfl (aa h0 (.inr rfl) rfl) fun a h0=>?_|refine L h0 rfl rfl (ab h0 rfl rfl) fun a h0=>?_);(first|refine L h0 rfl rfl (aa h0 (.inl rfl) rfl) fun a h0=>?_|refine L h0 rfl rfl (aa h0 (.inr rfl) rfl) fun a h0=>?_|refine L h0 rfl rfl (ab h0 rfl rfl) fun a h0=>?_)
  exact Le (aP (stop2 (h0.keep [4,5])))
 have hc:((((uu.length:Nat):Int)) !=(ss.length:Int))=false:=by simp;omega
 simp only[hc]at h0
 refine L h0 ((wg h0 rfl rfl rfl rfl).trans rfl) rfl (aa h0 (.inl rfl) rfl) fun a h0=>?_
 obtain⟨lm,hlm⟩:=Aw (P:=P) (w:=w2) (o:=⟨some 56,.call ⟨.builtin .len, #[.tmp 55], #[81]⟩,3, "", #[],some (5,false)⟩) G h0 rfl rfl m2
 refine L h0 ((wg h0 rfl rfl rfl rfl).trans rfl) rfl hlm fun a h0=>?_
 refine L h0 ((wg h0 rfl rfl rfl rfl).trans rfl) rfl (aa h0 (.inl rfl) rfl) fun a h0=>?_
 refine L h0 ((wg h0 rfl rfl rfl rfl).trans rfl) rfl (aM h0 rfl rfl G.u22) fun a h0=>?_
 refine L h0 ((wg h0 rfl rfl rfl rfl).trans rfl) rfl (aG h0 rfl rfl rfl rfl) fun a h0=>?_
 refine L h0 rfl rfl (bM (b:=false) (u:= .bool (((lm:Nat):Int) !=(ss.length:Int))) h0 rfl rfl (fun h=>by cases h) (fun _=>rfl)) fun a h0=>?_
 refine Le (ar (h0.ev rfl) (fun _=>ah (ae ?_)) (fun _=>aw ?_))
 ·(first|refine L h0 rfl rfl (aa h0 (.inl rfl) rfl) fun a h0=>?_|refine L h0 rfl rfl (aa h0 (.inr rfl) rfl) fun a h0=>?_|refine L h0 rfl rfl (ab h0 rfl rfl) fun a h0=>?_);(first|refine L h0 rfl rfl (aa h0 (.inl rfl) rfl) fun a h0=>?_|refine L h0 rfl rfl (aa h0 (.inr rfl) rfl) fun a h0=>?_|refine L h0 rfl rfl (ab h0 rfl rfl) fun a h0=>?_)
  exact Le (aP (stop2 (h0.keep [4,5])))
 have h0:SL 97 [(0,.slice pN ss.length cN),(1,.slice pU uu.length cU),(9,.map (some bm))] a:=h0.keep [0,1,9]
 refine ah (ae ?_)
 (first|refine L h0 rfl rfl (aa h0 (.inl rfl) rfl) fun a h0=>?_|refine L h0 rfl rfl (aa h0 (.inr rfl) rfl) fun a h0=>?_|refine L h0 rfl rfl (ab h0 rfl rfl) fun a h0=>?_)
 refine L h0 rfl rfl (aM h0 rfl rfl G.u22) fun a h0=>?_
 refine Lmk R1 20 h0 rfl rfl rfl rfl rfl G.u32 G.o24 (by omega) fun bo w3 R3 a c3 u3 hbo h0=>?_
 (first|refine L h0 rfl rfl (aa h0 (.inl rfl) rfl) fun a h0=>?_|refine L h0 rfl rfl (aa h0 (.inr rfl) rfl) fun a h0=>?_|refine L h0 rfl rfl (ab h0 rfl rfl) fun a h0=>?_)
 have h0:SL 97 [(1,.slice pU uu.length cU),(9,.map (some bm)),(12,sl bo ss.length)] a:=h0.keep [1,9,12]
 have I3:EdI w0 w3 R R3 bo bm ss.length (List.replicate ss.length []) (List.replicate ss.length (.slice none 0 0)):=⟨Pl.new 1000 _,c3,m2.up u3 (by decide),(u12.mono (by simp[SE])).trans (u3.mono (by simp))⟩
 refine Le (ah (ah (ae ?_)))
 (first|refine L h0 rfl rfl (aa h0 (.inl rfl) rfl) fun a h0=>?_|refine L h0 rfl rfl (aa h0 (.inr rfl) rfl) fun a h0=>?_|refine L h0 rfl rfl (ab h0 rfl rfl) fun a h0=>?_)
 refine L h0 rfl rfl (aM h0 rfl rfl G.u23) fun a h0=>?_
 (first|refine L h0 rfl rfl (aa h0 (.inl rfl) rfl) fun a h0=>?_|refine L h0 rfl rfl (aa h0 (.inr rfl) rfl) fun a h0=>?_|refine L h0 rfl rfl (ab h0 rfl rfl) fun a h0=>?_)
 refine Le (NW.mono (Q:=fun e a w4=>e= .normal∧SL 97 [(12,sl bo ss.length)] a∧∃R4 ll os,EdI w0 w4 R R4 bo bm ss.length ll os∧EdC ss.length ss.length 0 ll uu) ?_ ?_)
 ·refine au (aW (fun m a w4=>∃j:Nat,m+j=uu.length∧SL 97 [(9,.map (some bm)),(12,sl bo ss.length),(64,.slice pU uu.length cU),(65,iv (uu.length:Nat)),(66,iv j)] a∧∃R4 ll os,EdI w0 w4 R R4 bo bm ss.length ll os∧EdC ss.length j 0 ll uu) uu.length ⟨0,rfl,h0.keep [9,12,64,65,66],R3,_,_,I3,by simp,fun l hl x hx=>by rw[List.mem_replicate]at hl;rw[hl.2]at hx;simp at hx,fun i l u hl hu=>by
   rw[List.getElem?_replicate]at hl
   by_cases hi:i<ss.length
   ·rw[if_pos hi]at hl;cases hl;simp
   ·rw[if_neg hi]at hl;cases hl⟩ ?_)
  rintro m a w4 ⟨j,hmj,h0,R4,ll,os,I4,C4⟩
  refine ah (ae ?_)
  refine L h0 rfl rfl (aG h0 rfl rfl rfl rfl) fun a h0=>?_
  refine Le (ah (ar (h0.ev rfl) (fun hc=>aw ?_) (fun hc=>aN ?_)))
  rotate_left
  ·have hj:j=ss.length:=by simp at hc;omega
   subst hj
   exact⟨rfl,h0.keep [12],R4,ll,os,I4,C4⟩
  have hj:j<uu.length:=by simpa using hc
  have v4:=hU.up I4.2.2.2 (fun h=>by have:=oF h;omega)
  obtain⟨g,off,cap,cs,t,fz,u,hk,q1,q2,q3⟩:=da (x:= .sl (bG uu[j])) (i:=j) v4 (by simp[hj])
  rw[eU]at hk;cases hk
  obtain⟨pu,cu,rfl⟩:=aZ q3
  rw[show(bG uu[j]).length=uu[j].length by simp[bG]]at q2 q3
  have cd:=h3 _ (List.getElem_mem hj)
  refine ah (au (ah (ae ?_)))
  (first|refine L h0 rfl rfl (aa h0 (.inl rfl) rfl) fun a h0=>?_|refine L h0 rfl rfl (aa h0 (.inr rfl) rfl) fun a h0=>?_|refine L h0 rfl rfl (ab h0 rfl rfl) fun a h0=>?_)
  refine L h0 rfl rfl (aH h0 rfl rfl rfl G.u23 G.o22 hj) fun a h0=>?_
  refine L h0 rfl rfl (ai h0 rfl rfl G.o22 q1 q2) fun a h0=>?_
  (first|refine L h0 rfl rfl (aa h0 (.inl rfl) rfl) fun a h0=>?_|refine L h0 rfl rfl (aa h0 (.inr rfl) rfl) fun a h0=>?_|refine L h0 rfl rfl (ab h0 rfl rfl) fun a h0=>?_);(first|refine L h0 rfl rfl (aa h0 (.inl rfl) rfl) fun a h0=>?_|refine L h0 rfl rfl (aa h0 (.inr rfl) rfl) fun a h0=>?_|refine L h0 rfl rfl (ab h0 rfl rfl) fun a h0=>?_)
  refine Le (ah (ae ?_))
  (first|refine L h0 rfl rfl (aa h0 (.inl rfl) rfl) fun a h0=>?_|refine L h0 rfl rfl (aa h0 (.inr rfl) rfl) fun a h0=>?_|refine L h0 rfl rfl (ab h0 rfl rfl) fun a h0=>?_)
  refine L h0 rfl rfl (aM h0 rfl rfl G.u22) fun a h0=>?_
  (first|refine L h0 rfl rfl (aa h0 (.inl rfl) rfl) fun a h0=>?_|refine L h0 rfl rfl (aa h0 (.inr rfl) rfl) fun a h0=>?_|refine L h0 rfl rfl (ab h0 rfl rfl) fun a h0=>?_)
  refine Le (au (aW (fun m' a w5=>∃q:Nat,m'+q=uu[j].length∧SL 97 [(9,.map (some bm)),(12,sl bo ss.length),(64,.slice (some ⟨g,off,none⟩) uu.length cU),(65,iv (uu.length:Nat)),(66,iv j),(13,iv j),(71,.slice pu uu[j].length cu),(72,iv (uu[j].length:Nat)),(73,iv q)] a∧∃R5 ll os,EdI w0 w5 R R5 bo bm ss.length ll os∧EdC ss.length j q ll uu∧Up (SE ss.length) R4 R5 w4 w5) uu[j].length ⟨0,rfl,h0.keep [9,12,64,65,66,13,71,72,73],R4,ll,os,I4,C4,Up.rfl⟩ ?_))
  clear h0 I4 C4 v4 q1 q2
  rintro m' a w5 ⟨q,hmq,h0,R5,ll,os,⟨p5,c5,m5,u5⟩,⟨C1,C2,C3⟩,u45⟩
  refine ah (ae ?_)
  refine L h0 rfl rfl (aG h0 rfl rfl rfl rfl) fun a h0=>?_
  refine Le (ah (ar (h0.ev rfl) (fun hc=>aw ?_) (fun hc=>aN (ae ?_))))
  rotate_left
  ·have hq':q=uu[j].length:=by simp at hc;omega
   refine L h0 rfl rfl (cC (j+1:Nat) h0 rfl rfl rfl (by omega) (by omega) (by omega)) fun a h0=>?_
   (first|refine L h0 rfl rfl (aa h0 (.inl rfl) rfl) fun a h0=>?_|refine L h0 rfl rfl (aa h0 (.inr rfl) rfl) fun a h0=>?_|refine L h0 rfl rfl (ab h0 rfl rfl) fun a h0=>?_)
   refine Le ⟨m - 1,by omega,j+1,by omega,h0.keep [9,12,64,65,66],R5,ll,os,⟨p5,c5,m5,u5⟩,C1,C2,fun i l u fX h2'=>?_⟩
   have:=C3 i l u fX h2'
   split at this
   ·rw[if_pos (by omega)];exact this
   ·split at this
    ·rename_i hij;subst hij
     rw[List.getElem?_eq_getElem hj]at h2';cases h2'
     rw[if_pos (by omega)];omega
    ·rw[if_neg (by omega)];omega
  have hql:q<uu[j].length:=by simpa using hc
  have q5:=(show Fz w4 R4 0 _ _ from q3).up u45 (fun h=>by have:=oF h;omega)
  obtain⟨gi,oi,ci,csi,ti,fzi,ui,hki,r1,r2,r3⟩:=da (x:= .v (Proofs.encStr uu[j][q])) (i:=q) q5 (by simp[bG,hql])
  rw[show(bG uu[j]).length=uu[j].length by simp[bG]]at hki
  have hui:ui=Proofs.encStr uu[j][q]:=by cases r3;rfl
  subst hui
  refine ah (au (ah (ae ?_)))
  refine L h0 rfl rfl (aH (t:=22) (b:=gi) (o':=oi) (m:=uu[j].length) (c:=ci) h0 rfl (by rw[←hki];rfl) rfl G.u22 G.o9 hql) fun a h0=>?_
  refine L h0 rfl rfl (ai h0 rfl rfl G.o9 r1 r2) fun a h0=>?_
  (first|refine L h0 rfl rfl (aa h0 (.inl rfl) rfl) fun a h0=>?_|refine L h0 rfl rfl (aa h0 (.inr rfl) rfl) fun a h0=>?_|refine L h0 rfl rfl (ab h0 rfl rfl) fun a h0=>?_)
  refine Le (ah (ae ?_))
  (first|refine L h0 rfl rfl (aa h0 (.inl rfl) rfl) fun a h0=>?_|refine L h0 rfl rfl (aa h0 (.inr rfl) rfl) fun a h0=>?_|refine L h0 rfl rfl (ab h0 rfl rfl) fun a h0=>?_);(first|refine L h0 rfl rfl (aa h0 (.inl rfl) rfl) fun a h0=>?_|refine L h0 rfl rfl (aa h0 (.inr rfl) rfl) fun a h0=>?_|refine L h0 rfl rfl (ab h0 rfl rfl) fun a h0=>?_)
  obtain⟨cb,jb,hlk,hjb⟩:=xy (P:=P) G (s:=⟨uu[j][q].toArray⟩) m5
  refine L (v:= .tuple #[iv jb,.bool cb]) (w':=w5) h0 rfl rfl (by simp[execOp,show a.eval (.tmp 78)= .map (some bm)from h0.ev rfl,show a.eval (.tmp 79)= .string ⟨uu[j][q].toArray⟩from h0.ev rfl,hlk]) fun a h0=>?_
  (first|refine L h0 rfl rfl (aa h0 (.inl rfl) rfl) fun a h0=>?_|refine L h0 rfl rfl (aa h0 (.inr rfl) rfl) fun a h0=>?_|refine L h0 rfl rfl (ab h0 rfl rfl) fun a h0=>?_)
  refine L h0 rfl rfl (aB h0 rfl rfl rfl) fun a h0=>?_
  refine L h0 rfl rfl (aB h0 rfl rfl rfl) fun a h0=>?_
  (first|refine L h0 rfl rfl (aa h0 (.inl rfl) rfl) fun a h0=>?_|refine L h0 rfl rfl (aa h0 (.inr rfl) rfl) fun a h0=>?_|refine L h0 rfl rfl (ab h0 rfl rfl) fun a h0=>?_);(first|refine L h0 rfl rfl (aa h0 (.inl rfl) rfl) fun a h0=>?_|refine L h0 rfl rfl (aa h0 (.inr rfl) rfl) fun a h0=>?_|refine L h0 rfl rfl (ab h0 rfl rfl) fun a h0=>?_)
  refine Le (ah (ae ?_))
  (first|refine L h0 rfl rfl (aa h0 (.inl rfl) rfl) fun a h0=>?_|refine L h0 rfl rfl (aa h0 (.inr rfl) rfl) fun a h0=>?_|refine L h0 rfl rfl (ab h0 rfl rfl) fun a h0=>?_)
  have h0:SL 97 [(9,.map (some bm)),(12,sl bo ss.length),(64,.slice (some ⟨g,off,none⟩) uu.length cU),(65,iv (uu.length:Nat)),(66,iv j),(13,iv j),(71,.slice pu uu[j].length cu),(72,iv (uu[j].length:Nat)),(73,iv q),(17,iv jb),(83,.bool cb)] a:=h0.keep [9,12,64,65,66,13,71,72,73,17,83]
  refine Le (ar (h0.ev rfl) (fun hcb=>?_) (fun _=>aw (ae ?_)))
  ·have hjN:j<ss.length:=by omega
   obtain⟨lj,hlj⟩:∃lj,ll[j]? =some lj:=⟨_,List.getElem?_eq_getElem (by omega)⟩
   obtain⟨vj,hvj⟩:∃vj,os[j]? =some vj:=⟨_,List.getElem?_eq_getElem (by rw[p5.1];omega)⟩
   have xj:=p5.2 j vj lj hvj hlj
   have hlen:=C3 j lj _ hlj (List.getElem?_eq_getElem hj)
   rw[if_neg (by omega),if_pos rfl]at hlen
   refine ae ?_
   (first|refine L h0 rfl rfl (aa h0 (.inl rfl) rfl) fun a h0=>?_|refine L h0 rfl rfl (aa h0 (.inr rfl) rfl) fun a h0=>?_|refine L h0 rfl rfl (ab h0 rfl rfl) fun a h0=>?_);(first|refine L h0 rfl rfl (aa h0 (.inl rfl) rfl) fun a h0=>?_|refine L h0 rfl rfl (aa h0 (.inr rfl) rfl) fun a h0=>?_|refine L h0 rfl rfl (ab h0 rfl rfl) fun a h0=>?_);(first|refine L h0 rfl rfl (aa h0 (.inl rfl) rfl) fun a h0=>?_|refine L h0 rfl rfl (aa h0 (.inr rfl) rfl) fun a h0=>?_|refine L h0 rfl rfl (ab h0 rfl rfl) fun a h0=>?_);(first|refine L h0 rfl rfl (aa h0 (.inl rfl) rfl) fun a h0=>?_|refine L h0 rfl rfl (aa h0 (.inr rfl) rfl) fun a h0=>?_|refine L h0 rfl rfl (ab h0 rfl rfl) fun a h0=>?_)
   refine L h0 rfl rfl (aH h0 rfl rfl rfl G.u32 G.o24 hjN) fun a h0=>?_
   refine L h0 rfl rfl (ai (v:=vj) h0 rfl rfl G.o24 c5.1 (by simpa using hvj)) fun a h0=>?_
   (first|refine L h0 rfl rfl (aa h0 (.inl rfl) rfl) fun a h0=>?_|refine L h0 rfl rfl (aa h0 (.inr rfl) rfl) fun a h0=>?_|refine L h0 rfl rfl (ab h0 rfl rfl) fun a h0=>?_)
   refine rM h0 rfl rfl rfl rfl rfl rfl rfl rfl rfl (by simp) G.u24 G.o3 rfl rfl xj (by simp;omega) fun v6 w6 R6 a x6 u6 one1 one2 h0=>?_
   have c6:=c5.up u6 (by simp;omega)
   have m6:=m5.up u6 (by simp;omega)
   refine L h0 rfl rfl (aH h0 rfl rfl rfl G.u32 G.o24 hjN) fun a h0=>?_
   refine Lst h0 rfl rfl rfl rfl rfl G.o24 one1 one2 c6 (by rw[p5.1];omega) fun w7 c7 u7=>?_
   have p6:=(p5.app hlj x6 u6).up u7 (by simp)
   have m7:=m6.up u7 (by simp)
   have gN:∀x∈ [1000+j],x∈SE ss.length:=fun x hx=>by simp at hx;subst hx;simp[SE,hjN]
   have u67:=(u6.mono gN).trans (u7.mono (S':=SE ss.length) (by simp[SE]))
   refine Le (ae ?_)
   refine L h0 rfl rfl (cC (q+1:Nat) h0 rfl rfl rfl (by omega) (by omega) (by omega)) fun a h0=>?_
   (first|refine L h0 rfl rfl (aa h0 (.inl rfl) rfl) fun a h0=>?_|refine L h0 rfl rfl (aa h0 (.inr rfl) rfl) fun a h0=>?_|refine L h0 rfl rfl (ab h0 rfl rfl) fun a h0=>?_)
   refine Le ⟨m' - 1,by omega,q+1,by omega,h0.keep [9,12,64,65,66,13,71,72,73],R6,ll.set j (lj++ [jb]),os.set j v6,⟨p6,by simpa using c7,m7,u5.trans u67⟩,⟨by simpa using C1,fun l hl x hx=>?_,fun i l u fX h2'=>?_⟩,u45.trans u67⟩
   ·rcases List.mem_or_eq_of_mem_set hl with h|h
    ·exact C2 l h x hx
    ·subst h
     rcases CC hx with h|h
     ·exact C2 lj (CE hlj) x h
     ·simp at h;subst h;exact hjb hcb
   ·by_cases hij:j=i
    ·subst hij
     rw[List.getElem?_set_self (by omega)]at fX
     cases fX
     rw[if_neg (by omega),if_pos rfl];simp;omega
    ·rw[List.getElem?_set_ne hij]at fX
     have:=C3 i l u fX h2'
     by_cases hi:i<j
     ·rw[if_pos hi]at this ⊢;exact this
     ·rw[if_neg hi,if_neg (fun e=>hij e.symm)]at this ⊢;exact this
  ·refine L h0 rfl rfl (cC (q+1:Nat) h0 rfl rfl rfl (by omega) (by omega) (by omega)) fun a h0=>?_
   (first|refine L h0 rfl rfl (aa h0 (.inl rfl) rfl) fun a h0=>?_|refine L h0 rfl rfl (aa h0 (.inr rfl) rfl) fun a h0=>?_|refine L h0 rfl rfl (ab h0 rfl rfl) fun a h0=>?_)
   refine Le ⟨m' - 1,by omega,q+1,by omega,h0.keep [9,12,64,65,66,13,71,72,73],R5,ll,os,⟨p5,c5,m5,u5⟩,⟨C1,C2,fun i l u fX h2'=>?_⟩,u45⟩
   have:=C3 i l u fX h2'
   by_cases hi:i<j
   ·rw[if_pos hi]at this ⊢;exact this
   ·rw[if_neg hi]at this ⊢
    by_cases hij:i=j
    ·rw[if_pos hij]at this ⊢;omega
    ·rw[if_neg hij]at this ⊢;exact this
 rintro _ a w4 ⟨rfl,h0,R4,ll,os,⟨p4,c4,_,u4⟩,gz,hx4,hlen4⟩
 refine ah (ae ?_)
 (first|refine L h0 rfl rfl (aa h0 (.inl rfl) rfl) fun a h0=>?_|refine L h0 rfl rfl (aa h0 (.inr rfl) rfl) fun a h0=>?_|refine L h0 rfl rfl (ab h0 rfl rfl) fun a h0=>?_);(first|refine L h0 rfl rfl (aa h0 (.inl rfl) rfl) fun a h0=>?_|refine L h0 rfl rfl (aa h0 (.inr rfl) rfl) fun a h0=>?_|refine L h0 rfl rfl (ab h0 rfl rfl) fun a h0=>?_);(first|refine L h0 rfl rfl (aa h0 (.inl rfl) rfl) fun a h0=>?_|refine L h0 rfl rfl (aa h0 (.inr rfl) rfl) fun a h0=>?_|refine L h0 rfl rfl (ab h0 rfl rfl) fun a h0=>?_)
 have old:∀c,R4 c≠0→R4 c≠99→(if c<w0.heap.size then R c else 0)=0:=fun c ha hb=>by
  split
  ·rename_i hc
   have:=u4.2 c hc
   rcases hR c with h|h
   ·rw[h]at this;exact absurd this ha
   ·rw[h]at this;exact absurd this hb
  ·rfl
 have mS:=p4.rows (lo:=0) (R':=fun c=>if c<w0.heap.size then R c else 0) fun c hc=>⟨old c (by omega) (by omega),Nat.zero_le _⟩
 have hel:(cM ll).length=ss.length:=by simp[gz]
 have hrep:=ke (lo:=0) (cap:=ss.length) mS (by rw[p4.1,gz,hel]) c4.1 (by simp only[ne_eq,Classical.not_not];exact old bo (by rw[c4.2];decide) (by rw[c4.2];decide)) (Nat.zero_le _) (by omega) (List.take_length)
 rw[hel]at hrep
 refine Le (aP (lz h0 rfl rfl ⟨_,fin2 w4 R4 (SE ss.length) u4 (fun h=>by have:=oF h;omega) (fun h=>by have:=oF h;omega),eR2,.inr ⟨ll,sl bo ss.length,rfl,hrep,⟨gz,hq,hx4,fun i l u fX h2'=>?_⟩,by omega,hs⟩⟩))
 have:=hlen4 i l u fX h2'
 rw[if_pos (by have:=(CA h2').1;omega)]at this
 exact this
end Go.TL.H.Gq
namespace Go.TL.Gr
def fO:List (List Nat)→List Int→Nat
 |g::G,x::ws=>(if 0<x then g.length else 0)+fO G ws
 |_,_=>0
def zrW:List (List Nat)→List Int→Nat
 |g::G,x::ws=>(if x=0 then g.length else 0)+zrW G ws
 |_,_=>0
def dh(G:List (List Nat)):Nat:=(G.map List.length).sum
theorem vX:∀(G:List (List Nat)) (ws:List Int),fO G ws+zrW G ws≤dh G
 | [],_=>by simp[fO,zrW]
 |_::_,[]=>by simp[fO,zrW]
 |g::G,x::ws=>by
  have:=vX G ws
  simp only[fO,zrW,dh,List.map_cons,List.sum_cons]at this ⊢
  split<;>split<;>omega
theorem rN:∀{G:List (List Nat)} {ws:List Int} {u:Nat} {l:List Nat} {x:Int},G[u]? =some l→ws[u]? =some x→fO G (ws.set u (x - 1))+(if x=1 then l.length else 0)=fO G ws
 | [],_,u,l,x,h,_=>by simp at h
 |_::_,[],u,l,x,_,h=>by simp at h
 |g::G,y::ws,0,l,x,h1,h2=>by
  simp at h1 h2;subst h1;subst h2
  simp only[List.set_cons_zero,fO]
  split<;>split<;>split<;>omega
 |g::G,y::ws,u+1,l,x,h1,h2=>by
  have:=rN (G:=G) (ws:=ws) (u:=u) (l:=l) (x:=x) (by simpa using h1) (by simpa using h2)
  simp only[List.set_cons_succ,fO];omega
theorem xA{G:List (List Nat)}{ws:List Int}{j:Nat}{l:List Nat}{x:Int}(h1:G[j]? =some l)(h2:ws[j]? =some x):zrW (G.drop j) (ws.drop j)=(if x=0 then l.length else 0)+zrW (G.drop (j+1)) (ws.drop (j+1)):=by
 obtain⟨a1,a2⟩:=CA h1
 obtain⟨b1,b2⟩:=CA h2
 rw[List.drop_eq_getElem_cons a1,List.drop_eq_getElem_cons b1,a2,b2]
 rfl
def tW(F:List Nat)(G:List (List Nat))(t:List Nat):Nat:=(t.map fun x=>(G.getD (F.getD x 0) []).length).sum
theorem mP{F:List Nat}{G:List (List Nat)}{t s:List Nat}(h:t.Perm s):tW F G t=tW F G s:=(h.map _).sum_nat
theorem pn{F:List Nat}{G:List (List Nat)}{t l:List Nat}{x g:Nat}(h1:F[x]? =some g)(h2:G[g]? =some l):tW F G (x::t)=l.length+tW F G t:=by
 simp[tW,List.getD_eq_getElem?_getD,h1,h2]
theorem tf{F:List Nat}{G:List (List Nat)}{t l:List Nat}{x g:Nat}(h1:F[x]? =some g)(h2:G[g]? =some l):tW F G (t++ [x])=l.length+tW F G t:=by
 rw[mP List.perm_append_comm];exact pn h1 h2
theorem rP{F:List Nat}{G:List (List Nat)}:∀{t:List Nat},(∀x∈t,∃g l,F[x]? =some g∧G[g]? =some l∧l≠ [])→t.length≤tW F G t
 | [],_=>Nat.zero_le _
 |x::t,h=>by
  obtain⟨g,l,h1,h2,h3⟩:=h x Cy
  rw[pn h1 h2,List.length_cons]
  have:=rP (F:=F) (G:=G) (t:=t) fun y hy=>h y (Cx _ hy)
  have:=List.length_pos_iff.2 h3
  omega
theorem qh(G:List (List Nat))(l:List Nat):dh (G++ [l])=dh G+l.length:=by simp[dh]
end Go.TL.Gr
