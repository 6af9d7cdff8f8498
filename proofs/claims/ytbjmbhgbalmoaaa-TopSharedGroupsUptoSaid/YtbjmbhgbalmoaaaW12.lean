/- The functions that copy values: structs; all of them, by a table. -/
import Derived.Test.YtbjmbhgbalmoaaaW11
namespace Go.TL.H
open Go
structure fA where
 i:Nat
 off:Nat
 n:Nat
 T:TypeId
 ag:Bool
 g:FuncId
def AP(T:TypeId)(k:Nat)(p:fA):Code:=
 rg [p1 k (.fieldAddr T (t 1) p.i),p1 (k+1) (.load p.T (t k)),p1 (k+2) (.call ⟨.value (.func p.g), #[t (k+1)], #[]⟩),p1 (k+3) (.fieldAddr T (t 1) p.i),p0 (.store p.T (t (k+3)) (t (k+2)))]
def osC(T:TypeId)(k:Nat):List fA→Code
 | []=> .seq (rg [p1 k (.load T (t 1)),p0 (.store T (t 2) (t k))]) .ret
 |p::l=> .seq (AP T k p) (osC T (k+4) l)
def nX(T:TypeId)(ps:List fA):Code:= .seq (rg [p1 1 (.box T (t 0)),p1 2 (.alloc T)]) (osC T 3 ps)
theorem bX{P:Program}{o:Oper}{a:Act}{w:World}{T:TypeId}{sz:Nat}{zs:List Value}(ho:o.op= .alloc T)(hE:El P T sz zs):(execOp a.eval o).run P w= .ok (.value (Ptr w.heap.size 0)) (w.alloc (.cells zs.toArray T)):=by
 obtain⟨i,z,hi,hs,hz,hzc,_⟩:=hE.is
 simp[execOp,ho,Instr.alloc,zeroValue,typeInfo,hi,hz,newVar,newRow,hzc]
theorem np(row:List PV)(k:Nat):rz row=rz (row.take k)+rz (row.drop k):=by
 induction row generalizing k with
 |nil=>simp[fc]
 |cons x xs ih=>
  cases k with
  |zero=>simp[fc]
  |succ k=>simp only[List.take_succ_cons,List.drop_succ_cons,dG];have:=ih k;omega
theorem zF(row:List PV)(off n:Nat):rz ((row.drop off).take n)≤rz row:=by
 have h1:=np row off
 have h2:=np (row.drop off) n
 omega
structure zG(P:Program)(w w1:World)(T:TypeId)(row:List PV)(zs:List Value)(eK:List PV)(cur:List Value)(S:Nat→Prop)(bnd:Nat):Prop where
 ch:Ch (fun _=>False) w w1
 b1:w1.heap[w.heap.size]? =some (.cells cur.toArray T (0,0))
 b2:w1.heap[w.heap.size+1]? =some (.cells zs.toArray T (0,0))
 len:cur.length=row.length
 oP:eK.length=row.length
 at':∀(j:Nat) (x:PV),eK[j]? =some x→∃u,cur[j]? =some u∧((S j∧Rep w1 NB (w.heap.size+2) x u∧(∀ck,(cks P T)[j]? =some ck→WR P ck x)∧row[j]? =some x.er)∨(¬ S j∧row[j]? =some x∧Rep w NB 0 x u))
 bnd:∀j,S j→j<bnd
theorem rW{P:Program}{T:TypeId}{n:Nat}{tmps:Array Value}{w:World}{b:Nat}{cs:List Value}{bt:TypeId}{fz:Nat×Nat}{x:Nat}(hT:Tp P T true n)(hx:tmps.getD x undef=Ptr b 0)(hl:cs.length=n)(hb:w.heap[b]? =some (.cells cs.toArray bt fz)):
  (gh tmps (.cell x T)).run P w= .ok (.agg cs.toArray) w:=by
 obtain⟨i,hi,ha,hs⟩:=hT.is
 have eL:=eT (P:=P) (w:=w) (b:=b) (o:=0) (vs:=cs) ha hi (fun j u hj=>by rw[dF hb];simpa using hj) (by omega) (fun h=>by cases h)
 simp only[gh,Sem.run_bind,hx,asAddr,Sem.run_pure,Result.andThen_ok]
 simpa[Instr.loadAt,Instr.sureAddr]using eL
section
variable {P:Program} {O:FuncId→TypeId→Bool→Prop} {w:World} {T:TypeId} {row:List PV} {vs zs:List Value} {N sz n:Nat}
def jG(P:Program)(T:TypeId):Nat→List fA→Prop
 |_,[]=>True
 |bnd,p::l=>bnd≤p.off∧p.off+p.n≤(cks P T).length∧(∃sz,aO P T p.i=some (p.off,sz))∧Tp P p.T p.ag p.n∧(cks P p.T).length=p.n∧(∀j,j<p.n→(cks P T)[p.off+j]? =(cks P p.T)[j]?)∧jG P T (p.off+p.n) l
theorem uS(hE:El P T sz zs)(hTp:Tp P T true sz)(db:(cks P T).length=sz)(bL:Ty P T row)(hN:rz row≤N):
  ∀(l:List fA) (k bnd:Nat) (eK:List PV) (cur:List Value) (S:Nat→Prop) (a:Act) (w1:World) (sl:aT),jG P T bnd l→(∀p∈l,aD P p.g=true∧jF P p.g p.T p.ag N)→zG P w w1 T row zs eK cur S bnd→SL n sl a→
    lk sl 1=some (Ptr w.heap.size 0)→lk sl 2=some (Ptr (w.heap.size+1) 0)→3≤k→k+4*l.length+1≤n→(∀(j:Nat) (e:TypeId),(cks P T)[j]? =some (.sl e)→S j∨∃p∈l,p.off≤j∧j<p.off+p.n)→
    NW P (osC T k l) (fin P [.cell 2 T] fun v' w'=>Ch (fun _=>False) w w'∧∃eJ bP,v'=pk true bP∧Cw w' w.heap.size eJ bP∧TyR P T eJ∧cL eJ=row) a w1
 | [],k,bnd,eK,cur,S,a,w1,sl,_,_,hI,hs,h1,h2,hk,hkn,hcov=>by
  have hd:dok n (some k)=true:=Nat.ble_eq_true_of_le (by simp at hkn;omega)
  have htl:=((aI _ _).1 bL).1
  have hcl:cur.length=sz:=by rw[hI.len,htl,db]
  refine ah (ae ?_)
  refine L hs rfl hd (bs (ag:=true) cur hs rfl h1 hTp hcl hI.b1 (fun j u hj=>by simpa using hj)) fun a hs=>?_
  have mR:∀u∈cur,u.oneCell'=true:=by
   intro u hu
   obtain⟨j,hj,rfl⟩:=List.mem_iff_getElem.1 hu
   have hjc:j<eK.length:=by rw[hI.oP, ←hI.len];exact hj
   obtain⟨u',e1,e2⟩:=hI.at' j eK[j] (by simp)
   simp[hj]at e1
   rw[e1]
   rcases e2 with⟨_,h,_⟩|⟨_,_,h⟩
   ·exact h.one
   ·exact h.one
  have hzl:zs.length=sz:=hE.len
  refine Ls hs rfl rfl (kX (ag:=true) cur hs rfl (by simp only[ev,bz];rw[av _ _ _ _ (by omega)];exact h2) (aE _ _ _) hTp hcl mR hI.b2 (by simp[hzl])) fun hs=>?_
  have hfull:(spl zs.toArray.toList 0 cur).toArray=cur.toArray:=by simp[spl,hzl,hcl]
  rw[hfull]
  have a8:=Ch.setRow w1 (w.heap.size+1) cur.toArray
  have cF:=setRow_heap w1 (w.heap.size+1) _ cur.toArray _ _ hI.b2
  have hx2:a.tmps.getD 2 undef=Ptr (w.heap.size+1) 0:=hs.az 2 _ (by simp only[bz];rw[av _ _ _ _ (by omega)];exact h2)
  refine Le (aP ⟨hs.defers,_,⟨[.agg cur.toArray],by simp[rW hTp hx2 hcl cF],rfl⟩,hI.ch.trans' a8 fun b hb h=>by omega,eK,cur,rfl,⟨by rw[hI.len,hI.oP],fun j x hj=>?_⟩,?_,?_⟩)
  ·obtain⟨u,e1,e2⟩:=hI.at' j x hj
   refine⟨u,e1,?_⟩
   rcases e2 with⟨_,h,_⟩|⟨hn,hr,h⟩
   ·exact Rep.down (Rep.ch h a8 fun b hb h=>by omega) (by omega)
   ·have cd:j<(cks P T).length:=by rw[←htl];exact(CA hr).1
    have aX:(cks P T)[j]? =some (cks P T)[j]:=by simp[cd]
    have hw:=((aI _ _).1 bL).2 j _ x aX hr
    generalize(cks P T)[j]=ck at aX hw
    cases hw with
    |int k m _ _=>have:=ji h;subst this;exact .v _ rfl
    |bool y=>have:=ji h;subst this;exact .v _ rfl
    |str y _=>have:=ji h;subst this;exact .v _ rfl
    |iz y _=>exact absurd rfl (gS hTp.is.choose_spec.2.1 aX).1
    |any=>exact absurd rfl (gS hTp.is.choose_spec.2.1 aX).2
    |sl e rows _ _ _=>
     rcases hcov j e aX with h'|⟨p,hp,_⟩
     ·exact absurd h' hn
     ·simp at hp
  ·unfold TyR
   rw[dt]
   refine⟨by rw[hI.oP,htl],fun j ck x aX hx=>?_⟩
   obtain⟨u,e1,e2⟩:=hI.at' j x hx
   rcases e2 with⟨_,_,h,_⟩|⟨hn,hr,h⟩
   ·exact h ck aX
   ·have hw:=((aI _ _).1 bL).2 j _ x aX hr
    cases hw with
    |int k m q1 q2=>exact .int k m q1 q2
    |bool y=>exact .bool y
    |str y q=>exact .str y q
    |iz y _=>exact absurd rfl (gS hTp.is.choose_spec.2.1 aX).1
    |any=>exact absurd rfl (gS hTp.is.choose_spec.2.1 aX).2
    |sl e rows _ _ _=>
     rcases hcov j e aX with h'|⟨p,hp,_⟩
     ·exact absurd h' hn
     ·simp at hp
  ·apply List.ext_getElem?
   intro j
   rw[eO]
   cases hj:eK[j]? with
   |none=>
    have:row.length≤j:=by rw[←hI.oP];exact List.getElem?_eq_none_iff.1 hj
    rw[List.getElem?_eq_none this];rfl
   |some x=>
    obtain⟨u,e1,e2⟩:=hI.at' j x hj
    rcases e2 with⟨_,_,_,h⟩|⟨hn,hr,h⟩
    ·rw[h];rfl
    ·rw[hr]
     have cd:j<(cks P T).length:=by rw[←htl];exact(CA hr).1
     have aX:(cks P T)[j]? =some (cks P T)[j]:=by simp[cd]
     have hw:=((aI _ _).1 bL).2 j _ x aX hr
     generalize(cks P T)[j]=ck at aX hw
     cases hw with
     |int k m _ _=>rfl
     |bool y=>rfl
     |str y _=>rfl
     |iz y _=>exact absurd rfl (gS hTp.is.choose_spec.2.1 aX).1
     |any=>exact absurd rfl (gS hTp.is.choose_spec.2.1 aX).2
     |sl e rows _ _ _=>
      rcases hcov j e aX with h'|⟨p,hp,_⟩
      ·exact absurd h' hn
      ·simp at hp
 |p::l,k,bnd,eK,cur,S,a,w1,sl,hP,hO,hI,hs,h1,h2,hk,hkn,hcov=>by
  obtain⟨q1,q2,⟨fsz,q3⟩,q4,q5,q6,q7⟩:=hP
  obtain⟨aC,hC⟩:=hO p (by simp)
  simp only[List.length_cons]at hkn
  have hd:∀j,j<4→dok n (some (k+j))=true:=fun j hj=>Nat.ble_eq_true_of_le (by omega)
  have htl:=((aI _ _).1 bL).1
  have hrl:p.off+p.n≤eK.length:=by rw[hI.oP,htl];exact q2
  have hcl:p.off+p.n≤cur.length:=by rw[hI.len,htl];exact q2
  have gN:∀(j:Nat) (x:PV),((eK.drop p.off).take p.n)[j]? =some x→j<p.n∧row[p.off+j]? =some x∧∃u,cur[p.off+j]? =some u∧Rep w NB 0 x u:=by
   intro j x hj
   rw[List.getElem?_take]at hj
   split at hj
   ·rename_i hjn
    rw[List.getElem?_drop]at hj
    obtain⟨u,e1,e2⟩:=hI.at' _ x hj
    rcases e2 with⟨hS,_⟩|⟨_,hr,h⟩
    ·have:=hI.bnd _ hS;omega
    ·exact⟨hjn,hr,u,e1,h⟩
   ·cases hj
  have hcw:Cw w1 0 ((eK.drop p.off).take p.n) ((cur.drop p.off).take p.n):=by
   refine⟨by simp;omega,fun j x hj=>?_⟩
   obtain⟨hjn,_,u,e1,e2⟩:=gN j x hj
   exact⟨u,by rw[List.getElem?_take,if_pos hjn,List.getElem?_drop];exact e1,Rep.ch e2 hI.ch fun _ _ h=>h⟩
  have dk:(eK.drop p.off).take p.n=(row.drop p.off).take p.n:=by
   apply List.ext_getElem?
   intro j
   rw[List.getElem?_take,List.getElem?_take]
   split
   ·rename_i hjn
    rw[List.getElem?_drop,List.getElem?_drop]
    have hx:eK[p.off+j]? =some (eK[p.off+j]'(by omega)):=by simp
    have:=gN j _ (by rw[List.getElem?_take,if_pos hjn,List.getElem?_drop];exact hx)
    rw[hx,this.2.1]
   ·rfl
  have hpty:Ty P p.T ((eK.drop p.off).take p.n):=by
   unfold Ty
   rw[aI]
   refine⟨by rw[q5];simp;omega,fun j ck x aX hx=>?_⟩
   obtain⟨hjn,hr,_⟩:=gN j x hx
   exact((aI _ _).1 bL).2 (p.off+j) ck x (by rw[q6 j hjn];exact aX) hr
  have hprz:rz ((eK.drop p.off).take p.n)≤N:=by rw[dk];exact Nat.le_trans (zF _ _ _) hN
  refine ah (ae ?_)
  refine L hs rfl (hd 0 (by omega)) (ak hs rfl h1 q3) fun a hs=>?_
  rw[Nat.zero_add]at hs
  refine L hs rfl (hd 1 (by omega)) (bs ((cur.drop p.off).take p.n) hs rfl (aE _ _ _) q4 (by simp;omega) hI.b1 (fun j u hj=>by
   rw[List.getElem?_take]at hj
   split at hj
   ·rw[List.getElem?_drop]at hj;simpa using hj
   ·cases hj)) fun a hs=>?_
  refine Lc hs rfl (hd 2 (by omega)) rfl rfl (vs:=[pk p.ag ((cur.drop p.off).take p.n)]) (by simp only[evs,ev,bz];rw[aE]) aC (hC w1 _ _ hcw hpty hprz) fun v2 w2 a hR hs=>?_
  obtain⟨fq,row2,cW,rfl,cj,gd,her2⟩:=hR
  have hl2r:row2.length=p.n:=by
   unfold TyR at gd
   rw[dt]at gd
   rw[gd.1,q5]
  have dQ:cW.length=p.n:=by rw[cj.len,hl2r]
  refine L hs rfl (hd 3 (by omega)) (ak (x:=t 1) (b:=w.heap.size) (o':=0) hs rfl (by simp only[ev,bz];rw[av _ _ _ _ (by omega),av _ _ _ _ (by omega),av _ _ _ _ (by omega)];exact h1) q3) fun a hs=>?_
  rw[Nat.zero_add]at hs
  have cq:=fq.at hI.b1 fun h=>h
  have dx:p.off+cW.length≤cur.length:=by omega
  refine Ls hs rfl rfl (kX cW hs rfl (aE _ _ _) (by simp only[ev,bz];rw[av _ _ _ _ (by omega),aE]) q4 dQ cj.one cq (by simp;omega)) fun hs=>?_
  have fZ:=mg cur p.off cW dx
  have hgetr:=mg eK p.off row2 (by omega)
  have ga:=Ch.setRow w2 w.heap.size (spl cur.toArray.toList p.off cW).toArray
  have hlt1:=aq hI.b1
  have hlt2:=aq hI.b2
  have hI':zG P w (w2.setRow w.heap.size (spl cur.toArray.toList p.off cW).toArray) T row zs (spl eK p.off row2) (spl cur p.off cW) (fun j=>S j∨(p.off≤j∧j<p.off+p.n)) (p.off+p.n):=by
   refine⟨(hI.ch.trans fq).trans' ga fun b hb h=>by omega,setRow_heap _ _ _ _ _ _ cq,?_,by rw[jj _ _ _ dx];exact hI.len,by rw[jj _ _ _ (by omega)];exact hI.oP,?_,?_⟩
   ·rw[setRow_other _ _ _ _ (by omega)];exact fq.at hI.b2 fun h=>h
   ·intro j x hj
    rw[hgetr]at hj
    rw[fZ]
    split at hj
    ·rename_i hr
     rw[if_pos (by omega)]
     obtain⟨u,e1,e2⟩:=cj.rep _ x hj
     refine⟨u,e1,.inl ⟨.inr (by omega),Rep.ch (Rep.down e2 (by omega)) ga fun b hb h=>by omega,fun ck aX=>?_,?_⟩⟩
     ·unfold TyR at gd
      rw[dt]at gd
      have:=q6 (j - p.off) (by omega)
      rw[show p.off+(j - p.off)=j by omega]at this
      exact gd.2 (j - p.off) ck x (by rw[←this];exact aX) hj
     ·have he:(cL row2)[j - p.off]? =some x.er:=by rw[eO,hj];rfl
      rw[her2,dk,List.getElem?_take,if_pos (by omega),List.getElem?_drop,show p.off+(j - p.off)=j by omega]at he
      exact he
    ·rename_i hr
     rw[if_neg (by omega)]
     obtain⟨u,e1,e2⟩:=hI.at' j x hj
     refine⟨u,e1,?_⟩
     rcases e2 with⟨hS,h,h3,h4⟩|⟨hn,eL,h⟩
     ·exact .inl ⟨.inl hS,Rep.ch (Rep.ch h fq fun _ _ h=>h) ga fun b hb h=>by omega,h3,h4⟩
     ·exact .inr ⟨by rintro(h|h);exact hn h;omega,eL,h⟩
   ·rintro j (h|h)
    ·have:=hI.bnd j h;omega
    ·exact h.2
  refine Le (uS hE hTp db bL hN l (k+4) _ _ _ _ a _ _ q7 (fun p' hp'=>hO p' (by simp[hp'])) hI' hs ?_ ?_ (by omega) (by omega) ?_)
  ·simp only[bz]
   rw[av _ _ _ _ (by omega),av _ _ _ _ (by omega),av _ _ _ _ (by omega),av _ _ _ _ (by omega)];exact h1
  ·simp only[bz]
   rw[av _ _ _ _ (by omega),av _ _ _ _ (by omega),av _ _ _ _ (by omega),av _ _ _ _ (by omega)];exact h2
  ·intro j e hj
   rcases hcov j e hj with h|⟨p',hp',h⟩
   ·exact .inl (.inl h)
   ·rcases CD hp' with rfl|hp'
    ·exact .inl (.inr h)
    ·exact .inr ⟨p',hp',h⟩
end
theorem zH{P:Program}{f:FuncId}{T:TypeId}{sz N:Nat}{zs:List Value}{ps:List fA}(hB:Body P f (4+4*ps.length) [.cell 2 T] (nX T ps))(hE:El P T sz zs)(hTp:Tp P T true sz)(db:(cks P T).length=sz)(hP:jG P T 0 ps)
  (hO:∀p∈ps,aD P p.g=true∧jF P p.g p.T p.ag N)(hcov:∀(j:Nat) (e:TypeId),(cks P T)[j]? =some (.sl e)→∃p∈ps,p.off≤j∧j<p.off+p.n):jF P f T true N:=by
 intro w row vs hc bL hN
 refine aJ hB ?_
 have hs:=SL.init (n:=4+4*ps.length) [pk true vs] (Nat.ble_eq_true_of_le (by simp;omega))
 revert hs
 generalize({tmps:=_,defers:=[]}:Act)=a
 intro hs
 refine ah (ae ?_)
 refine L hs rfl (Nat.ble_eq_true_of_le (by omega)) (bC hs rfl rfl) fun a hs=>?_
 have hcv:(pk true vs).cells=vs.toArray:=rfl
 rw[hcv]
 have g1:=Ch.alloc (fun _=>False) w (.cells vs.toArray T)
 have g2:=Ch.alloc (fun _=>False) (w.alloc (.cells vs.toArray T)) (.cells zs.toArray T)
 have e1:(w.alloc (.cells vs.toArray T)).heap.size=w.heap.size+1:=by simp
 refine L hs rfl (Nat.ble_eq_true_of_le (by omega)) (bX rfl hE) fun a hs=>?_
 refine Le (uS hE hTp db bL hN ps 3 0 row vs (fun _=>False) a _ _ hP hO ⟨g1.trans g2,g2.at (heap_alloc_new w _) fun h=>h,?_,hc.len,rfl,fun j x hj=>?_,fun j h=>h.elim⟩ hs rfl (by rw[e1];rfl) (by omega) (by omega) fun j e h=> .inr (hcov j e h))
 ·have:=heap_alloc_new (w.alloc (.cells vs.toArray T)) (.cells zs.toArray T)
  rw[e1]at this;exact this
 ·obtain⟨u,h1,h2⟩:=hc.rep j x hj
  exact⟨u,h1,.inr ⟨fun h=>h,hj,h2⟩⟩
inductive Od where
 |cp(L e:TypeId)(sz:Nat)(zs:List Value)
 |ls(L e:TypeId)(sz:Nat)(ag:Bool)(zs:List Value)(cp one:FuncId)
 |st(T:TypeId)(sz:Nat)(zs:List Value)(ps:List fA)
structure eY where
 od:Od
 bp:Nat
def eY.t(r:eY):TypeId:=match r.od with| .cp L _ _ _=>L| .ls L _ _ _ _ _ _=>L| .st T _ _ _=>T
def eY.ag(r:eY):Bool:=match r.od with| .st _ _ _ _=>true|_=>false
abbrev lQ:=List (FuncId×eY)
def iE(P:Program)(y:TY)(O:lQ)(f:FuncId)(r:eY):Prop:=
 match r.od with
 | .cp L e sz zs=>Body P f 9 [.tmp 2] (fk y L)∧P.underlying L=some (.slice e)∧El P e sz zs∧ZOk P e zs∧(cks P e).length=sz∧cks P L=[.sl e]∧de (cks P e)=true
 | .ls L e sz ag zs cp one=>Body P f 21 [.tmp 2] (nW y L e cp one)∧Body P cp 9 [.tmp 2] (fk y L)∧P.underlying L=some (.slice e)∧El P e sz zs∧ZOk P e zs∧(cks P e).length=sz∧cks P L=[.sl e]∧Tp P e ag sz∧aD P one=true∧
   ∃r1,lk O one=some r1∧r1.t=e∧r1.ag=ag
 | .st T sz zs ps=>Body P f (4+4*ps.length) [.cell 2 T] (nX T ps)∧El P T sz zs∧Tp P T true sz∧(cks P T).length=sz∧jG P T 0 ps∧(∀p∈ps,aD P p.g=true∧∃r1,lk O p.g=some r1∧r1.t=p.T∧r1.ag=p.ag∧r1.bp<r.bp)∧
   ∀(j:Nat) (e:TypeId),(cks P T)[j]? =some (.sl e)→∃p∈ps,p.off≤j∧j<p.off+p.n
theorem zI{P:Program}{y:TY}{O:lQ}(hO:∀f r,lk O f=some r→iE P y O f r):∀(N rk:Nat) (f:FuncId) (r:eY),lk O f=some r→r.bp≤rk→jF P f r.t r.ag N:=by
 intro N
 induction N using Nat.strongRecOn with
 |_ N ihN=>
  intro rk
  induction rk using Nat.strongRecOn with
  |_ rk ihr=>
   intro f r hf hrk
   have dx:=hO f r hf
   unfold iE at dx
   split at dx
   ·rename_i LT e sz zs hod
    obtain⟨h1,h2,h3,h4,h5,h6,h7⟩:=dx
    have e1:r.t=LT:=by simp[eY.t,hod]
    have e2:r.ag=false:=by simp[eY.ag,hod]
    rw[e1,e2]
    exact zD h1 h2 h3 h4 h5 h6 h7 N
   ·rename_i LT e sz ag zs cp one hod
    obtain⟨h1,h2,h3,h4,h5,h6,h7,h8,h9,r1,k1,k2,k3⟩:=dx
    have e1:r.t=LT:=by simp[eY.t,hod]
    have e2:r.ag=false:=by simp[eY.ag,hod]
    rw[e1,e2]
    refine zE h1 h2 h3 h4 h5 h6 h7 h8 h9 fun M hM=>?_
    have:=ihN M hM r1.bp one r1 k1 (Nat.le_refl _)
    rw[k2,k3]at this;exact this
   ·rename_i T sz zs ps hod
    obtain⟨h1,h2,h3,h4,h5,h6,h7⟩:=dx
    have e1:r.t=T:=by simp[eY.t,hod]
    have e2:r.ag=true:=by simp[eY.ag,hod]
    rw[e1,e2]
    refine zH h1 h2 h3 h4 h5 (fun p hp=>?_) h7
    obtain⟨q1,r1,q2,q3,q4,q5⟩:=h6 p hp
    have:=ihr r1.bp (by omega) p.g r1 q2 (Nat.le_refl _)
    rw[q3,q4]at this;exact⟨q1,this⟩
end Go.TL.H
namespace Go.TL.H
open Go
theorem yy{P:Program}{w:World}{lo:Nat}{c:aK}(hc:∀b o,w.heap[b]? =some o→lo≤b→c b=some o){x:PV}{v:Value}(h:Rep w NB lo x v):∀ck,WR P ck x→∃d,WZ P true true c d ck v:=by
 induction h with
 |v x hx=>
  intro ck hw
  cases hw with
  |int k n h1 h2=>exact⟨0,.int 0 k n h1 h2⟩
  |bool x=>exact⟨0,.bool 0 x⟩
  |str x h=>exact⟨0,.str 0 x h⟩
 |nil b c=>intro ck hw;cases hw
 |sl rows b off cap cs t fz sz f dS hb bh aV dZ hlen hcc hr ih=>intro ck hw;cases hw
 |jv=>intro ck hw;cases hw
 |un x hx=>intro ck hw;cases hw
 |ls row rows b o cs t fz f hb bh aV hc hr ih=>intro ck hw;cases hw
 |jw a=>intro ck hw;cases hw
 |mp a rows b es clock f hb bh aV hc hr ih=>intro ck hw;cases hw
 |j2=>intro ck hw;cases hw with|rm e len rows=>exact⟨0,.nil 0 e none 0 fun _=>⟨rfl,rfl⟩⟩
 |rm len rows b off cs t sz f dS hb bh aV hlen hcc hr ih=>
  intro ck hw
  cases hw with
  |rm e _ _ hle hm dE hl hww=>
   have dk:∀i,i<rows.length→∃d,∀(j:Nat) (ck:CK),(cks P e)[j]? =some ck→WZ P true true c d ck (f i j):=by
    intro i hi
    have iB:rows[i]? =some rows[i]:=by simp[hi]
    have e7:=CE iB
    have gz:=hl _ e7
    obtain⟨d,hd⟩:=fI (p:=fun j d=>∀ck,(cks P e)[j]? =some ck→WZ P true true c d ck (f i j)) (fun j d d' hdd hp ck aX=>(hp ck aX).up d' hdd) (cks P e).length fun j hj=>by
     have hjr:j<rows[i].length:=by omega
     obtain⟨d,hd⟩:=ih i rows[i] j rows[i][j] iB (by simp[hjr]) (cks P e)[j] (hww _ e7 j _ _ (by simp[hj]) (by simp[hjr]))
     exact⟨d,fun ck aX=>by simp[hj]at aX;subst aX;exact hd⟩
    exact⟨d,fun j ck aX=>hd j (CA aX).1 ck aX⟩
   obtain⟨d,hd⟩:=fI (p:=fun i d=>∀(j:Nat) (ck:CK),(cks P e)[j]? =some ck→WZ P true true c d ck (f i j)) (fun i d d' hdd hp j ck aX=>(hp j ck aX).up d' hdd) rows.length dk
   refine⟨d+1,.sl d e b off len rows.length cs t (0,0) f (hc b _ hb aV) (fun _=>rfl) dS hm (fun _=>dE) (fun i hi j ck aX=>?_) (fun _ _ _ _ h=>by omega) fun i hi j ck aX=>hd i (by simpa using hi) j ck aX⟩
   have hi':i<rows.length:=by simpa using hi
   have iB:rows[i]? =some rows[i]:=by simp[hi']
   have gz:=hl _ (CE iB)
   have hj:j<(cks P e).length:=(CA aX).1
   have hjr:j<rows[i].length:=by omega
   have db:sz=(cks P e).length:=by rw[←gz,hlen i _ iB]
   rw[←db]
   exact hcc i rows[i] j rows[i][j] iB (by simp[hjr])
def dD(P:Program)(w:World):Prop:=xN P w.heap.size w
theorem dD.ch{P:Program}{w w':World}(h:dD P w)(hc:Ch (fun _=>False) w w'):dD P w':=fun g hg=>by
 obtain⟨h1,cs,t,fz,h2,h3⟩:=h g hg
 exact⟨Nat.lt_of_lt_of_le h1 hc.size,cs,t,fz,hc.at h2 fun h=>h,h3⟩
theorem dD.keep{P:Program}{w w':World}(h:dD P w)(hs:w.heap.size≤w'.heap.size)(hk:∀(b:Nat) (o:Obj),w.heap[b]? =some o→w'.heap[b]? =some o):dD P w':=fun g hg=>by
 obtain⟨h1,cs,t,fz,h2,h3⟩:=h g hg
 exact⟨Nat.lt_of_lt_of_le h1 hs,cs,t,fz,hk g _ h2,h3⟩
def ie:CK→Bool
 | .iz| .any=>false
 | .sl e=> !Nat.ble 1000000 e
 |_=>true
def Met(P:Program)(wr:Bool)(E:TypeId→Prop):Prop:=∀e,E e→∀ck∈cks P e,(wr=true∨ck≠ .bool)∧ie ck=true∧∀e',ck= .sl e'→E e'
def tI(n:Nat):TypeDesc→Bool
 | .slice e=>Nat.blt e n
 | .named _ u=>Nat.blt u n
 | .struct fs=>fs.toList.all fun f=>Nat.blt f.type n
 |_=>true
def jq(P:Program):Bool:=Nat.ble P.types.size 1000000 && P.types.toList.all fun i=>tI P.types.size i.desc
theorem pI{P:Program}(h:jq P=true){t:TypeId}(ht:t<P.types.size):∃i,P.info? t=some i∧tI P.types.size i.desc=true:=by
 simp only[jq,Bool.and_eq_true]at h
 refine⟨P.types[t],?_,List.all_eq_true.1 h.2 _ (by simp)⟩
 unfold Tables.info?
 rw[if_pos ht];simp[ht]
theorem pJ{P:Program}(h:jq P=true){t:TypeId}(ht:t<P.types.size):∃d,P.underlying t=some d∧tI P.types.size d=true:=by
 obtain⟨i,hi,hd⟩:=pI h ht
 unfold Program.underlying
 rw[hi]
 split
 ·rename_i u _ _ _ _ _ _ _ _ _ he
  simp only[Ct]at he;subst he
  obtain⟨j,hj,hdj⟩:=pI h (t:=u) (Cz hd)
  exact⟨j.desc,by rw[hj];rfl,hdj⟩
 ·rename_i he;simp only[Ct]at he;subst he;exact⟨_,rfl,hd⟩
 ·rename_i he;cases he
theorem qM{P:Program}(h:jq P=true):∀(n:Nat) (t:TypeId),t<P.types.size→∀c∈dC P n t,ie c=true∧∀e,c= .sl e→e<P.types.size
 |0,t,_,c,hc=>by simp only[dC,List.mem_singleton]at hc;subst hc;exact⟨rfl,fun e he=>by cases he⟩
 |n+1,t,ht,c,hc=>by
  obtain⟨d,hd,hb⟩:=pJ h ht
  unfold dC at hc
  rw[hd]at hc
  cases d<;>simp only[List.mem_singleton]at hc<;>first
   |(subst hc;exact⟨rfl,fun e he=>by cases he⟩)
   |skip
  ·rename_i e
   subst hc
   have he:e<P.types.size:=Cz hb
   have h1:P.types.size≤1000000:=by simp only[jq,Bool.and_eq_true]at h;exact Cz h.1
   refine⟨?_,fun e' he'=>by cases he';exact he⟩
   cases hx:Nat.ble 1000000 e with
   |true=>exact absurd (Nat.lt_of_lt_of_le he h1) (Nat.not_lt.2 (Cz hx))
   |false=>simp[ie,hx]
  ·obtain⟨x,h1,h2⟩:=nn hc
   exact qM h n _ (Cz (List.all_eq_true.1 hb x h1)) c h2
theorem wB{P:Program}(h:jq P=true){t:TypeId}(ht:t<P.types.size):∀c∈cks P t,ie c=true∧∀e,c= .sl e→e<P.types.size:=by
 intro c hc
 obtain⟨d,hd,_⟩:=pJ h ht
 unfold cks at hc
 rw[hd]at hc
 exact qM h _ _ ht c hc
theorem wC{P:Program}(h:jq P=true):Met P true fun e=>e<P.types.size:=fun _ he c hc=>⟨.inl rfl,wB h he c hc⟩
def tJ(P:Program)(ks:List CK):Bool:=jq P && ks.all fun c=>ie c && (match c with| .sl e=>Nat.blt e P.types.size|_=>true)
theorem wD{P:Program}{ks:List CK}(h:tJ P ks=true):jq P=true∧(∀c∈ks,ie c=true)∧∀e,.sl e∈ks→e<P.types.size:=by
 simp only[tJ,Bool.and_eq_true,List.all_eq_true]at h
 exact⟨h.1,fun c hc=>(h.2 c hc).1,fun e he=>Cz (h.2 _ he).2⟩
theorem wE{P:Program}{w:World}{lo:Nat}{c:aK}{wr:Bool}{E:TypeId→Prop}(hE:Met P wr E)(hlo0:wr=true→0<lo)(hc:∀b o,w.heap[b]? =some o→lo≤b→c b=some o){x:PV}{v:Value}(h:Rep w NB lo x v):
  ∀ck,(∀e,ck= .sl e→E e)→ie ck=true→WT P ck x→∃d,WZ P wr false c d ck v:=by
 induction h with
 |v x hx=>
  intro ck _ hpk hw
  cases hw with
  |int k n h1 h2=>exact⟨0,.int 0 k n h1 h2⟩
  |bool x=>exact⟨0,.bool 0 x⟩
  |str x h=>exact⟨0,.str 0 x h⟩
  |iz x h=>cases hpk
 |nil b cp=>intro ck _ hpk hw;cases hw with|sl e rows=>exact⟨0,.nil 0 e b cp fun h=>by cases h⟩
 |jv=>intro ck _ hpk hw;cases hw
 |un x hx=>intro ck _ hpk hw;cases hw;cases hpk
 |ls row rows b o cs t fz f hb bh aV hc hr ih=>intro ck _ hpk hw;cases hw
 |jw a=>intro ck _ hpk hw;cases hw
 |mp a rows b es clock f hb bh aV hc hr ih=>intro ck _ hpk hw;cases hw
 |j2=>intro ck _ hpk hw;cases hw
 |rm len rows b off cs t sz f dS hb bh aV hlen hcc hr ih=>intro ck _ hpk hw;cases hw
 |sl rows b off cap cs t fz sz f dS hb bh aV dZ hlen hcc hr ih=>
  intro ck hck0 hpk hw
  cases hw with
  |sl e _ hm hl hww=>
   have hm:rows.length≤ew:=by rw[j4 (by simpa[ie]using hpk)]at hm;exact hm
   have hEe:=hck0 e rfl
   have dk:∀i,i<rows.length→∃d,∀(j:Nat) (ck:CK),(cks P e)[j]? =some ck→WZ P wr false c d ck (f i j):=by
    intro i hi
    have iB:rows[i]? =some rows[i]:=by simp[hi]
    have e7:=CE iB
    have gz:=hl _ e7
    obtain⟨d,hd⟩:=fI (p:=fun j d=>∀ck,(cks P e)[j]? =some ck→WZ P wr false c d ck (f i j)) (fun j d d' hdd hp ck aX=>(hp ck aX).up d' hdd) (cks P e).length fun j hj=>by
     have hjr:j<rows[i].length:=by omega
     obtain⟨d,hd⟩:=ih i rows[i] j rows[i][j] iB (by simp[hjr]) (cks P e)[j] (hE e hEe _ (List.getElem_mem hj)).2.2 (hE e hEe _ (List.getElem_mem hj)).2.1 (hww _ e7 j _ _ (by simp[hj]) (by simp[hjr]))
     exact⟨d,fun ck aX=>by simp[hj]at aX;subst aX;exact hd⟩
    exact⟨d,fun j ck aX=>hd j (CA aX).1 ck aX⟩
   obtain⟨d,hd⟩:=fI (p:=fun i d=>∀(j:Nat) (ck:CK),(cks P e)[j]? =some ck→WZ P wr false c d ck (f i j)) (fun i d d' hdd hp j ck aX=>(hp j ck aX).up d' hdd) rows.length dk
   have hf0:wr=true→fz=(0,0):=fun h=>dZ (hlo0 h)
   refine⟨d+1,.sl d e b off rows.length cap cs t fz f (hc b _ hb aV) hf0 dS hm (fun h=>by cases h) (fun i hi j ck aX=>?_) (fun i hi j hj=>?_) fun i hi j ck aX=>hd i (by simpa using hi) j ck aX⟩
   ·have hi':i<rows.length:=by simpa using hi
    have iB:rows[i]? =some rows[i]:=by simp[hi']
    have gz:=hl _ (CE iB)
    have hj:j<(cks P e).length:=(CA aX).1
    have hjr:j<rows[i].length:=by omega
    have db:sz=(cks P e).length:=by rw[←gz,hlen i _ iB]
    rw[←db]
    exact hcc i rows[i] j rows[i][j] iB (by simp[hjr])
   ·rcases(hE e hEe _ (CE hj)).1 with h|h
    ·rw[hf0 h];simp
    ·exact absurd rfl h
theorem yz{P:Program}{w:World}{lo b o:Nat}{c:aK}(hc:∀b o,w.heap[b]? =some o→lo≤b→c b=some o){row:List PV}{vs:List Value}{ks:List CK}{cs:Array Value}{bt:TypeId}(hcw:Cw w lo row vs)(hw:WRs P ks row)(hb:c b=some (.cells cs bt (0,0)))
  (dR:∀(j:Nat) u,vs[j]? =some u→cs[o+j]? =some u):∃d,∀(j:Nat) (k:CK),ks[j]? =some k→Pl P true true c d b (o+j) k:=by
 rw[dt]at hw
 obtain⟨d,hd⟩:=fI (p:=fun j d=>∀k,ks[j]? =some k→Pl P true true c d b (o+j) k) (fun j d d' hdd hp k hk=>by
  obtain⟨cs,t,fz,v,h1,h2,h3,h4,h5⟩:=hp k hk
  exact⟨cs,t,fz,v,h1,h2,h3.up d' hdd,h4,h5⟩) ks.length fun j hj=>by
   have hjr:j<row.length:=by rw[hw.1];exact hj
   obtain⟨u,e1,e2⟩:=hcw.rep j row[j] (by simp)
   obtain⟨d,hd⟩:=yy hc e2 ks[j] (hw.2 j _ _ (by simp[hj]) (by simp))
   exact⟨d,fun k hk=>by simp[hj]at hk;subst hk;exact⟨cs,bt,(0,0),u,hb,dR j u e1,hd,fun _=>rfl,fun _=>by simp⟩⟩
 exact⟨d,fun j k hk=>hd j (CA hk).1 k hk⟩
theorem wF{P:Program}{w:World}{lo b o:Nat}{c:aK}{wr:Bool}{E:TypeId→Prop}(hE:Met P wr E)(hlo0:wr=true→0<lo)(hc:∀b o,w.heap[b]? =some o→lo≤b→c b=some o){row:List PV}{vs:List Value}{ks:List CK}{cs:Array Value}{bt:TypeId}
  (hcw:Cw w lo row vs)(hw:WTs P ks row)(hks:∀e,.sl e∈ks→E e)(hpk:∀ck∈ks,ie ck=true)(hb:c b=some (.cells cs bt (0,0)))(dR:∀(j:Nat) u,vs[j]? =some u→cs[o+j]? =some u):∃d,∀(j:Nat) (k:CK),ks[j]? =some k→Pl P wr false c d b (o+j) k:=by
 rw[aI]at hw
 obtain⟨d,hd⟩:=fI (p:=fun j d=>∀k,ks[j]? =some k→Pl P wr false c d b (o+j) k) (fun j d d' hdd hp k hk=>by
  obtain⟨cs,t,fz,v,h1,h2,h3,h4,h5⟩:=hp k hk
  exact⟨cs,t,fz,v,h1,h2,h3.up d' hdd,h4,h5⟩) ks.length fun j hj=>by
   have hjr:j<row.length:=by rw[hw.1];exact hj
   obtain⟨u,e1,e2⟩:=hcw.rep j row[j] (by simp)
   obtain⟨d,hd⟩:=wE hE hlo0 hc e2 ks[j] (fun e he=>hks e (by rw[←he];exact List.getElem_mem hj)) (hpk _ (List.getElem_mem hj)) (hw.2 j _ _ (by simp[hj]) (by simp))
   exact⟨d,fun k hk=>by simp[hj]at hk;subst hk;exact⟨cs,bt,(0,0),u,hb,dR j u e1,hd,fun _=>rfl,fun _=>by simp⟩⟩
 exact⟨d,fun j k hk=>hd j (CA hk).1 k hk⟩
theorem WZ.xT{P:Program}{wr room:Bool}{c c':aK}(hc:∀b o,c b=some o→c' b=some o){d:Nat}{ck:CK}{v:Value}(h:WZ P wr room c d ck v):WZ P wr room c' d ck v:=by
 induction h with
 |int d k n h1 h2=>exact .int d k n h1 h2
 |bool d x=>exact .bool d x
 |str d x h=>exact .str d x h
 |nil d e b cap h=>exact .nil d e b cap h
 |sl d e b o len cap cs t fz g hb hf hle hl hm hcc hbl hw ih=>exact .sl d e b o len cap cs t fz g (hc b _ hb) hf hle hl hm hcc hbl ih
end Go.TL.H
namespace Go.TL.H
open Go
structure nq(P:Program)(y:TY)(z:TZ)(T LC CT:TypeId)(sz:Nat)(zs:List Value):Prop where
 bu1:P.built y.E [(4,.bool true)]=some (an ao ao 0 false true)
 bu2:P.built y.E [(2,.bool true),(4,.bool true)]=some (an ao ao 0 true true)
 bu3:∀n,P.built y.E [(2,.bool true),(3,.int .i64 n)]=some (an ao ao n true false)
 lcU:P.underlying LC=some (.slice CT)
 ct:One P CT .nilFunc
 tp:Tp P T true sz
 el:El P T sz zs
 cks:(cks P T).length=sz
 small:sz≤1000
section
variable {P:Program} {o:Oper} {n:Nat} {sl:aT} {a:Act} {w:World}
theorem aQ{T:TypeId}{ps:Array (Nat×Operand)}{cs:Array Value}(vs:List (Nat×Value))(ho:o.op= .build T ps)(hp:ps.toList.map (fun x=>(x.1,a.eval x.2))=vs)(hb:P.built T vs=some cs):(execOp a.eval o).run P w= .ok (.value (.agg cs)) w:=by
 have:=run_build (P:=P) w T (ps.map fun(i,x)=>(i,a.eval x)) cs (by simpa[←hp]using hb)
 simp[execOp,ho,this]
end
abbrev du(f:Operand)(args:Array Operand):Op:= .call ⟨.value f,args, #[]⟩
abbrev bT:Operand:= .const (.bool true)
def zJ(T:TypeId):Code:=rg [p1 30 (.move (t 1)),p1 31 (.load T (t 4)),p1 32 (du (t 30) #[t 31]),p1 11 (.alloc T),p0 (.store T (t 11) (t 32))]
def zK(y:TY):Code:=rg [p1 33 (.build y.E #[(4,bT)]),p1 34 (.build y.E #[(4,bT)]),p1 35 (.build y.E #[(4,bT)]),p1 36 (.build y.E #[(4,bT)]),p1 12 (.alloc y.E),p1 13 (.alloc y.E),p1 14 (.alloc y.E),p1 15 (.alloc y.E),
 p0 (.store y.E (t 12) (t 33)),p0 (.store y.E (t 13) (t 34)),p0 (.store y.E (t 14) (t 35)),p0 (.store y.E (t 15) (t 36))]
def Bj:Code:=rg [p1 37 (.move (t 2)),p1 38 (du (t 37) #[t 12,t 11])]
def Bk(LC CT:TypeId):Code:=rg [p1 39 (.move (t 3)),p1 40 (.move (t 10)),p1 41 (.indexAddr LC (t 39) (t 40)),p1 42 (.load CT (t 41)),p1 43 (du (t 42) #[t 11]),p1 16 (.assign (t 43))]
def Bl:Code:=rg [p1 44 (.move (t 2)),p1 45 (du (t 44) #[t 13,t 11])]
def Bm(look:FuncId):Code:=rg [p1 46 (.move (t 16)),p1 47 (du (.func look) #[t 46]),p1 17 (.assign (t 47))]
def Bn(y:TY):Code:=rg [p1 48 (.move (t 2)),p1 49 (.build y.E #[(2,bT),(4,bT)]),p1 50 (.box y.E (t 49)),p1 51 (du (t 48) #[t 50,t 11])]
def Bo(y:TY)(look same alike:FuncId):Code:=
 .seq (rg [p1 52 (.load y.E (t 12)),p1 53 (.load y.E (t 13)),p1 54 (du (.func same) #[t 52,t 53]),p1 55 (.unOp .not y.B (t 54)),p1 56 (.move (t 55)),pg 57 (.move (t 17)) 0 4 false,pg 58 (.move (t 16)) 0 4 false,
  pg 59 (du (.func look) #[t 58]) 0 4 false,pg 60 (du (.func alike) #[t 57,t 59,ci (-1)]) 0 4 false,pg 61 (.unOp .not y.B (t 60)) 0 4 false,p1 62 (.pick (t 56) bT (t 61))]) (.cond (t 62) (jc false 8) .skip)
def Bp:Code:=rg [p1 63 (.move (t 2)),p1 64 (du (t 63) #[t 14,t 11])]
def xU(y:TY)(z:TZ)(look alike:FuncId):Code:=
 .seq (rg [p1 18 (.assign (ci 0))])
  (.block 2 (.loop (.seq (.seq (rg [p1 65 (.move (t 18)),p1 66 (.move (t 16)),pt 67 (eX (t 66) z.LF) y.I,p1 68 (.binOp .lss y.I (t 65) (t 67) y.I)]) (.cond (t 68) .skip (.exit 2)))
   (.seq (.block 3 (.seq (rg [p1 71 (.move (t 16)),p1 72 (du (.func look) #[t 71]),p1 19 (.assign (t 72))])
     (.seq (rg [p1 73 (.move (t 16)),p1 74 (.move (t 18)),p1 75 (.indexAddr z.LF (t 73) (t 74)),p1 76 (.load z.FT (t 75)),p1 77 (.move (t 18)),p1 78 (.binOp .add y.I (t 77) (ci 1) y.I),p1 79 (.binOp .mul y.I (ci 1000000) (t 78) y.I),
       p1 80 (.build y.E #[(2,bT),(3,t 79)]),p1 81 (.box y.E (t 80)),p1 82 (du (t 76) #[t 81])])
      (.seq (rg [p1 83 (.move (t 19)),p1 84 (.move (t 16)),p1 85 (du (.func look) #[t 84]),p1 86 (.move (t 18)),p1 87 (du (.func alike) #[t 83,t 85,t 86]),p1 88 (.unOp .not y.B (t 87))]) (.cond (t 88) (jc false 8) .skip)))))
    (rg [p1 69 (.move (t 18)),p1 70 (.binOp .add y.I (t 69) (ci 1) y.I),p1 18 (.assign (t 70))])))))
def AQ:Code:=rg [p1 89 (.move (t 2)),p1 90 (du (t 89) #[t 15,t 11])]
def AR(y:TY)(same:FuncId):Code:=
 .seq (rg [p1 91 (.load y.E (t 14)),p1 92 (.load y.E (t 15)),p1 93 (du (.func same) #[t 91,t 92]),p1 94 (.unOp .not y.B (t 93))]) (.cond (t 94) (jc false 8) .skip)
def sn(y:TY)(z:TZ)(T LC CT:TypeId)(look same alike:FuncId):Code:=
 .seq (zJ T) (.seq (zK y) (.seq Bj (.seq (Bk LC CT) (.seq Bl (.seq (Bm look) (.seq (Bn y) (.seq (Bo y look same alike) (.seq Bp (.seq (xU y z look alike) (.seq AQ (AR y same)))))))))))
def qN(y:TY)(z:TZ)(T LC CT:TypeId)(lE look same alike:FuncId):Code:=
 .seq (rg [p1 4 (.box T (t 0)),p1 8 (.assign (.const (.bool false)))])
  (.seq (rg [p1 9 (.alloc y.E)])
   (.seq (rg [p1 20 (.move (t 2)),p1 21 (du (t 20) #[t 9,t 4])])
    (.seq (.seq (rg [p1 22 (.load y.E (t 9)),p1 23 (du (.func lE) #[t 22])]) (.cond (t 23) (jc true 8) .skip))
     (.seq (.seq (rg [p1 10 (.assign (ci 0))])
      (.block 0 (.loop (.seq (.seq (rg [p1 24 (.move (t 10)),p1 25 (.move (t 3)),pt 26 (eX (t 25) LC) y.I,p1 27 (.binOp .lss y.I (t 24) (t 26) y.I)]) (.cond (t 27) .skip (.exit 0)))
       (.seq (.block 1 (sn y z T LC CT look same alike)) (rg [p1 28 (.move (t 10)),p1 29 (.binOp .add y.I (t 28) (ci 1) y.I),p1 10 (.assign (t 29))]))))))
      (jc true 8)))))
def Got(P:Program)(D:cT)(w w':World)(l:Value):RS→Prop
 | .no=>True
 | .one F g bx=>Body P F 5 [] (qJ g)∧(∀bl,l.ownBlock=some bl→w.heap.size≤bl)∧w.heap.size≤bx∧∃r rowr vsr tt,lk D g=some r∧r.ck.length≤1000∧w'.heap[bx]? =some (.cells vsr.toArray tt (0,0))∧Cw w' w.heap.size rowr vsr∧WTs P r.ck rowr∧tJ P r.ck=true
def kY(P:Program)(D:cT)(T:TypeId)(N:Nat)(C:FuncId):Prop:=
 ∀(w:World) (b:Nat) (vs:List Value) (row:List PV),w.heap[b]? =some (.cells vs.toArray T (0,0))→dD P w→Cw w 0 row vs→Ty P T row→rz row≤N→
   Ret P C [Ptr b 0] w fun v w'=>Ch (fun _=>False) w w'∧∃rs,gF w' v rs∧Got P D w w' v rs
def cz(w:World)(lo hi:Nat):aK:=fun b=>if lo≤b∧b<hi then w.heap[b]? else none
theorem xV(w:World)(lo hi:Nat):Zn (cz w lo hi) w:=by
 intro b o hb
 unfold cz at hb
 split at hb
 ·exact hb
 ·cases hb
theorem xW{w:World}{lo hi b:Nat}(h:cz w lo hi b≠none):lo≤b∧b<hi∧b<w.heap.size:=by
 unfold cz at h
 split at h
 ·rename_i hr
  cases hh:w.heap[b]? with
  |none=>exact absurd hh h
  |some o=>exact⟨hr.1,hr.2,aq hh⟩
 ·exact absurd rfl h
theorem zL{w:World}{lo hi b:Nat}(h:¬ (lo≤b∧b<hi)):cz w lo hi b=none:=by unfold cz;rw[if_neg h]
theorem Cw.down{w:World}{lo fC:Nat}{row:List PV}{vs:List Value}(h:Cw w lo row vs)(hl:fC≤lo):Cw w fC row vs:=⟨h.len,fun j x hj=>let ⟨u,h1,h2⟩:=h.rep j x hj;⟨u,h1,Rep.down h2 hl⟩⟩
theorem Cw.er{w:World}{lo:Nat}{row:List PV}{vs:List Value}(h:Cw w lo row vs):Cw w lo (cL row) vs:=by
 refine⟨by rw[ic];exact h.len,fun j x hj=>?_⟩
 rw[eO]at hj
 cases hq:row[j]? with
 |none=>simp[hq]at hj
 |some x'=>
  simp[hq]at hj;subst hj
  obtain⟨u,h1,h2⟩:=h.rep j x' hq
  exact⟨u,h1,h2.er⟩
theorem bD.fresh{y:TY}{mark room:Bool}{K:Nat}{h:Bool}{Sr:Eye→Eye→Prop}{w:World}{be:Nat}{e:Eye}{c:aK}{w':World}{dK bP:Value}{e':Eye}{c':aK}(hP:bD y mark room K h Sr w be ao ao e c w' dK bP e' c'):
  ∀b,EB be dK bP b→b=be∨w.heap.size≤b:=by
 intro b hb
 rcases hP.new b hb with h|h
 ·rcases h with h|h|h
  ·exact .inl h
  ·simp[ao,Value.ownBlock]at h
  ·simp[ao,Value.ownBlock]at h
 ·exact .inr h
theorem gm{be b:Nat}(h:EB be ao ao b):b=be:=by
 rcases h with h|h|h
 ·exact h
 ·simp[ao,Value.ownBlock]at h
 ·simp[ao,Value.ownBlock]at h
theorem nr{D:cT}{room:Bool}{c:aK}{k:Tsk}{e e1 e2:Eye}(h1:See D room c k e e1)(h2:See D room c k e e2):e1.n=e2.n∧e1.s=e2.s:=by rw[h1.det h2];exact⟨rfl,rfl⟩
theorem kr{P:Program}{y:TY}(K:Kit P y){D:cT}(hD:iL P y D){S:FuncId}{rS:Row}(hS:lk D S=some rS)(hK:rS.ck.length≤1000){mark:Bool}{w:World}{be by' d:Nat}{at':Int}{tt:TypeId}{c:aK}(hbe:w.heap[be]? =some (.cells (an ao ao at' mark true) tt (0,0)))
  (hz:Zn c w)(hd:c be=none)(hp:∀(j:Nat) (k:CK),rS.ck[j]? =some k→Pl P true true c d by' (0+j) k):
  Ret P S [Ptr be 0,Ptr by' 0] w (Out y mark true rS.ck.length rS.hn (fun a b=>See D true c (.fn S by' 0) a b) w be ao ao ⟨[],[],at'⟩ c):=by
 refine nS K (D:=D) (mark:=mark) (room:=true) (wr:=true) hD (fun _=>rfl) d rS.bp S rS hS (Nat.le_refl _) w be by' 0 ao ao ⟨[],[],at'⟩ c (mr hbe) hz ?_ hp (bd0 hK)
 intro b hb
 rw[gm hb];exact hd
theorem Fit.okD{P:Program}{y:TY}{D:cT}{f:FuncId}{r:Row}(h:Fit P y D f r):aD P f=true:=by
 unfold Fit at h
 split at h<;>exact h.1.ok
end Go.TL.H
namespace Go.TL.H
open Go
theorem gF.keep{w w':World}{l:Value}{rs:RS}(h:gF w l rs)(hk:∀b o,l.ownBlock=some b→w.heap[b]? =some o→w'.heap[b]? =some o):gF w' l rs:=by
 cases rs with
 |no=>exact h
 |one F g bx=>
  obtain⟨bl,tt,rfl,h2⟩:=h
  exact⟨bl,tt,rfl,hk bl _ rfl h2⟩
section
variable {P:Program} {y:TY} {z:TZ} {T LC CT:TypeId} {sz N:Nat} {zs:List Value} {D:cT} {S W look same alike:FuncId} {rS:Row} {Q:Exit→Act→World→Prop} {a:Act} {w:World} {bx:Nat} {xs:List Value} {row:List PV} {lv:Value} {i:Nat}
theorem yA(K3:nq P y z T LC CT sz zs)(hW:jF P W T true N)(hWok:aD P W=true)(hs:SL 95 [(1,.func (.func W) #[] #[]),(2,.func (.func S) #[] #[]),(3,lv),(4,Ptr bx 0),(10,.int .i64 (i:Int))] a)
  (hbx:w.heap[bx]? =some (.cells xs.toArray T (0,0)))(hcw:Cw w 0 row xs)(bL:Ty P T row)(hN:rz row≤N)
  (kk:∀a' w2 b eJ bP,SL 95 [(1,.func (.func W) #[] #[]),(2,.func (.func S) #[] #[]),(3,lv),(4,Ptr bx 0),(10,.int .i64 (i:Int)),(11,Ptr b 0)] a'→Ch (fun _=>False) w w2→w.heap.size≤b→b+1=w2.heap.size→w2.heap[b]? =some (.cells bP.toArray T (0,0))→
   Cw w2 w.heap.size eJ bP→TyR P T eJ→cL eJ=row→Q .normal a' w2):NW P (zJ T) Q a w:=by
 have hlen:xs.length=sz:=by rw[hcw.len,((aI _ _).1 bL).1,K3.cks]
 refine ae ?_
 refine L hs rfl rfl (aa hs (.inl rfl) rfl) fun a hs=>?_
 refine L hs rfl rfl (bs (ag:=true) xs hs rfl rfl K3.tp hlen hbx (fun j u hj=>by simpa using hj)) fun a hs=>?_
 refine Lc hs rfl rfl rfl rfl rfl hWok (hW w row xs hcw bL hN) fun v w1 a hO hs=>?_
 obtain⟨a8,eJ,bP,rfl,hcw',hty',her⟩:=hO
 refine L hs rfl rfl (bX rfl K3.el) fun a hs=>?_
 have hl':bP.length=sz:=by
  rw[hcw'.len]
  unfold TyR at hty'
  rw[dt]at hty'
  rw[hty'.1,K3.cks]
 have g1:=Ch.alloc (fun _=>False) w1 (.cells zs.toArray T)
 have hb:=heap_alloc_new w1 (.cells zs.toArray T)
 have hzl:zs.length=sz:=K3.el.len
 refine Ls hs rfl rfl (kX (ag:=true) bP hs rfl rfl rfl K3.tp hl' hcw'.one hb (by simp[hzl])) fun hs=>?_
 have hfull:(spl zs.toArray.toList 0 bP).toArray=bP.toArray:=by simp[spl,hzl,hl']
 rw[hfull]
 have g2:=Ch.setRow (w1.alloc (.cells zs.toArray T)) w1.heap.size bP.toArray
 have cF:=setRow_heap _ _ _ bP.toArray _ _ hb
 have hsz1:=a8.size
 refine Le (kk _ _ w1.heap.size eJ bP (hs.keep [1,2,3,4,10,11]) ((a8.trans g1).trans' g2 fun b hb h=>by omega) (by omega) (by simp) cF ?_ hty' her)
 exact hcw'.keep fun b o _ hh=>(g1.trans' (S:=fun _=>False) g2 fun b hb h=>by omega).at hh fun h=>h
theorem yB(K:Kit P y)(K3:nq P y z T LC CT sz zs){sl:aT}(hs:SL 95 sl a)
  (kk:∀a' w3,SL 95 ((15,Ptr (w.heap.size+3) 0)::(14,Ptr (w.heap.size+2) 0)::(13,Ptr (w.heap.size+1) 0)::(12,Ptr w.heap.size 0)::(36,.agg (an ao ao 0 false true))::(35,.agg (an ao ao 0 false true))::(34,.agg (an ao ao 0 false true))::
   (33,.agg (an ao ao 0 false true))::sl) a'→Ch (fun _=>False) w w3→w3.heap.size=w.heap.size+4→(∀j,j<4→w3.heap[w.heap.size+j]? =some (.cells (an ao ao 0 false true) y.E (0,0)))→Q .normal a' w3):NW P (zK y) Q a w:=by
 refine ae ?_
 refine L hs rfl rfl (aQ [(4,.bool true)] rfl rfl K3.bu1) fun a hs=>?_
 refine L hs rfl rfl (aQ [(4,.bool true)] rfl rfl K3.bu1) fun a hs=>?_
 refine L hs rfl rfl (aQ [(4,.bool true)] rfl rfl K3.bu1) fun a hs=>?_
 refine L hs rfl rfl (aQ [(4,.bool true)] rfl rfl K3.bu1) fun a hs=>?_
 refine L hs rfl rfl (dJ rfl K.eB) fun a hs=>?_
 refine L hs rfl rfl (dJ rfl K.eB) fun a hs=>?_
 refine L hs rfl rfl (dJ rfl K.eB) fun a hs=>?_
 refine L hs rfl rfl (dJ rfl K.eB) fun a hs=>?_
 generalize hob:(Obj.cells [ao,ao,.bool false,.int .i64 0,.bool false].toArray y.E)=ob at hs ⊢
 have hob':ob= .cells (an ao ao 0 false false) y.E (0,0):=hob.symm
 have s1:(w.alloc ob).heap.size=w.heap.size+1:=by simp
 have s2:((w.alloc ob).alloc ob).heap.size=w.heap.size+2:=by simp
 have s3:(((w.alloc ob).alloc ob).alloc ob).heap.size=w.heap.size+3:=by simp
 have s4:((((w.alloc ob).alloc ob).alloc ob).alloc ob).heap.size=w.heap.size+4:=by simp
 have g4:Ch (fun _=>False) w ((((w.alloc ob).alloc ob).alloc ob).alloc ob):=(((Ch.alloc _ w ob).trans (Ch.alloc _ _ ob)).trans (Ch.alloc _ _ ob)).trans (Ch.alloc _ _ ob)
 have h0:((((w.alloc ob).alloc ob).alloc ob).alloc ob).heap[w.heap.size]? =some ob:=by
  rw[heap_alloc_old _ _ _ (by omega),heap_alloc_old _ _ _ (by omega),heap_alloc_old _ _ _ (by omega)];exact heap_alloc_new w ob
 have h1:((((w.alloc ob).alloc ob).alloc ob).alloc ob).heap[w.heap.size+1]? =some ob:=by
  rw[heap_alloc_old _ _ _ (by omega),heap_alloc_old _ _ _ (by omega)];have:=heap_alloc_new (w.alloc ob) ob;rw[s1]at this;exact this
 have h2:((((w.alloc ob).alloc ob).alloc ob).alloc ob).heap[w.heap.size+2]? =some ob:=by
  rw[heap_alloc_old _ _ _ (by omega)];have:=heap_alloc_new ((w.alloc ob).alloc ob) ob;rw[s2]at this;exact this
 have h3:((((w.alloc ob).alloc ob).alloc ob).alloc ob).heap[w.heap.size+3]? =some ob:=by
  have:=heap_alloc_new (((w.alloc ob).alloc ob).alloc ob) ob;rw[s3]at this;exact this
 rw[s1,s2,s3]at hs
 generalize((((w.alloc ob).alloc ob).alloc ob).alloc ob)=w4 at*
 subst hob'
 have mR:∀u∈ [ao,ao,.bool false,.int .i64 0,.bool true],u.oneCell'=true:=by
  intro u hu
  simp[ao]at hu
  rcases hu with rfl|rfl|rfl|rfl<;>rfl
 have hsp:∀cs:Array Value,cs=an ao ao 0 false false→(spl cs.toList 0 [ao,ao,.bool false,.int .i64 0,.bool true]).toArray=an ao ao 0 false true:=by rintro cs rfl;rfl
 refine Ls hs rfl rfl (mn [ao,ao,.bool false,.int .i64 0,.bool true] hs rfl rfl rfl K.eB rfl mR h0 (by decide)) fun hs=>?_
 rw[hsp _ rfl]
 have c1:=Ch.setRow w4 w.heap.size (an ao ao 0 false true)
 have k0:=setRow_heap w4 w.heap.size _ (an ao ao 0 false true) _ _ h0
 have k1:=c1.at h1 (by omega)
 have k2:=c1.at h2 (by omega)
 have k3:=c1.at h3 (by omega)
 have z1:(w4.setRow w.heap.size (an ao ao 0 false true)).heap.size=w4.heap.size:=by simp
 have G1:=g4.trans' c1 fun b hb h=>by omega
 clear c1 h0 h1 h2 h3 g4
 generalize w4.setRow w.heap.size (an ao ao 0 false true)=w5 at*
 refine Ls hs rfl rfl (mn [ao,ao,.bool false,.int .i64 0,.bool true] hs rfl rfl rfl K.eB rfl mR k1 (by decide)) fun hs=>?_
 rw[hsp _ rfl]
 have c2:=Ch.setRow w5 (w.heap.size+1) (an ao ao 0 false true)
 have l0:=c2.at k0 (by omega)
 have l1:=setRow_heap w5 (w.heap.size+1) _ (an ao ao 0 false true) _ _ k1
 have l2:=c2.at k2 (by omega)
 have l3:=c2.at k3 (by omega)
 have z2:(w5.setRow (w.heap.size+1) (an ao ao 0 false true)).heap.size=w5.heap.size:=by simp
 have G2:=G1.trans' c2 fun b hb h=>by omega
 clear c2 k0 k1 k2 k3 G1
 generalize w5.setRow (w.heap.size+1) (an ao ao 0 false true)=w6 at*
 refine Ls hs rfl rfl (mn [ao,ao,.bool false,.int .i64 0,.bool true] hs rfl rfl rfl K.eB rfl mR l2 (by decide)) fun hs=>?_
 rw[hsp _ rfl]
 have c3:=Ch.setRow w6 (w.heap.size+2) (an ao ao 0 false true)
 have m0:=c3.at l0 (by omega)
 have m1:=c3.at l1 (by omega)
 have m2:=setRow_heap w6 (w.heap.size+2) _ (an ao ao 0 false true) _ _ l2
 have m3:=c3.at l3 (by omega)
 have z3:(w6.setRow (w.heap.size+2) (an ao ao 0 false true)).heap.size=w6.heap.size:=by simp
 have G3:=G2.trans' c3 fun b hb h=>by omega
 clear c3 l0 l1 l2 l3 G2
 generalize w6.setRow (w.heap.size+2) (an ao ao 0 false true)=w7 at*
 refine Ls hs rfl rfl (mn [ao,ao,.bool false,.int .i64 0,.bool true] hs rfl rfl rfl K.eB rfl mR m3 (by decide)) fun hs=>?_
 rw[hsp _ rfl]
 have c4:=Ch.setRow w7 (w.heap.size+3) (an ao ao 0 false true)
 have n0:=c4.at m0 (by omega)
 have n1:=c4.at m1 (by omega)
 have n2:=c4.at m2 (by omega)
 have n3:=setRow_heap w7 (w.heap.size+3) _ (an ao ao 0 false true) _ _ m3
 have z4:(w7.setRow (w.heap.size+3) (an ao ao 0 false true)).heap.size=w7.heap.size:=by simp
 refine Le (kk _ _ hs (G3.trans' c4 fun b hb h=>by omega) (by omega) fun j hj=>?_)
 match j,hj with
 |0,_=>exact n0
 |1,_=>exact n1
 |2,_=>exact n2
 |3,_=>exact n3
end
end Go.TL.H
