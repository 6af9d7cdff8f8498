/- What a program asks of itself, by words that the kernel answers. -/
import Derived.Test.YtpoamlpahljebaaGreatDoorW25
import Derived.Lib.LaidTab
import Derived.Lib.ItoaNum
import Derived.Lib.ItoaLen
import Derived.Sort.Row
import Derived.Sort.Grow
import Derived.Lib.Bytealg
namespace Go.TL.H
open Go
theorem aM{P:Program}{f:FuncId}{n:Nat}{res:List ResultVar}{c':Code}(h:(P.funcs[f]?).map (fun fn=>(fn.body.map norm,fn.ntmps,fn.results.toList))=some (some c',n,res))(ab:aP P f=true):Body P f n res c':=by
 cases hf:P.funcs[f]? with
 |none=>simp[hf]at h
 |some fn=>
  simp only[hf,Option.map_some,ZS,ZT]at h
  obtain⟨h1,h2,h3⟩:=h
  cases hb:fn.body with
  |none=>simp[hb]at h1
  |some c=>exact⟨ab,fn,c,hf,hb,by simpa[hb]using h1,h2,h3⟩
theorem fb{P:Program}{t:TypeId}{z:Value}(h:(P.info? t).map (fun i=>(i.size,i.zero,Nat.ble i.bytes 24))=some (1,some z,true))(ha:iq P t=some false)(hz:z.cells= #[z]):One P t z:=by
 cases hi:P.info? t with
 |none=>simp[hi]at h
 |some i=>
  simp only[hi,Option.map_some,ZS,ZT]at h
  exact⟨⟨i,hi,ha,h.1,h.2.1,ZX h.2.2⟩,hz⟩
theorem Wa{P:Program}{t:TypeId}{zs:List Value}(h:(P.info? t).map (fun i=>(i.size,i.zero,Nat.ble i.bytes 1024))=some (zs.length,some (.agg zs.toArray),true))(ha:iq P t=some true):Big P t zs:=by
 cases hi:P.info? t with
 |none=>simp[hi]at h
 |some i=>
  simp only[hi,Option.map_some,ZS,ZT]at h
  exact⟨⟨i,hi,ha,h.1,h.2.1,ZX h.2.2⟩⟩
theorem ic{P:Program}{t:TypeId}{sz:Nat}{zs:List Value}(h:(P.info? t).map (fun i=>(i.size,i.zero.map Value.cells,Nat.ble i.bytes 1024))=some (sz,some zs.toArray,true))(hl:zs.length=sz)(hp:Nat.blt 0 sz=true)(hr:Nat.ble 1000000 t=false:=by rfl):El P t sz zs:=by
 cases hi:P.info? t with
 |none=>simp[hi]at h
 |some i=>
  simp only[hi,Option.map_some,ZS,ZT]at h
  obtain⟨h1,h2,h3⟩:=h
  cases hz:i.zero with
  |none=>simp[hz]at h2
  |some z=>exact⟨⟨i,z,hi,h1,hz,by simpa[hz]using h2,ZX h3⟩,hl,ZX hp,hr⟩
def Gm(ag:Bool)(n:Nat):Bool:=match ag with|true=>true|false=>Nat.beq n 1
theorem du{P:Program}{t:TypeId}{ag:Bool}{n:Nat}(h:(P.info? t).map (·.size)=some n)(ha:iq P t=some ag)(h1:Gm ag n=true):Tp P t ag n:=by
 cases hi:P.info? t with
 |none=>simp[hi]at h
 |some i=>
  simp only[hi,Option.map_some,ZS]at h
  refine⟨⟨i,hi,ha,h⟩,fun hf=>?_⟩
  subst hf;exact ZU h1
theorem Iy{P:Program}{t:TypeId}{n:Nat}(h:(P.info? t).map (fun i=>Nat.ble i.bytes n)=some true):∀i,P.info? t=some i→i.bytes≤n:=by
 intro i hi
 simp only[hi,Option.map_some,ZS]at h
 exact ZX h
theorem size_mk{P:Program}{t:TypeId}{n:Nat}(h:(P.info? t).map (·.size)=some n):∃i,P.info? t=some i∧i.size=n:=by
 cases hi:P.info? t with
 |none=>simp[hi]at h
 |some i=>simp only[hi,Option.map_some,ZS]at h;exact⟨i,rfl,h⟩
def jE(ck:List CK):Nat→List CK→Bool
 |_,[]=>true
 |off,k::r=>match decide (ck[off]? =some k)with|true=>jE ck (off+1) r|false=>false
theorem uR{ck:List CK}:∀{l:List CK} {off:Nat},jE ck off l=true→∀(j:Nat) (k:CK),l[j]? =some k→ck[off+j]? =some k
 | [],off,_,j,k,hj=>by simp at hj
 |x::r,off,h,j,k,hj=>by
  simp only[jE]at h
  split at h
  ·rename_i hd
   have hd:=of_decide_eq_true hd
   cases j with
   |zero=>simp at hj;subst hj;exact hd
   |succ j=>have:=uR h j k (by simpa using hj);rw[←this];congr 1;omega
  ·cases h
def zJ(D:eZ):List (Nat×Nat×FuncId)→Bool
 | []=>false
 |(_,_,g)::l=>match lk D g with|some r=>r.hn||zJ D l|none=>zJ D l
def Ep(D:eZ):List (Nat×Nat×FuncId)→Nat
 | []=>0
 |(_,_,g)::l=>match lk D g with|some r=>r.ck.length+Ep D l|none=>Ep D l
def C1(P:Program)(D:eZ)(T:TypeId)(ck:List CK)(cQ:Nat):List (Nat×Nat×FuncId)→Bool
 | []=>true
 |(i,off,g)::l=>match lk D g,cG P T i with
   |some rg,some (o,_)=>match Nat.blt rg.cQ cQ,Nat.beq o off,jE ck off rg.ck with
    |true,true,true=>C1 P D T ck cQ l
    |_,_,_=>false
   |_,_=>false
theorem Iz{P:Program}{D:eZ}{T:TypeId}{ck:List CK}{cQ:Nat}:∀{l:List (Nat×Nat×FuncId)},C1 P D T ck cQ l=true→yW P D T ck cQ l (Ep D l) (zJ D l)
 | [],_=>⟨rfl,rfl⟩
 |(i,off,g)::l,h=>by
   simp only[C1]at h
   split at h
   ·rename_i rg o sz h1 h2
    split at h
    ·rename_i q1 q2 q3
     have q2:=ZU q2;subst q2
     exact⟨rg,sz,Ep D l,zJ D l,h1,ZX q1,h2,fun j k hj=>uR q3 j k hj,by simp[Ep,h1],by simp[zJ,h1],Iz h⟩
    ·cases h
   ·cases h
section
variable {P:Program} {y:TY} {D:eZ} {f:FuncId} {cQ:Nat}
theorem Kt{T:TypeId}{z:Value}(h:Body P f 33 [] (GP y T))(hz:One P T z):Fit P y D f ⟨.num T,[.int .i64],true,cQ⟩:=⟨h,⟨z,hz⟩,rfl,rfl⟩
theorem TM(h:Body P f 49 [] (K0 y)):Fit P y D f ⟨.str,[.str],false,cQ⟩:=⟨h,rfl,rfl⟩
theorem vd{T:TypeId}{parts:List (Nat×Nat×FuncId)}{ck:List CK}{hn:Bool}(h:Body P f (4+5*parts.length) [] (stC T 4 parts))(hp:C1 P D T ck cQ parts=true)(hk:Ep D parts=ck.length)(hh:zJ D parts=hn):Fit P y D f ⟨.st T parts,ck,hn,cQ⟩:=by
 refine⟨h,?_⟩
 have:=Iz hp
 rw[hk,hh]at this;exact this
theorem ve{L e:TypeId}{al one:FuncId}{sz:Nat}{r1:Row}(h:Body P f 9 [] (AD L al one))(h2:Body P al 46 [] (xL y L))(h3:P.underlying L=some (.slice e))(h4:(P.info? e).map (·.size)=some sz)(h5:One P L aq)(h6:aP P one=true)
  (h7:lk D one=some r1)(h8:r1.ck=cks P e)(h9:r1.ck.length=sz)(h10:Nat.ble sz 16=true)(h11:Gm r1.hn sz=true):Fit P y D f ⟨.via L al one e sz,[.sl e],true,cQ⟩:=
 ⟨h,h2,h3,size_mk h4,h5,rfl,rfl,h6,r1,h7,h8,h9,ZX h10,fun hf=>by rw[hf]at h11;exact ZU h11⟩
theorem Wb(h:∀p∈D,Fit P y D p.1 p.2):pC P y D:=by
 have key:∀(l:eZ) f r,lk l f=some r→(f,r)∈l:=by
  intro l
  induction l with
  |nil=>intro f r h;simp[lk]at h
  |cons p l ih=>
   obtain⟨k,x⟩:=p
   intro f r h
   simp only[lk]at h
   cases hb:Nat.beq k f with
   |true=>simp only[hb,ZS]at h;subst h;rw[ZU hb];simp
   |false=>simp only[hb]at h;exact List.mem_cons.2 (.inr (ih f r h))
 intro f r hf
 exact h (f,r) (key D f r hf)
end
def zcB:CK→Value→Bool
 | .int k,.int k' n=>match decide (k=k')with|true=>isZ n|false=>false
 | .bool,.bool _=>true
 | .str,.string s=>Nat.beq s.size 0
 | .sl _,.slice none 0 0=>true
 |_,_=>false
def yy:List CK→List Value→Bool
 | [],[]=>true
 |k::ks,v::vs=>match zcB k v with|true=>yy ks vs|false=>false
 |_,_=>false
theorem Ku(k:IntKind):k.min≤0∧0≤k.max:=by cases k<;>decide
theorem XU{P:Program}{k:CK}{v:Value}(h:zcB k v=true):WR P k (zc true v)∧v.oneCell'=true:=by
 unfold zcB at h
 split at h
 ·rename_i k k' n
  split at h
  ·rename_i hk
   have hk:=of_decide_eq_true hk;subst hk
   have hn:n=0:=so h
   subst hn
   exact⟨.int _ _ (Ku k).1 (Ku k).2,rfl⟩
  ·cases h
 ·exact⟨.bool _,rfl⟩
 ·rename_i s
  have h:=ZU h
  exact⟨.str s (by rw[h];exact Nat.zero_le _),rfl⟩
 ·rename_i e
  exact⟨.rm e 0 [] (by simp) (Nat.zero_le _) (by simp) (by simp) (by simp),rfl⟩
 ·cases h
theorem OZ{P:Program}:∀{ks:List CK} {vs:List Value},yy ks vs=true→vs.length=ks.length∧∀(j:Nat) (ck:CK) (u:Value),ks[j]? =some ck→vs[j]? =some u→WR P ck (zc true u)∧u.oneCell'=true
 | [],[],_=>⟨rfl,fun j ck u h=>by simp at h⟩
 |k::ks,v::vs,h=>by
  simp only[yy]at h
  split at h
  ·rename_i hv
   obtain⟨h1,h2⟩:=OZ (P:=P) h
   refine⟨by simp[h1],fun j ck u hj hu=>?_⟩
   cases j with
   |zero=>simp at hj hu;subst hj;subst hu;exact XU hv
   |succ j=>exact h2 j ck u (by simpa using hj) (by simpa using hu)
  ·cases h
 | [],_::_,h=>by simp[yy]at h
 |_::_,[],h=>by simp[yy]at h
theorem O0{P:Program}{e:TypeId}{zs:List Value}(h:yy (cks P e) zs=true):ZOk P e zs:=OZ h
def zK(P:Program)(T:TypeId):Nat→List ko→Bool
 |_,[]=>true
 |bnd,p::l=>match Nat.ble bnd p.off,Nat.ble (p.off+p.n) (cks P T).length,(match cG P T p.i with|some (o,_)=>Nat.beq o p.off|none=>false),decide ((P.info? p.T).map (·.size)=some p.n),decide (iq P p.T=some p.ag)with
  |true,true,true,true,true=>match Gm p.ag p.n,Nat.beq (cks P p.T).length p.n,jE (cks P T) p.off (cks P p.T)with
   |true,true,true=>zK P T (p.off+p.n) l
   |_,_,_=>false
  |_,_,_,_,_=>false
theorem Fx{P:Program}{T:TypeId}:∀{l:List ko} {bnd:Nat},zK P T bnd l=true→sn P T bnd l
 | [],_,_=>trivial
 |p::l,bnd,h=>by
  simp only[zK]at h
  split at h
  ·rename_i q1 q2 q3 q4 q5
   split at h
   ·rename_i q6 q7 q8
    have q7:=ZU q7
    refine⟨ZX q1,ZX q2,?_,du (of_decide_eq_true q4) (of_decide_eq_true q5) q6,q7,fun j hj=>?_,Fx h⟩
    ·cases hf:cG P T p.i with
     |none=>simp[hf]at q3
     |some x=>
      obtain⟨o,sz⟩:=x
      simp only[hf]at q3
      exact⟨sz,by rw[ZU q3]⟩
    ·obtain⟨k,hk⟩:∃k,(cks P p.T)[j]? =some k:=⟨(cks P p.T)[j]'(by omega),by simp⟩
     rw[hk];exact uR q8 j k hk
   ·cases h
  ·cases h
def Er(ps:List ko):Nat→List CK→Bool
 |_,[]=>true
 |j,.sl _::r=>match ps.any (fun p=>match Nat.ble p.off j with|true=>Nat.blt j (p.off+p.n)|false=>false)with|true=>Er ps (j+1) r|false=>false
 |j,_::r=>Er ps (j+1) r
theorem Wc{ps:List ko}:∀{l:List CK} {k:Nat},Er ps k l=true→∀(j:Nat) (e:TypeId),l[j]? =some (.sl e)→∃p∈ps,p.off≤k+j∧k+j<p.off+p.n:=by
 intro l
 induction l with
 |nil=>intro k _ j e h;simp at h
 |cons x r ih=>
  intro k h j e hj
  have step:Er ps (k+1) r=true∧(∀e,x= .sl e→∃p∈ps,p.off≤k∧k<p.off+p.n):=by
   cases x<;>simp only[Er]at h
   case sl e'=>
    split at h
    ·rename_i ha
     refine⟨h,fun e he=>?_⟩
     obtain⟨p,hp,hq⟩:=List.any_eq_true.1 ha
     split at hq
     ·rename_i hb;exact⟨p,hp,ZX hb,ZX hq⟩
     ·cases hq
    ·cases h
   all_goals exact⟨h,fun e he=>by cases he⟩
  cases j with
  |zero=>simp at hj;subst hj;exact step.2 e rfl
  |succ j=>
   obtain⟨p,hp,h1,h2⟩:=ih step.1 j e (by simpa using hj)
   exact⟨p,hp,by omega,by omega⟩
def C2(P:Program)(O:xM)(cQ:Nat):List ko→Bool
 | []=>true
 |p::l=>match aP P p.g,lk O p.g with
  |true,some r1=>match Nat.beq r1.t p.T,decide (r1.ag=p.ag),Nat.blt r1.cQ cQ with
   |true,true,true=>C2 P O cQ l
   |_,_,_=>false
  |_,_=>false
theorem IA{P:Program}{O:xM}{cQ:Nat}:∀{l:List ko},C2 P O cQ l=true→∀p∈l,aP P p.g=true∧∃r1,lk O p.g=some r1∧r1.t=p.T∧r1.ag=p.ag∧r1.cQ<cQ
 | [],_,p,hp=>by simp at hp
 |q::l,h,p,hp=>by
  simp only[C2]at h
  split at h
  ·rename_i r1 h1 h2
   split at h
   ·rename_i q1 q2 q3
    rcases Z1 hp with rfl|hp
    ·exact⟨h1,r1,h2,ZU q1,of_decide_eq_true q2,ZX q3⟩
    ·exact IA h p hp
   ·cases h
  ·cases h
section
variable {P:Program} {y:TY} {O:xM} {f:FuncId} {cQ:Nat}
theorem Kv{L e:TypeId}{sz:Nat}{zs:List Value}(h:Body P f 9 [.tmp 2] (gV y L))(h2:P.underlying L=some (.slice e))(h3:El P e sz zs)(h4:yy (cks P e) zs=true)(h5:(cks P e).length=sz)(h6:cks P L=[.sl e])(h7:scalars (cks P e)=true):jI P y O f ⟨.cp L e sz zs,cQ⟩:=
 ⟨h,h2,h3,O0 h4,h5,h6,h7⟩
theorem Es{L e:TypeId}{sz:Nat}{ag:Bool}{zs:List Value}{cp one:FuncId}{r1:gd}(h:Body P f 21 [.tmp 2] (uo y L e cp one))(h1:Body P cp 9 [.tmp 2] (gV y L))(h2:P.underlying L=some (.slice e))(h3:El P e sz zs)(h4:yy (cks P e) zs=true)(h5:(cks P e).length=sz)(h6:cks P L=[.sl e])
  (h7:(P.info? e).map (·.size)=some sz)(h8:iq P e=some ag)(h9:Gm ag sz=true)(h10:aP P one=true)(h11:lk O one=some r1)(h12:r1.t=e)(h13:r1.ag=ag):jI P y O f ⟨.ls L e sz ag zs cp one,cQ⟩:=
 ⟨h,h1,h2,h3,O0 h4,h5,h6,du h7 h8 h9,h10,r1,h11,h12,h13⟩
theorem vf{T:TypeId}{sz:Nat}{zs:List Value}{ps:List ko}(h:Body P f (4+4*ps.length) [.cell 2 T] (pS T ps))(h3:El P T sz zs)(h7:(P.info? T).map (·.size)=some sz)(h8:iq P T=some true)(h5:(cks P T).length=sz)(h6:zK P T 0 ps=true)(h9:C2 P O cQ ps=true)(h10:Er ps 0 (cks P T)=true):jI P y O f ⟨.st T sz zs ps,cQ⟩:=
 ⟨h,h3,du h7 h8 rfl,h5,Fx h6,IA h9,fun j e hj=>by have:=Wc h10 j e hj;simpa using this⟩
theorem TN(h:∀p∈O,jI P y O p.1 p.2):∀f r,lk O f=some r→jI P y O f r:=by
 have key:∀(l:xM) f r,lk l f=some r→(f,r)∈l:=by
  intro l
  induction l with
  |nil=>intro f r h;simp[lk]at h
  |cons p l ih=>
   obtain⟨k,x⟩:=p
   intro f r h
   simp only[lk]at h
   cases hb:Nat.beq k f with
   |true=>simp only[hb,ZS]at h;subst h;rw[ZU hb];simp
   |false=>simp only[hb]at h;exact List.mem_cons.2 (.inr (ih f r h))
 intro f r hf
 exact h (f,r) (key O f r hf)
end
def Rf(ms:List TypeId):CK→Bool
 | .sl e=>ms.any (Nat.beq e)
 |_=>true
def elB(P:Program)(ms:List TypeId)(e:TypeId):Bool:=match tQ P 8 e,Nat.blt 0 (cks P e).length,Nat.beq (P.cellsOf e) (cks P e).length with
 |true,true,true=>(cks P e).all (Rf ms)
 |_,_,_=>false
theorem O1{ms:List TypeId}{k:CK}(h:Rf ms k=true):∀e,k= .sl e→e∈ms:=by
 intro e he;subst he
 obtain⟨x,hx,hb⟩:=List.any_eq_true.1 h
 rw[ZU hb];exact hx
theorem XV{P:Program}{ms:List TypeId}(h:ms.all (elB P ms)=true):∀e,e∈ms→Qb P (· ∈ms) e:=by
 intro e he
 have:=List.all_eq_true.1 h e he
 unfold elB at this
 split at this
 ·rename_i q1 q2 q3
  exact⟨q1,ZX q2,ZU q3,fun e' he'=>O1 (List.all_eq_true.1 this _ he') e' rfl⟩
 ·cases this
theorem XW{ms:List TypeId}{ks:List CK}(h:ks.all (Rf ms)=true):∀e,.sl e∈ks→e∈ms:=fun e he=>O1 (List.all_eq_true.1 h _ he) e rfl
theorem TO{P:Program}{y:TY}{z:TZ}{T LC CT:TypeId}{sz:Nat}{zs:List Value}{D:eZ}{O:xM}{S W wW look same alike apart lG f:FuncId}{rS:Row}{rO:gd}{Cs:List FuncId}(K:Kit P y)(K2:AE P y z)(K3:AI P y z T LC CT sz zs)(hD:pC P y D)(hS:lk D S=some rS)(cA:rS.ck=cks P T)
  (hO:∀f r,lk O f=some r→jI P y O f r)(hW:lk O W=some rO)(hWt:rO.t=T)(hWa:rO.ag=true)(hWok:aP P W=true)(_hSok:aP P S=true)(hG:Body P wW 27 [.tmp 2] (BQ y))(hL:Body P look 23 [.tmp 2] (yZ y z))(hA:Body P alike 29 [.tmp 6] (um y z same))(hSm:Body P same 59 [.tmp 4] (tk y))
  (hB:Body P apart 95 [.tmp 8] (GY y z T LC CT wW look same alike))(hTop:Body P f 9 [.tmp 2] (Qh T LC Cs apart W S lG))(h0:Nat.blt 0 Cs.length=true)(h1:Nat.ble Cs.length 1000=true)
  (hCs:∀C∈Cs,aP P C=true∧jJ P D T 2097152 C)(hfl:aP P lG=true)(hF:∀w',fV P w'→Ret P lG [] w' fun v w''=>v= .bool true∧Ch (fun _=>False) w' w''):
  ∀(w:World) (xs:List Value) (row:List PV),fV P w→gi P w (cks P T) xs row→rz row≤2097152→Ret P f [.agg xs.toArray] w fun v w'=>v= .bool true∧Ch (fun _=>False) w w':=by
 intro w xs row hld hg hN
 have hlen:xs.length=sz:=by rw[hg.cw.len,((ay _ _).1 hg.ty).1,K3.cks]
 have hOw:sk P W T true 2097152:=by
  have:=Vs hO 2097152 rO.cQ W rO hW (Nat.le_refl _)
  rw[hWt,hWa]at this;exact this
 refine Vx hTop K3.tp K3.lcU K3.ct (ZX h0) (ZX h1) hlen hg.cw.one hB.ok (fun w' bc bp hbc=>?_) hfl fun w' bp=>hF w' (hld.ch bp)
 refine Qa K K2 K3 hD hS cA hOw hWok hG hL hA hSm hB (by
  obtain⟨d,hd⟩:=hg.wz
  exact⟨d,fun j k hj=>by
   obtain⟨u,h1,h2⟩:=hd j k hj
   exact⟨u,h1,h2.Se fun b o hb=>bp.at hb fun h=>h⟩⟩) (hld.ch bp) (hg.cw.ch bp) hg.ty hN hbc (ZX h1) fun i hi=>?_
 refine⟨Cs[i],by simp[lY,hi],hCs _ (by simp)⟩
end Go.TL.H
namespace Go.TL.H
open Go
def dw{α:Type}(is:List Nat)(l:List α):List α:=is.filterMap (l[·]?)
theorem n6{α:Type}(i:Nat)(is:List Nat)(l:List α):dw (i::is) l=match l[i]? with|some x=>x::dw is l|none=>dw is l:=by
 unfold dw;rw[List.filterMap_cons];cases l[i]? <;>rfl
theorem aa{α:Type}{l:List α}{n:Nat}(h:l.length=n+1):∃x r,l=x::r∧r.length=n:=by
 cases l with
 |nil=>simp at h
 |cons x r=>exact⟨x,r,rfl,by simpa using h⟩
theorem Cw.pick{w:World}{lo:Nat}{row:List PV}{vs:List Value}(h:Cw w lo row vs):∀is:List Nat,Cw w lo (dw is row) (dw is vs)
 | []=>⟨rfl,fun j x hj=>by simp[dw]at hj⟩
 |i::is=>by
  have ih:=h.pick is
  rw[n6,n6]
  cases hr:row[i]? with
  |none=>
   have:vs[i]? =none:=by rw[List.getElem?_eq_none_iff]at hr ⊢;rw[h.len];exact hr
   rw[this];exact ih
  |some x=>
   obtain⟨u,hu,hrep⟩:=h.rep i x hr
   rw[hu]
   refine⟨by simp[ih.len],fun j z hj=>?_⟩
   cases j with
   |zero=>simp at hj;subst hj;exact⟨u,rfl,hrep⟩
   |succ j=>exact ih.rep j z (by simpa using hj)
theorem IB{P:Program}{ks:List CK}{row:List PV}(h:WTs P ks row):∀is:List Nat,WTs P (dw is ks) (dw is row)
 | []=>trivial
 |i::is=>by
  have ih:=IB h is
  have h2:=(ay _ _).1 h
  rw[n6,n6]
  cases hr:row[i]? with
  |none=>
   have:ks[i]? =none:=by rw[List.getElem?_eq_none_iff]at hr ⊢;rw[←h2.1];exact hr
   rw[this];exact ih
  |some x=>
   have av:i<ks.length:=by rw[←h2.1];exact(ZY hr).1
   have hk:ks[i]? =some ks[i]:=by simp
   rw[hk]
   exact⟨h2.2 i _ x hk hr,ih⟩
def MM:Nat→List Nat→Bool
 |_,[]=>true
 |k,i::r=>match Nat.ble k i with|true=>MM (i+1) r|false=>false
theorem C3(row:List PV):∀(k i:Nat),k≤i→rz (row.drop i)≤rz (row.drop k):=by
 intro k i hki
 obtain⟨d,rfl⟩:=Nat.le.dest hki
 have:=AH (row.drop k) d
 rw[List.drop_drop]at this
 omega
theorem Kw(row:List PV):∀(is:List Nat) (k:Nat),MM k is=true→rz (dw is row)≤rz (row.drop k)
 | [],k,_=>by simp[dw,jl]
 |i::is,k,h=>by
  simp only[MM]at h
  split at h
  ·rename_i hk
   have hk:=ZX hk
   have ih:=Kw row is (i+1) h
   have hd:=C3 row k i hk
   rw[n6]
   cases hr:row[i]? with
   |none=>have:=C3 row i (i+1) (by omega);simp only;omega
   |some x=>
    have hc:row.drop i=x::row.drop (i+1):=by
     have av:=(ZY hr).1
     rw[List.drop_eq_getElem_cons av]
     congr 1
     have:=(ZY hr).2
     exact this
    rw[hc,eA]at hd
    simp only[eA];omega
  ·cases h
def C4(ks:List CK):mR:=match iv ks 0 with|some R=>R|none=>⟨[],0,[],[],Lin.lit 0⟩
theorem Rg{ks:List CK}(h:(iv ks 0).isSome=true):iv ks 0=some (C4 ks):=by
 unfold C4
 cases hd:iv ks 0 with
 |none=>simp[hd]at h
 |some R=>rfl
def MN(P:Program)(cells:List DP)(tys:List (Nat×TypeId))(e:Lin):Bool:=match e.t with
 | [(a,k)]=>match y5 k,Nat.beq (a % 4) 1,leZ e.c,cells.any (fun x=>match x with| .sl (some v)=>Nat.beq v (a / 4)|_=>false),lk tys (a / 4)with
  |true,true,true,true,some ty=>Nat.ble 2097152 (((cks P ty).length+1)*((-e.c).toNat+1))
  |_,_,_,_,_=>false
 |_=>false
theorem O2:∀row:List PV,row.length≤rz row
 | []=>by simp
 |x::xs=>by
  have:=O2 xs
  rw[eA]
  have hx:1≤pz x:=by
   cases x with
   |v v=>cases v<;>simp only[pz]<;>omega
   |sl rows=>simp only[pz];omega
   |rm m rows=>simp only[pz];omega
   |ls rows=>simp only[pz];omega
   |un=>simp only[pz];omega
   |mp a rows=>simp only[pz];omega
  simp;omega
theorem Kx(m:Nat):∀rows:List (List PV),(∀row∈rows,row.length=m)→(m+1)*rows.length≤rsz rows
 | [],_=>by simp
 |r::rs,h=>by
  have ih:=Kx m rs fun row hr=>h row (ZV _ hr)
  have h1:=O2 r
  have h2:=h r (ZW)
  rw[eY,List.length_cons,Nat.mul_succ]
  omega
theorem We{row:List PV}{x:PV}(h:x∈row):pz x≤rz row:=by
 induction row with
 |nil=>simp at h
 |cons y ys ih=>
  rw[eA]
  rcases Z1 h with rfl|h
  ·omega
  ·have:=ih h;omega
theorem IC{ρ:Ro}{x:DP}:∀{xs:List DP},x∈xs→x.v ρ∈ar ρ xs
 |y::ys,h=>by
  simp only[ar,List.mem_cons]
  rcases Z1 h with rfl|h
  ·exact .inl rfl
  ·exact .inr (IC h)
theorem TP{P:Program}{ρ:Ro}{cells:List DP}{tys:List (Nat×TypeId)}{e:Lin}(ht:dA P ρ tys)(hN:rz (ar ρ cells)≤2097152)(h:MN P cells tys e=true):e.v ρ≤0:=by
 unfold MN at h
 split at h
 ·rename_i a k he
  split at h
  ·rename_i ty h1 h2 h3 h4 h5
   have h1:k=1:=by
    unfold y5 at h1
    split at h1
    ·rename_i n;rw[ZU h1];rfl
    ·cases h1
   have h2:=ZU h2
   have h3:e.c≤0:=by
    unfold leZ at h3
    split at h3
    ·rename_i n hn;have:=ZU h3;rw[hn,this];exact Int.le_refl _
    ·rename_i n hn;rw[hn];omega
   obtain⟨x,hx,hv⟩:=List.any_eq_true.1 h4
   split at hv
   ·rename_i v
    have hv:=ZU hv;subst hv
    have hT:=eE ht h5
    have hm:=We (IC (ρ:=ρ) hx)
    simp only[DP.v,lvV,pz]at hm
    have hl:=hT.wt
    have hlen:∀row∈(ρ (a / 4)).l,row.length=(cks P ty).length:=by
     cases hl with
     |sl _ _ _ hl _=>exact hl
    have hr:=Kx _ _ hlen
    have hb:=ZX h
    have av:(ρ (a / 4)).l.length<(-e.c).toNat+1:=by
     refine Nat.lt_of_mul_lt_mul_left (a:=(cks P ty).length+1) ?_
     omega
    have az:e.v ρ=e.c+((ρ (a / 4)).l.length:Int):=by
     unfold Lin.v
     rw[he,h1]
     simp[bZ,aV,h2]
    rw[az];omega
   ·cases hv
  ·cases h
 ·cases h
def C5(P:Program)(R:mR):List Lin→Bool
 | []=>true
 |e::r=>match((u7 R.lin e||e.beq (R.rz.aN (-2097152)))||MN P R.cells R.tys e)with|true=>C5 P R r|false=>false
theorem ID{P:Program}{ρ:Ro}{R:mR}(ht:dA P ρ R.tys)(hl:bh ρ R.lin)(hz:R.rz.v ρ≤2097152)(hN:rz (ar ρ R.cells)≤2097152):∀{m:List Lin},C5 P R m=true→bh ρ m
 | [],_=>trivial
 |e::r,h=>by
  simp only[C5]at h
  split at h
  ·rename_i hc
   refine⟨?_,ID ht hl hz hN h⟩
   simp only[Bool.or_eq_true]at hc
   rcases hc with(hc|hc)|hc
   ·exact wJ hl hc
   ·rw[Lin.beq_eq hc,Lin.aO];omega
   ·exact TP ht hN hc
  ·cases h
def C6(l:List Lin):List Lin→Bool
 | []=>true
 |e::r=>match u7 l e with|true=>C6 l r|false=>false
theorem IE{ρ:Ro}{l:List Lin}(hl:bh ρ l):∀{m:List Lin},C6 l m=true→bh ρ m
 | [],_=>trivial
 |e::r,h=>by
  simp only[C6]at h
  split at h
  ·rename_i hc;exact⟨wJ hl hc,IE hl h⟩
  ·cases h
def SJ(P:Program)(R:mR)(is:List Nat)(m:List Lin):Bool:=match C6 R.lin m with
 |true=>true
 |false=>match MM 0 is with|true=>C5 P R m|false=>false
structure O3(P:Program)(T:TypeId)(s:Spec)(is:List Nat)(parts:List (Option Nat))(kinds:List RK):Prop where
 tab:s.tab=[]
 prs:s.prs=[]
 row:(iv (dw is (cks P T)) 0).isSome=true
 args:s.args=n4 parts (C4 (dw is (cks P T))).cells
 tys:Gk (C4 (dw is (cks P T))).tys s.tys=true
 lin:SJ P (C4 (dw is (cks P T))) is s.lin=true
 mJ:Gl kinds s.mJ=true
theorem bG{P:Program}{B:Pr}{s:Spec}{T:TypeId}{is:List Nat}{parts:List (Option Nat)}{kinds:List RK}(hK:aA P B s)(h:O3 P T s is parts kinds){w:World}{row:List PV}{vs:List Value}(hld:fV P w)(hw:Ty P T row)(hc:Cw w 0 row vs)(hN:rz row≤2097152):
  Ret P s.fn (eh parts (dw is vs)) w fun v w'=>Ch (fun _=>False) w w'∧∃us,v=mkv us∧jr P w' w.heap.size kinds us:=by
 obtain⟨ρ,hρ⟩:=rD (P:=P) (dw is (cks P T)) 0 _ (dw is row) (fun _=>default) (Rg h.row) (IB hw is) Ks
 have hlin:bh ρ s.lin:=by
  have hi:=h.lin
  unfold SJ at hi
  split at hi
  ·rename_i h1;exact IE hρ.lin h1
  ·split at hi
   ·rename_i h1
    have:=Kw row is 0 h1
    rw[List.drop_zero]at this
    exact ID hρ.tys hρ.lin (by rw[hρ.rz];omega) (by rw[hρ.cells];omega) hi
   ·cases hi
 have wY:s.pre.ok P B ρ:=⟨hρ.g,Kr hρ.tys h.tys,hlin,by simp only[Spec.pre,h.prs];trivial⟩
 refine(OU hK wY h.tab (w:=w) hld (vals:=eh parts (dw is vs)) (by rw[h.args];exact wI parts _ _ (by rw[hρ.cells];exact hc.pick is))).mono ?_
 rintro v w' ⟨bp,p,hp,ρ',E',ab,hv⟩
 exact⟨bp,V8 (I:=B) ab.g ab.tys ab.lin (Fw h.mJ p hp) hv⟩
theorem jr.nil{P:Program}{w:World}{lo:Nat}{us:List Value}(h:jr P w lo [] us):us=[]:=by
 cases us with
 |nil=>rfl
 |cons u us=>exact h.elim
theorem jr.skip{P:Program}{w:World}{lo:Nat}{r:List RK}{us:List Value}(h:jr P w lo (none::r) us):∃u us',us=u::us'∧jr P w lo r us':=by
 cases us with
 |nil=>exact h.elim
 |cons u us=>exact⟨u,us,rfl,h⟩
theorem jr.take{P:Program}{w:World}{lo:Nat}{ag:Bool}{ks:List CK}{r:List RK}{us:List Value}(h:jr P w lo (some (ag,ks)::r) us):∃row vs us',us=pk ag vs::us'∧Cw w lo row vs∧WTs P ks row∧jr P w lo r us':=by
 cases us with
 |nil=>exact h.elim
 |cons u us=>
  obtain⟨⟨row,vs,rfl,h1,h2⟩,h3⟩:=h
  exact⟨row,vs,us,rfl,h1,h2,h3⟩
theorem aG{l vs:List Value}(off n:Nat)(h:(l.drop off).take n=vs):∀(j:Nat) (v:Value),vs[j]? =some v→l.toArray[off+j]? =some v:=by
 intro j v hj
 subst h
 rw[List.getElem?_take]at hj
 split at hj
 ·simpa[List.getElem?_drop]using hj
 ·cases hj
theorem Gn{P:Program}{o:Oper}{n:Nat}{sl:dp}{a:Act}{w:World}{f:Fn}{first aQ:Array Operand}{us vs:List Value}(h:SL n sl a)(ho:o.op= .makeFunc f first aQ)(e1:evs sl first.toList=some us)(e2:evs sl aQ.toList=some vs):
  (execOp a.eval o).run P w= .ok (.value (.func f us.toArray vs.toArray)) w:=by
 rw[NJ h ho e1 e2];rfl
theorem vg{T:TypeId}{zs us:List Value}(w:World)(hl:us.length=zs.length):
  Ch (fun _=>False) w ((w.alloc (.cells zs.toArray T)).setRow w.heap.size (spl zs.toArray.toList 0 us).toArray)∧
   ((w.alloc (.cells zs.toArray T)).setRow w.heap.size (spl zs.toArray.toList 0 us).toArray).heap[w.heap.size]? =some (.cells us.toArray T (0,0)):=by
 have h1:=Ch.alloc (fun _=>False) w (.cells zs.toArray T)
 have h2:=Ch.setRow (w.alloc (.cells zs.toArray T)) w.heap.size (spl zs.toArray.toList 0 us).toArray
 have hb:(w.alloc (.cells zs.toArray T)).heap[w.heap.size]? =some (.cells zs.toArray T (0,0)):=heap_alloc_new w (.cells zs.toArray T)
 refine⟨h1.trans' h2 fun b hb' h=>by omega,?_⟩
 have h:spl zs.toArray.toList 0 us=us:=by simp[spl,hl]
 rw[h]
 exact setRow_heap _ _ _ us.toArray _ _ hb
def yOk(ops:Array Oper)(listed:Array Bool)(i:Nat):Bool:=match Region.noSelect ops,Region.free .any ops listed i,(Region.ready .any ops listed).contains i with
 |true,true,true=>true
 |_,_,_=>false
theorem Yb{P:Program}{ops:Array Oper}{Q:Exit→Act→World→Prop}{o:Oper}{n:Nat}{sl:dp}{a:Act}{w:World}{v:Value}{fuel:Nat}(i:Nat){listed:Array Bool}(h:SL n sl a)(hi:ops[i]? =some o)(hg:o.guard=none)(hd:dok n o.dst=true)(hy:yOk ops listed i=true)
  (hQ:∀c a w,Q (.panic c) a w→False)(hx:∀w,(execOp a.eval o).run P w= .ok (.value v) w)(k:∀a',SL n (fD o.dst v sl) a'→wpAny P .any ops Q fuel (listed.setIfInBounds i true) a' w):wpAny P .any ops Q (fuel+1) listed a w:=by
 unfold yOk at hy
 split at hy
 ·rename_i h1 h2 h3;exact Y h hi hg hd h1 h2 h3 hQ hx k
 ·cases hy
theorem Rh{P:Program}{ops:Array Oper}{Q:Exit→Act→World→Prop}{fuel:Nat}{listed:Array Bool}{a:Act}{w:World}(Leaf:Act→World→Prop)(hp:∀c a w,Q (.panic c) a w→False)(h:∀a w,Leaf a w→Q .normal a w)
  (k:(∀c a w,Q (.panic c) a w→False)→(∀a w,Leaf a w→Q .normal a w)→wpAny P .any ops Q fuel listed a w):wpAny P .any ops Q fuel listed a w:=k hp h
theorem bs{P:Program}{ops:Array Oper}{Q:Exit→Act→World→Prop}{o:Oper}{n:Nat}{sl:dp}{a:Act}{w:World}{i:Nat}{K:Act→World→Prop}{f:Operand}{args:Array Operand}{ts:Array TypeId}{g:FuncId}{first aQ:Array Value}{vs:List Value}{R:Value→World→Prop}(h:SL n sl a)(hi:ops[i]? =some o)(hg:o.guard=none)(hd:dok n o.dst=true)
  (ho:o.op= .call ⟨.value f,args,ts⟩)(hf:ev sl f=some (.func (.func g) first aQ))(ha:evs sl args.toList=some vs)(ab:aP P g=true)
  (hret:Ret P g (first.toList++(vs++aQ.toList)) w R)(k:∀v w' a',R v w'→SL n (fD o.dst v sl) a'→K a' w'):wpOp P ops Q i K a w:=by
 unfold wpOp
 simp only[hi]
 rw[if_pos (by unfold Region.wanted;rw[hg])]
 exact .inl (JJ h hd ho hf ha ab hret k)
def SK(P:Program)(n t:Nat)(TR:TypeId)(ks:List CK)(w0:World)(a:Act)(w:World):Prop:=
 ∃b3 rr uu,SL n [(t,Ptr b3 0)] a∧Ch (fun _=>False) w0 w∧w0.heap.size≤b3∧w.heap[b3]? =some (.cells uu.toArray TR (0,0))∧Cw w w0.heap.size rr uu∧WTs P ks rr
theorem b7{P:Program}{ops:Array Oper}{Q:Exit→Act→World→Prop}{listed:Array Bool}{a:Act}{w0 w:World}{n i1 t3 t5 m1 b3:Nat}{T1:TypeId}{jf:Bool}{o1:Oper}{bM:List Value}{rr0:List PV}{ks:List CK}{c3:Array Value}
  (hr1:Region.ready .any ops listed=[i1])(hr3:Region.ready .any ops (listed.setIfInBounds i1 true)=[])(hi1:ops[i1]? =some o1)(hg1:o1.guard=none)(hd1:o1.dst=none)(ho1:o1.op= .store T1 (.tmp t3) (.tmp t5))(hT1:Tp P T1 jf m1)(n35:Nat.beq t3 t5=false)
  (hQ:∀a w,SK P n t3 T1 ks w0 a w→Q .normal a w)(hs:SL n [(t3,Ptr b3 0),(t5,pk jf bM)] a)(g:Ch (fun _=>False) w0 w)(h3:w.heap[b3]? =some (.cells c3 T1 (0,0)))
  (z3:c3.size=m1)(l0:bM.length=m1)(one0:∀u∈bM,u.oneCell'=true)(lo3:w0.heap.size≤b3)(hst:∀w',(∀b o,b≠b3→w.heap[b]? =some o→w'.heap[b]? =some o)→Cw w' w0.heap.size rr0 bM)(wt:WTs P ks rr0):wpAny P .any ops Q 1 listed a w:=by
 have lk3:lk [(t3,Ptr b3 0),(t5,pk jf bM)] t3=some (Ptr b3 0):=by simp[lk,Nat.beq_refl]
 have lk5:lk [(t3,Ptr b3 0),(t5,pk jf bM)] t5=some (pk jf bM):=by simp[lk,Nat.beq_refl,n35]
 refine Y1 i1 hr1 (th hs hi1 hg1 hd1 (mI (ag:=jf) (m:=m1) bM hs ho1 lk3 lk5 hT1 l0 one0 h3 (by omega)) fun hs=>?_)
 have k1:=Ch.setRow w b3 (spl c3.toList 0 bM).toArray
 have f1:spl c3.toList 0 bM=bM:=by simp[spl,l0, ←z3]
 rw[f1]at k1 ⊢
 have h3':=setRow_heap _ _ _ bM.toArray _ _ h3
 have g1:=g.trans' k1 fun b hb h=>by omega
 refine Ye hr3 (hQ _ _ ⟨b3,rr0,bM,?_,g1,lo3,h3',hst _ fun b o hb hh=>k1.at hh hb,wt⟩)
 refine⟨hs.size,hs.defers,fun k v hk=>hs.ah k v ?_⟩
 simp only[lk]at hk
 cases hb:Nat.beq t3 k with
 |true=>simp only[hb,ZS]at hk;subst hk;rw[←ZU hb];exact lk3
 |false=>simp[hb]at hk
end Go.TL.H
namespace Go.TL.H
open Go
theorem jx{P:Program}{B:Pr}{s:Spec}(hz:s.nz=true)(h:∀ρ,s.pre.ok P B ρ→FnS P s.fn (dvs ρ s.args) (aU ρ s.tab) (pI P B s ρ)):aA P B s:=⟨hz,fun _ ρ ab _=>h ρ ab⟩
theorem qZ{P:Program}{B:Pr}{s:Spec}(hz:s.nz=true)(lQ:s.tab=[])
  (h:∀ρ,s.pre.ok P B ρ→∀(w:World) (E:Env) (lo:Nat) (vals:List Value),tL P lo w E→VRs w E lo (dvs ρ s.args) vals→Ret P s.fn vals w fun v w'=>Ch (fun _=>False) w w'∧v.oneCell'=true∧pI P B s ρ (.p (.v v) true) []):aA P B s:=by
 refine jx hz fun ρ wY=>?_
 intro lo w E vals aR ht hv
 refine Calls.mono (h ρ wY w E lo vals aR hv) ?_
 rintro e w' ⟨v,rfl,bp,h1,hp⟩
 rw[lQ]at ht
 refine⟨.p (.v v) true,v,[],E,rfl,hp,⟨bp.os,bp.tape,bp.output,bp.size,fun b hb hn=>⟨bp.keep b hb fun h=>h,hn⟩,rfl⟩,?_,.v _ h1,fun k x hx=> .inl hx⟩
 exact⟨fun k ov hk=>by simp[lk]at hk,fun k _=>ht.dead k (by simp[lk,aU]),fun b k hk=>by
  have:=ht.own b k hk
  exact absurd rfl this.2.2,fun b hb=>⟨Nat.lt_of_lt_of_le (ht.ext b hb).1 bp.size,(ht.ext b hb).2⟩⟩
theorem wK{P:Program}{B:Pr}{s:Spec}{ρ:Ro}{x:DP}{v:Value}{lin:List Lin}(va:Va)(ab:s.pre.ok P B ρ)(hp:s.mJ=[⟨1,[],lin,[],[],[.p x true]⟩])(hva:mQ va)(hl:bh (up ρ s.nv va) lin)(hx:x.v (up ρ s.nv va)= .v v):pI P B s ρ (.p (.v v) true) []:=by
 refine⟨(⟨1,[],lin,[],[],[.p x true]⟩:TL.cb),by rw[hp];exact List.mem_singleton.2 rfl,up ρ s.nv va,da _ _ _ _ (Nat.le_refl _),⟨ab.g.up _ hva,trivial,hl,trivial⟩,?_,rfl⟩
 simp[dmk,DV.v,hx]
theorem Ri{s:ByteArray}(h:s.size=1):∃c,s=⟨#[c]⟩:=by
 obtain⟨⟨l⟩⟩:=s
 match l,h with
 | [c],_=>exact⟨c,rfl⟩
theorem Et{P:Program}{f:Nat}{g:ByteArray→UInt8→Bool}(h:∀(s:ByteArray) (c:UInt8) (w:World),Calls P f #[.string s,.string ⟨#[c]⟩] w fun e w'=>e= .returned (.bool (g s c))∧w'=w):
  aA P aI ⟨f,2,[.p (.st (.var 0)) true,.p (.st (.var 1)) true],[],[],[⟨-1,[(7,1)]⟩,⟨1,[(7, -1)]⟩],[],⟨0,[]⟩,[⟨1,[],[],[],[],[.p (.bl (.var 2)) true]⟩]⟩:=by
 refine qZ rfl rfl fun ρ ab w E lo vals _ hv=>?_
 match vals,hv with
 | [v0,v1],hv=>
  simp only[dvs,VRs]at hv
  have e0:=dh hv.1
  have e1:=dh hv.2.1
  subst e0;subst e1
  have hl:=ab.lin
  simp only[Spec.pre,bh,Lin.v,bZ,aV]at hl
  obtain⟨c,hc⟩:=Ri (s:=(ρ 1).s) (by have h1:=hl.1;have h2:=hl.2.1;simp at h1 h2;omega)
  simp only[SE.v,hc]
  refine Calls.mono (h (ρ 0).s c w) ?_
  rintro e w' ⟨rfl,rfl⟩
  exact⟨_,rfl,Ch.refl _ _,rfl,wK (vaB _) ab rfl (uz _) trivial (by simp[DP.v,BF.v,bg,vaB];rfl)⟩
theorem Eu{S:Nat→Prop}{w:World}(k:Nat)(os:Array Obj):Ch S w (Sort.grow (w.drewN k) os):=by
 refine⟨rfl,rfl,rfl,by simp[Sort.grow,World.drewN],fun b hb _=>?_⟩
 simp only[Sort.grow,World.drewN]
 rw[Array.getElem?_append_left hb]
theorem Bo{P:Program}{lo:Nat}{w:World}(hu:(P.globalNamed "internal/strconv.uint64pow10").isSome=true) (h:KH P lo w):Lib.TabIs P w "internal/strconv.uint64pow10" .u64 Lib.pow10Tab:=by
 obtain⟨g,hg⟩:=Option.isSome_iff_exists.1 hu
 obtain⟨_,cs,t,fz,h1,rfl⟩:=h g hg
 unfold Lib.TabIs World.var?
 simp only[hg,Option.bind_some,h1]
 simp[Lib.pow10Tab]
theorem MO{P:Program}{f:Nat}(hu:(P.globalNamed "internal/strconv.uint64pow10").isSome=true)
  (h:∀(n:Int), -9223372036854775808≤n→n≤9223372036854775807→∀w:World,Lib.TabIs P w "internal/strconv.uint64pow10" .u64 Lib.pow10Tab→Calls P f #[.int .i64 n] w fun e w'=>e= .returned (.string ⟨(Lib.itoa n).toArray⟩)∧∃k os,w'=Sort.grow (w.drewN k) os):
  aA P aI ⟨f,1,[.p (.int .i64 ⟨0,[(0,1)]⟩) true],[],[],[],[],⟨0,[]⟩,[⟨1,[],[⟨-21,[(7,1)]⟩],[],[],[.p (.st (.var 1)) true]⟩]⟩:=by
 refine qZ rfl rfl fun ρ ab w E lo vals aR hv=>?_
 match vals,hv with
 | [v0],hv=>
  simp only[dvs,VRs]at hv
  have e0:=dh hv.1
  subst e0
  have hn:Lin.v ρ ⟨0,[(0,1)]⟩=(ρ 0).n:=by simp[Lin.v,bZ,aV]
  rw[hn]
  have h0:=ab.g.lo 0
  have h1:=ab.g.hi 0
  have hlen:=Lib.itoa_length_le (ρ 0).n h0 h1
  have bf:(⟨(Lib.itoa (ρ 0).n).toArray⟩:ByteArray).size=(Lib.itoa (ρ 0).n).length:=by simp[ByteArray.size]
  refine Calls.mono (h (ρ 0).n h0 h1 w (Bo hu aR.laid)) ?_
  rintro e w' ⟨rfl,k,os,rfl⟩
  refine⟨_,rfl,Eu k os,rfl,wK (vaS ⟨(Lib.itoa (ρ 0).n).toArray⟩) ab rfl (ma (by rw[bf];unfold cu;omega)) ⟨?_,trivial⟩ (by simp[DP.v,SE.v,bg,vaS])⟩
  simp only[Lin.v,bZ,aV,bg,vaS]
  simp[bf];omega
def MP(l:List UInt8):Nat:=l.foldl (fun a d=>10*a+(d.toNat - 48)) 0
theorem Au(u:Nat):MP (Lib.decDigits u)=u:=by
 induction u using Nat.strongRecOn with
 |_ u ih=>
  rw[Lib.decDigits]
  split
  ·simp[MP];omega
  ·have:=ih (u / 10) (by omega)
   unfold MP at this ⊢
   rw[List.foldl_append,this]
   simp;omega
def nm(pre:List UInt8)(n:Int):ByteArray:=⟨pre.toArray⟩++⟨(Lib.itoa n).toArray⟩
theorem Wf{pre:List UInt8}{m n:Int}(hm:0≤m)(hn:0≤n)(h:nm pre m=nm pre n):m=n:=by
 have h1:=congrArg (fun b:ByteArray=>b.data.toList) h
 simp only[nm,ByteArray.data_append,Array.toList_append,List.append_cancel_left_eq]at h1
 unfold Lib.itoa at h1
 rw[if_neg (by omega),if_neg (by omega)]at h1
 have:=congrArg MP h1
 rw[Au,Au]at this
 omega
theorem IF:∀(m:Nat) (l:List Nat),l.Nodup→(∀x∈l,x<m)→l.length≤m
 |0,l,_,h=>by
  cases l with
  |nil=>simp
  |cons x l=>exact absurd (h x (by simp)) (by omega)
 |m+1,l,hn,h=>by
  have:=IF m (l.erase m) (hn.erase m) fun x hx=>by
   have h1:=h x (List.mem_of_mem_erase hx)
   have:x≠m:=fun e=>by subst e;exact(hn.not_mem_erase) hx
   omega
  rw[List.length_erase]at this
  split at this<;>omega
theorem Wg{k m:Nat}{R:Nat→Nat→Prop}(h:∀j,j<k→∃i,i<m∧R j i)(hR:∀j j' i,R j i→R j' i→j=j'):k≤m:=by
 let f:Nat→Nat:=fun j=>if hj:j<k then Classical.choose (h j hj)else 0
 have hf:∀j,j<k→f j<m∧R j (f j):=fun j hj=>by
  simp only[f,dif_pos hj];exact Classical.choose_spec (h j hj)
 have h1:((List.range k).map f).Nodup:=by
  refine List.Pairwise.map _ (R:=fun a b=>a<k∧b<k∧a≠b) (fun a b hab e=>?_) ?_
  ·have:=(hf a hab.1).2
   rw[e]at this
   exact hab.2.2 (hR _ _ _ this (hf b hab.2.1).2)
  ·have:=List.nodup_range (n:=k)
   exact(List.Pairwise.and_mem.1 this).imp fun h=>by simp at h;exact⟨h.1,h.2.1,h.2.2⟩
 have:=IF m _ h1 fun x hx=>by
  obtain⟨j,hj,rfl⟩:=List.mem_map.1 hx
  exact(hf j (by simpa using hj)).1
 simpa using this
theorem MQ{P:Program}{w:World}{t kt et:TypeId}{b:Nat}{es:Array MapEntry}{clock:Nat}{z:Value}{s:ByteArray}(ht:P.underlying t=some (.map kt et))(hk:P.underlying kt=some .string)
  (hb:w.heap[b]? =some (.map es clock))(oC:∀x∈es.toList,MapKept.IsKey .string x.key)(hz:(zeroValue et).run P w= .ok z w):
  (∃(i:Nat) (e:MapEntry),es[i]? =some e∧e.key= .string s∧(Instr.lookup t (.map (some b)) (.string s) false).run P w= .ok e.val w)∨(Instr.lookup t (.map (some b)) (.string s) false).run P w= .ok z w:=by
 rcases MapKept.findNow_spec (d:= .string) (k:= .string s) trivial es.toList 0 oC with⟨h1,h2⟩|⟨j,e,h1,h2,h3⟩
 ·refine .inr ?_
  simp[Instr.lookup,run_underlying ht,MapKept.run_getObj_map hb,MapKept.run_checkKey hk (d:= .string) (k:= .string s) trivial,MapKept.run_findKey hk h1,hz,Result.andThen]
 ·refine .inl ⟨j,e,by simpa using h2,h3,?_⟩
  simp[Instr.lookup,run_underlying ht,MapKept.run_getObj_map hb,MapKept.run_checkKey hk (d:= .string) (k:= .string s) trivial,MapKept.run_findKey hk h1,Result.andThen]
theorem Bp{v:Value}{cs:List Value}:∀(j:Nat) u,[v][j]? =some u→(v::cs).toArray[0+j]? =some u:=by
 intro j u h
 cases j with
 |zero=>simpa using h
 |succ j=>simp at h
theorem Ev{v u0:Value}{cs:List Value}:∀(j:Nat) u,[v][j]? =some u→(u0::v::cs).toArray[1+j]? =some u:=by
 intro j u h
 cases j with
 |zero=>simpa using h
 |succ j=>simp at h
theorem vh{w:World}{b:Nat}{o:Obj}(h:b<w.heap.size):Ch (· =b) w {w with heap:=w.heap.setIfInBounds b o}∧({w with heap:=w.heap.setIfInBounds b o}:World).heap[b]? =some o:=
 ⟨⟨rfl,rfl,rfl,by simp,fun c _ hn=>by simp[Ne.symm hn]⟩,by simp[h]⟩
end Go.TL.H
