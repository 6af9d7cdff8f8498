/- What a program asks of itself, by words that the kernel answers. -/
import Derived.Test.YtbjmbhgbalmoaaaW26
import Derived.Test.YtbjmbhgbalmoaaaW12
import Derived.Lib.LaidTab
import Derived.LaidSub
import Derived.Lib.ItoaNum
import Derived.Lib.ItoaLen
import Derived.Sort.Row
import Derived.Sort.Grow
import Derived.Lib.Bytealg
namespace Go.TL.H
open Go
theorem aA{P:Program}{f:FuncId}{n:Nat}{res:List ResultVar}{c':Code}(h:(P.funcs[f]?).map (fun fn=>(fn.body.map norm,fn.ntmps,fn.results.toList))=some (some c',n,res))(aC:aD P f=true):Body P f n res c':=by
 cases hf:P.funcs[f]? with
 |none=>simp[hf]at h
 |some fn=>
  simp only[hf,Option.map_some,Ct,Cu]at h
  obtain⟨h1,h2,h3⟩:=h
  cases hb:fn.body with
  |none=>simp[hb]at h1
  |some c=>exact⟨aC,fn,c,hf,hb,by simpa[hb]using h1,h2,h3⟩
theorem bN{P:Program}{t:TypeId}{z:Value}(h:(P.info? t).map (fun i=>(i.size,i.zero,Nat.ble i.bytes 24))=some (1,some z,true))(ha:fF P t=some false)(hz:z.cells= #[z]):One P t z:=by
 cases hi:P.info? t with
 |none=>simp[hi]at h
 |some i=>
  simp only[hi,Option.map_some,Ct,Cu]at h
  exact⟨⟨i,hi,ha,h.1,h.2.1,Cz h.2.2⟩,hz⟩
theorem ow{P:Program}{t:TypeId}{zs:List Value}(h:(P.info? t).map (fun i=>(i.size,i.zero,Nat.ble i.bytes 1024))=some (zs.length,some (.agg zs.toArray),true))(ha:fF P t=some true):Big P t zs:=by
 cases hi:P.info? t with
 |none=>simp[hi]at h
 |some i=>
  simp only[hi,Option.map_some,Ct,Cu]at h
  exact⟨⟨i,hi,ha,h.1,h.2.1,Cz h.2.2⟩⟩
theorem lq{P:Program}{t:TypeId}{sz:Nat}{zs:List Value}(h:(P.info? t).map (fun i=>(i.size,i.zero.map Value.cells,Nat.ble i.bytes 1024))=some (sz,some zs.toArray,true))(hl:zs.length=sz)(hp:Nat.blt 0 sz=true)(hr:Nat.ble 1000000 t=false:=by rfl):El P t sz zs:=by
 cases hi:P.info? t with
 |none=>simp[hi]at h
 |some i=>
  simp only[hi,Option.map_some,Ct,Cu]at h
  obtain⟨h1,h2,h3⟩:=h
  cases hz:i.zero with
  |none=>simp[hz]at h2
  |some z=>exact⟨⟨i,z,hi,h1,hz,by simpa[hz]using h2,Cz h3⟩,hl,Cz hp,hr⟩
def qB(ag:Bool)(n:Nat):Bool:=match ag with|true=>true|false=>Nat.beq n 1
theorem iQ{P:Program}{t:TypeId}{ag:Bool}{n:Nat}(h:(P.info? t).map (·.size)=some n)(ha:fF P t=some ag)(h1:qB ag n=true):Tp P t ag n:=by
 cases hi:P.info? t with
 |none=>simp[hi]at h
 |some i=>
  simp only[hi,Option.map_some,Ct]at h
  refine⟨⟨i,hi,ha,h⟩,fun hf=>?_⟩
  subst hf;exact Cv h1
theorem rq{P:Program}{t:TypeId}{n:Nat}(h:(P.info? t).map (fun i=>Nat.ble i.bytes n)=some true):∀i,P.info? t=some i→i.bytes≤n:=by
 intro i hi
 simp only[hi,Option.map_some,Ct]at h
 exact Cz h
theorem size_mk{P:Program}{t:TypeId}{n:Nat}(h:(P.info? t).map (·.size)=some n):∃i,P.info? t=some i∧i.size=n:=by
 cases hi:P.info? t with
 |none=>simp[hi]at h
 |some i=>simp only[hi,Option.map_some,Ct]at h;exact⟨i,rfl,h⟩
def fo(ck:List CK):Nat→List CK→Bool
 |_,[]=>true
 |off,k::r=>match decide (ck[off]? =some k)with|true=>fo ck (off+1) r|false=>false
theorem ma{ck:List CK}:∀{l:List CK} {off:Nat},fo ck off l=true→∀(j:Nat) (k:CK),l[j]? =some k→ck[off+j]? =some k
 | [],off,_,j,k,hj=>by simp at hj
 |x::r,off,h,j,k,hj=>by
  simp only[fo]at h
  split at h
  ·rename_i hd
   have hd:=of_decide_eq_true hd
   cases j with
   |zero=>simp at hj;subst hj;exact hd
   |succ j=>have:=ma h j k (by simpa using hj);rw[←this];congr 1;omega
  ·cases h
def mJ(D:cT):List (Nat×Nat×FuncId)→Bool
 | []=>false
 |(_,_,g)::l=>match lk D g with|some r=>r.hn||mJ D l|none=>mJ D l
def ph(D:cT):List (Nat×Nat×FuncId)→Nat
 | []=>0
 |(_,_,g)::l=>match lk D g with|some r=>r.ck.length+ph D l|none=>ph D l
def oy(P:Program)(D:cT)(T:TypeId)(ck:List CK)(bp:Nat):List (Nat×Nat×FuncId)→Bool
 | []=>true
 |(i,off,g)::l=>match lk D g,aO P T i with
   |some rg,some (o,_)=>match Nat.blt rg.bp bp,Nat.beq o off,fo ck off rg.ck with
    |true,true,true=>oy P D T ck bp l
    |_,_,_=>false
   |_,_=>false
theorem ru{P:Program}{D:cT}{T:TypeId}{ck:List CK}{bp:Nat}:∀{l:List (Nat×Nat×FuncId)},oy P D T ck bp l=true→mo P D T ck bp l (ph D l) (mJ D l)
 | [],_=>⟨rfl,rfl⟩
 |(i,off,g)::l,h=>by
   simp only[oy]at h
   split at h
   ·rename_i rg o sz h1 h2
    split at h
    ·rename_i q1 q2 q3
     have q2:=Cv q2;subst q2
     exact⟨rg,sz,ph D l,mJ D l,h1,Cz q1,h2,fun j k hj=>ma q3 j k hj,by simp[ph,h1],by simp[mJ,h1],ru h⟩
    ·cases h
   ·cases h
section
variable {P:Program} {y:TY} {D:cT} {f:FuncId} {bp:Nat}
theorem yQ{T:TypeId}{z:Value}(h:Body P f 33 [] (tC y T))(hz:One P T z):Fit P y D f ⟨.num T,[.int .i64],true,bp⟩:=⟨h,⟨z,hz⟩,rfl,rfl⟩
theorem yR(h:Body P f 49 [] (tG y)):Fit P y D f ⟨.str,[.str],false,bp⟩:=⟨h,rfl,rfl⟩
theorem Ag{T:TypeId}{parts:List (Nat×Nat×FuncId)}{ck:List CK}{hn:Bool}(h:Body P f (4+5*parts.length) [] (stC T 4 parts))(hp:oy P D T ck bp parts=true)(hk:ph D parts=ck.length)(hh:mJ D parts=hn):Fit P y D f ⟨.st T parts,ck,hn,bp⟩:=by
 refine⟨h,?_⟩
 have:=ru hp
 rw[hk,hh]at this;exact this
theorem mK{L e:TypeId}{al one:FuncId}{sz:Nat}{r1:Row}(h:Body P f 9 [] (oO L al one))(h2:Body P al 46 [] (nh y L))(h3:P.underlying L=some (.slice e))(h4:(P.info? e).map (·.size)=some sz)(h5:One P L ao)(h6:aD P one=true)
  (h7:lk D one=some r1)(h8:r1.ck=cks P e)(h9:r1.ck.length=sz)(h10:Nat.ble sz 16=true)(h11:qB r1.hn sz=true):Fit P y D f ⟨.via L al one e sz,[.sl e],true,bp⟩:=
 ⟨h,h2,h3,size_mk h4,h5,rfl,rfl,h6,r1,h7,h8,h9,Cz h10,fun hf=>by rw[hf]at h11;exact Cv h11⟩
theorem Ah(h:∀p∈D,Fit P y D p.1 p.2):iL P y D:=by
 have key:∀(l:cT) f r,lk l f=some r→(f,r)∈l:=by
  intro l
  induction l with
  |nil=>intro f r h;simp[lk]at h
  |cons p l ih=>
   obtain⟨k,x⟩:=p
   intro f r h
   simp only[lk]at h
   cases hb:Nat.beq k f with
   |true=>simp only[hb,Ct]at h;subst h;rw[Cv hb];simp
   |false=>simp only[hb]at h;exact List.mem_cons.2 (.inr (ih f r h))
 intro f r hf
 exact h (f,r) (key D f r hf)
end
def zcB:CK→Value→Bool
 | .int k,.int k' n=>match decide (k=k')with|true=>isZ n|false=>false
 | .bool,.bool _=>true
 | .str,.string s=>Nat.beq s.size 0
 | .sl _,.slice none 0 0=>true
 |_,_=>false
def me:List CK→List Value→Bool
 | [],[]=>true
 |k::ks,v::vs=>match zcB k v with|true=>me ks vs|false=>false
 |_,_=>false
theorem sR(k:IntKind):k.min≤0∧0≤k.max:=by cases k<;>decide
theorem AZ{P:Program}{k:CK}{v:Value}(h:zcB k v=true):WR P k (zc true v)∧v.oneCell'=true:=by
 unfold zcB at h
 split at h
 ·rename_i k k' n
  split at h
  ·rename_i hk
   have hk:=of_decide_eq_true hk;subst hk
   have hn:n=0:=ku h
   subst hn
   exact⟨.int _ _ (sR k).1 (sR k).2,rfl⟩
  ·cases h
 ·exact⟨.bool _,rfl⟩
 ·rename_i s
  have h:=Cv h
  exact⟨.str s (by rw[h];exact Nat.zero_le _),rfl⟩
 ·rename_i e
  exact⟨.rm e 0 [] (by simp) (Nat.zero_le _) (by simp) (by simp) (by simp),rfl⟩
 ·cases h
theorem vD{P:Program}:∀{ks:List CK} {vs:List Value},me ks vs=true→vs.length=ks.length∧∀(j:Nat) (ck:CK) (u:Value),ks[j]? =some ck→vs[j]? =some u→WR P ck (zc true u)∧u.oneCell'=true
 | [],[],_=>⟨rfl,fun j ck u h=>by simp at h⟩
 |k::ks,v::vs,h=>by
  simp only[me]at h
  split at h
  ·rename_i hv
   obtain⟨h1,h2⟩:=vD (P:=P) h
   refine⟨by simp[h1],fun j ck u hj hu=>?_⟩
   cases j with
   |zero=>simp at hj hu;subst hj;subst hu;exact AZ hv
   |succ j=>exact h2 j ck u (by simpa using hj) (by simpa using hu)
  ·cases h
 | [],_::_,h=>by simp[me]at h
 |_::_,[],h=>by simp[me]at h
theorem vF{P:Program}{e:TypeId}{zs:List Value}(h:me (cks P e) zs=true):ZOk P e zs:=vD h
def mL(P:Program)(T:TypeId):Nat→List fA→Bool
 |_,[]=>true
 |bnd,p::l=>match Nat.ble bnd p.off,Nat.ble (p.off+p.n) (cks P T).length,(match aO P T p.i with|some (o,_)=>Nat.beq o p.off|none=>false),decide ((P.info? p.T).map (·.size)=some p.n),decide (fF P p.T=some p.ag)with
  |true,true,true,true,true=>match qB p.ag p.n,Nat.beq (cks P p.T).length p.n,fo (cks P T) p.off (cks P p.T)with
   |true,true,true=>mL P T (p.off+p.n) l
   |_,_,_=>false
  |_,_,_,_,_=>false
theorem p8{P:Program}{T:TypeId}:∀{l:List fA} {bnd:Nat},mL P T bnd l=true→jG P T bnd l
 | [],_,_=>trivial
 |p::l,bnd,h=>by
  simp only[mL]at h
  split at h
  ·rename_i q1 q2 q3 q4 q5
   split at h
   ·rename_i q6 q7 q8
    have q7:=Cv q7
    refine⟨Cz q1,Cz q2,?_,iQ (of_decide_eq_true q4) (of_decide_eq_true q5) q6,q7,fun j hj=>?_,p8 h⟩
    ·cases hf:aO P T p.i with
     |none=>simp[hf]at q3
     |some x=>
      obtain⟨o,sz⟩:=x
      simp only[hf]at q3
      exact⟨sz,by rw[Cv q3]⟩
    ·obtain⟨k,hk⟩:∃k,(cks P p.T)[j]? =some k:=⟨(cks P p.T)[j]'(by omega),by simp⟩
     rw[hk];exact ma q8 j k hk
   ·cases h
  ·cases h
def pj(ps:List fA):Nat→List CK→Bool
 |_,[]=>true
 |j,.sl _::r=>match ps.any (fun p=>match Nat.ble p.off j with|true=>Nat.blt j (p.off+p.n)|false=>false)with|true=>pj ps (j+1) r|false=>false
 |j,_::r=>pj ps (j+1) r
theorem Ai{ps:List fA}:∀{l:List CK} {k:Nat},pj ps k l=true→∀(j:Nat) (e:TypeId),l[j]? =some (.sl e)→∃p∈ps,p.off≤k+j∧k+j<p.off+p.n:=by
 intro l
 induction l with
 |nil=>intro k _ j e h;simp at h
 |cons x r ih=>
  intro k h j e hj
  have step:pj ps (k+1) r=true∧(∀e,x= .sl e→∃p∈ps,p.off≤k∧k<p.off+p.n):=by
   cases x<;>simp only[pj]at h
   case sl e'=>
    split at h
    ·rename_i ha
     refine⟨h,fun e he=>?_⟩
     obtain⟨p,hp,hq⟩:=List.any_eq_true.1 ha
     split at hq
     ·rename_i hb;exact⟨p,hp,Cz hb,Cz hq⟩
     ·cases hq
    ·cases h
   all_goals exact⟨h,fun e he=>by cases he⟩
  cases j with
  |zero=>simp at hj;subst hj;exact step.2 e rfl
  |succ j=>
   obtain⟨p,hp,h1,h2⟩:=ih step.1 j e (by simpa using hj)
   exact⟨p,hp,by omega,by omega⟩
def oz(P:Program)(O:lQ)(bp:Nat):List fA→Bool
 | []=>true
 |p::l=>match aD P p.g,lk O p.g with
  |true,some r1=>match Nat.beq r1.t p.T,decide (r1.ag=p.ag),Nat.blt r1.bp bp with
   |true,true,true=>oz P O bp l
   |_,_,_=>false
  |_,_=>false
theorem rv{P:Program}{O:lQ}{bp:Nat}:∀{l:List fA},oz P O bp l=true→∀p∈l,aD P p.g=true∧∃r1,lk O p.g=some r1∧r1.t=p.T∧r1.ag=p.ag∧r1.bp<bp
 | [],_,p,hp=>by simp at hp
 |q::l,h,p,hp=>by
  simp only[oz]at h
  split at h
  ·rename_i r1 h1 h2
   split at h
   ·rename_i q1 q2 q3
    rcases CD hp with rfl|hp
    ·exact⟨h1,r1,h2,Cv q1,of_decide_eq_true q2,Cz q3⟩
    ·exact rv h p hp
   ·cases h
  ·cases h
section
variable {P:Program} {y:TY} {O:lQ} {f:FuncId} {bp:Nat}
theorem sS{L e:TypeId}{sz:Nat}{zs:List Value}(h:Body P f 9 [.tmp 2] (fk y L))(h2:P.underlying L=some (.slice e))(h3:El P e sz zs)(h4:me (cks P e) zs=true)(h5:(cks P e).length=sz)(h6:cks P L=[.sl e])(h7:de (cks P e)=true):iE P y O f ⟨.cp L e sz zs,bp⟩:=
 ⟨h,h2,h3,vF h4,h5,h6,h7⟩
theorem yS{L e:TypeId}{sz:Nat}{ag:Bool}{zs:List Value}{cp one:FuncId}{r1:eY}(h:Body P f 21 [.tmp 2] (nW y L e cp one))(h1:Body P cp 9 [.tmp 2] (fk y L))(h2:P.underlying L=some (.slice e))(h3:El P e sz zs)(h4:me (cks P e) zs=true)(h5:(cks P e).length=sz)(h6:cks P L=[.sl e])
  (h7:(P.info? e).map (·.size)=some sz)(h8:fF P e=some ag)(h9:qB ag sz=true)(h10:aD P one=true)(h11:lk O one=some r1)(h12:r1.t=e)(h13:r1.ag=ag):iE P y O f ⟨.ls L e sz ag zs cp one,bp⟩:=
 ⟨h,h1,h2,h3,vF h4,h5,h6,iQ h7 h8 h9,h10,r1,h11,h12,h13⟩
theorem yT{T:TypeId}{sz:Nat}{zs:List Value}{ps:List fA}(h:Body P f (4+4*ps.length) [.cell 2 T] (nX T ps))(h3:El P T sz zs)(h7:(P.info? T).map (·.size)=some sz)(h8:fF P T=some true)(h5:(cks P T).length=sz)(h6:mL P T 0 ps=true)(h9:oz P O bp ps=true)(h10:pj ps 0 (cks P T)=true):iE P y O f ⟨.st T sz zs ps,bp⟩:=
 ⟨h,h3,iQ h7 h8 rfl,h5,p8 h6,rv h9,fun j e hj=>by have:=Ai h10 j e hj;simpa using this⟩
theorem yU(h:∀p∈O,iE P y O p.1 p.2):∀f r,lk O f=some r→iE P y O f r:=by
 have key:∀(l:lQ) f r,lk l f=some r→(f,r)∈l:=by
  intro l
  induction l with
  |nil=>intro f r h;simp[lk]at h
  |cons p l ih=>
   obtain⟨k,x⟩:=p
   intro f r h
   simp only[lk]at h
   cases hb:Nat.beq k f with
   |true=>simp only[hb,Ct]at h;subst h;rw[Cv hb];simp
   |false=>simp only[hb]at h;exact List.mem_cons.2 (.inr (ih f r h))
 intro f r hf
 exact h (f,r) (key O f r hf)
end
def xg(ms:List TypeId):CK→Bool
 | .sl e=>ms.any (Nat.beq e)
 |_=>true
def elB(P:Program)(ms:List TypeId)(e:TypeId):Bool:=match j6 P 8 e,Nat.blt 0 (cks P e).length,Nat.beq (P.cellsOf e) (cks P e).length with
 |true,true,true=>(cks P e).all (xg ms)
 |_,_,_=>false
theorem vH{ms:List TypeId}{k:CK}(h:xg ms k=true):∀e,k= .sl e→e∈ms:=by
 intro e he;subst he
 obtain⟨x,hx,hb⟩:=List.any_eq_true.1 h
 rw[Cv hb];exact hx
theorem A0{P:Program}{ms:List TypeId}(h:ms.all (elB P ms)=true):∀e,e∈ms→wJ P (· ∈ms) e:=by
 intro e he
 have:=List.all_eq_true.1 h e he
 unfold elB at this
 split at this
 ·rename_i q1 q2 q3
  exact⟨q1,Cz q2,Cv q3,fun e' he'=>vH (List.all_eq_true.1 this _ he') e' rfl⟩
 ·cases this
theorem A1{ms:List TypeId}{ks:List CK}(h:ks.all (xg ms)=true):∀e,.sl e∈ks→e∈ms:=fun e he=>vH (List.all_eq_true.1 h _ he) e rfl
theorem yV{P:Program}{y:TY}{z:TZ}{T LC CT:TypeId}{sz:Nat}{zs:List Value}{D:cT}{O:lQ}{S W lE look same alike apart fV f:FuncId}{rS:Row}{rO:eY}{Cs:List FuncId}(K:Kit P y)(K2:nk P y z)(K3:nq P y z T LC CT sz zs)(hD:iL P y D)(hS:lk D S=some rS)(aX:rS.ck=cks P T)
  (hO:∀f r,lk O f=some r→iE P y O f r)(hW:lk O W=some rO)(hWt:rO.t=T)(hWa:rO.ag=true)(hWok:aD P W=true)(_hSok:aD P S=true)(hG:Body P lE 27 [.tmp 2] (nT y))(hL:Body P look 23 [.tmp 2] (mu y z))(hA:Body P alike 29 [.tmp 6] (kq y z same))(hSm:Body P same 59 [.tmp 4] (jW y))
  (hB:Body P apart 95 [.tmp 8] (qN y z T LC CT lE look same alike))(hTop:Body P f 9 [.tmp 2] (wO T LC Cs apart W S fV))(h0:Nat.blt 0 Cs.length=true)(h1:Nat.ble Cs.length 1000=true)
  (hCs:∀C∈Cs,aD P C=true∧kY P D T 2097152 C)(hfl:aD P fV=true)(hF:∀w',dD P w'→Ret P fV [] w' fun v w''=>v= .bool true∧Ch (fun _=>False) w' w''):
  ∀(w:World) (xs:List Value) (row:List PV),dD P w→dz P w (cks P T) xs row→rz row≤2097152→Ret P f [.agg xs.toArray] w fun v w'=>v= .bool true∧Ch (fun _=>False) w w':=by
 intro w xs row hld hg hN
 have hlen:xs.length=sz:=by rw[hg.cw.len,((aI _ _).1 hg.ty).1,K3.cks]
 have hOw:jF P W T true 2097152:=by
  have:=zI hO 2097152 rO.bp W rO hW (Nat.le_refl _)
  rw[hWt,hWa]at this;exact this
 refine zN hTop K3.tp K3.lcU K3.ct (Cz h0) (Cz h1) hlen hg.cw.one hB.ok (fun w' bc a8 hbc=>?_) hfl fun w' a8=>hF w' (hld.ch a8)
 refine wI K K2 K3 hD hS aX hOw hWok hG hL hA hSm hB (by
  obtain⟨d,hd⟩:=hg.wz
  exact⟨d,fun j k hj=>by
   obtain⟨u,h1,h2⟩:=hd j k hj
   exact⟨u,h1,h2.xT fun b o hb=>a8.at hb fun h=>h⟩⟩) (hld.ch a8) (hg.cw.ch a8) hg.ty hN hbc (Cz h1) fun i hi=>?_
 refine⟨Cs[i],by simp[gp,hi],hCs _ (by simp)⟩
end Go.TL.H
namespace Go.TL.H
open Go
def cZ{α:Type}(is:List Nat)(l:List α):List α:=is.filterMap (l[·]?)
theorem iq{α:Type}(i:Nat)(is:List Nat)(l:List α):cZ (i::is) l=match l[i]? with|some x=>x::cZ is l|none=>cZ is l:=by
 unfold cZ;rw[List.filterMap_cons];cases l[i]? <;>rfl
theorem fU{α:Type}{l:List α}{n:Nat}(h:l.length=n+1):∃x r,l=x::r∧r.length=n:=by
 cases l with
 |nil=>simp at h
 |cons x r=>exact⟨x,r,rfl,by simpa using h⟩
theorem Cw.pick{w:World}{lo:Nat}{row:List PV}{vs:List Value}(h:Cw w lo row vs):∀is:List Nat,Cw w lo (cZ is row) (cZ is vs)
 | []=>⟨rfl,fun j x hj=>by simp[cZ]at hj⟩
 |i::is=>by
  have ih:=h.pick is
  rw[iq,iq]
  cases hr:row[i]? with
  |none=>
   have:vs[i]? =none:=by rw[List.getElem?_eq_none_iff]at hr ⊢;rw[h.len];exact hr
   rw[this];exact ih
  |some x=>
   obtain⟨u,hu,hrep⟩:=h.rep i x hr
   rw[hu]
   refine⟨by simp[ih.len],fun j z hj=>?_⟩
   cases j with
   |zero=>simp at hj;subst hj;exact⟨u,rfl,hrep⟩
   |succ j=>exact ih.rep j z (by simpa using hj)
theorem ry{P:Program}{ks:List CK}{row:List PV}(h:WTs P ks row):∀is:List Nat,WTs P (cZ is ks) (cZ is row)
 | []=>trivial
 |i::is=>by
  have ih:=ry h is
  have h2:=(aI _ _).1 h
  rw[iq,iq]
  cases hr:row[i]? with
  |none=>
   have:ks[i]? =none:=by rw[List.getElem?_eq_none_iff]at hr ⊢;rw[←h2.1];exact hr
   rw[this];exact ih
  |some x=>
   have aF:i<ks.length:=by rw[←h2.1];exact(CA hr).1
   have hk:ks[i]? =some ks[i]:=by simp
   rw[hk]
   exact⟨h2.2 i _ x hk hr,ih⟩
def uf:Nat→List Nat→Bool
 |_,[]=>true
 |k,i::r=>match Nat.ble k i with|true=>uf (i+1) r|false=>false
theorem oA(row:List PV):∀(k i:Nat),k≤i→rz (row.drop i)≤rz (row.drop k):=by
 intro k i hki
 obtain⟨d,rfl⟩:=Nat.le.dest hki
 have:=np (row.drop k) d
 rw[List.drop_drop]at this
 omega
theorem sT(row:List PV):∀(is:List Nat) (k:Nat),uf k is=true→rz (cZ is row)≤rz (row.drop k)
 | [],k,_=>by simp[cZ,fc]
 |i::is,k,h=>by
  simp only[uf]at h
  split at h
  ·rename_i hk
   have hk:=Cz hk
   have ih:=sT row is (i+1) h
   have hd:=oA row k i hk
   rw[iq]
   cases hr:row[i]? with
   |none=>have:=oA row i (i+1) (by omega);simp only;omega
   |some x=>
    have hc:row.drop i=x::row.drop (i+1):=by
     have aF:=(CA hr).1
     rw[List.drop_eq_getElem_cons aF]
     congr 1
     have:=(CA hr).2
     exact this
    rw[hc,dG]at hd
    simp only[dG];omega
  ·cases h
def oB(ks:List CK):j7:=match jJ ks 0 with|some R=>R|none=>⟨[],0,[],[],Lin.lit 0⟩
theorem xh{ks:List CK}(h:(jJ ks 0).isSome=true):jJ ks 0=some (oB ks):=by
 unfold oB
 cases hd:jJ ks 0 with
 |none=>simp[hd]at h
 |some R=>rfl
def ug(P:Program)(cells:List DP)(tys:List (Nat×TypeId))(e:Lin):Bool:=match e.t with
 | [(a,k)]=>match qn k,Nat.beq (a % 4) 1,leZ e.c,cells.any (fun x=>match x with| .sl (some v)=>Nat.beq v (a / 4)|_=>false),lk tys (a / 4)with
  |true,true,true,true,some ty=>Nat.ble 2097152 (((cks P ty).length+1)*((-e.c).toNat+1))
  |_,_,_,_,_=>false
 |_=>false
theorem vI:∀row:List PV,row.length≤rz row
 | []=>by simp
 |x::xs=>by
  have:=vI xs
  rw[dG]
  have hx:1≤pz x:=by
   cases x with
   |v v=>cases v<;>simp only[pz]<;>omega
   |sl rows=>simp only[pz];omega
   |rm m rows=>simp only[pz];omega
   |ls rows=>simp only[pz];omega
   |un=>simp only[pz];omega
   |mp a rows=>simp only[pz];omega
  simp;omega
theorem sV(m:Nat):∀rows:List (List PV),(∀row∈rows,row.length=m)→(m+1)*rows.length≤rsz rows
 | [],_=>by simp
 |r::rs,h=>by
  have ih:=sV m rs fun row hr=>h row (Cx _ hr)
  have h1:=vI r
  have h2:=h r (Cy)
  rw[kQ,List.length_cons,Nat.mul_succ]
  omega
theorem Aj{row:List PV}{x:PV}(h:x∈row):pz x≤rz row:=by
 induction row with
 |nil=>simp at h
 |cons y ys ih=>
  rw[dG]
  rcases CD h with rfl|h
  ·omega
  ·have:=ih h;omega
theorem rA{ρ:Ro}{x:DP}:∀{xs:List DP},x∈xs→x.v ρ∈aU ρ xs
 |y::ys,h=>by
  simp only[aU,List.mem_cons]
  rcases CD h with rfl|h
  ·exact .inl rfl
  ·exact .inr (rA h)
theorem yW{P:Program}{ρ:Ro}{cells:List DP}{tys:List (Nat×TypeId)}{e:Lin}(ht:df P ρ tys)(hN:rz (aU ρ cells)≤2097152)(h:ug P cells tys e=true):e.v ρ≤0:=by
 unfold ug at h
 split at h
 ·rename_i a k he
  split at h
  ·rename_i ty h1 h2 h3 h4 h5
   have h1:k=1:=by
    unfold qn at h1
    split at h1
    ·rename_i n;rw[Cv h1];rfl
    ·cases h1
   have h2:=Cv h2
   have h3:e.c≤0:=by
    unfold leZ at h3
    split at h3
    ·rename_i n hn;have:=Cv h3;rw[hn,this];exact Int.le_refl _
    ·rename_i n hn;rw[hn];omega
   obtain⟨x,hx,hv⟩:=List.any_eq_true.1 h4
   split at hv
   ·rename_i v
    have hv:=Cv hv;subst hv
    have hT:=kz ht h5
    have hm:=Aj (rA (ρ:=ρ) hx)
    simp only[DP.v,lvV,pz]at hm
    have hl:=hT.wt
    have hlen:∀row∈(ρ (a / 4)).l,row.length=(cks P ty).length:=by
     cases hl with
     |sl _ _ _ hl _=>exact hl
    have hr:=sV _ _ hlen
    have hb:=Cz h
    have aF:(ρ (a / 4)).l.length<(-e.c).toNat+1:=by
     refine Nat.lt_of_mul_lt_mul_left (a:=(cks P ty).length+1) ?_
     omega
    have hev:e.v ρ=e.c+((ρ (a / 4)).l.length:Int):=by
     unfold Lin.v
     rw[he,h1]
     simp[cQ,aR,h2]
    rw[hev];omega
   ·cases hv
  ·cases h
 ·cases h
def oC(P:Program)(R:j7):List Lin→Bool
 | []=>true
 |e::r=>match((kI R.lin e||e.beq (R.rz.cR (-2097152)))||ug P R.cells R.tys e)with|true=>oC P R r|false=>false
theorem rB{P:Program}{ρ:Ro}{R:j7}(ht:df P ρ R.tys)(hl:bR ρ R.lin)(hz:R.rz.v ρ≤2097152)(hN:rz (aU ρ R.cells)≤2097152):∀{m:List Lin},oC P R m=true→bR ρ m
 | [],_=>trivial
 |e::r,h=>by
  simp only[oC]at h
  split at h
  ·rename_i hc
   refine⟨?_,rB ht hl hz hN h⟩
   simp only[Bool.or_eq_true]at hc
   rcases hc with(hc|hc)|hc
   ·exact lp hl hc
   ·rw[Lin.beq_eq hc,Lin.ca];omega
   ·exact yW ht hN hc
  ·cases h
def oD(l:List Lin):List Lin→Bool
 | []=>true
 |e::r=>match kI l e with|true=>oD l r|false=>false
theorem rC{ρ:Ro}{l:List Lin}(hl:bR ρ l):∀{m:List Lin},oD l m=true→bR ρ m
 | [],_=>trivial
 |e::r,h=>by
  simp only[oD]at h
  split at h
  ·rename_i hc;exact⟨lp hl hc,rC hl h⟩
  ·cases h
def yg(P:Program)(R:j7)(is:List Nat)(m:List Lin):Bool:=match oD R.lin m with
 |true=>true
 |false=>match uf 0 is with|true=>oC P R m|false=>false
structure rD(P:Program)(T:TypeId)(s:Spec)(is:List Nat)(parts:List (Option Nat))(kinds:List RK):Prop where
 tab:s.tab=[]
 prs:s.prs=[]
 row:(jJ (cZ is (cks P T)) 0).isSome=true
 args:s.args=im parts (oB (cZ is (cks P T))).cells
 tys:qz (oB (cZ is (cks P T))).tys s.tys=true
 lin:yg P (oB (cZ is (cks P T))) is s.lin=true
 jZ:qA kinds s.jZ=true
theorem cK{P:Program}{B:Pr}{s:Spec}{T:TypeId}{is:List Nat}{parts:List (Option Nat)}{kinds:List RK}(hK:fB P B s)(h:rD P T s is parts kinds){w:World}{row:List PV}{vs:List Value}(hld:dD P w)(hw:Ty P T row)(hc:Cw w 0 row vs)(hN:rz row≤2097152):
  Ret P s.fn (eE parts (cZ is vs)) w fun v w'=>Ch (fun _=>False) w w'∧∃us,v=mkv us∧eF P w' w.heap.size kinds us:=by
 obtain⟨ρ,hρ⟩:=sE (P:=P) (cZ is (cks P T)) 0 _ (cZ is row) (fun _=>default) (xh h.row) (ry hw is) yN
 have hlin:bR ρ s.lin:=by
  have hi:=h.lin
  unfold yg at hi
  split at hi
  ·rename_i h1;exact rC hρ.lin h1
  ·split at hi
   ·rename_i h1
    have:=sT row is 0 h1
    rw[List.drop_zero]at this
    exact rB hρ.tys hρ.lin (by rw[hρ.rz];omega) (by rw[hρ.cells];omega) hi
   ·cases hi
 have hpre:s.pre.ok P B ρ:=⟨hρ.g,sQ hρ.tys h.tys,hlin,by simp only[Spec.pre,h.prs];trivial⟩
 refine(Ad hK hpre h.tab (w:=w) hld (vals:=eE parts (cZ is vs)) (by rw[h.args];exact lh parts _ _ (by rw[hρ.cells];exact hc.pick is))).mono ?_
 rintro v w' ⟨a8,p,hp,ρ',E',aC,hv⟩
 exact⟨a8,Af (I:=B) aC.g aC.tys aC.lin (pZ h.jZ p hp) hv⟩
theorem eF.nil{P:Program}{w:World}{lo:Nat}{us:List Value}(h:eF P w lo [] us):us=[]:=by
 cases us with
 |nil=>rfl
 |cons u us=>exact h.elim
theorem eF.skip{P:Program}{w:World}{lo:Nat}{r:List RK}{us:List Value}(h:eF P w lo (none::r) us):∃u us',us=u::us'∧eF P w lo r us':=by
 cases us with
 |nil=>exact h.elim
 |cons u us=>exact⟨u,us,rfl,h⟩
theorem eF.take{P:Program}{w:World}{lo:Nat}{ag:Bool}{ks:List CK}{r:List RK}{us:List Value}(h:eF P w lo (some (ag,ks)::r) us):∃row vs us',us=pk ag vs::us'∧Cw w lo row vs∧WTs P ks row∧eF P w lo r us':=by
 cases us with
 |nil=>exact h.elim
 |cons u us=>
  obtain⟨⟨row,vs,rfl,h1,h2⟩,h3⟩:=h
  exact⟨row,vs,us,rfl,h1,h2,h3⟩
theorem bK{l vs:List Value}(off n:Nat)(h:(l.drop off).take n=vs):∀(j:Nat) (v:Value),vs[j]? =some v→l.toArray[off+j]? =some v:=by
 intro j v hj
 subst h
 rw[List.getElem?_take]at hj
 split at hj
 ·simpa[List.getElem?_drop]using hj
 ·cases hj
theorem yh{P:Program}{o:Oper}{n:Nat}{sl:aT}{a:Act}{w:World}{f:Fn}{first aL:Array Operand}{us vs:List Value}(h:SL n sl a)(ho:o.op= .makeFunc f first aL)(e1:evs sl first.toList=some us)(e2:evs sl aL.toList=some vs):
  (execOp a.eval o).run P w= .ok (.value (.func f us.toArray vs.toArray)) w:=by
 rw[uM h ho e1 e2];rfl
theorem sW{T:TypeId}{zs us:List Value}(w:World)(hl:us.length=zs.length):
  Ch (fun _=>False) w ((w.alloc (.cells zs.toArray T)).setRow w.heap.size (spl zs.toArray.toList 0 us).toArray)∧
   ((w.alloc (.cells zs.toArray T)).setRow w.heap.size (spl zs.toArray.toList 0 us).toArray).heap[w.heap.size]? =some (.cells us.toArray T (0,0)):=by
 have h1:=Ch.alloc (fun _=>False) w (.cells zs.toArray T)
 have h2:=Ch.setRow (w.alloc (.cells zs.toArray T)) w.heap.size (spl zs.toArray.toList 0 us).toArray
 have hb:(w.alloc (.cells zs.toArray T)).heap[w.heap.size]? =some (.cells zs.toArray T (0,0)):=heap_alloc_new w (.cells zs.toArray T)
 refine⟨h1.trans' h2 fun b hb' h=>by omega,?_⟩
 have h:spl zs.toArray.toList 0 us=us:=by simp[spl,hl]
 rw[h]
 exact setRow_heap _ _ _ us.toArray _ _ hb
def yOk(ops:Array Oper)(listed:Array Bool)(i:Nat):Bool:=match Region.noSelect ops,Region.free .any ops listed i,(Region.ready .any ops listed).contains i with
 |true,true,true=>true
 |_,_,_=>false
theorem Yb{P:Program}{ops:Array Oper}{Q:Exit→Act→World→Prop}{o:Oper}{n:Nat}{sl:aT}{a:Act}{w:World}{v:Value}{fuel:Nat}(i:Nat){listed:Array Bool}(h:SL n sl a)(hi:ops[i]? =some o)(hg:o.guard=none)(hd:dok n o.dst=true)(hy:yOk ops listed i=true)
  (hQ:∀c a w,Q (.panic c) a w→False)(hx:∀w,(execOp a.eval o).run P w= .ok (.value v) w)(k:∀a',SL n (bz o.dst v sl) a'→wpAny P .any ops Q fuel (listed.setIfInBounds i true) a' w):wpAny P .any ops Q (fuel+1) listed a w:=by
 unfold yOk at hy
 split at hy
 ·rename_i h1 h2 h3;exact Y h hi hg hd h1 h2 h3 hQ hx k
 ·cases hy
theorem nC{P:Program}{ops:Array Oper}{Q:Exit→Act→World→Prop}{fuel:Nat}{listed:Array Bool}{a:Act}{w:World}(Leaf:Act→World→Prop)(hp:∀c a w,Q (.panic c) a w→False)(h:∀a w,Leaf a w→Q .normal a w)
  (k:(∀c a w,Q (.panic c) a w→False)→(∀a w,Leaf a w→Q .normal a w)→wpAny P .any ops Q fuel listed a w):wpAny P .any ops Q fuel listed a w:=k hp h
theorem bF{P:Program}{ops:Array Oper}{Q:Exit→Act→World→Prop}{o:Oper}{n:Nat}{sl:aT}{a:Act}{w:World}{i:Nat}{K:Act→World→Prop}{f:Operand}{args:Array Operand}{ts:Array TypeId}{g:FuncId}{first aL:Array Value}{vs:List Value}{R:Value→World→Prop}(h:SL n sl a)(hi:ops[i]? =some o)(hg:o.guard=none)(hd:dok n o.dst=true)
  (ho:o.op= .call ⟨.value f,args,ts⟩)(hf:ev sl f=some (.func (.func g) first aL))(ha:evs sl args.toList=some vs)(aC:aD P g=true)
  (jg:Ret P g (first.toList++(vs++aL.toList)) w R)(k:∀v w' a',R v w'→SL n (bz o.dst v sl) a'→K a' w'):wpOp P ops Q i K a w:=by
 unfold wpOp
 simp only[hi]
 rw[if_pos (by unfold Region.wanted;rw[hg])]
 exact .inl (sh h hd ho hf ha aC jg k)
def uh(P:Program)(n t:Nat)(TR:TypeId)(ks:List CK)(w0:World)(a:Act)(w:World):Prop:=
 ∃b3 rr uu,SL n [(t,Ptr b3 0)] a∧Ch (fun _=>False) w0 w∧w0.heap.size≤b3∧w.heap[b3]? =some (.cells uu.toArray TR (0,0))∧Cw w w0.heap.size rr uu∧WTs P ks rr
theorem bV{P:Program}{ops:Array Oper}{Q:Exit→Act→World→Prop}{listed:Array Bool}{a:Act}{w0 w:World}{n i1 i2 t3 t5 t6 d6 m1 b3:Nat}{T1:TypeId}{ag1:Bool}{o1 o2:Oper}{bW:List Value}{u6:Value}{rr0:List PV}{ks:List CK}{c3:Array Value}
  (hr1:Region.ready .any ops listed=[i1])(dE:Region.ready .any ops (listed.setIfInBounds i1 true)=[i2])(hr3:Region.ready .any ops ((listed.setIfInBounds i1 true).setIfInBounds i2 true)=[])(hi1:ops[i1]? =some o1)(hg1:o1.guard=none)(hd1:o1.dst=none)(ho1:o1.op= .store T1 (.tmp t3) (.tmp t5))
  (hi2:ops[i2]? =some o2)(iC:o2.guard=none)(hd2:dok n o2.dst=true)(hd6:o2.dst=some d6)(ho2:o2.op= .assign (.tmp t6))(hT1:Tp P T1 ag1 m1)(n35:Nat.beq t3 t5=false)(n36:Nat.beq t3 t6=false)(n56:Nat.beq t5 t6=false)(n63:Nat.beq d6 t3=false)
  (hQ:∀a w,uh P n t3 T1 ks w0 a w→Q .normal a w)(hs:SL n [(t3,Ptr b3 0),(t5,pk ag1 bW),(t6,u6)] a)(g:Ch (fun _=>False) w0 w)(h3:w.heap[b3]? =some (.cells c3 T1 (0,0)))
  (z3:c3.size=m1)(l0:bW.length=m1)(one0:∀u∈bW,u.oneCell'=true)(lo3:w0.heap.size≤b3)(hst:∀w',(∀b o,b≠b3→w.heap[b]? =some o→w'.heap[b]? =some o)→Cw w' w0.heap.size rr0 bW)(wt:WTs P ks rr0):wpAny P .any ops Q 2 listed a w:=by
 have lk3:lk [(t3,Ptr b3 0),(t5,pk ag1 bW),(t6,u6)] t3=some (Ptr b3 0):=by simp[lk,Nat.beq_refl]
 have lk5:lk [(t3,Ptr b3 0),(t5,pk ag1 bW),(t6,u6)] t5=some (pk ag1 bW):=by simp[lk,Nat.beq_refl,n35]
 have lk6:lk [(t3,Ptr b3 0),(t5,pk ag1 bW),(t6,u6)] t6=some u6:=by simp[lk,Nat.beq_refl,n36,n56]
 refine Y1 i1 hr1 (eQ hs hi1 hg1 hd1 (kX (ag:=ag1) (m:=m1) bW hs ho1 lk3 lk5 hT1 l0 one0 h3 (by omega)) fun hs=>?_)
 have k1:=Ch.setRow w b3 (spl c3.toList 0 bW).toArray
 have f1:spl c3.toList 0 bW=bW:=by simp[spl,l0, ←z3]
 rw[f1]at k1 ⊢
 have h3':=setRow_heap _ _ _ bW.toArray _ _ h3
 have g1:=g.trans' k1 fun b hb h=>by omega
 refine Y1 i2 dE (aj hs hi2 iC hd2 (aa hs (.inr ho2) lk6) fun a hs=>?_)
 rw[hd6]at hs
 refine Ye hr3 (hQ _ _ ⟨b3,rr0,bW,?_,g1,lo3,h3',hst _ fun b o hb hh=>k1.at hh hb,wt⟩)
 refine⟨hs.size,hs.defers,fun k v hk=>hs.az k v ?_⟩
 simp only[lk]at hk
 cases hb:Nat.beq t3 k with
 |true=>
  simp only[hb,Ct]at hk;subst hk;rw[←Cv hb]
  simp only[bz,lk,n63]
  simp[Nat.beq_refl]
 |false=>simp[hb]at hk
end Go.TL.H
namespace Go.TL.H
open Go
theorem uj{P:Program}(h:P.globalNamed "internal/strconv.uint64pow10" =none) (w:World):dD P w:=fun g hg=>by rw[h]at hg;cases hg
def xk:DataW Unit→Array Value
 | .agg xs=>(xs.map fun x=>match x with| .lit (.int k z)=>Value.int k z|_=> .bool false).toArray
 |_=> #[]
noncomputable def vJ(P:Program)(os:Os):List (String×DataW Unit)→World
 | []=>World.holding P os ⟨#[], #[],[]⟩
 |(n,d)::r=>let w:=vJ P os r
   {w with heap:=w.heap.modify ((P.globalNamed n).getD 0) fun| .cells _ t fz=> .cells (xk d) t fz|o=>o}
end Go.TL.H
namespace Go.TL.H
open Go
theorem p9{P:Program}{B:Pr}{s:Spec}(hz:s.nz=true)(h:∀ρ,s.pre.ok P B ρ→FnS P s.fn (dvs ρ s.args) (dw ρ s.tab) (qw P B s ρ)):fB P B s:=⟨hz,fun _ ρ aC _=>h ρ aC⟩
theorem uk{P:Program}{B:Pr}{s:Spec}(hz:s.nz=true)(htab:s.tab=[])
  (h:∀ρ,s.pre.ok P B ρ→∀(w:World) (E:Env) (lo:Nat) (vals:List Value),kL P lo w E→VRs w E lo (dvs ρ s.args) vals→Ret P s.fn vals w fun v w'=>Ch (fun _=>False) w w'∧v.oneCell'=true∧qw P B s ρ (.p (.v v) true) []):fB P B s:=by
 refine p9 hz fun ρ hpre=>?_
 intro lo w E vals aV ht hv
 refine Calls.mono (h ρ hpre w E lo vals aV hv) ?_
 rintro e w' ⟨v,rfl,a8,h1,hp⟩
 rw[htab]at ht
 refine⟨.p (.v v) true,v,[],E,rfl,hp,⟨a8.os,a8.tape,a8.output,a8.size,fun b hb hn=>⟨a8.keep b hb fun h=>h,hn⟩,rfl⟩,?_,.v _ h1,fun k x hx=> .inl hx⟩
 exact⟨fun k ov hk=>by simp[lk]at hk,fun k _=>ht.dead k (by simp[lk,dw]),fun b k hk=>by
  have:=ht.own b k hk
  exact absurd rfl this.2.2,fun b hb=>⟨Nat.lt_of_lt_of_le (ht.ext b hb).1 a8.size,(ht.ext b hb).2⟩⟩
theorem xl{P:Program}{B:Pr}{s:Spec}{ρ:Ro}{x:DP}{v:Value}{lin:List Lin}(va:Va)(aC:s.pre.ok P B ρ)(hp:s.jZ=[⟨1,[],lin,[],[],[.p x true]⟩])(hva:lU va)(hl:bR (up ρ s.nv va) lin)(hx:x.v (up ρ s.nv va)= .v v):qw P B s ρ (.p (.v v) true) []:=by
 refine⟨(⟨1,[],lin,[],[],[.p x true]⟩:TL.bD),by rw[hp];exact List.mem_singleton.2 rfl,up ρ s.nv va,tL _ _ _ _ (Nat.le_refl _),⟨aC.g.up _ hva,trivial,hl,trivial⟩,?_,rfl⟩
 simp[dmk,DV.v,hx]
def nm(pre:List UInt8)(n:Int):ByteArray:=⟨pre.toArray⟩++⟨(Lib.itoa n).toArray⟩
theorem nD{v:Value}{cs:List Value}:∀(j:Nat) u,[v][j]? =some u→(v::cs).toArray[0+j]? =some u:=by
 intro j u h
 cases j with
 |zero=>simpa using h
 |succ j=>simp at h
theorem fm{w:World}{b:Nat}{o:Obj}(h:b<w.heap.size):Ch (· =b) w {w with heap:=w.heap.setIfInBounds b o}∧({w with heap:=w.heap.setIfInBounds b o}:World).heap[b]? =some o:=
 ⟨⟨rfl,rfl,rfl,by simp,fun c _ hn=>by simp[Ne.symm hn]⟩,by simp[h]⟩
end Go.TL.H
