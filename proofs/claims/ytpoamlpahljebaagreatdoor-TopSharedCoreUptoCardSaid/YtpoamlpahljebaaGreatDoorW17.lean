/- Lists made, cut; one operation, whichever it is. -/
import Derived.Test.YtpoamlpahljebaaGreatDoorW16
namespace Go.TL
def dzc(x:Value):DP:=
 match gR x with
 |true=> .sl none
 |false=>AP x
def kg:List Value→List DP
 | []=>[]
 |x::xs=>dzc x::kg xs
theorem XJ(ρ:Ro)(x:Value):zc false x=(dzc x).v ρ:=by
 unfold zc dzc
 cases gR x with
 |true=>simp[DP.v,lvV]
 |false=>simp[Hb]
theorem Hy(ρ:Ro):∀l:List Value,l.map (zc false)=ar ρ (kg l)
 | []=>rfl
 |x::xs=>by simp only[List.map_cons,kg,ar,XJ ρ x,Hy ρ xs]
def J4(n:Nat)(l:Lin):List Lin:=[(Lin.at (4*n+1)).ax (-1) l,l.ax (-1) (Lin.at (4*n+1))]
def DW(n:Nat)(l:Lin)(zr:List DP):List Lin:=
 match uE (drz zr)with
 |some c=>[(Lin.at (4*n+2)).ax (-(c+1)) l,(Lin.scale (c+1) l).ax (-1) (Lin.at (4*n+2))]
 |none=>[]
theorem J5(row:List PV):∀n,rsz (List.replicate n row)=(1+rz row)*n
 |0=>by simp[rsz]
 |n+1=>by rw[List.replicate_succ,eY,J5 row n,Nat.mul_succ];omega
def Ln(P:Program)(σ:DSt)(o:Oper)(t:TypeId)(l c:Operand):DR:=
 match jn (dev σ l),jn (dev σ c),o.dst,gy P t with
 |some (_,nl),some (_,nc),some d,some (e,i)=>match lk σ.tab d,i.zero,Nat.ble 1 i.size with
  |none,some z,true=>match Nat.beq z.cells.size i.size,z.cells.toList.all (·.oneCell'),Nat.ble (2097152*max i.bytes 1) 140737488355328,dty σ.tys (cks P e) (kg z.cells.toList)with
   |true,true,true,some gs=>some ((σ.grow 1 [(σ.nx,e)] (J4 σ.nx nl++DW σ.nx nl (kg z.cells.toList)) []).kM d (.vec e i.size (some σ.nx) true),[pV nl,.le (nl.ax (-1) nc),.le (nc.aN (-2097152))]++gs)
   |_,_,_,_=>none
  |_,_,_=>none
 |_,_,_,_=>none
theorem Lo{P:Program}{I:Pr}{σ σ':DSt}{o:Oper}{t:TypeId}{l c:Operand}{gs:List G}(ho:o.op= .makeSlice t l c)(h:Ln P σ o t l c=some (σ',gs)):Good P I σ o σ' gs:=by
 unfold Ln at h
 split at h
 ·rename_i k1 nl k2 nc d e i hl hc hd oh
  split at h
  ·rename_i z fM hz h1s
   split at h
   ·rename_i gs0 mu qv kx aJ
    simp only[ZS,ZT]at h;obtain⟨rfl,rfl⟩:=h
    have lsc:σ.sc→Sc σ.nx nl.vars:=fun hs=>fY hl (hs.dev l)
    have nsc1:Sc (σ.nx+1) (Lin.at (4*σ.nx+1)).vars:=Lin.bC (by omega)
    have nsc2:Sc (σ.nx+1) (Lin.at (4*σ.nx+2)).vars:=Lin.bC (by omega)
    refine AZ (fun _=>by simp only[DO.vars,a8,Sc.cons];exact⟨Nat.lt_succ_self _,Sc.nil⟩) (fun hs=>⟨by simp,fun q hq=>?_,by simp⟩) ?_
    ·have l1:=(lsc hs).mono (Nat.le_succ σ.nx)
     rcases Z0 hq with hq|hq
     ·simp only[J4,List.mem_cons,List.mem_nil_iff,or_false]at hq
      rcases hq with rfl|rfl
      ·exact Lin.aE nsc1 l1
      ·exact Lin.aE l1 nsc1
     ·unfold DW at hq
      split at hq
      ·simp only[List.mem_cons,List.mem_nil_iff,or_false]at hq
       rcases hq with rfl|rfl
       ·exact Lin.aE nsc2 l1
       ·exact Lin.aE (Lin.dW l1) nsc2
      ·simp at hq
    ·intro ρ hs ab hg
     rw[jm]at hg
     obtain⟨hg1,hg2⟩:=hg
     simp only[pV,gsV,G.v,Lin.bE,Lin.bQ,Lin.aO,and_true]at hg1
     have a6:WTs P (cks P e) (ar ρ (kg z.cells.toList)):=gj ab.g ab.tys _ _ _ aJ hg2
     have hlen:(List.replicate (nl.v ρ).toNat (ar ρ (kg z.cells.toList))).length≤dy:=by rw[List.length_replicate];unfold dy;omega
     have hn:((up ρ σ.nx (vaL (List.replicate (nl.v ρ).toNat (ar ρ (kg z.cells.toList))))) σ.nx).l=List.replicate (nl.v ρ).toNat (ar ρ (kg z.cells.toList)):=by rw[bg];rfl
     have ha:=da ρ σ.nx σ.nx (vaL (List.replicate (nl.v ρ).toNat (ar ρ (kg z.cells.toList)))) (Nat.le_refl _)
     have e1:=Lin.ag ha (lsc hs)
     refine⟨up ρ σ.nx (vaL (List.replicate (nl.v ρ).toNat (ar ρ (kg z.cells.toList)))),ha,ab.g.up _ (uA hlen),⟨?_,trivial⟩,dH ?_ ?_,trivial,⟨[],[]⟩,[0≤nl.v ρ∧nl.v ρ≤nc.v ρ∧(nc.v ρ).toNat*max i.bytes 1≤140737488355328],?_,⟨⟨by omega,by omega,?_⟩,trivial⟩⟩
     ·rw[hn]
      refine .of hlen fun row hr=>?_
      rw[(List.mem_replicate.1 hr).2];exact a6
     ·refine⟨?_,?_,trivial⟩<;>simp only[Lin.bQ,Lin.bN,dI,hn,e1,List.length_replicate]<;>omega
     ·unfold DW
      split
      ·rename_i cc mv
       have hz2:(Go.TL.rz (ar ρ (kg z.cells.toList)):Int)=cc:=by rw[←BZ (P:=P) (I:=I) ab.g _ _ _ aJ,wi mv]
       have hr:(rsz (List.replicate (nl.v ρ).toNat (ar ρ (kg z.cells.toList))):Int)=(cc+1)*nl.v ρ:=by
        rw[J5]
        have:((nl.v ρ).toNat:Int)=nl.v ρ:=by omega
        rw[Int.natCast_mul,Int.natCast_add,hz2,this];congr 1;omega
       refine⟨?_,?_,trivial⟩
       ·simp only[Lin.bQ,Lin.bN,fa,hn,e1,hr];rw[Int.neg_mul];omega
       ·simp only[Lin.bQ,Lin.bE,Lin.bN,fa,hn,e1,hr];omega
      ·trivial
     ·have ex:isInt (ev (σ.v ρ) l)=some (k1,nl.v ρ):=by rw[aK];exact(gk hl).1
      have ey:isInt (ev (σ.v ρ) c)=some (k2,nc.v ρ):=by rw[aK];exact(gk hc).1
      have hzr:GA false z=some (ar ρ (kg z.cells.toList)):=by unfold GA;rw[qv];simp only[Hy ρ]
      have ox:lvV (up ρ σ.nx (vaL (List.replicate (nl.v ρ).toNat (ar ρ (kg z.cells.toList))))) (some σ.nx)=List.replicate (nl.v ρ).toNat (ar ρ (kg z.cells.toList)):=hn
      unfold aop
      simp only[ho,By,ex,ey,hd,oh,oL fM,hz,h1s,mu,lk,hzr,nt,DO.v,ox]
     ·refine Nat.le_trans (Nat.mul_le_mul_right _ ?_) (ZX kx)
      omega
   ·cases h
  ·cases h
 ·cases h
def ya(P:Program)(σ:DSt)(o:Oper)(t:TypeId)(x hi:Operand):DR:=
 match dev σ x,jn (dev σ hi),o.dst,P.underlying t with
 | .vec k,some (_,n),some d,some (.slice e)=>match lk σ.tab k,P.info? e,lk (rm σ.tab k) d with
  |some (.vec t' sz (some l) fr),some _,none=>match lk σ.tys l with
   |some e'=>some ((σ.grow 1 [(σ.nx,e')] (uH σ.nx (Lin.lit 0) n (some l)) [.sub σ.nx l (Lin.lit 0) n]).re k d (.vec t' sz (some σ.nx) fr),[pV n,.le (n.ax (-1) (Lin.at (4*l+1)))])
   |none=>none
  |_,_,_=>none
 |_,_,_,_=>none
theorem DX{P:Program}{I:Pr}{σ σ':DSt}{o:Oper}{t:TypeId}{x hi:Operand}{gs:List G}(ho:o.op= .slice t x none (some hi) none)(h:ya P σ o t x hi=some (σ',gs)):Good P I σ o σ' gs:=by
 unfold ya at h
 split at h
 ·rename_i k kk n d e he hn hd hu
  split at h
  ·rename_i t' sz l fr i hk ea fM
   split at h
   ·rename_i e' hl
    simp only[ZS,ZT]at h;obtain⟨rfl,rfl⟩:=h
    have nsc:σ.sc→Sc σ.nx n.vars:=fun hs=>fY hn (hs.dev hi)
    refine DQ (fun hs=>by simp only[DO.vars,a8,Sc.cons];exact⟨Nat.lt_succ_self _,Sc.nil⟩) (fun hs=>⟨by simp,fun q hq=>?_,fun f hf=>?_⟩) ?_
    ·have b2:=(nsc hs).mono (Nat.le_succ σ.nx)
     have:=mi hs hl
     simp only[uH,List.mem_cons,List.mem_nil_iff,or_false]at hq
     rcases hq with rfl|rfl|rfl
     ·exact Lin.aE (Lin.aE (Lin.bC (by omega)) b2) Lin.eg
     ·exact Lin.aE (Lin.aE b2 Lin.eg) (Lin.bC (by omega))
     ·exact Lin.aE (Lin.bC (by omega)) (jN (by simp only[a8,Sc.cons];exact⟨by omega,Sc.nil⟩))
    ·have:=mi hs hl
     simp only[List.mem_singleton]at hf;subst hf
     simp only[PF.vars,Sc.cons,Sc.app]
     exact⟨Nat.lt_succ_self _,by omega,Lin.eg,(nsc hs).mono (Nat.le_succ _)⟩
    ·intro ρ hs ab hg
     simp only[pV,gsV,G.v,Lin.bE,Lin.bQ,Lin.bN,dI,and_true]at hg
     have ht:=eE ab.tys hl
     have hlen:((ρ l).l.take (n.v ρ).toNat).length≤jS e':=by rw[List.length_take];have:=ht.1;omega
     have hnn:((up ρ σ.nx (vaL ((ρ l).l.take (n.v ρ).toNat))) σ.nx).l=(ρ l).l.take (n.v ρ).toNat:=by rw[bg];rfl
     have ha:=da ρ σ.nx σ.nx (vaL ((ρ l).l.take (n.v ρ).toNat)) (Nat.le_refl _)
     have e1:=Lin.ag ha (nsc hs)
     have e2:up ρ σ.nx (vaL ((ρ l).l.take (n.v ρ).toNat)) l=ρ l:=ha l (mi hs hl)
     refine⟨up ρ σ.nx (vaL ((ρ l).l.take (n.v ρ).toNat)),ha,ab.g.up _ (jU (Nat.le_trans hlen (ED _))),⟨by rw[hnn];exact⟨hlen,ht.2.take _⟩,trivial⟩,?_,⟨?_,trivial⟩,⟨[],[]⟩,[0≤n.v ρ∧n.v ρ≤((ρ l).l.length:Int)],?_,⟨⟨by omega,by omega⟩,trivial⟩⟩
     ·have:=Af (ρ l).l (n.v ρ).toNat
      refine⟨?_,?_,?_,trivial⟩<;>simp only[Lin.bQ,Lin.bN,dI,fa,hnn,e1,e2,Lin.cT,nq,lvV,List.length_take]<;>omega
     ·simp only[PF.v,hnn,e1,e2,Lin.cT,Int.toNat_zero,List.drop_zero]
     ·have ev1:ev (σ.v ρ) x= .vec k:=by rw[aK,he];simp[DV.v]
      have ev2:intOf (ev (σ.v ρ) hi)=some (n.v ρ):=by rw[aK];exact(gk hn).2
      have ox:lvV (up ρ σ.nx (vaL ((ρ l).l.take (n.v ρ).toNat))) (some σ.nx)=(ρ l).l.take (n.v ρ).toNat:=hnn
      unfold aop
      simp only[ho,ev1,qB,ev2,hd,hu,dJ hk,DO.v,lvV,ea,J2 fM,nt,hnn]
   ·cases h
  ·cases h
 ·cases h
def DY(P:Program)(σ:DSt)(o:Oper)(t:TypeId)(x:Operand)(lo:Option Operand)(hi mx:Operand):DR:=
 match dev σ x,wj σ lo,jn (dev σ hi),jn (dev σ mx)with
 | .p (.sl (some k)) fr,some l,some (_,n),some (_,m)=>match P.underlying t with
  |some (.slice e)=>match P.info? e with
   |some i=>match pW P σ e i (some k)with
    |true=>some ((σ.grow 1 [(σ.nx,e)] (uH σ.nx (dlo l) n (some k)) [.sub σ.nx k (dlo l) n]).put o.dst (.pc (some σ.nx) fr),[.le (n.ax (-1) m),.le (m.ax (-1) n)]++DN (Lin.at (4*k+1)) l (some n))
    |false=>none
   |none=>none
  |_=>none
 |_,_,_,_=>none
theorem Hz{P:Program}{I:Pr}{σ σ':DSt}{o:Oper}{t:TypeId}{x:Operand}{lo:Option Operand}{hi mx:Operand}{gs:List G}(ho:o.op= .slice t x lo (some hi) (some mx))(h:DY P σ o t x lo hi mx=some (σ',gs)):Good P I σ o σ' gs:=by
 unfold DY at h
 split at h
 ·rename_i k fr l k1 n k2 m he aR hn hm
  split at h
  ·rename_i e hu
   split at h
   ·rename_i i ea
    split at h
    ·rename_i hoke
     simp only[ZS,ZT]at h;obtain⟨rfl,rfl⟩:=h
     have ksc:σ.sc→k<σ.nx:=fun hs=>by
      have:=hs.dev x
      rw[he]at this;simp only[DV.vars,DP.vars,a8,Sc.cons]at this;exact this.1
     have a1:σ.sc→Sc σ.nx (dlo l).vars:=fun hs=>Hu (uG hs aR)
     have a2:σ.sc→Sc σ.nx n.vars:=fun hs=>fY hn (hs.dev hi)
     refine E7 (mk:=fun l=> .pc l fr) (fun n l hl=>by simpa[DV.vars]using hl) (fun hs q hq=>?_) (fun hs f hf=>?_) fun ρ hs ab hg=>?_
     ·have b1:=(a1 hs).mono (Nat.le_succ σ.nx)
      have b2:=(a2 hs).mono (Nat.le_succ σ.nx)
      have:=ksc hs
      simp only[uH,List.mem_cons,List.mem_nil_iff,or_false]at hq
      rcases hq with rfl|rfl|rfl
      ·exact Lin.aE (Lin.aE (Lin.bC (by omega)) b2) b1
      ·exact Lin.aE (Lin.aE b2 b1) (Lin.bC (by omega))
      ·exact Lin.aE (Lin.bC (by omega)) (jN (by simp only[a8,Sc.cons];exact⟨by omega,Sc.nil⟩))
     ·simp only[List.mem_singleton]at hf;subst hf
      have:=ksc hs
      simp only[PF.vars,Sc.cons,Sc.app]
      exact⟨Nat.lt_succ_self _,by omega,(a1 hs).mono (Nat.le_succ _),(a2 hs).mono (Nat.le_succ _)⟩
     ·rw[jm]at hg
      obtain⟨hg1,hg2⟩:=hg
      simp only[gsV,G.v,Lin.bQ,and_true]at hg1
      obtain⟨ht,hlen⟩:=oO ab hoke
      obtain⟨q1,q2,q3,q4,q5,q6⟩:=B8 (n:=(ρ k).l.length) (by rw[Lin.bN,dI]) hg2
      simp only[dhi]at q3 q4 q6
      refine⟨((ρ k).l.take (n.v ρ).toNat).drop ((dlo l).v ρ).toNat,ht.sub _ _,?_⟩
      intro ρ' hρ ha hnn
      obtain⟨r1,r2⟩:=E8 (_ρ:=ρ) (_I:=I) q2 q3 q4
      have e1:=Lin.ag ha (a1 hs)
      have e2:=Lin.ag ha (a2 hs)
      have e3:ρ' k=ρ k:=ha k (ksc hs)
      refine⟨⟨?_,?_,?_,trivial⟩,⟨?_,trivial⟩,⟨[],[]⟩,[n.v ρ=m.v ρ∧kj (ρ k).l.length (l.map (Lin.v ρ)) (some (n.v ρ))∧∀row∈(ρ k).l,row.length=i.size],?_,⟨⟨by omega,q1,hlen⟩,trivial⟩⟩
      ·simp only[Lin.bQ,Lin.bN,dI,hnn,e1,e2];omega
      ·simp only[Lin.bQ,Lin.bN,dI,hnn,e1,e2];omega
      ·simp only[Lin.bQ,Lin.bN,fa,hnn,nq,lvV,e3];omega
      ·simp only[PF.v,hnn,e1,e2,e3]
      ·have ev1:ev (σ.v ρ) x= .p (.sl (ρ k).l) fr:=by rw[aK,he];simp[DV.v,DP.v,lvV]
       have ev2:intOf (ev (σ.v ρ) hi)=some (n.v ρ):=by rw[aK];exact(gk hn).2
       have ev3:intOf (ev (σ.v ρ) mx)=some (m.v ρ):=by rw[aK];exact(gk hm).2
       have dM:rV P (σ.v ρ) o t x lo hi mx=some ((σ.v ρ).put o.dst (.pc (((ρ k).l.take (n.v ρ).toNat).drop (cd (l.map (Lin.v ρ)))) fr),n.v ρ=m.v ρ∧kj (ρ k).l.length (l.map (Lin.v ρ)) (some (n.v ρ))∧∀row∈(ρ k).l,row.length=i.size):=by
        unfold rV
        rw[ev1,sA ρ aR,ev2,ev3]
        simp only[hu,ea]
       unfold aop
       cases lo with
       |none=>simp only[ho,dM,nt,DV.v,lvV,hnn,q5]
       |some ll=>simp only[ho,dM,nt,DV.v,lvV,hnn,q5]
    ·cases h
   ·cases h
  ·cases h
 ·cases h
def dop(P:Program)(σ:DSt)(o:Oper):DR:=
 match o.op with
 | .move x=>F3 σ o x
 | .assign x=>F3 σ o x
 | .pick c x y=>Lb σ o c x y
 | .alloc t=>He P σ o t
 | .box t x=>match chT P t with|true=>none|false=>Qo σ o t x
 | .build t ps=>Hf P σ o t ps
 | .buildSlice t n ps=>tU P σ o t n ps
 | .load t x=>Lh P σ o t x
 | .store t x y=>Hx P σ o t x y
 | .makeSlice t l c=>Ln P σ o t l c
 | .fieldAddr s x f=>wc P σ o s x f
 | .field t x f=>Hh P σ o t x f
 | .nilCheck x=>xU σ o x
 | .indexAddr t x ix=>wh P σ o t x ix
 | .index t x ix=>Ht P σ o t x ix
 | .extract x n=>AU σ o x n
 | .makeInterface t x=>Hi P σ o t x
 | .makeFunc f first aQ=>Lf σ o f first aQ
 | .slice t x lo hi none=>match lo,hi with
  |none,some h=>match ya P σ o t x h with
   |some r=>some r
   |none=>B9 P σ o t x none (some h)
  |lo,hi=>B9 P σ o t x lo hi
 | .slice t x lo (some hi) (some m)=>DY P σ o t x lo hi m
 | .binOp op t x y _=>Qu P σ o op t x y
 | .unOp op _ x=>dUn σ o op x
 | .convert s d x=>Lk P σ o s d x
 | .call ⟨.builtin .len,⟨[x]⟩,⟨[t]⟩⟩=>Qw P σ o x t
 | .call ⟨.builtin .min,⟨[x,y]⟩,_⟩=>ze σ o false x y
 | .call ⟨.builtin .max,⟨[x,y]⟩,_⟩=>ze σ o true x y
 | .call ⟨.builtin .append,⟨[s,x]⟩,⟨[t,t']⟩⟩=>match Nat.beq t t' with
  |true=>match AY P σ o s x t with
   |some r=>some r
   |none=>DT P σ o s x t
  |false=>none
 |_=>none
theorem A1{P:Program}{I:Pr}{σ σ':DSt}{o:Oper}{gs:List G}(h:dop P σ o=some (σ',gs)):Good P I σ o σ' gs:=by
 unfold dop at h
 split at h
 ·rename_i ho;exact B0 (.inl ho) h
 ·rename_i ho;exact B0 (.inr ho) h
 ·rename_i ho;exact Ld ho h
 ·rename_i ho;exact Ja ho h
 ·rename_i ho
  split at h
  ·cases h
  ·exact N5 ho h
 ·rename_i ho;exact Jb ho h
 ·rename_i ho;exact A0 ho h
 ·rename_i ho;exact Li ho h
 ·rename_i ho;exact Ji ho h
 ·rename_i ho;exact Lo ho h
 ·rename_i ho;exact B1 ho h
 ·rename_i ho;exact Jc ho h
 ·rename_i ho;exact DJ ho h
 ·rename_i ho;exact B4 ho h
 ·rename_i ho;exact Jh ho h
 ·rename_i ho;exact FK ho h
 ·rename_i ho;exact Jd ho h
 ·rename_i ho;exact Lg ho h
 ·rename_i ho
  split at h
  ·split at h
   ·rename_i r hr;rw[h]at hr;exact DX ho hr
   ·exact Ag ho h
  ·exact Ag ho h
 ·rename_i ho;exact Hz ho h
 ·rename_i ho;exact Oc ho h
 ·rename_i ho;exact Qv ho h
 ·rename_i ho;exact Ll ho h
 ·rename_i ho;exact Oe ho h
 ·rename_i ho;exact x7 false ho h
 ·rename_i ho;exact x7 true ho h
 ·rename_i ho
  split at h
  ·rename_i hb
   have:=ZU hb;subst this
   split at h
   ·rename_i r hr;rw[h]at hr;exact FL ho hr
   ·exact Hv ho h
  ·cases h
 ·cases h
end Go.TL
namespace Go.TL
inductive Tm where
 |v(k:Nat)
 |i(e:Lin)
 |b(f:BF)
 |s(e:SE)
 |l(l:LV)
abbrev Th:=List (Nat×Tm)
def ap(ρ:Ro)(θ:Th):Ro:=fun k=>match lk θ k with
 |none=>ρ k
 |some (.v j)=>ρ j
 |some (.i e)=>vaN (e.v ρ)
 |some (.b f)=>vaB (f.v ρ)
 |some (.s e)=>vaS (e.v ρ)
 |some (.l l)=>vaL (lvV ρ l)
theorem QD:(0:Int)=((rsz ([]:List (List PV)):Nat):Int):=by rw[nf];rfl
def HA(θ:Th)(a:Nat):Lin:=
 match lk θ (a / 4)with
 |none=>Lin.at a
 |some (.v j)=>Lin.at (4*j+a % 4)
 |some (.i e)=>match a % 4 with|0=>e|_=>Lin.lit 0
 |some (.b _)=>Lin.lit 0
 |some (.s e)=>match a % 4 with|3=>dK e|_=>Lin.lit 0
 |some (.l l)=>match a % 4 with|1=>bJ l|2=>gL l|_=>Lin.lit 0
theorem QE(ρ:Ro)(θ:Th)(a:Nat):(HA θ a).v ρ=aV (ap ρ θ) a:=by
 have hap:∀x,lk θ (a / 4)=x→ap ρ θ (a / 4)=match x with
  |none=>ρ (a / 4)|some (.v j)=>ρ j|some (.i e)=>vaN (e.v ρ)|some (.b f)=>vaB (f.v ρ)|some (.s e)=>vaS (e.v ρ)|some (.l l)=>vaL (lvV ρ l):=by
  rintro x rfl;rfl
 unfold HA
 cases hl:lk θ (a / 4)with
 |none=>simp only[Lin.bN];unfold aV;rw[hap _ hl]
 |some tm=>
  have h:=hap _ hl
  cases tm with
  |v j=>
   simp only[Lin.bN]
   have e1:(4*j+a % 4) % 4=a % 4:=by omega
   have e2:(4*j+a % 4) / 4=j:=by omega
   unfold aV;rw[h,e1,e2]
  |i e=>
   simp only at h ⊢
   unfold aV;rw[h]
   rcases DH a with q|q|q|q<;>simp only[q]
   ·rfl
   ·rw[Lin.cT];rfl
   ·rw[Lin.cT];exact QD
   ·rw[Lin.cT];rfl
  |b f=>
   simp only at h ⊢
   unfold aV;rw[h]
   rcases DH a with q|q|q|q<;>simp only[q]
   ·rw[Lin.cT];rfl
   ·rw[Lin.cT];rfl
   ·rw[Lin.cT];exact QD
   ·rw[Lin.cT];rfl
  |s e=>
   simp only at h ⊢
   unfold aV;rw[h]
   rcases DH a with q|q|q|q<;>simp only[q]
   ·rw[Lin.cT];rfl
   ·rw[Lin.cT];rfl
   ·rw[Lin.cT];exact QD
   ·rw[mS];rfl
  |l lv=>
   simp only at h ⊢
   unfold aV;rw[h]
   rcases DH a with q|q|q|q<;>simp only[q]
   ·rw[Lin.cT];rfl
   ·rw[eG];rfl
   ·rw[nq];rfl
   ·rw[Lin.cT];rfl
def Ce(θ:Th):Sum→Lin→Lin
 | [],acc=>acc
 |(a,c)::r,acc=>Ce θ r (acc.ax c (HA θ a))
theorem J6(ρ:Ro)(θ:Th):∀(x:Sum) (acc:Lin),(Ce θ x acc).v ρ=acc.v ρ+bZ (ap ρ θ) x
 | [],acc=>by simp[Ce,bZ]
 |(a,c)::r,acc=>by simp only[Ce,J6 ρ θ r,Lin.bQ,QE,bZ];omega
def Lin.si(θ:Th)(e:Lin):Lin:=Ce θ e.t (Lin.lit e.c)
theorem Lin.gf(ρ:Ro)(θ:Th)(e:Lin):(e.si θ).v ρ=e.v (ap ρ θ):=by
 unfold Lin.si;rw[J6,Lin.cT];rfl
def BF.si(θ:Th):BF→BF
 | .lit b=> .lit b
 | .var k=>match lk θ k with
  |none=> .var k
  |some (.v j)=> .var j
  |some (.b f)=>f
  |_=> .lit false
 | .le e=> .le (e.si θ)
 | .eq e=> .eq (e.si θ)
 | .not f=> .not (f.si θ)
 | .and f g=> .and (f.si θ) (g.si θ)
 | .or f g=> .or (f.si θ) (g.si θ)
theorem BF.gf(ρ:Ro)(θ:Th):∀f:BF,(f.si θ).v ρ=f.v (ap ρ θ)
 | .lit b=>rfl
 | .var k=>by
  simp only[BF.si,BF.v]
  cases hl:lk θ k with
  |none=>simp only[ap,hl,BF.v]
  |some tm=>cases tm<;>simp only[ap,hl,BF.v]<;>rfl
 | .le e=>by simp only[BF.si,BF.v,Lin.gf]
 | .eq e=>by simp only[BF.si,BF.v,Lin.gf]
 | .not f=>by simp only[BF.si,BF.v,BF.gf ρ θ f]
 | .and f g=>by simp only[BF.si,BF.v,BF.gf ρ θ f,BF.gf ρ θ g]
 | .or f g=>by simp only[BF.si,BF.v,BF.gf ρ θ f,BF.gf ρ θ g]
def SE.si(θ:Th):SE→SE
 | .lit b=> .lit b
 | .var k=>match lk θ k with
  |none=> .var k
  |some (.v j)=> .var j
  |some (.s e)=>e
  |_=> .lit []
theorem SE.gf(ρ:Ro)(θ:Th)(f:SE):(f.si θ).v ρ=f.v (ap ρ θ):=by
 cases f with
 |lit b=>rfl
 |var k=>
  simp only[SE.si,SE.v]
  cases hl:lk θ k with
  |none=>simp only[ap,hl]
  |some tm=>cases tm<;>simp only[ap,hl,SE.v]<;>rfl
def oQ(θ:Th):LV→LV
 |none=>none
 |some k=>match lk θ k with
  |none=>some k
  |some (.v j)=>some j
  |some (.l l)=>l
  |_=>none
theorem mj(ρ:Ro)(θ:Th)(f:LV):lvV ρ (oQ θ f)=lvV (ap ρ θ) f:=by
 cases f with
 |none=>rfl
 |some k=>
  simp only[oQ,lvV]
  cases hl:lk θ k with
  |none=>simp only[ap,hl]
  |some tm=>cases tm<;>simp only[ap,hl]<;>first|rfl|(rename_i l;cases l<;>rfl)
def DP.si(θ:Th):DP→DP
 | .int k e=> .int k (e.si θ)
 | .bl f=> .bl (f.si θ)
 | .st e=> .st (e.si θ)
 | .sl l=> .sl (oQ θ l)
 | .nl=> .nl
 | .ej v=> .ej v
 | .ls l=> .ls (oQ θ l)
 | .un=> .un
 | .mp a l=> .mp a (oQ θ l)
theorem DP.gf(ρ:Ro)(θ:Th)(x:DP):(x.si θ).v ρ=x.v (ap ρ θ):=by
 cases x with
 |int k e=>simp only[DP.si,DP.v,Lin.gf]
 |bl f=>simp only[DP.si,DP.v,BF.gf]
 |st e=>simp only[DP.si,DP.v,SE.gf]
 |sl l=>simp only[DP.si,DP.v,mj]
 |nl=>rfl
 |ej v=>rfl
 |ls l=>simp only[DP.si,DP.v,mj]
 |un=>rfl
 |mp a l=>simp only[DP.si,DP.v,mj]
def zg(θ:Th):List DP→List DP
 | []=>[]
 |x::xs=>x.si θ::zg θ xs
theorem zh(ρ:Ro)(θ:Th):∀x:List DP,ar ρ (zg θ x)=ar (ap ρ θ) x
 | []=>rfl
 |x::xs=>by simp only[zg,ar,DP.gf,zh ρ θ xs]
mutual
def DV.inst(θ:Th)(π:Nat→Nat):DV→DV
 | .u=> .u
 | .p x fr=> .p (x.si θ) fr
 | .ptr k off=> .ptr (π k) off
 | .vec k=> .vec (π k)
 | .bn k sz i off=> .bn (π k) sz (i.si θ) off
 | .pd row off fr=> .pd (zg θ row) off fr
 | .pc l fr=> .pc (oQ θ l) fr
 | .agg xs=> .agg (j6 θ π xs)
 | .bL xs=> .bL (j6 θ π xs)
 | .ref k=> .ref (π k)
 | .fn f first aQ=> .fn f (j6 θ π first) (j6 θ π aQ)
 | .cL t x=> .cL t (DV.inst θ π x)
def j6(θ:Th)(π:Nat→Nat):List DV→List DV
 | []=>[]
 |x::xs=>DV.inst θ π x::j6 θ π xs
end
mutual
theorem ml(ρ:Ro)(θ:Th)(π:Nat→Nat):∀x:DV,(x.inst θ π).v ρ=SV.rn π (x.v (ap ρ θ))
 | .u=>by simp[DV.inst,DV.v,SV.rn]
 | .p x fr=>by simp only[DV.inst,DV.v,SV.rn,DP.gf]
 | .ptr k off=>by simp only[DV.inst,DV.v,SV.rn]
 | .vec k=>by simp only[DV.inst,DV.v,SV.rn]
 | .bn k sz i off=>by simp only[DV.inst,DV.v,SV.rn,Lin.gf]
 | .pd row off fr=>by simp only[DV.inst,DV.v,SV.rn,zh]
 | .pc l fr=>by simp only[DV.inst,DV.v,SV.rn,mj]
 | .agg xs=>by simp only[DV.inst,DV.v,SV.rn,kN ρ θ π xs]
 | .bL xs=>by simp only[DV.inst,DV.v,SV.rn,kN ρ θ π xs]
 | .ref k=>by simp only[DV.inst,DV.v,SV.rn]
 | .fn f first aQ=>by simp only[DV.inst,DV.v,SV.rn,kN ρ θ π first,kN ρ θ π aQ]
 | .cL t x=>by simp only[DV.inst,DV.v,SV.rn,ml ρ θ π x]
theorem kN(ρ:Ro)(θ:Th)(π:Nat→Nat):∀x:List DV,dvs ρ (j6 θ π x)=rns π (dvs (ap ρ θ) x)
 | []=>by simp[j6,dvs,rns]
 |x::xs=>by simp only[j6,dvs,rns,ml ρ θ π x,kN ρ θ π xs]
end
def tV(θ:Th)(k:Nat):Option Nat:=
 match lk θ k with
 |none=>some k
 |some (.v j)=>some j
 |some (.l (some j))=>some j
 |some (.s (.var j))=>some j
 |_=>none
def Cf(θ:Th):List Nat→Option (List Nat)
 | []=>some []
 |k::r=>match lk θ k,Cf θ r with
  |none,some l=>some (k::l)
  |some (.v j),some l=>some (j::l)
  |_,_=>none
theorem DZ(ρ:Ro)(θ:Th):∀{l l':List Nat},Cf θ l=some l'→l'.map ρ=l.map (ap ρ θ)
 | [],l',h=>by simp only[Cf,ZS]at h;subst h;rfl
 |k::r,l',h=>by
  simp only[Cf]at h
  split at h
  ·rename_i l h1 h2
   simp only[ZS]at h;subst h
   simp only[List.map_cons,DZ ρ θ h2,ap,h1]
  ·rename_i j l h1 h2
   simp only[ZS]at h;subst h
   simp only[List.map_cons,DZ ρ θ h2,ap,h1]
  ·cases h
def DO.inst(θ:Th)(π:Nat→Nat):DO→Option DO
 | .box t cells=>some (.box t (j6 θ π cells))
 | .vec t sz l fr=>some (.vec t sz (oQ θ l) fr)
 | .mp a l fr=>some (.mp a (oQ θ l) fr)
 | .it a l fr n on=>some (.it a (oQ θ l) fr (n.si θ) on)
theorem DO.ml(ρ:Ro)(θ:Th)(π:Nat→Nat){x y:DO}(h:x.inst θ π=some y):y.v ρ=OV.rn π (x.v (ap ρ θ)):=by
 cases x with
 |box t cells=>simp only[DO.inst,ZS]at h;subst h;simp only[DO.v,OV.rn,kN]
 |vec t sz l fr=>simp only[DO.inst,ZS]at h;subst h;simp only[DO.v,OV.rn,mj]
 |mp a l fr=>simp only[DO.inst,ZS]at h;subst h;simp only[DO.v,OV.rn,mj]
 |it a l fr n on=>simp only[DO.inst,ZS]at h;subst h;simp only[DO.v,OV.rn,mj,Lin.gf]
def j7(θ:Th)(π:Nat→Nat):aF→Option aF
 | []=>some []
 |(k,x)::r=>match x.inst θ π,j7 θ π r with
   |some y,some r'=>some ((π k,y)::r')
   |_,_=>none
theorem yc(ρ:Ro)(θ:Th)(π:Nat→Nat):∀{x y:aF},j7 θ π x=some y→aU ρ y=eo π (aU (ap ρ θ) x)
 | [],y,h=>by simp only[j7,ZS]at h;subst h;rfl
 |(k,x)::r,y,h=>by
   simp only[j7]at h
   split at h
   ·rename_i y' r' h1 h2
    simp only[ZS]at h;subst h
    simp only[aU,eo,DO.ml ρ θ π h1,yc ρ θ π h2]
   ·cases h
theorem uJ(ρ:Ro)(θ:Th){k j:Nat}(h:tV θ k=some j)(h2:∀e,lk θ k≠some (.s e)):(ap ρ θ k).l=(ρ j).l:=by
 unfold tV at h
 cases hl:lk θ k with
 |none=>simp only[hl,ZS]at h;subst h;simp only[ap,hl]
 |some tm=>
  rw[hl]at h
  cases tm with
  |v i=>simp only[ZS]at h;subst h;simp only[ap,hl]
  |l lv=>cases lv with
   |none=>simp at h
   |some i=>simp only[ZS]at h;subst h;simp only[ap,hl];rfl
  |s e=>exact absurd hl (h2 e)
  |_=>simp at h
def isS(θ:Th)(k:Nat):Bool:=match lk θ k with|some (.s _)=>true|_=>false
theorem nu{θ:Th}{k:Nat}(h:isS θ k=false):∀e,lk θ k≠some (.s e):=by
 intro e he;simp[isS,he]at h
def PF.inst(θ:Th):PF→Option PF
 | .row l i cells=>match tV θ l,isS θ l with
  |some j,false=>some (.row j (i.si θ) (zg θ cells))
  |_,_=>none
 | .app l a b=>match tV θ l,isS θ l with
  |some j,false=>some (.app j (oQ θ a) (oQ θ b))
  |_,_=>none
 | .sub l a lo hi=>match tV θ l,tV θ a,isS θ l,isS θ a with
  |some j,some k,false,false=>some (.sub j k (lo.si θ) (hi.si θ))
  |_,_,_,_=>none
 | .set l a i cells=>match tV θ l,tV θ a,isS θ l,isS θ a with
  |some j,some k,false,false=>some (.set j k (i.si θ) (zg θ cells))
  |_,_,_,_=>none
 | .je f=>some (.je (f.si θ))
 | .pr id args=>match Cf θ args with
  |some l=>some (.pr id l)
  |none=>none
 |_=>none
theorem PF.ml(I:Pr)(ρ:Ro)(θ:Th){x y:PF}(h:x.inst θ=some y):y.v I ρ ↔ x.v I (ap ρ θ):=by
 cases x with
 |row l i cells=>
  simp only[PF.inst]at h
  split at h
  ·rename_i j h1 h2
   simp only[ZS]at h;subst h
   simp only[PF.v,Lin.gf,zh,uJ ρ θ h1 (nu h2)]
  ·cases h
 |app l a b=>
  simp only[PF.inst]at h
  split at h
  ·rename_i j h1 h2
   simp only[ZS]at h;subst h
   simp only[PF.v,mj,uJ ρ θ h1 (nu h2)]
  ·cases h
 |sub l a lo hi=>
  simp only[PF.inst]at h
  split at h
  ·rename_i j k h1 h2 h3 h4
   simp only[ZS]at h;subst h
   simp only[PF.v,Lin.gf,uJ ρ θ h1 (nu h3),uJ ρ θ h2 (nu h4)]
  ·cases h
 |set l a i cells=>
  simp only[PF.inst]at h
  split at h
  ·rename_i j k h1 h2 h3 h4
   simp only[ZS]at h;subst h
   simp only[PF.v,Lin.gf,zh,uJ ρ θ h1 (nu h3),uJ ρ θ h2 (nu h4)]
  ·cases h
 |je f=>simp only[PF.inst,ZS]at h;subst h;simp only[PF.v,BF.gf]
 |pr id args=>
  simp only[PF.inst]at h
  split at h
  ·rename_i l hl
   simp only[ZS]at h;subst h
   simp only[PF.v,DZ ρ θ hl]
  ·cases h
 |_=>simp[PF.inst]at h
def D0:Th→Option (List G)
 | []=>some []
 |(_,tm)::r=>match D0 r with
   |none=>none
   |some gs=>match tm with
    | .i e=>some (.le (e.aN (-9223372036854775807)):: .le ((Lin.scale (-1) e).aN (-9223372036854775808))::gs)
    | .s (.lit b)=>match Nat.ble b.length 1073741824 with|true=>some gs|false=>none
    |_=>some gs
theorem J7{I:Pr}{ρ:Ro}(hg:Gok ρ):∀{θ:Th} {gs:List G},D0 θ=some gs→gsV I ρ gs→∀k tm,lk θ k=some tm→mQ (match tm with| .v j=>ρ j| .i e=>vaN (e.v ρ)| .b f=>vaB (f.v ρ)| .s e=>vaS (e.v ρ)| .l l=>vaL (lvV ρ l))
 | [],gs,_,_,k,tm,h=>by simp[lk]at h
 |(j,t0)::r,gs,ho,hv,k,tm,h=>by
   simp only[D0]at ho
   split at ho
   ·cases ho
   ·rename_i gs1 h1
    have hrest:gsV I ρ gs1:=by
     split at ho
     ·simp only[ZS]at ho;subst ho;exact hv.2.2
     ·split at ho
      ·simp only[ZS]at ho;subst ho;exact hv
      ·cases ho
     ·simp only[ZS]at ho;subst ho;exact hv
    simp only[lk]at h
    cases hb:Nat.beq j k with
    |false=>simp only[hb]at h;exact J7 hg h1 hrest k tm h
    |true=>
     simp only[hb,ZS]at h;subst h
     cases t0 with
     |v i=>exact⟨hg.lo i,hg.hi i,hg.st i,hg.ln i⟩
     |i e=>
      simp only[ZS]at ho;subst ho
      simp only[gsV,G.v,Lin.aO,Lin.bE]at hv
      exact sr (by omega) (by omega)
     |b f=>exact uz _
     |l lv=>exact N2 (by cases lv with|none=>exact Nat.zero_le _|some i=>exact hg.ln i)
     |s e=>
      cases e with
      |var i=>exact ma (hg.st i)
      |lit b=>
       simp only at ho
       split at ho
       ·rename_i bz
        have:=ZX bz
        exact ma (by simpa[SE.v,ByteArray.size,cu]using this)
       ·cases ho
theorem Om{I:Pr}{ρ:Ro}{θ:Th}{gs:List G}(hg:Gok ρ)(h:D0 θ=some gs)(hv:gsV I ρ gs):Gok (ap ρ θ):=by
 have key:∀k,mQ (ap ρ θ k):=by
  intro k
  unfold ap
  cases hl:lk θ k with
  |none=>exact⟨hg.lo k,hg.hi k,hg.st k,hg.ln k⟩
  |some tm=>have:=J7 hg h hv k tm hl;cases tm<;>exact this
 exact⟨fun k=>(key k).lo,fun k=>(key k).hi,fun k=>(key k).st,fun k=>(key k).ln⟩
def rG(θ:Th)(tys:List (Nat×TypeId)):List (Nat×TypeId)→Bool
 | []=>true
 |(k,e)::r=>match oQ θ (some k)with
   |none=>rG θ tys r
   |some j=>match lk tys j with
    |some e'=>match Nat.beq e e' with
     |true=>rG θ tys r
     |false=>false
    |none=>false
theorem tB{P:Program}{ρ:Ro}{θ:Th}{tys:List (Nat×TypeId)}(ht:dA P ρ tys):∀{l:List (Nat×TypeId)},rG θ tys l=true→dA P (ap ρ θ) l
 | [],_=>trivial
 |(k,e)::r,h=>by
   simp only[rG]at h
   have nH:=mj ρ θ (some k)
   simp only[lvV]at nH
   split at h
   ·rename_i hn
    rw[hn]at nH
    exact⟨by rw[←nH];exact bK.nil,tB ht h⟩
   ·rename_i j hj
    rw[hj]at nH
    split at h
    ·rename_i e' he'
     split at h
     ·rename_i hb
      have:=ZU hb;subst this
      refine⟨?_,tB ht h⟩
      rw[←nH];exact eE ht he'
     ·cases h
    ·cases h
end Go.TL
namespace Go.TL
def HB(a b:IntKind):Bool:=decide (a=b)
def BF.beq:BF→BF→Bool
 | .lit a,.lit b=>a==b
 | .var a,.var b=>Nat.beq a b
 | .le a,.le b=>a.beq b
 | .eq a,.eq b=>a.beq b
 | .not a,.not b=>a.beq b
 | .and a b,.and c d=>match a.beq c with|true=>b.beq d|false=>false
 | .or a b,.or c d=>match a.beq c with|true=>b.beq d|false=>false
 |_,_=>false
theorem BF.beq_eq:∀{a b:BF},a.beq b=true→a=b
 | .lit a,.lit b,h=>by simp only[BF.beq,beq_iff_eq]at h;rw[h]
 | .var a,.var b,h=>by simp only[BF.beq]at h;rw[ZU h]
 | .le a,.le b,h=>by simp only[BF.beq]at h;rw[Lin.beq_eq h]
 | .eq a,.eq b,h=>by simp only[BF.beq]at h;rw[Lin.beq_eq h]
 | .not a,.not b,h=>by simp only[BF.beq]at h;rw[BF.beq_eq h]
 | .and a b,.and c d,h=>by
  simp only[BF.beq]at h
  split at h
  ·rename_i h1;rw[BF.beq_eq h1,BF.beq_eq h]
  ·cases h
 | .or a b,.or c d,h=>by
  simp only[BF.beq]at h
  split at h
  ·rename_i h1;rw[BF.beq_eq h1,BF.beq_eq h]
  ·cases h
 | .lit _,.var _,h| .lit _,.le _,h| .lit _,.eq _,h| .lit _,.not _,h| .lit _,.and _ _,h| .lit _,.or _ _,h=>by simp[BF.beq]at h
 | .var _,.lit _,h| .var _,.le _,h| .var _,.eq _,h| .var _,.not _,h| .var _,.and _ _,h| .var _,.or _ _,h=>by simp[BF.beq]at h
 | .le _,.lit _,h| .le _,.var _,h| .le _,.eq _,h| .le _,.not _,h| .le _,.and _ _,h| .le _,.or _ _,h=>by simp[BF.beq]at h
 | .eq _,.lit _,h| .eq _,.var _,h| .eq _,.le _,h| .eq _,.not _,h| .eq _,.and _ _,h| .eq _,.or _ _,h=>by simp[BF.beq]at h
 | .not _,.lit _,h| .not _,.var _,h| .not _,.le _,h| .not _,.eq _,h| .not _,.and _ _,h| .not _,.or _ _,h=>by simp[BF.beq]at h
 | .and _ _,.lit _,h| .and _ _,.var _,h| .and _ _,.le _,h| .and _ _,.eq _,h| .and _ _,.not _,h| .and _ _,.or _ _,h=>by simp[BF.beq]at h
 | .or _ _,.lit _,h| .or _ _,.var _,h| .or _ _,.le _,h| .or _ _,.eq _,h| .or _ _,.not _,h| .or _ _,.and _ _,h=>by simp[BF.beq]at h
def SE.beq:SE→SE→Bool
 | .lit a,.lit b=>rE a b
 | .var a,.var b=>Nat.beq a b
 |_,_=>false
theorem SE.beq_eq{a b:SE}(h:a.beq b=true):a=b:=by
 cases a<;>cases b<;>simp only[SE.beq,Bool.false_eq_true]at h
 ·rw[qP,beq_iff_eq]at h;rw[h]
 ·rw[ZU h]
def gw:LV→LV→Bool
 |none,none=>true
 |some a,some b=>Nat.beq a b
 |_,_=>false
theorem eH{a b:LV}(h:gw a b=true):a=b:=by
 cases a<;>cases b<;>simp only[gw,Bool.false_eq_true]at h
 ·rfl
 ·rw[ZU h]
def Lp:Value→Value→Bool
 | .pointer none,.pointer none=>true
 | .nilFunc,.nilFunc=>true
 | .nilIface,.nilIface=>true
 | .map none,.map none=>true
 |_,_=>false
theorem QF{a b:Value}(h:Lp a b=true):a=b:=by
 unfold Lp at h;split at h<;>first|rfl|cases h
def DP.beq:DP→DP→Bool
 | .int k e,.int k' e'=>match HB k k' with|true=>e.beq e'|false=>false
 | .bl f,.bl g=>f.beq g
 | .st e,.st e'=>e.beq e'
 | .sl l,.sl l'=>gw l l'
 | .nl,.nl=>true
 | .ej v,.ej v'=>Lp v v'
 | .ls l,.ls l'=>gw l l'
 | .un,.un=>true
 | .mp a l,.mp a' l'=>match gw a a' with|true=>gw l l'|false=>false
 |_,_=>false
theorem DP.beq_eq{a b:DP}(h:a.beq b=true):a=b:=by
 cases a<;>cases b<;>simp only[DP.beq,Bool.false_eq_true]at h
 ·split at h
  ·rename_i hk;have:=of_decide_eq_true hk;subst this;rw[Lin.beq_eq h]
  ·cases h
 ·rw[BF.beq_eq h]
 ·rw[SE.beq_eq h]
 ·rw[eH h]
 ·rfl
 ·rw[QF h]
 ·rw[eH h]
 ·rfl
 ·split at h
  ·rename_i h1;rw[eH h1,eH h]
  ·cases h
def qT:List DP→List DP→Bool
 | [],[]=>true
 |x::xs,y::ys=>match x.beq y with|true=>qT xs ys|false=>false
 |_,_=>false
theorem sB:∀{a b:List DP},qT a b=true→a=b
 | [],[],_=>rfl
 |x::xs,y::ys,h=>by
  simp only[qT]at h
  split at h
  ·rename_i h1;rw[DP.beq_eq h1,sB h]
  ·cases h
 | [],_::_,h=>by simp[qT]at h
 |_::_,[],h=>by simp[qT]at h
def sC(is ask:Bool):Bool:=match ask with|true=>is|false=>true
def QG(x y:DP):Bool:=
 match x,y with
 | .nl,.sl none=>true
 | .ej (.pointer none),.ls none=>true
 | .ej (.map none),.mp _ none=>true
 |_,.un=>true
 |x,y=>x.beq y
def Lr:Fn→Fn→Bool
 | .func a,.func b=>Nat.beq a b
 |_,_=>false
theorem To{a b:Fn}(h:Lr a b=true):a=b:=by
 unfold Lr at h;split at h
 ·rw[ZU h]
 ·cases h
mutual
def ep:DV→DV→Bool
 |_,.u=>true
 | .p x fr,.p y fr'=>match QG x y with|true=>sC fr fr'|false=>false
 | .ptr k off,.ptr k' lT=>Nat.beq k k' && Nat.beq off lT
 | .vec k,.vec k'=>Nat.beq k k'
 | .bn k sz i off,.bn k' gm i' lT=>(Nat.beq k k' && Nat.beq sz gm) && (i.beq i' && Nat.beq off lT)
 | .pd row off fr,.pd fF lT fr'=>match Nat.beq off lT with
  |true=>qT row fF && sC fr fr'
  |false=>(qT ((row.drop off).take fF.length) fF && Nat.beq lT 0) && sC fr fr'
 | .pc l fr,.pc l' fr'=>gw l l' && sC fr fr'
 | .pc l fr,.p (.sl l') fr'=>gw l l' && sC fr fr'
 | .agg xs,.agg ys=>nU xs ys
 | .bL xs,.bL ys=>nU xs ys
 | .ref k,.ref k'=>Nat.beq k k'
 | .fn f a b,.fn f' a' b'=>match Lr f f' with|true=>(match nU a a' with|true=>nU b b'|false=>false)|false=>false
 | .cL t x,.cL t' y=>match Nat.beq t t' with|true=>ep x y|false=>false
 |_,_=>false
def nU:List DV→List DV→Bool
 | [],[]=>true
 |x::xs,y::ys=>match ep x y with|true=>nU xs ys|false=>false
 |_,_=>false
end
theorem zi{lo:Nat}{a b:Bool}(h:sC a b=true):flo lo b≤flo lo a:=by
 cases a<;>cases b<;>simp[sC,flo]at*
theorem Rep.Lt{w:World}{bad:Nat→Prop}{lo:Nat}{a b:Bool}{x:PV}{v:Value}(h:sC a b=true)(r:Rep w bad (flo lo a) x v):Rep w bad (flo lo b) x v:=
 r.mono (zi h) fun _ _ h h'=>⟨h,h'⟩
theorem VH{w:World}{bad:Nat→Prop}{lo:Nat}{ρ:Ro}{x y:DP}{v:Value}(h:QG x y=true)(r:Rep w bad lo (x.v ρ) v):Rep w bad lo (y.v ρ) v:=by
 unfold QG at h
 split at h
 ·simp only[DP.v]at r
  have:=ek r;subst this
  simp only[DP.v,lvV];exact .nil none 0
 ·have:=ek r;subst this;exact .pN
 ·have:=ek r;subst this;exact .lD _
 ·exact .un _ r.one
 ·rw[←DP.beq_eq h];exact r
mutual
theorem HC{w:World}{E:Env}{lo:Nat}{ρ:Ro}:∀{x y:DV} {v:Value},ep x y=true→VR w E lo (x.v ρ) v→VR w E lo (y.v ρ) v
 | .u,y,v,h,r=>by cases y<;>first|(simp[DV.v,VR];done)|(simp[ep]at h;done)
 | .p x fr,y,v,h,r=>by
  cases y with
  |u=>simp[DV.v,VR]
  |p y fr'=>
   simp only[ep]at h
   simp only[DV.v,VR]at r ⊢
   split at h
   ·rename_i h1;exact Rep.Lt h (VH h1 r)
   ·cases h
  |_=>simp[ep]at h
 | .ptr k off,y,v,h,r=>by
  cases y with
  |u=>simp[DV.v,VR]
  |ptr k' lT=>
   simp only[ep,Bool.and_eq_true]at h
   rw[←ZU h.1, ←ZU h.2];exact r
  |_=>simp[ep]at h
 | .vec k,y,v,h,r=>by
  cases y with
  |u=>simp[DV.v,VR]
  |vec k'=>
   simp only[ep]at h
   rw[←ZU h];exact r
  |_=>simp[ep]at h
 | .bn k sz i off,y,v,h,r=>by
  cases y with
  |u=>simp[DV.v,VR]
  |bn k' gm i' lT=>
   simp only[ep,Bool.and_eq_true]at h
   rw[←ZU h.1.1, ←ZU h.1.2, ←Lin.beq_eq h.2.1, ←ZU h.2.2];exact r
  |_=>simp[ep]at h
 | .pd row off fr,y,v,h,r=>by
  cases y with
  |u=>simp[DV.v,VR]
  |pd fF lT fr'=>
   simp only[ep]at h
   simp only[DV.v,VR]at r ⊢
   obtain⟨b,o,h1,h2⟩:=r
   split at h
   ·rename_i h0
    simp only[Bool.and_eq_true]at h
    rw[←sB h.1, ←ZU h0]
    exact⟨b,o,h1,h2.mono (zi h.2) fun _ _ h h'=>⟨h,h'⟩⟩
   ·simp only[Bool.and_eq_true]at h
    rw[←sB h.1.1,ZU h.1.2]
    refine⟨b,o+off,h1,yK.mono (zi h.2) (fun _ _ h h'=>⟨h,h'⟩) ?_⟩
    obtain⟨cs,t,fz,f,e1,e2,e3,e4,e5⟩:=h2
    have hg:∀(j:Nat) (x:PV),(ar ρ ((row.drop off).take fF.length))[j]? =some x→(ar ρ row)[off+j]? =some x:=fun j x hj=>by
     rw[mN,List.map_take,List.map_drop,List.getElem?_take]at hj
     split at hj
     ·rw[List.getElem?_drop]at hj;rw[mN];exact hj
     ·cases hj
    exact⟨cs,t,fz,fun j=>f (off+j),e1,e2,e3,fun j x hj=>by rw[Nat.add_assoc];exact e4 _ x (hg j x hj),fun j x hj=>e5 _ x (hg j x hj)⟩
  |_=>simp[ep]at h
 | .pc l fr,y,v,h,r=>by
  cases y with
  |u=>simp[DV.v,VR]
  |pc l' fr'=>
   simp only[ep,Bool.and_eq_true]at h
   rw[←eH h.1]
   simp only[DV.v,VR]at r ⊢
   obtain⟨a,h1,h2⟩:=r
   exact⟨a,h1,Rep.Lt h.2 h2⟩
  |p y fr'=>
   cases y with
   |sl l'=>
    simp only[ep,Bool.and_eq_true]at h
    rw[←eH h.1]
    simp only[DV.v,DP.v,VR]at r ⊢
    obtain⟨a,h1,h2⟩:=r
    exact Rep.Lt h.2 h2
   |_=>simp[ep]at h
  |_=>simp[ep]at h
 | .agg xs,y,v,h,r=>by
  cases y with
  |u=>simp[DV.v,VR]
  |agg ys=>
   simp only[ep]at h
   simp only[DV.v,VR]at r ⊢
   obtain⟨vs,h1,h2⟩:=r
   exact⟨vs,h1,oR h h2⟩
  |_=>simp[ep]at h
 | .bL xs,y,v,h,r=>by
  cases y with
  |u=>simp[DV.v,VR]
  |bL ys=>
   simp only[ep]at h
   simp only[DV.v,VR]at r ⊢
   obtain⟨vs,h1,h2⟩:=r
   exact⟨vs,h1,oR h h2⟩
  |_=>simp[ep]at h
 | .ref k,y,v,h,r=>by
  cases y with
  |u=>simp[DV.v,VR]
  |ref k'=>
   simp only[ep]at h
   rw[←ZU h];exact r
  |_=>simp[ep]at h
 | .fn f a b,y,v,h,r=>by
  cases y with
  |u=>simp[DV.v,VR]
  |fn f' a' b'=>
   simp only[ep]at h
   split at h
   ·rename_i h1
    split at h
    ·rename_i h2
     rw[←To h1]
     simp only[DV.v,VR]at r ⊢
     obtain⟨vs,ws,q1,q2,q3⟩:=r
     exact⟨vs,ws,q1,oR h2 q2,oR h q3⟩
    ·cases h
   ·cases h
  |_=>simp[ep]at h
 | .cL t x,y,v,h,r=>by
  cases y with
  |u=>simp[DV.v,VR]
  |cL t' y=>
   simp only[ep]at h
   split at h
   ·rename_i h1
    rw[←ZU h1]
    simp only[DV.v,VR]at r ⊢
    obtain⟨z,q1,q2⟩:=r
    exact⟨z,q1,HC h q2⟩
   ·cases h
  |_=>simp[ep]at h
theorem oR{w:World}{E:Env}{lo:Nat}{ρ:Ro}:∀{xs ys:List DV} {vs:List Value},nU xs ys=true→VRs w E lo (dvs ρ xs) vs→VRs w E lo (dvs ρ ys) vs
 | [],[],vs,_,r=>r
 |x::xs,y::ys,vs,h,r=>by
  simp only[nU]at h
  split at h
  ·rename_i h1
   simp only[dvs]at r ⊢
   cases vs with
   |nil=>simp[VRs]at r
   |cons v vs=>
    simp only[VRs]at r ⊢
    exact⟨HC h1 r.1,oR h r.2⟩
  ·cases h
 | [],_::_,_,h,_=>by simp[nU]at h
 |_::_,[],_,h,_=>by simp[nU]at h
end
def wq:DO→DO→Bool
 | .box t xs,.box t' ys=>match Nat.beq t t' with|true=>nU xs ys|false=>false
 | .vec t sz l fr,.vec t' gm l' fr'=>(Nat.beq t t' && Nat.beq sz gm) && (gw l l' && sC fr fr')
 | .mp a l fr,.mp a' l' fr'=>(gw a a' && gw l l') && sC fr fr'
 | .it a l fr n _,.it a' l' fr' n' on'=>((gw a a' && gw l l') && sC fr fr') && (n.beq n' && !on')
 |_,_=>false
 where
 natsEq:List Nat→List Nat→Bool
 | [],[]=>true
 |x::xs,y::ys=>match Nat.beq x y with|true=>natsEq xs ys|false=>false
 |_,_=>false
theorem Fe:∀{a b:List Nat},wq.natsEq a b=true→a=b
 | [],[],_=>rfl
 |x::xs,y::ys,h=>by
  simp only[wq.natsEq]at h
  split at h
  ·rename_i h1;rw[ZU h1,Fe h]
  ·cases h
 | [],_::_,h=>by simp[wq.natsEq]at h
 |_::_,[],h=>by simp[wq.natsEq]at h
theorem On{w:World}{E:Env}{lo k:Nat}{ρ:Ro}{x y:DO}(h:wq x y=true)(r:OR w E lo k (x.v ρ)):OR w E lo k (y.v ρ):=by
 cases x<;>cases y<;>simp only[wq,Bool.false_eq_true]at h
 ·split at h
  ·rename_i h1
   rw[←ZU h1]
   simp only[DO.v,OR]at r ⊢
   obtain⟨b,vs,q1,q2,q3,q4⟩:=r
   exact⟨b,vs,q1,q2,q3,oR h q4⟩
  ·cases h
 ·simp only[Bool.and_eq_true]at h
  rw[←ZU h.1.1, ←ZU h.1.2, ←eH h.2.1]
  simp only[DO.v,OR]at r ⊢
  obtain⟨v,xs,q1,q2,q3,q4,q5⟩:=r
  exact⟨v,xs,q1,q2,q3,q4,q5.mono (zi h.2.2) fun _ _ h h'=>⟨h,h'⟩⟩
 ·simp only[Bool.and_eq_true]at h
  rw[←eH h.1.1, ←eH h.1.2]
  simp only[DO.v,OR]at r ⊢
  obtain⟨b,es,cl,q1,q2,q3,q4⟩:=r
  exact⟨b,es,cl,q1,q2,q3,q4.mono (zi h.2) fun _ _ h h'=>⟨h,h'⟩⟩
 ·simp only[Bool.and_eq_true,Bool.not_eq_true']at h
  rw[←eH h.1.1.1, ←eH h.1.1.2, ←Lin.beq_eq h.2.1,h.2.2]
  simp only[DO.v,OR]at r ⊢
  obtain⟨b,o,q1,q2,q3,q4⟩:=r
  refine⟨b,o,q1,q2,q3,?_⟩
  obtain⟨mp,since,seen,last,p1,p2,p3,p4⟩:=q4.mono (zi h.1.2) fun _ _ h h'=>⟨h,h'⟩
  refine⟨mp,since,seen,last,p1,p2,fun _=>rfl,fun m hm=>?_⟩
  obtain⟨es,cl,e1,e2,e3,e4,e5,_⟩:=p4 m hm
  exact⟨es,cl,e1,e2,e3,e4,e5,fun h=>by cases h⟩
def Cg(T:aF):aF→Bool
 | []=>true
 |(k,y)::r=>match lk T k with
   |some x=>match wq x y with|true=>Cg T r|false=>false
   |none=>false
theorem A2{T:aF}:∀{r:aF},Cg T r=true→∀k y,lk r k=some y→∃x,lk T k=some x∧wq x y=true
 | [],_,k,y,h=>by simp[lk]at h
 |(j,z)::r,h,k,y,hl=>by
   simp only[Cg]at h
   split at h
   ·rename_i x hx
    split at h
    ·rename_i hle
     simp only[lk]at hl
     cases hb:Nat.beq j k with
     |true=>simp only[hb,ZS]at hl;subst hl;rw[←ZU hb];exact⟨x,hx,hle⟩
     |false=>simp only[hb]at hl;exact A2 h k y hl
    ·cases h
   ·cases h
def zj(S:bX):bX→Bool
 | []=>true
 |(t,y)::r=>match lk S t with
   |some x=>match ep x y with|true=>zj S r|false=>false
   |none=>false
theorem Ci{S:bX}:∀{r:bX},zj S r=true→∀k y,lk r k=some y→∃x,lk S k=some x∧ep x y=true
 | [],_,k,y,h=>by simp[lk]at h
 |(j,z)::r,h,k,y,hl=>by
   simp only[zj]at h
   split at h
   ·rename_i x hx
    split at h
    ·rename_i hle
     simp only[lk]at hl
     cases hb:Nat.beq j k with
     |true=>simp only[hb,ZS]at hl;subst hl;rw[←ZU hb];exact⟨x,hx,hle⟩
     |false=>simp only[hb]at hl;exact Ci h k y hl
    ·cases h
   ·cases h
theorem HD{P:Program}{n:Nat}{s s':St}(hs:∀t b,lk s'.ah t=some b→∃a,lk s.ah t=some a∧∀w E lo v,VR w E lo a v→VR w E lo b v)
  (ht:∀k b,lk s'.tab k=some b→∃a,lk s.tab k=some a∧∀w E lo,OR w E lo k a→OR w E lo k b)(hk:∀k,lk s.tab k≠none→lk s'.tab k≠none):Imp P n s s':=by
 rintro lo w0 E0 a w ⟨E,e⟩
 refine⟨E,e.size,e.defers,?_,⟨?_,?_,?_,e.tab.ext⟩,e.fr,e.lo,e.ids,e.lL⟩
 ·intro t b hl
  obtain⟨x,h1,h2⟩:=hs t b hl
  exact h2 _ _ _ _ (e.ah t x h1)
 ·intro k b hl
  obtain⟨x,h1,h2⟩:=ht k b hl
  exact h2 _ _ _ (e.tab.obj k x h1)
 ·intro k hn
  refine e.tab.dead k ?_
  cases hq:lk s.tab k with
  |none=>rfl
  |some x=>exact absurd hn (hk k (by rw[hq];simp))
 ·intro b k hb
  obtain⟨h1,h2,h3⟩:=e.tab.own b k hb
  exact⟨h1,h2,hk k h3⟩
end Go.TL
