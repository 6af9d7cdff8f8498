/- Lists made, cut; one operation, whichever it is. -/
import Derived.Test.YtajkchpnbnbmfaaGreatDoorW15
namespace Go.TL
def dzc (x : Value) : DP :=
 match dW x with
 | true => .sl none
 | false => uI x
def fF : List Value → List DP
 | [] => []
 | x :: xs => dzc x :: fF xs
theorem QZ (ρ : Ro) (x : Value) : zc false x = (dzc x).v ρ := by
 unfold zc dzc
 cases dW x with
 | true => simp [DP.v,lvV]
 | false => simp [Bn]
theorem BK (ρ : Ro) : ∀ l : List Value,l.map (zc false) = ak ρ (fF l)
 | [] => rfl
 | x :: xs => by simp only [List.map_cons,fF,ak,QZ ρ x,BK ρ xs]
def Er (n : Nat) (l : Lin) : List Lin := [(Lin.at (4 * n + 1)).ax (-1) l,l.ax (-1) (Lin.at (4 * n + 1))]
def x8 (n : Nat) (l : Lin) (zr : List DP) : List Lin :=
 match n4 (drz zr) with
 | some c => [(Lin.at (4 * n + 2)).ax (-(c + 1)) l,(Lin.scale (c + 1) l).ax (-1) (Lin.at (4 * n + 2))]
 | none => []
theorem Es (row : List PV) : ∀ n,rsz (List.replicate n row) = (1 + rz row) * n
 | 0 => by simp [rsz]
 | n + 1 => by rw [List.replicate_succ,dM,Es row n,Nat.mul_succ]; omega
def FR (P : Program) (σ : DSt) (o : Oper) (t : TypeId) (l c : Operand) : DR :=
 match eN (dev σ l),eN (dev σ c),o.dst,dE P t with
 | some (_,nl),some (_,nc),some d,some (e,i) => match lk σ.tab d,i.zero,Nat.ble 1 i.size with
  | none,some z,true => match Nat.beq z.cells.size i.size,z.cells.toList.all (·.oneCell'),Nat.ble (2097152 * max i.bytes 1) 140737488355328,dty σ.tys (cks P e) (fF z.cells.toList) with
   | true,true,true,some gs => some ((σ.grow 1 [(σ.nx,e)] (Er σ.nx nl ++ x8 σ.nx nl (fF z.cells.toList)) []).fZ d (.vec e i.size (some σ.nx) true),[j0 nl,.le (nl.ax (-1) nc),.le (nc.aD (-2097152))] ++ gs)
   | _,_,_,_ => none
  | _,_,_ => none
 | _,_,_,_ => none
theorem FU {P : Program} {I : Pr} {σ σ' : DSt} {o : Oper} {t : TypeId} {l c : Operand} {gs : List G} (ho : o.op = .makeSlice t l c) (h : FR P σ o t l c = some (σ',gs)) : Good P I σ o σ' gs := by
 unfold FR at h
 split at h
 ·rename_i k1 nl k2 nc d e i hl hc hd hse
  split at h
  ·rename_i z hfree hz h1s
   split at h
   ·rename_i gs0 hzs hone hroom hty
    simp only [Option.some.injEq,Prod.mk.injEq] at h; obtain ⟨rfl,rfl⟩ := h
    have lsc : σ.sc → Sc σ.nx nl.vars := fun hs => dt hl (hs.dev l)
    have nsc1 : Sc (σ.nx + 1) (Lin.at (4 * σ.nx + 1)).vars := Lin.aS (by omega)
    have nsc2 : Sc (σ.nx + 1) (Lin.at (4 * σ.nx + 2)).vars := Lin.aS (by omega)
    refine uS (fun _ => by simp only [DO.vars,aL,Sc.cons]; exact ⟨Nat.lt_succ_self _,Sc.nil⟩) (fun hs => ⟨by simp,fun q hq => ?_,by simp⟩) ?_
    ·have l1 := (lsc hs).mono (Nat.le_succ σ.nx)
     rcases List.mem_append.1 hq with hq | hq
     ·simp only [Er,List.mem_cons,List.mem_nil_iff,or_false] at hq
      rcases hq with rfl | rfl
      ·exact Lin.aw nsc1 l1
      ·exact Lin.aw l1 nsc1
     ·unfold x8 at hq
      split at hq
      ·simp only [List.mem_cons,List.mem_nil_iff,or_false] at hq
       rcases hq with rfl | rfl
       ·exact Lin.aw nsc2 l1
       ·exact Lin.aw (Lin.cL l1) nsc2
      ·simp at hq
    ·intro ρ hs hok hg
     rw [eL] at hg
     obtain ⟨hg1,hg2⟩ := hg
     simp only [j0,gsV,G.v,Lin.aT,Lin.aZ,Lin.aB,and_true] at hg1
     have hrow : WTs P (cks P e) (ak ρ (fF z.cells.toList)) := dz hok.g hok.tys _ _ _ hty hg2
     have hlen : (List.replicate (nl.v ρ).toNat (ak ρ (fF z.cells.toList))).length ≤ b7 := by rw [List.length_replicate]; unfold b7; omega
     have hn : ((up ρ σ.nx (vaL (List.replicate (nl.v ρ).toNat (ak ρ (fF z.cells.toList))))) σ.nx).l = List.replicate (nl.v ρ).toNat (ak ρ (fF z.cells.toList)) := by rw [aI]; rfl
     have ha := bR ρ σ.nx σ.nx (vaL (List.replicate (nl.v ρ).toNat (ak ρ (fF z.cells.toList)))) (Nat.le_refl _)
     have e1 := Lin.ag ha (lsc hs)
     refine ⟨up ρ σ.nx (vaL (List.replicate (nl.v ρ).toNat (ak ρ (fF z.cells.toList)))),ha,hok.g.up _ (nW hlen),⟨?_,trivial⟩,cq ?_ ?_,trivial,⟨[],[]⟩,[0 ≤ nl.v ρ ∧ nl.v ρ ≤ nc.v ρ ∧ (nc.v ρ).toNat * max i.bytes 1 ≤ 140737488355328],?_,⟨⟨by omega,by omega,?_⟩,trivial⟩⟩
     ·rw [hn]
      refine .of hlen fun row hr => ?_
      rw [(List.mem_replicate.1 hr).2]; exact hrow
     ·refine ⟨?_,?_,trivial⟩ <;> simp only [Lin.aZ,Lin.aW,cJ,hn,e1,List.length_replicate] <;> omega
     ·unfold x8
      split
      ·rename_i cc hcc
       have hz2 : (Go.TL.rz (ak ρ (fF z.cells.toList)) : Int) = cc := by rw [← vU (P := P) (I := I) hok.g _ _ _ hty,pP hcc]
       have hr : (rsz (List.replicate (nl.v ρ).toNat (ak ρ (fF z.cells.toList))) : Int) = (cc + 1) * nl.v ρ := by
        rw [Es]
        have : ((nl.v ρ).toNat : Int) = nl.v ρ := by omega
        rw [Int.natCast_mul,Int.natCast_add,hz2,this]; congr 1; omega
       refine ⟨?_,?_,trivial⟩
       ·simp only [Lin.aZ,Lin.aW,c9,hn,e1,hr]; rw [Int.neg_mul]; omega
       ·simp only [Lin.aZ,Lin.aT,Lin.aW,c9,hn,e1,hr]; omega
      ·trivial
     ·have ex : isInt (ev (σ.v ρ) l) = some (k1,nl.v ρ) := by rw [aA]; exact (dA hl).1
      have ey : isInt (ev (σ.v ρ) c) = some (k2,nc.v ρ) := by rw [aA]; exact (dA hc).1
      have hzr : AQ false z = some (ak ρ (fF z.cells.toList)) := by unfold AQ; rw [hone]; simp only [BK ρ]
      have hn' : lvV (up ρ σ.nx (vaL (List.replicate (nl.v ρ).toNat (ak ρ (fF z.cells.toList))))) (some σ.nx) = List.replicate (nl.v ρ).toNat (ak ρ (fF z.cells.toList)) := hn
      unfold aop
      simp only [ho,vx,ex,ey,hd,hse,lV hfree,hz,h1s,hzs,lk,hzr,nt,DO.v,hn']
     ·refine Nat.le_trans (Nat.mul_le_mul_right _ ?_) (Nat.le_of_ble_eq_true hroom)
      omega
   ·cases h
  ·cases h
 ·cases h
def r9 (P : Program) (σ : DSt) (o : Oper) (t : TypeId) (x hi : Operand) : DR :=
 match dev σ x,eN (dev σ hi),o.dst,P.underlying t with
 | .vec k,some (_,n),some d,some (.slice e) => match lk σ.tab k,P.info? e,lk (rm σ.tab k) d with
  | some (.vec t' sz (some l) fr),some _,none => match lk σ.tys l with
   | some e' => some ((σ.grow 1 [(σ.nx,e')] (oa σ.nx (Lin.lit 0) n (some l)) [.sub σ.nx l (Lin.lit 0) n]).re k d (.vec t' sz (some σ.nx) fr),[j0 n,.le (n.ax (-1) (Lin.at (4 * l + 1)))])
   | none => none
  | _,_,_ => none
 | _,_,_,_ => none
theorem x9 {P : Program} {I : Pr} {σ σ' : DSt} {o : Oper} {t : TypeId} {x hi : Operand} {gs : List G} (ho : o.op = .slice t x none (some hi) none) (h : r9 P σ o t x hi = some (σ',gs)) : Good P I σ o σ' gs := by
 unfold r9 at h
 split at h
 ·rename_i k kk n d e he hn hd hu
  split at h
  ·rename_i t' sz l fr i hk hi' hfree
   split at h
   ·rename_i e' hl
    simp only [Option.some.injEq,Prod.mk.injEq] at h; obtain ⟨rfl,rfl⟩ := h
    have nsc : σ.sc → Sc σ.nx n.vars := fun hs => dt hn (hs.dev hi)
    refine x4 (fun hs => by simp only [DO.vars,aL,Sc.cons]; exact ⟨Nat.lt_succ_self _,Sc.nil⟩) (fun hs => ⟨by simp,fun q hq => ?_,fun f hf => ?_⟩) ?_
    ·have b2 := (nsc hs).mono (Nat.le_succ σ.nx)
     have := gN hs hl
     simp only [oa,List.mem_cons,List.mem_nil_iff,or_false] at hq
     rcases hq with rfl | rfl | rfl
     ·exact Lin.aw (Lin.aw (Lin.aS (by omega)) b2) Lin.cI
     ·exact Lin.aw (Lin.aw b2 Lin.cI) (Lin.aS (by omega))
     ·exact Lin.aw (Lin.aS (by omega)) (fa (by simp only [aL,Sc.cons]; exact ⟨by omega,Sc.nil⟩))
    ·have := gN hs hl
     simp only [List.mem_singleton] at hf; subst hf
     simp only [PF.vars,Sc.cons,Sc.app]
     exact ⟨Nat.lt_succ_self _,by omega,Lin.cI,(nsc hs).mono (Nat.le_succ _)⟩
    ·intro ρ hs hok hg
     simp only [j0,gsV,G.v,Lin.aT,Lin.aZ,Lin.aW,cJ,and_true] at hg
     have ht := c7 hok.tys hl
     have hlen : ((ρ l).l.take (n.v ρ).toNat).length ≤ fh e' := by rw [List.length_take]; have := ht.1; omega
     have hnn : ((up ρ σ.nx (vaL ((ρ l).l.take (n.v ρ).toNat))) σ.nx).l = (ρ l).l.take (n.v ρ).toNat := by rw [aI]; rfl
     have ha := bR ρ σ.nx σ.nx (vaL ((ρ l).l.take (n.v ρ).toNat)) (Nat.le_refl _)
     have e1 := Lin.ag ha (nsc hs)
     have e2 : up ρ σ.nx (vaL ((ρ l).l.take (n.v ρ).toNat)) l = ρ l := ha l (gN hs hl)
     refine ⟨up ρ σ.nx (vaL ((ρ l).l.take (n.v ρ).toNat)),ha,hok.g.up _ (ej (Nat.le_trans hlen (yR _))),⟨by rw [hnn]; exact ⟨hlen,ht.2.take _⟩,trivial⟩,?_,⟨?_,trivial⟩,⟨[],[]⟩,[0 ≤ n.v ρ ∧ n.v ρ ≤ ((ρ l).l.length : Int)],?_,⟨⟨by omega,by omega⟩,trivial⟩⟩
     ·have := tY (ρ l).l (n.v ρ).toNat
      refine ⟨?_,?_,?_,trivial⟩ <;> simp only [Lin.aZ,Lin.aW,cJ,c9,hnn,e1,e2,Lin.bI,iE,lvV,List.length_take] <;> omega
     ·simp only [PF.v,hnn,e1,e2,Lin.bI,Int.toNat_zero,List.drop_zero]
     ·have ev1 : ev (σ.v ρ) x = .vec k := by rw [aA,he]; simp [DV.v]
      have ev2 : intOf (ev (σ.v ρ) hi) = some (n.v ρ) := by rw [aA]; exact (dA hn).2
      have hn' : lvV (up ρ σ.nx (vaL ((ρ l).l.take (n.v ρ).toNat))) (some σ.nx) = (ρ l).l.take (n.v ρ).toNat := hnn
      unfold aop
      simp only [ho,ev1,kC,ev2,hd,hu,da hk,DO.v,lvV,hi',Eo hfree,nt,hnn]
   ·cases h
  ·cases h
 ·cases h
def ya (P : Program) (σ : DSt) (o : Oper) (t : TypeId) (x : Operand) (lo : Option Operand) (hi mx : Operand) : DR :=
 match dev σ x,pQ σ lo,eN (dev σ hi),eN (dev σ mx) with
 | .p (.sl (some k)) fr,some l,some (_,n),some (_,m) => match P.underlying t with
  | some (.slice e) => match P.info? e with
   | some i => match j3 P σ e i (some k) with
    | true => some ((σ.grow 1 [(σ.nx,e)] (oa σ.nx (dlo l) n (some k)) [.sub σ.nx k (dlo l) n]).put o.dst (.pc (some σ.nx) fr),[.le (n.ax (-1) m),.le (m.ax (-1) n)] ++ x3 (Lin.at (4 * k + 1)) l (some n))
    | false => none
   | none => none
  | _ => none
 | _,_,_,_ => none
theorem BM {P : Program} {I : Pr} {σ σ' : DSt} {o : Oper} {t : TypeId} {x : Operand} {lo : Option Operand} {hi mx : Operand} {gs : List G} (ho : o.op = .slice t x lo (some hi) (some mx)) (h : ya P σ o t x lo hi mx = some (σ',gs)) : Good P I σ o σ' gs := by
 unfold ya at h
 split at h
 ·rename_i k fr l k1 n k2 m he hlo hn hm
  split at h
  ·rename_i e hu
   split at h
   ·rename_i i hi'
    split at h
    ·rename_i hoke
     simp only [Option.some.injEq,Prod.mk.injEq] at h; obtain ⟨rfl,rfl⟩ := h
     have ksc : σ.sc → k < σ.nx := fun hs => by
      have := hs.dev x
      rw [he] at this; simp only [DV.vars,DP.vars,aL,Sc.cons] at this; exact this.1
     have a1 : σ.sc → Sc σ.nx (dlo l).vars := fun hs => BG (n9 hs hlo)
     have a2 : σ.sc → Sc σ.nx n.vars := fun hs => dt hn (hs.dev hi)
     refine zi (mk := fun l => .pc l fr) (fun n l hl => by simpa [DV.vars] using hl) (fun hs q hq => ?_) (fun hs f hf => ?_) fun ρ hs hok hg => ?_
     ·have b1 := (a1 hs).mono (Nat.le_succ σ.nx)
      have b2 := (a2 hs).mono (Nat.le_succ σ.nx)
      have := ksc hs
      simp only [oa,List.mem_cons,List.mem_nil_iff,or_false] at hq
      rcases hq with rfl | rfl | rfl
      ·exact Lin.aw (Lin.aw (Lin.aS (by omega)) b2) b1
      ·exact Lin.aw (Lin.aw b2 b1) (Lin.aS (by omega))
      ·exact Lin.aw (Lin.aS (by omega)) (fa (by simp only [aL,Sc.cons]; exact ⟨by omega,Sc.nil⟩))
     ·simp only [List.mem_singleton] at hf; subst hf
      have := ksc hs
      simp only [PF.vars,Sc.cons,Sc.app]
      exact ⟨Nat.lt_succ_self _,by omega,(a1 hs).mono (Nat.le_succ _),(a2 hs).mono (Nat.le_succ _)⟩
     ·rw [eL] at hg
      obtain ⟨hg1,hg2⟩ := hg
      simp only [gsV,G.v,Lin.aZ,and_true] at hg1
      obtain ⟨ht,hlen⟩ := jo hok hoke
      obtain ⟨q1,q2,q3,q4,q5,q6⟩ := wh (n := (ρ k).l.length) (by rw [Lin.aW,cJ]) hg2
      simp only [dhi] at q3 q4 q6
      refine ⟨((ρ k).l.take (n.v ρ).toNat).drop ((dlo l).v ρ).toNat,ht.sub _ _,?_⟩
      intro ρ' hρ ha hnn
      obtain ⟨r1,r2⟩ := zj (_ρ := ρ) (_I := I) q2 q3 q4
      have e1 := Lin.ag ha (a1 hs)
      have e2 := Lin.ag ha (a2 hs)
      have e3 : ρ' k = ρ k := ha k (ksc hs)
      refine ⟨⟨?_,?_,?_,trivial⟩,⟨?_,trivial⟩,⟨[],[]⟩,[n.v ρ = m.v ρ ∧ fH (ρ k).l.length (l.map (Lin.v ρ)) (some (n.v ρ)) ∧ ∀ row ∈ (ρ k).l,row.length = i.size],?_,⟨⟨by omega,q1,hlen⟩,trivial⟩⟩
      ·simp only [Lin.aZ,Lin.aW,cJ,hnn,e1,e2]; omega
      ·simp only [Lin.aZ,Lin.aW,cJ,hnn,e1,e2]; omega
      ·simp only [Lin.aZ,Lin.aW,c9,hnn,iE,lvV,e3]; omega
      ·simp only [PF.v,hnn,e1,e2,e3]
      ·have ev1 : ev (σ.v ρ) x = .p (.sl (ρ k).l) fr := by rw [aA,he]; simp [DV.v,DP.v,lvV]
       have ev2 : intOf (ev (σ.v ρ) hi) = some (n.v ρ) := by rw [aA]; exact (dA hn).2
       have ev3 : intOf (ev (σ.v ρ) mx) = some (m.v ρ) := by rw [aA]; exact (dA hm).2
       have hsl : lF P (σ.v ρ) o t x lo hi mx = some ((σ.v ρ).put o.dst (.pc (((ρ k).l.take (n.v ρ).toNat).drop (bg (l.map (Lin.v ρ)))) fr),n.v ρ = m.v ρ ∧ fH (ρ k).l.length (l.map (Lin.v ρ)) (some (n.v ρ)) ∧ ∀ row ∈ (ρ k).l,row.length = i.size) := by
        unfold lF
        rw [ev1,lW ρ hlo,ev2,ev3]
        simp only [hu,hi']
       unfold aop
       cases lo with
       | none => simp only [ho,hsl,nt,DV.v,lvV,hnn,q5]
       | some ll => simp only [ho,hsl,nt,DV.v,lvV,hnn,q5]
    ·cases h
   ·cases h
  ·cases h
 ·cases h
def dop (P : Program) (σ : DSt) (o : Oper) : DR :=
 match o.op with
 | .move x => Ag σ o x
 | .assign x => Ag σ o x
 | .pick c x y => FH σ o c x y
 | .alloc t => Bq P σ o t
 | .box t x => match chT P t with | true => none | false => J2 σ o t x
 | .build t ps => Br P σ o t ps
 | .buildSlice t n ps => nu P σ o t n ps
 | .load t x => FL P σ o t x
 | .store t x y => BJ P σ o t x y
 | .makeSlice t l c => FR P σ o t l c
 | .fieldAddr s x f => pN P σ o s x f
 | .field t x f => Bt P σ o t x f
 | .nilCheck x => rP σ o x
 | .indexAddr t x ix => pO P σ o t x ix
 | .index t x ix => BE P σ o t x ix
 | .extract x n => uN σ o x n
 | .makeInterface t x => Bu P σ o t x
 | .makeFunc f first caps => FJ σ o f first caps
 | .slice t x lo hi none => match lo,hi with
  | none,some h => match r9 P σ o t x h with
   | some r => some r
   | none => wi P σ o t x none (some h)
  | lo,hi => wi P σ o t x lo hi
 | .slice t x lo (some hi) (some m) => ya P σ o t x lo hi m
 | .binOp op t x y _ => J8 P σ o op t x y
 | .unOp op _ x => dUn σ o op x
 | .convert s d x => FO P σ o s d x
 | .call ⟨.builtin .len,⟨[x]⟩,⟨[t]⟩⟩ => Ka P σ o x t
 | .call ⟨.builtin .min,⟨[x,y]⟩,_⟩ => s5 σ o false x y
 | .call ⟨.builtin .max,⟨[x,y]⟩,_⟩ => s5 σ o true x y
 | .call ⟨.builtin .append,⟨[s,x]⟩,⟨[t,t']⟩⟩ => match Nat.beq t t' with
  | true => match uR P σ o s x t with
   | some r => some r
   | none => x6 P σ o s x t
  | false => none
 | _ => none
theorem BN {P : Program} {I : Pr} {σ σ' : DSt} {o : Oper} {gs : List G} (h : dop P σ o = some (σ',gs)) : Good P I σ o σ' gs := by
 unfold dop at h
 split at h
 ·rename_i ho; exact vV (.inl ho) h
 ·rename_i ho; exact vV (.inr ho) h
 ·rename_i ho; exact FI ho h
 ·rename_i ho; exact Dt ho h
 ·rename_i ho
  split at h
  ·cases h
  ·exact H2 ho h
 ·rename_i ho; exact Du ho h
 ·rename_i ho; exact uT ho h
 ·rename_i ho; exact FM ho h
 ·rename_i ho; exact DB ho h
 ·rename_i ho; exact FU ho h
 ·rename_i ho; exact vW ho h
 ·rename_i ho; exact Dv ho h
 ·rename_i ho; exact xW ho h
 ·rename_i ho; exact vY ho h
 ·rename_i ho; exact DA ho h
 ·rename_i ho; exact zW ho h
 ·rename_i ho; exact Dw ho h
 ·rename_i ho; exact FK ho h
 ·rename_i ho
  split at h
  ·split at h
   ·rename_i r hr; rw [h] at hr; exact x9 ho hr
   ·exact tZ ho h
  ·exact tZ ho h
 ·rename_i ho; exact BM ho h
 ·rename_i ho; exact Ia ho h
 ·rename_i ho; exact J9 ho h
 ·rename_i ho; exact FP ho h
 ·rename_i ho; exact Ib ho h
 ·rename_i ho; exact r6 false ho h
 ·rename_i ho; exact r6 true ho h
 ·rename_i ho
  split at h
  ·rename_i hb
   have := Nat.eq_of_beq_eq_true hb; subst this
   split at h
   ·rename_i r hr; rw [h] at hr; exact zX ho hr
   ·exact BH ho h
  ·cases h
 ·cases h
end Go.TL
namespace Go.TL
inductive Tm where
 | v (k : Nat)
 | i (e : Lin)
 | b (f : BF)
 | s (e : SE)
 | l (l : LV)
abbrev Th := List (Nat × Tm)
def ap (ρ : Ro) (θ : Th) : Ro := fun k => match lk θ k with
 | none => ρ k
 | some (.v j) => ρ j
 | some (.i e) => vaN (e.v ρ)
 | some (.b f) => vaB (f.v ρ)
 | some (.s e) => vaS (e.v ρ)
 | some (.l l) => vaL (lvV ρ l)
theorem Ki : (0 : Int) = ((rsz ([] : List (List PV)) : Nat) : Int) := by rw [jh]; rfl
def BO (θ : Th) (a : Nat) : Lin :=
 match lk θ (a / 4) with
 | none => Lin.at a
 | some (.v j) => Lin.at (4 * j + a % 4)
 | some (.i e) => match a % 4 with | 0 => e | _ => Lin.lit 0
 | some (.b _) => Lin.lit 0
 | some (.s e) => match a % 4 with | 3 => cu e | _ => Lin.lit 0
 | some (.l l) => match a % 4 with | 1 => bj l | 2 => dS l | _ => Lin.lit 0
theorem Kj (ρ : Ro) (θ : Th) (a : Nat) : (BO θ a).v ρ = aN (ap ρ θ) a := by
 have hap : ∀ x,lk θ (a / 4) = x → ap ρ θ (a / 4) = match x with
  | none => ρ (a / 4) | some (.v j) => ρ j | some (.i e) => vaN (e.v ρ) | some (.b f) => vaB (f.v ρ) | some (.s e) => vaS (e.v ρ) | some (.l l) => vaL (lvV ρ l) := by
  rintro x rfl; rfl
 unfold BO
 cases hl : lk θ (a / 4) with
 | none => simp only [Lin.aW]; unfold aN; rw [hap _ hl]
 | some tm =>
  have h := hap _ hl
  cases tm with
  | v j =>
   simp only [Lin.aW]
   have e1 : (4 * j + a % 4) % 4 = a % 4 := by omega
   have e2 : (4 * j + a % 4) / 4 = j := by omega
   unfold aN; rw [h,e1,e2]
  | i e =>
   simp only at h ⊢
   unfold aN; rw [h]
   rcases xU a with q | q | q | q <;> simp only [q]
   ·rfl
   ·rw [Lin.bI]; rfl
   ·rw [Lin.bI]; exact Ki
   ·rw [Lin.bI]; rfl
  | b f =>
   simp only at h ⊢
   unfold aN; rw [h]
   rcases xU a with q | q | q | q <;> simp only [q]
   ·rw [Lin.bI]; rfl
   ·rw [Lin.bI]; rfl
   ·rw [Lin.bI]; exact Ki
   ·rw [Lin.bI]; rfl
  | s e =>
   simp only at h ⊢
   unfold aN; rw [h]
   rcases xU a with q | q | q | q <;> simp only [q]
   ·rw [Lin.bI]; rfl
   ·rw [Lin.bI]; rfl
   ·rw [Lin.bI]; exact Ki
   ·rw [il]; rfl
  | l lv =>
   simp only at h ⊢
   unfold aN; rw [h]
   rcases xU a with q | q | q | q <;> simp only [q]
   ·rw [Lin.bI]; rfl
   ·rw [de]; rfl
   ·rw [iE]; rfl
   ·rw [Lin.bI]; rfl
def wq (θ : Th) : Sum → Lin → Lin
 | [],acc => acc
 | (a,c) :: r,acc => wq θ r (acc.ax c (BO θ a))
theorem Et (ρ : Ro) (θ : Th) : ∀ (x : Sum) (acc : Lin),(wq θ x acc).v ρ = acc.v ρ + bO (ap ρ θ) x
 | [],acc => by simp [wq,bO]
 | (a,c) :: r,acc => by simp only [wq,Et ρ θ r,Lin.aZ,Kj,bO]; omega
def Lin.si (θ : Th) (e : Lin) : Lin := wq θ e.t (Lin.lit e.c)
theorem Lin.dD (ρ : Ro) (θ : Th) (e : Lin) : (e.si θ).v ρ = e.v (ap ρ θ) := by
 unfold Lin.si; rw [Et,Lin.bI]; rfl
def BF.si (θ : Th) : BF → BF
 | .lit b => .lit b
 | .var k => match lk θ k with
  | none => .var k
  | some (.v j) => .var j
  | some (.b f) => f
  | _ => .lit false
 | .le e => .le (e.si θ)
 | .eq e => .eq (e.si θ)
 | .not f => .not (f.si θ)
 | .and f g => .and (f.si θ) (g.si θ)
 | .or f g => .or (f.si θ) (g.si θ)
theorem BF.dD (ρ : Ro) (θ : Th) : ∀ f : BF,(f.si θ).v ρ = f.v (ap ρ θ)
 | .lit b => rfl
 | .var k => by
  simp only [BF.si,BF.v]
  cases hl : lk θ k with
  | none => simp only [ap,hl,BF.v]
  | some tm => cases tm <;> simp only [ap,hl,BF.v] <;> rfl
 | .le e => by simp only [BF.si,BF.v,Lin.dD]
 | .eq e => by simp only [BF.si,BF.v,Lin.dD]
 | .not f => by simp only [BF.si,BF.v,BF.dD ρ θ f]
 | .and f g => by simp only [BF.si,BF.v,BF.dD ρ θ f,BF.dD ρ θ g]
 | .or f g => by simp only [BF.si,BF.v,BF.dD ρ θ f,BF.dD ρ θ g]
def SE.si (θ : Th) : SE → SE
 | .lit b => .lit b
 | .var k => match lk θ k with
  | none => .var k
  | some (.v j) => .var j
  | some (.s e) => e
  | _ => .lit []
theorem SE.dD (ρ : Ro) (θ : Th) (f : SE) : (f.si θ).v ρ = f.v (ap ρ θ) := by
 cases f with
 | lit b => rfl
 | var k =>
  simp only [SE.si,SE.v]
  cases hl : lk θ k with
  | none => simp only [ap,hl]
  | some tm => cases tm <;> simp only [ap,hl,SE.v] <;> rfl
def kr (θ : Th) : LV → LV
 | none => none
 | some k => match lk θ k with
  | none => some k
  | some (.v j) => some j
  | some (.l l) => l
  | _ => none
theorem iS (ρ : Ro) (θ : Th) (f : LV) : lvV ρ (kr θ f) = lvV (ap ρ θ) f := by
 cases f with
 | none => rfl
 | some k =>
  simp only [kr,lvV]
  cases hl : lk θ k with
  | none => simp only [ap,hl]
  | some tm => cases tm <;> simp only [ap,hl] <;> first | rfl | (rename_i l; cases l <;> rfl)
def DP.si (θ : Th) : DP → DP
 | .int k e => .int k (e.si θ)
 | .bl f => .bl (f.si θ)
 | .st e => .st (e.si θ)
 | .sl l => .sl (kr θ l)
 | .nl => .nl
 | .cst v => .cst v
 | .ls l => .ls (kr θ l)
 | .un => .un
 | .mp a l => .mp a (kr θ l)
theorem DP.dD (ρ : Ro) (θ : Th) (x : DP) : (x.si θ).v ρ = x.v (ap ρ θ) := by
 cases x with
 | int k e => simp only [DP.si,DP.v,Lin.dD]
 | bl f => simp only [DP.si,DP.v,BF.dD]
 | st e => simp only [DP.si,DP.v,SE.dD]
 | sl l => simp only [DP.si,DP.v,iS]
 | nl => rfl
 | cst v => rfl
 | ls l => simp only [DP.si,DP.v,iS]
 | un => rfl
 | mp a l => simp only [DP.si,DP.v,iS]
def s7 (θ : Th) : List DP → List DP
 | [] => []
 | x :: xs => x.si θ :: s7 θ xs
theorem s8 (ρ : Ro) (θ : Th) : ∀ x : List DP,ak ρ (s7 θ x) = ak (ap ρ θ) x
 | [] => rfl
 | x :: xs => by simp only [s7,ak,DP.dD,s8 ρ θ xs]
mutual
def DV.inst (θ : Th) (π : Nat → Nat) : DV → DV
 | .u => .u
 | .p x fr => .p (x.si θ) fr
 | .ptr k off => .ptr (π k) off
 | .vec k => .vec (π k)
 | .vptr k sz i off => .vptr (π k) sz (i.si θ) off
 | .pd row off fr => .pd (s7 θ row) off fr
 | .pc l fr => .pc (kr θ l) fr
 | .agg xs => .agg (fu θ π xs)
 | .tup xs => .tup (fu θ π xs)
 | .ref k => .ref (π k)
 | .fn f first caps => .fn f (fu θ π first) (fu θ π caps)
 | .ifc t x => .ifc t (DV.inst θ π x)
def fu (θ : Th) (π : Nat → Nat) : List DV → List DV
 | [] => []
 | x :: xs => DV.inst θ π x :: fu θ π xs
end
mutual
theorem gP (ρ : Ro) (θ : Th) (π : Nat → Nat) : ∀ x : DV,(x.inst θ π).v ρ = SV.rn π (x.v (ap ρ θ))
 | .u => by simp [DV.inst,DV.v,SV.rn]
 | .p x fr => by simp only [DV.inst,DV.v,SV.rn,DP.dD]
 | .ptr k off => by simp only [DV.inst,DV.v,SV.rn]
 | .vec k => by simp only [DV.inst,DV.v,SV.rn]
 | .vptr k sz i off => by simp only [DV.inst,DV.v,SV.rn,Lin.dD]
 | .pd row off fr => by simp only [DV.inst,DV.v,SV.rn,s8]
 | .pc l fr => by simp only [DV.inst,DV.v,SV.rn,iS]
 | .agg xs => by simp only [DV.inst,DV.v,SV.rn,ga ρ θ π xs]
 | .tup xs => by simp only [DV.inst,DV.v,SV.rn,ga ρ θ π xs]
 | .ref k => by simp only [DV.inst,DV.v,SV.rn]
 | .fn f first caps => by simp only [DV.inst,DV.v,SV.rn,ga ρ θ π first,ga ρ θ π caps]
 | .ifc t x => by simp only [DV.inst,DV.v,SV.rn,gP ρ θ π x]
theorem ga (ρ : Ro) (θ : Th) (π : Nat → Nat) : ∀ x : List DV,dvs ρ (fu θ π x) = rns π (dvs (ap ρ θ) x)
 | [] => by simp [fu,dvs,rns]
 | x :: xs => by simp only [fu,dvs,rns,gP ρ θ π x,ga ρ θ π xs]
end
def ny (θ : Th) (k : Nat) : Option Nat :=
 match lk θ k with
 | none => some k
 | some (.v j) => some j
 | some (.l (some j)) => some j
 | some (.s (.var j)) => some j
 | _ => none
def wu (θ : Th) : List Nat → Option (List Nat)
 | [] => some []
 | k :: r => match lk θ k,wu θ r with
  | none,some l => some (k :: l)
  | some (.v j),some l => some (j :: l)
  | _,_ => none
theorem yc (ρ : Ro) (θ : Th) : ∀ {l l' : List Nat},wu θ l = some l' → l'.map ρ = l.map (ap ρ θ)
 | [],l',h => by simp only [wu,Option.some.injEq] at h; subst h; rfl
 | k :: r,l',h => by
  simp only [wu] at h
  split at h
  ·rename_i l h1 h2
   simp only [Option.some.injEq] at h; subst h
   simp only [List.map_cons,yc ρ θ h2,ap,h1]
  ·rename_i j l h1 h2
   simp only [Option.some.injEq] at h; subst h
   simp only [List.map_cons,yc ρ θ h2,ap,h1]
  ·cases h
def DO.inst (θ : Th) (π : Nat → Nat) : DO → Option DO
 | .box t cells => some (.box t (fu θ π cells))
 | .vec t sz l fr => some (.vec t sz (kr θ l) fr)
 | .mp a l fr => some (.mp a (kr θ l) fr)
theorem DO.gP (ρ : Ro) (θ : Th) (π : Nat → Nat) {x y : DO} (h : x.inst θ π = some y) : y.v ρ = OV.rn π (x.v (ap ρ θ)) := by
 cases x with
 | box t cells => simp only [DO.inst,Option.some.injEq] at h; subst h; simp only [DO.v,OV.rn,ga]
 | vec t sz l fr => simp only [DO.inst,Option.some.injEq] at h; subst h; simp only [DO.v,OV.rn,iS]
 | mp a l fr => simp only [DO.inst,Option.some.injEq] at h; subst h; simp only [DO.v,OV.rn,iS]
def fw (θ : Th) (π : Nat → Nat) : az → Option az
 | [] => some []
 | (k,x) :: r => match x.inst θ π,fw θ π r with
  | some y,some r' => some ((π k,y) :: r')
  | _,_ => none
theorem sa (ρ : Ro) (θ : Th) (π : Nat → Nat) : ∀ {x y : az},fw θ π x = some y → aG ρ y = cK π (aG (ap ρ θ) x)
 | [],y,h => by simp only [fw,Option.some.injEq] at h; subst h; rfl
 | (k,x) :: r,y,h => by
  simp only [fw] at h
  split at h
  ·rename_i y' r' h1 h2
   simp only [Option.some.injEq] at h; subst h
   simp only [aG,cK,DO.gP ρ θ π h1,sa ρ θ π h2]
  ·cases h
theorem oe (ρ : Ro) (θ : Th) {k j : Nat} (h : ny θ k = some j) (h2 : ∀ e,lk θ k ≠ some (.s e)) : (ap ρ θ k).l = (ρ j).l := by
 unfold ny at h
 cases hl : lk θ k with
 | none => simp only [hl,Option.some.injEq] at h; subst h; simp only [ap,hl]
 | some tm =>
  rw [hl] at h
  cases tm with
  | v i => simp only [Option.some.injEq] at h; subst h; simp only [ap,hl]
  | l lv => cases lv with
   | none => simp at h
   | some i => simp only [Option.some.injEq] at h; subst h; simp only [ap,hl]; rfl
  | s e => exact absurd hl (h2 e)
  | _ => simp at h
def isS (θ : Th) (k : Nat) : Bool := match lk θ k with | some (.s _) => true | _ => false
theorem iG {θ : Th} {k : Nat} (h : isS θ k = false) : ∀ e,lk θ k ≠ some (.s e) := by
 intro e he; simp [isS,he] at h
def PF.inst (θ : Th) : PF → Option PF
 | .row l i cells => match ny θ l,isS θ l with
  | some j,false => some (.row j (i.si θ) (s7 θ cells))
  | _,_ => none
 | .app l a b => match ny θ l,isS θ l with
  | some j,false => some (.app j (kr θ a) (kr θ b))
  | _,_ => none
 | .sub l a lo hi => match ny θ l,ny θ a,isS θ l,isS θ a with
  | some j,some k,false,false => some (.sub j k (lo.si θ) (hi.si θ))
  | _,_,_,_ => none
 | .set l a i cells => match ny θ l,ny θ a,isS θ l,isS θ a with
  | some j,some k,false,false => some (.set j k (i.si θ) (s7 θ cells))
  | _,_,_,_ => none
 | .tru f => some (.tru (f.si θ))
 | .pr id args => match wu θ args with
  | some l => some (.pr id l)
  | none => none
 | _ => none
theorem PF.gP (I : Pr) (ρ : Ro) (θ : Th) {x y : PF} (h : x.inst θ = some y) : y.v I ρ ↔ x.v I (ap ρ θ) := by
 cases x with
 | row l i cells =>
  simp only [PF.inst] at h
  split at h
  ·rename_i j h1 h2
   simp only [Option.some.injEq] at h; subst h
   simp only [PF.v,Lin.dD,s8,oe ρ θ h1 (iG h2)]
  ·cases h
 | app l a b =>
  simp only [PF.inst] at h
  split at h
  ·rename_i j h1 h2
   simp only [Option.some.injEq] at h; subst h
   simp only [PF.v,iS,oe ρ θ h1 (iG h2)]
  ·cases h
 | sub l a lo hi =>
  simp only [PF.inst] at h
  split at h
  ·rename_i j k h1 h2 h3 h4
   simp only [Option.some.injEq] at h; subst h
   simp only [PF.v,Lin.dD,oe ρ θ h1 (iG h3),oe ρ θ h2 (iG h4)]
  ·cases h
 | set l a i cells =>
  simp only [PF.inst] at h
  split at h
  ·rename_i j k h1 h2 h3 h4
   simp only [Option.some.injEq] at h; subst h
   simp only [PF.v,Lin.dD,s8,oe ρ θ h1 (iG h3),oe ρ θ h2 (iG h4)]
  ·cases h
 | tru f => simp only [PF.inst,Option.some.injEq] at h; subst h; simp only [PF.v,BF.dD]
 | pr id args =>
  simp only [PF.inst] at h
  split at h
  ·rename_i l hl
   simp only [Option.some.injEq] at h; subst h
   simp only [PF.v,yc ρ θ hl]
  ·cases h
 | _ => simp [PF.inst] at h
def yd : Th → Option (List G)
 | [] => some []
 | (_,tm) :: r => match yd r with
  | none => none
  | some gs => match tm with
   | .i e => some (.le (e.aD (-9223372036854775807)) :: .le ((Lin.scale (-1) e).aD (-9223372036854775808)) :: gs)
   | .s (.lit b) => match Nat.ble b.length 1073741824 with | true => some gs | false => none
   | _ => some gs
theorem Eu {I : Pr} {ρ : Ro} (hg : Gok ρ) : ∀ {θ : Th} {gs : List G},yd θ = some gs → gsV I ρ gs → ∀ k tm,lk θ k = some tm → ig (match tm with | .v j => ρ j | .i e => vaN (e.v ρ) | .b f => vaB (f.v ρ) | .s e => vaS (e.v ρ) | .l l => vaL (lvV ρ l))
 | [],gs,_,_,k,tm,h => by simp [lk] at h
 | (j,t0) :: r,gs,ho,hv,k,tm,h => by
  simp only [yd] at ho
  split at ho
  ·cases ho
  ·rename_i gs1 h1
   have hrest : gsV I ρ gs1 := by
    split at ho
    ·simp only [Option.some.injEq] at ho; subst ho; exact hv.2.2
    ·split at ho
     ·simp only [Option.some.injEq] at ho; subst ho; exact hv
     ·cases ho
    ·simp only [Option.some.injEq] at ho; subst ho; exact hv
   simp only [lk] at h
   cases hb : Nat.beq j k with
   | false => simp only [hb] at h; exact Eu hg h1 hrest k tm h
   | true =>
    simp only [hb,Option.some.injEq] at h; subst h
    cases t0 with
    | v i => exact ⟨hg.lo i,hg.hi i,hg.st i,hg.ln i⟩
    | i e =>
     simp only [Option.some.injEq] at ho; subst ho
     simp only [gsV,G.v,Lin.aB,Lin.aT] at hv
     exact rJ (by omega) (by omega)
    | b f => exact nU _
    | l lv => exact HY (by cases lv with | none => exact Nat.zero_le _ | some i => exact hg.ln i)
    | s e =>
     cases e with
     | var i => exact nV (hg.st i)
     | lit b =>
      simp only at ho
      split at ho
      ·rename_i hb2
       have := Nat.le_of_ble_eq_true hb2
       exact nV (by simpa [SE.v,ByteArray.size,bz] using this)
      ·cases ho
theorem Ik {I : Pr} {ρ : Ro} {θ : Th} {gs : List G} (hg : Gok ρ) (h : yd θ = some gs) (hv : gsV I ρ gs) : Gok (ap ρ θ) := by
 have key : ∀ k,ig (ap ρ θ k) := by
  intro k
  unfold ap
  cases hl : lk θ k with
  | none => exact ⟨hg.lo k,hg.hi k,hg.st k,hg.ln k⟩
  | some tm => have := Eu hg h hv k tm hl; cases tm <;> exact this
 exact ⟨fun k => (key k).lo,fun k => (key k).hi,fun k => (key k).st,fun k => (key k).ln⟩
def lr (θ : Th) (tys : List (Nat × TypeId)) : List (Nat × TypeId) → Bool
 | [] => true
 | (k,e) :: r => match kr θ (some k) with
  | none => lr θ tys r
  | some j => match lk tys j with
   | some e' => match Nat.beq e e' with
    | true => lr θ tys r
    | false => false
   | none => false
theorem mU {P : Program} {ρ : Ro} {θ : Th} {tys : List (Nat × TypeId)} (ht : cb P ρ tys) : ∀ {l : List (Nat × TypeId)},lr θ tys l = true → cb P (ap ρ θ) l
 | [],_ => trivial
 | (k,e) :: r,h => by
  simp only [lr] at h
  have hlv := iS ρ θ (some k)
  simp only [lvV] at hlv
  split at h
  ·rename_i hn
   rw [hn] at hlv
   exact ⟨by rw [← hlv]; exact aU.nil,mU ht h⟩
  ·rename_i j hj
   rw [hj] at hlv
   split at h
   ·rename_i e' he'
    split at h
    ·rename_i hb
     have := Nat.eq_of_beq_eq_true hb; subst this
     refine ⟨?_,mU ht h⟩
     rw [← hlv]; exact c7 ht he'
    ·cases h
   ·cases h
end Go.TL
namespace Go.TL
def BP (a b : IntKind) : Bool := decide (a = b)
def BF.beq : BF → BF → Bool
 | .lit a,.lit b => a == b
 | .var a,.var b => Nat.beq a b
 | .le a,.le b => a.beq b
 | .eq a,.eq b => a.beq b
 | .not a,.not b => a.beq b
 | .and a b,.and c d => match a.beq c with | true => b.beq d | false => false
 | .or a b,.or c d => match a.beq c with | true => b.beq d | false => false
 | _,_ => false
theorem BF.beq_eq : ∀ {a b : BF},a.beq b = true → a = b
 | .lit a,.lit b,h => by simp only [BF.beq,beq_iff_eq] at h; rw [h]
 | .var a,.var b,h => by simp only [BF.beq] at h; rw [Nat.eq_of_beq_eq_true h]
 | .le a,.le b,h => by simp only [BF.beq] at h; rw [Lin.beq_eq h]
 | .eq a,.eq b,h => by simp only [BF.beq] at h; rw [Lin.beq_eq h]
 | .not a,.not b,h => by simp only [BF.beq] at h; rw [BF.beq_eq h]
 | .and a b,.and c d,h => by
  simp only [BF.beq] at h
  split at h
  ·rename_i h1; rw [BF.beq_eq h1,BF.beq_eq h]
  ·cases h
 | .or a b,.or c d,h => by
  simp only [BF.beq] at h
  split at h
  ·rename_i h1; rw [BF.beq_eq h1,BF.beq_eq h]
  ·cases h
 | .lit _,.var _,h | .lit _,.le _,h | .lit _,.eq _,h | .lit _,.not _,h | .lit _,.and _ _,h | .lit _,.or _ _,h => by simp [BF.beq] at h
 | .var _,.lit _,h | .var _,.le _,h | .var _,.eq _,h | .var _,.not _,h | .var _,.and _ _,h | .var _,.or _ _,h => by simp [BF.beq] at h
 | .le _,.lit _,h | .le _,.var _,h | .le _,.eq _,h | .le _,.not _,h | .le _,.and _ _,h | .le _,.or _ _,h => by simp [BF.beq] at h
 | .eq _,.lit _,h | .eq _,.var _,h | .eq _,.le _,h | .eq _,.not _,h | .eq _,.and _ _,h | .eq _,.or _ _,h => by simp [BF.beq] at h
 | .not _,.lit _,h | .not _,.var _,h | .not _,.le _,h | .not _,.eq _,h | .not _,.and _ _,h | .not _,.or _ _,h => by simp [BF.beq] at h
 | .and _ _,.lit _,h | .and _ _,.var _,h | .and _ _,.le _,h | .and _ _,.eq _,h | .and _ _,.not _,h | .and _ _,.or _ _,h => by simp [BF.beq] at h
 | .or _ _,.lit _,h | .or _ _,.var _,h | .or _ _,.le _,h | .or _ _,.eq _,h | .or _ _,.not _,h | .or _ _,.and _ _,h => by simp [BF.beq] at h
def SE.beq : SE → SE → Bool
 | .lit a,.lit b => lq a b
 | .var a,.var b => Nat.beq a b
 | _,_ => false
theorem SE.beq_eq {a b : SE} (h : a.beq b = true) : a = b := by
 cases a <;> cases b <;> simp only [SE.beq,Bool.false_eq_true] at h
 ·rw [kR,beq_iff_eq] at h; rw [h]
 ·rw [Nat.eq_of_beq_eq_true h]
def fb : LV → LV → Bool
 | none,none => true
 | some a,some b => Nat.beq a b
 | _,_ => false
theorem dJ {a b : LV} (h : fb a b = true) : a = b := by
 cases a <;> cases b <;> simp only [fb,Bool.false_eq_true] at h
 ·rfl
 ·rw [Nat.eq_of_beq_eq_true h]
def FV : Value → Value → Bool
 | .pointer none,.pointer none => true
 | .nilFunc,.nilFunc => true
 | .nilIface,.nilIface => true
 | .map none,.map none => true
 | _,_ => false
theorem Kk {a b : Value} (h : FV a b = true) : a = b := by
 unfold FV at h; split at h <;> first | rfl | cases h
def DP.beq : DP → DP → Bool
 | .int k e,.int k' e' => match BP k k' with | true => e.beq e' | false => false
 | .bl f,.bl g => f.beq g
 | .st e,.st e' => e.beq e'
 | .sl l,.sl l' => fb l l'
 | .nl,.nl => true
 | .cst v,.cst v' => FV v v'
 | .ls l,.ls l' => fb l l'
 | .un,.un => true
 | .mp a l,.mp a' l' => match fb a a' with | true => fb l l' | false => false
 | _,_ => false
theorem DP.beq_eq {a b : DP} (h : a.beq b = true) : a = b := by
 cases a <;> cases b <;> simp only [DP.beq,Bool.false_eq_true] at h
 ·split at h
  ·rename_i hk; have := of_decide_eq_true hk; subst this; rw [Lin.beq_eq h]
  ·cases h
 ·rw [BF.beq_eq h]
 ·rw [SE.beq_eq h]
 ·rw [dJ h]
 ·rfl
 ·rw [Kk h]
 ·rw [dJ h]
 ·rfl
 ·split at h
  ·rename_i h1; rw [dJ h1,dJ h]
  ·cases h
def mV : List DP → List DP → Bool
 | [],[] => true
 | x :: xs,y :: ys => match x.beq y with | true => mV xs ys | false => false
 | _,_ => false
theorem pU : ∀ {a b : List DP},mV a b = true → a = b
 | [],[],_ => rfl
 | x :: xs,y :: ys,h => by
  simp only [mV] at h
  split at h
  ·rename_i h1; rw [DP.beq_eq h1,pU h]
  ·cases h
 | [],_ :: _,h => by simp [mV] at h
 | _ :: _,[],h => by simp [mV] at h
def pV (is ask : Bool) : Bool := match ask with | true => is | false => true
def Kl (x y : DP) : Bool :=
 match x,y with
 | .nl,.sl none => true
 | .cst (.pointer none),.ls none => true
 | .cst (.map none),.mp _ none => true
 | _,.un => true
 | x,y => x.beq y
def FX : Fn → Fn → Bool
 | .func a,.func b => Nat.beq a b
 | _,_ => false
theorem Nd {a b : Fn} (h : FX a b = true) : a = b := by
 unfold FX at h; split at h
 ·rw [Nat.eq_of_beq_eq_true h]
 ·cases h
mutual
def cM : DV → DV → Bool
 | _,.u => true
 | .p x fr,.p y fr' => match Kl x y with | true => pV fr fr' | false => false
 | .ptr k off,.ptr k' off' => Nat.beq k k' && Nat.beq off off'
 | .vec k,.vec k' => Nat.beq k k'
 | .vptr k sz i off,.vptr k' sz' i' off' => (Nat.beq k k' && Nat.beq sz sz') && (i.beq i' && Nat.beq off off')
 | .pd row off fr,.pd row' off' fr' => (mV row row' && Nat.beq off off') && pV fr fr'
 | .pc l fr,.pc l' fr' => fb l l' && pV fr fr'
 | .pc l fr,.p (.sl l') fr' => fb l l' && pV fr fr'
 | .agg xs,.agg ys => iT xs ys
 | .tup xs,.tup ys => iT xs ys
 | .ref k,.ref k' => Nat.beq k k'
 | .fn f a b,.fn f' a' b' => match FX f f' with | true => (match iT a a' with | true => iT b b' | false => false) | false => false
 | .ifc t x,.ifc t' y => match Nat.beq t t' with | true => cM x y | false => false
 | _,_ => false
def iT : List DV → List DV → Bool
 | [],[] => true
 | x :: xs,y :: ys => match cM x y with | true => iT xs ys | false => false
 | _,_ => false
end
theorem Ak {lo : Nat} {a b : Bool} (h : pV a b = true) : flo lo b ≤ flo lo a := by
 cases a <;> cases b <;> simp [pV,flo] at *
theorem Rep.FY {w : World} {bad : Nat → Prop} {lo : Nat} {a b : Bool} {x : PV} {v : Value} (h : pV a b = true) (r : Rep w bad (flo lo a) x v) : Rep w bad (flo lo b) x v :=
 r.mono (Ak h) fun _ _ h h' => ⟨h,h'⟩
theorem Pf {w : World} {bad : Nat → Prop} {lo : Nat} {ρ : Ro} {x y : DP} {v : Value} (h : Kl x y = true) (r : Rep w bad lo (x.v ρ) v) : Rep w bad lo (y.v ρ) v := by
 unfold Kl at h
 split at h
 ·simp only [DP.v] at r
  have := eW r; subst this
  simp only [DP.v,lvV]; exact .nil none 0
 ·have := eW r; subst this; exact .lsNil
 ·have := eW r; subst this; exact .mpNil _
 ·exact .un _ r.one
 ·rw [← DP.beq_eq h]; exact r
mutual
theorem BQ {w : World} {E : Env} {lo : Nat} {ρ : Ro} : ∀ {x y : DV} {v : Value},cM x y = true → VR w E lo (x.v ρ) v → VR w E lo (y.v ρ) v
 | .u,y,v,h,r => by cases y <;> first | (simp [DV.v,VR]; done) | (simp [cM] at h; done)
 | .p x fr,y,v,h,r => by
  cases y with
  | u => simp [DV.v,VR]
  | p y fr' =>
   simp only [cM] at h
   simp only [DV.v,VR] at r ⊢
   split at h
   ·rename_i h1; exact Rep.FY h (Pf h1 r)
   ·cases h
  | _ => simp [cM] at h
 | .ptr k off,y,v,h,r => by
  cases y with
  | u => simp [DV.v,VR]
  | ptr k' off' =>
   simp only [cM,Bool.and_eq_true] at h
   rw [← Nat.eq_of_beq_eq_true h.1, ← Nat.eq_of_beq_eq_true h.2]; exact r
  | _ => simp [cM] at h
 | .vec k,y,v,h,r => by
  cases y with
  | u => simp [DV.v,VR]
  | vec k' =>
   simp only [cM] at h
   rw [← Nat.eq_of_beq_eq_true h]; exact r
  | _ => simp [cM] at h
 | .vptr k sz i off,y,v,h,r => by
  cases y with
  | u => simp [DV.v,VR]
  | vptr k' sz' i' off' =>
   simp only [cM,Bool.and_eq_true] at h
   rw [← Nat.eq_of_beq_eq_true h.1.1, ← Nat.eq_of_beq_eq_true h.1.2, ← Lin.beq_eq h.2.1, ← Nat.eq_of_beq_eq_true h.2.2]; exact r
  | _ => simp [cM] at h
 | .pd row off fr,y,v,h,r => by
  cases y with
  | u => simp [DV.v,VR]
  | pd row' off' fr' =>
   simp only [cM,Bool.and_eq_true] at h
   rw [← pU h.1.1, ← Nat.eq_of_beq_eq_true h.1.2]
   simp only [DV.v,VR] at r ⊢
   obtain ⟨b,o,h1,h2⟩ := r
   exact ⟨b,o,h1,h2.mono (Ak h.2) fun _ _ h h' => ⟨h,h'⟩⟩
  | _ => simp [cM] at h
 | .pc l fr,y,v,h,r => by
  cases y with
  | u => simp [DV.v,VR]
  | pc l' fr' =>
   simp only [cM,Bool.and_eq_true] at h
   rw [← dJ h.1]
   simp only [DV.v,VR] at r ⊢
   obtain ⟨a,h1,h2⟩ := r
   exact ⟨a,h1,Rep.FY h.2 h2⟩
  | p y fr' =>
   cases y with
   | sl l' =>
    simp only [cM,Bool.and_eq_true] at h
    rw [← dJ h.1]
    simp only [DV.v,DP.v,VR] at r ⊢
    obtain ⟨a,h1,h2⟩ := r
    exact Rep.FY h.2 h2
   | _ => simp [cM] at h
  | _ => simp [cM] at h
 | .agg xs,y,v,h,r => by
  cases y with
  | u => simp [DV.v,VR]
  | agg ys =>
   simp only [cM] at h
   simp only [DV.v,VR] at r ⊢
   obtain ⟨vs,h1,h2⟩ := r
   exact ⟨vs,h1,jr h h2⟩
  | _ => simp [cM] at h
 | .tup xs,y,v,h,r => by
  cases y with
  | u => simp [DV.v,VR]
  | tup ys =>
   simp only [cM] at h
   simp only [DV.v,VR] at r ⊢
   obtain ⟨vs,h1,h2⟩ := r
   exact ⟨vs,h1,jr h h2⟩
  | _ => simp [cM] at h
 | .ref k,y,v,h,r => by
  cases y with
  | u => simp [DV.v,VR]
  | ref k' =>
   simp only [cM] at h
   rw [← Nat.eq_of_beq_eq_true h]; exact r
  | _ => simp [cM] at h
 | .fn f a b,y,v,h,r => by
  cases y with
  | u => simp [DV.v,VR]
  | fn f' a' b' =>
   simp only [cM] at h
   split at h
   ·rename_i h1
    split at h
    ·rename_i h2
     rw [← Nd h1]
     simp only [DV.v,VR] at r ⊢
     obtain ⟨vs,ws,q1,q2,q3⟩ := r
     exact ⟨vs,ws,q1,jr h2 q2,jr h q3⟩
    ·cases h
   ·cases h
  | _ => simp [cM] at h
 | .ifc t x,y,v,h,r => by
  cases y with
  | u => simp [DV.v,VR]
  | ifc t' y =>
   simp only [cM] at h
   split at h
   ·rename_i h1
    rw [← Nat.eq_of_beq_eq_true h1]
    simp only [DV.v,VR] at r ⊢
    obtain ⟨z,q1,q2⟩ := r
    exact ⟨z,q1,BQ h q2⟩
   ·cases h
  | _ => simp [cM] at h
theorem jr {w : World} {E : Env} {lo : Nat} {ρ : Ro} : ∀ {xs ys : List DV} {vs : List Value},iT xs ys = true → VRs w E lo (dvs ρ xs) vs → VRs w E lo (dvs ρ ys) vs
 | [],[],vs,_,r => r
 | x :: xs,y :: ys,vs,h,r => by
  simp only [iT] at h
  split at h
  ·rename_i h1
   simp only [dvs] at r ⊢
   cases vs with
   | nil => simp [VRs] at r
   | cons v vs =>
    simp only [VRs] at r ⊢
    exact ⟨BQ h1 r.1,jr h r.2⟩
  ·cases h
 | [],_ :: _,_,h,_ => by simp [iT] at h
 | _ :: _,[],_,h,_ => by simp [iT] at h
end
def pW : DO → DO → Bool
 | .box t xs,.box t' ys => match Nat.beq t t' with | true => iT xs ys | false => false
 | .vec t sz l fr,.vec t' sz' l' fr' => (Nat.beq t t' && Nat.beq sz sz') && (fb l l' && pV fr fr')
 | .mp a l fr,.mp a' l' fr' => (fb a a' && fb l l') && pV fr fr'
 | _,_ => false
 where
 natsEq : List Nat → List Nat → Bool
 | [],[] => true
 | x :: xs,y :: ys => match Nat.beq x y with | true => natsEq xs ys | false => false
 | _,_ => false
theorem zp : ∀ {a b : List Nat},pW.natsEq a b = true → a = b
 | [],[],_ => rfl
 | x :: xs,y :: ys,h => by
  simp only [pW.natsEq] at h
  split at h
  ·rename_i h1; rw [Nat.eq_of_beq_eq_true h1,zp h]
  ·cases h
 | [],_ :: _,h => by simp [pW.natsEq] at h
 | _ :: _,[],h => by simp [pW.natsEq] at h
theorem Il {w : World} {E : Env} {lo k : Nat} {ρ : Ro} {x y : DO} (h : pW x y = true) (r : OR w E lo k (x.v ρ)) : OR w E lo k (y.v ρ) := by
 cases x <;> cases y <;> simp only [pW,Bool.false_eq_true] at h
 ·split at h
  ·rename_i h1
   rw [← Nat.eq_of_beq_eq_true h1]
   simp only [DO.v,OR] at r ⊢
   obtain ⟨b,vs,q1,q2,q3,q4⟩ := r
   exact ⟨b,vs,q1,q2,q3,jr h q4⟩
  ·cases h
 ·simp only [Bool.and_eq_true] at h
  rw [← Nat.eq_of_beq_eq_true h.1.1, ← Nat.eq_of_beq_eq_true h.1.2, ← dJ h.2.1]
  simp only [DO.v,OR] at r ⊢
  obtain ⟨v,xs,q1,q2,q3,q4,q5⟩ := r
  exact ⟨v,xs,q1,q2,q3,q4,q5.mono (Ak h.2.2) fun _ _ h h' => ⟨h,h'⟩⟩
 ·simp only [Bool.and_eq_true] at h
  rw [← dJ h.1.1, ← dJ h.1.2]
  simp only [DO.v,OR] at r ⊢
  obtain ⟨b,es,cl,q1,q2,q3,q4⟩ := r
  exact ⟨b,es,cl,q1,q2,q3,q4.mono (Ak h.2) fun _ _ h h' => ⟨h,h'⟩⟩
def wv (T : az) : az → Bool
 | [] => true
 | (k,y) :: r => match lk T k with
  | some x => match pW x y with | true => wv T r | false => false
  | none => false
theorem uU {T : az} : ∀ {r : az},wv T r = true → ∀ k y,lk r k = some y → ∃ x,lk T k = some x ∧ pW x y = true
 | [],_,k,y,h => by simp [lk] at h
 | (j,z) :: r,h,k,y,hl => by
  simp only [wv] at h
  split at h
  ·rename_i x hx
   split at h
   ·rename_i hle
    simp only [lk] at hl
    cases hb : Nat.beq j k with
    | true => simp only [hb,Option.some.injEq] at hl; subst hl; rw [← Nat.eq_of_beq_eq_true hb]; exact ⟨x,hx,hle⟩
    | false => simp only [hb] at hl; exact uU h k y hl
   ·cases h
  ·cases h
def s9 (S : bq) : bq → Bool
 | [] => true
 | (t,y) :: r => match lk S t with
  | some x => match cM x y with | true => s9 S r | false => false
  | none => false
theorem wx {S : bq} : ∀ {r : bq},s9 S r = true → ∀ k y,lk r k = some y → ∃ x,lk S k = some x ∧ cM x y = true
 | [],_,k,y,h => by simp [lk] at h
 | (j,z) :: r,h,k,y,hl => by
  simp only [s9] at h
  split at h
  ·rename_i x hx
   split at h
   ·rename_i hle
    simp only [lk] at hl
    cases hb : Nat.beq j k with
    | true => simp only [hb,Option.some.injEq] at hl; subst hl; rw [← Nat.eq_of_beq_eq_true hb]; exact ⟨x,hx,hle⟩
    | false => simp only [hb] at hl; exact wx h k y hl
   ·cases h
  ·cases h
theorem BR {P : Program} {n : Nat} {s s' : St} (hs : ∀ t b,lk s'.ab t = some b → ∃ a,lk s.ab t = some a ∧ ∀ w E lo v,VR w E lo a v → VR w E lo b v)
  (ht : ∀ k b,lk s'.tab k = some b → ∃ a,lk s.tab k = some a ∧ ∀ w E lo,OR w E lo k a → OR w E lo k b) (hk : ∀ k,lk s.tab k ≠ none → lk s'.tab k ≠ none) : Imp P n s s' := by
 rintro lo w0 E0 a w ⟨E,e⟩
 refine ⟨E,e.size,e.defers,?_,⟨?_,?_,?_,e.tab.ext⟩,e.fr,e.lo,e.ids,e.gZ⟩
 ·intro t b hl
  obtain ⟨x,h1,h2⟩ := hs t b hl
  exact h2 _ _ _ _ (e.ab t x h1)
 ·intro k b hl
  obtain ⟨x,h1,h2⟩ := ht k b hl
  exact h2 _ _ _ (e.tab.obj k x h1)
 ·intro k hn
  refine e.tab.dead k ?_
  cases hq : lk s.tab k with
  | none => rfl
  | some x => exact absurd hn (hk k (by rw [hq]; simp))
 ·intro b k hb
  obtain ⟨h1,h2,h3⟩ := e.tab.own b k hb
  exact ⟨h1,h2,hk k h3⟩
end Go.TL
namespace Go.TL
mutual
def DV.rn (π : Nat → Nat) : DV → DV
 | .vec j => .vec (π j)
 | .ptr j off => .ptr (π j) off
 | .vptr j sz i off => .vptr (π j) sz i off
 | .ref j => .ref (π j)
 | .agg xs => .agg (js π xs)
 | .tup xs => .tup (js π xs)
 | .fn f first caps => .fn f (js π first) (js π caps)
 | .ifc t x => .ifc t (DV.rn π x)
 | .u => .u
 | .p x fr => .p x fr
 | .pd row off fr => .pd row off fr
 | .pc rows fr => .pc rows fr
def js (π : Nat → Nat) : List DV → List DV
 | [] => []
 | x :: xs => DV.rn π x :: js π xs
end
mutual
theorem uV (ρ : Ro) (π : Nat → Nat) : ∀ x : DV,(x.rn π).v ρ = SV.rn π (x.v ρ)
 | .vec _ => by simp [DV.rn,DV.v,SV.rn]
 | .ptr _ _ => by simp [DV.rn,DV.v,SV.rn]
 | .vptr _ _ _ _ => by simp [DV.rn,DV.v,SV.rn]
 | .ref _ => by simp [DV.rn,DV.v,SV.rn]
 | .agg xs => by simp only [DV.rn,DV.v,SV.rn,tc ρ π xs]
 | .tup xs => by simp only [DV.rn,DV.v,SV.rn,tc ρ π xs]
 | .fn f first caps => by simp only [DV.rn,DV.v,SV.rn,tc ρ π first,tc ρ π caps]
 | .ifc t x => by simp only [DV.rn,DV.v,SV.rn,uV ρ π x]
 | .u => by simp [DV.rn,DV.v,SV.rn]
 | .p _ _ => by simp [DV.rn,DV.v,SV.rn]
 | .pd _ _ _ => by simp [DV.rn,DV.v,SV.rn]
 | .pc _ _ => by simp [DV.rn,DV.v,SV.rn]
theorem tc (ρ : Ro) (π : Nat → Nat) : ∀ x : List DV,dvs ρ (js π x) = rns π (dvs ρ x)
 | [] => by simp [js,dvs,rns]
 | x :: xs => by simp only [js,dvs,rns,uV ρ π x,tc ρ π xs]
end
mutual
theorem og (π : Nat → Nat) : ∀ x : DV,(x.rn π).vars = x.vars
 | .vec _ => by simp [DV.rn,DV.vars]
 | .ptr _ _ => by simp [DV.rn,DV.vars]
 | .vptr _ _ _ _ => by simp [DV.rn,DV.vars]
 | .ref _ => by simp [DV.rn,DV.vars]
 | .agg xs => by simp only [DV.rn,DV.vars,jt π xs]
 | .tup xs => by simp only [DV.rn,DV.vars,jt π xs]
 | .fn f first caps => by simp only [DV.rn,DV.vars,jt π first,jt π caps]
 | .ifc t x => by simp only [DV.rn,DV.vars,og π x]
 | .u => by simp [DV.rn,DV.vars]
 | .p _ _ => by simp [DV.rn,DV.vars]
 | .pd _ _ _ => by simp [DV.rn,DV.vars]
 | .pc _ _ => by simp [DV.rn,DV.vars]
theorem jt (π : Nat → Nat) : ∀ x : List DV,av (js π x) = av x
 | [] => by simp [js,av]
 | x :: xs => by simp only [js,av,og π x,jt π xs]
end
def DO.rn (π : Nat → Nat) : DO → DO
 | .box t cells => .box t (js π cells)
 | o => o
theorem DO.uV (ρ : Ro) (π : Nat → Nat) (o : DO) : (o.rn π).v ρ = OV.rn π (o.v ρ) := by
 cases o <;> simp [DO.rn,DO.v,OV.rn,tc]
theorem DO.og (π : Nat → Nat) (o : DO) : (o.rn π).vars = o.vars := by
 cases o <;> simp [DO.rn,DO.vars,jt]
def lu (π : Nat → Nat) : bq → bq
 | [] => []
 | (t,x) :: r => (t,x.rn π) :: lu π r
def pX (π : Nat → Nat) : az → az
 | [] => []
 | (t,x) :: r => (π t,x.rn π) :: pX π r
theorem zq (ρ : Ro) (π : Nat → Nat) : ∀ l : bq,bK ρ (lu π l) = lj π (bK ρ l)
 | [] => rfl
 | (t,x) :: r => by simp only [lu,bK,lj,uV,zq ρ π r]
theorem Ev (ρ : Ro) (π : Nat → Nat) : ∀ l : az,aG ρ (pX π l) = cK π (aG ρ l)
 | [] => rfl
 | (t,x) :: r => by simp only [pX,aG,cK,DO.uV,Ev ρ π r]
def DSt.rn (σ : DSt) (k k' : Nat) : DSt := { σ with ab := lu (sw k k') σ.ab,tab := pX (sw k k') σ.tab }
theorem DSt.uV (ρ : Ro) (σ : DSt) (k k' : Nat) : (σ.rn k k').v ρ = (σ.v ρ).rn k k' := by
 simp only [DSt.rn,DSt.v,St.rn,zq,Ev]
structure DSt.S7 (σ : DSt) : Prop where
 ab : ∀ p ∈ σ.ab,Sc σ.nx p.2.vars
 tab : ∀ p ∈ σ.tab,Sc σ.nx p.2.vars
theorem wy (π : Nat → Nat) : ∀ (l : bq) (t : Nat),lk (lu π l) t = (lk l t).map (DV.rn π)
 | [],_ => rfl
 | (j,x) :: r,t => by simp only [lu,lk]; cases Nat.beq j t <;> simp [wy π r t]
theorem BS (a b : Nat) : ∀ (l : az) (t : Nat),lk (pX (sw a b) l) t = (lk l (sw a b t)).map (DO.rn (sw a b))
 | [],_ => rfl
 | (j,x) :: r,t => by
  simp only [pX,lk]
  have hb : Nat.beq (sw a b j) t = Nat.beq j (sw a b t) := by
   rw [Bool.eq_iff_iff]
   constructor
   ·intro h; have := Nat.eq_of_beq_eq_true h; subst this; rw [dn]; exact Nat.beq_refl _
   ·intro h; have := Nat.eq_of_beq_eq_true h; subst this; rw [dn]; exact Nat.beq_refl _
  rw [hb]
  cases Nat.beq j (sw a b t) <;> simp [BS a b r t]
theorem DSt.sc.rn {σ : DSt} (hs : σ.sc) (k k' : Nat) : (σ.rn k k').sc := by
 refine ⟨?_,?_,hs.tys,hs.lin,hs.prs⟩
 ·intro t v hl
  simp only [DSt.rn,wy] at hl
  cases hq : lk σ.ab t with
  | none => simp [hq] at hl
  | some x => simp only [hq,Option.map_some,Option.some.injEq] at hl; subst hl; rw [og]; exact hs.ab t x hq
 ·intro t v hl
  simp only [DSt.rn,BS] at hl
  cases hq : lk σ.tab (sw k k' t) with
  | none => simp [hq] at hl
  | some x => simp only [hq,Option.map_some,Option.some.injEq] at hl; subst hl; rw [DO.og]; exact hs.tab _ x hq
def DSt.fz (k : Nat) (vc : DV) (pd : Nat → DV) (σ : DSt) : DSt := { σ with ab := fX k vc pd σ.ab,tab := j4 k vc pd (rm σ.tab k) }
theorem DSt.rZ (ρ : Ro) (k : Nat) (vc : DV) (pd : Nat → DV) (σ : DSt) : (DSt.fz k vc pd σ).v ρ = St.fz k (vc.v ρ) (fun n => (pd n).v ρ) (σ.v ρ) := by
 simp only [DSt.fz,DSt.v,St.fz,mQ,sZ,iC]
theorem DSt.sc.fz {σ : DSt} (hs : σ.sc) {k : Nat} {vc : DV} {pd : Nat → DV} (hv : Sc σ.nx vc.vars) (hp : ∀ j,Sc σ.nx (pd j).vars) : (DSt.fz k vc pd σ).sc := by
 refine ⟨?_,?_,hs.tys,hs.lin,hs.prs⟩
 ·intro t v hl
  simp only [DSt.fz,jK] at hl
  cases hq : lk σ.ab t with
  | none => simp [hq] at hl
  | some x => simp only [hq,Option.map_some,Option.some.injEq] at hl; subst hl; exact Go.TL.kT hv hp (hs.ab t x hq)
 ·intro t v hl
  simp only [DSt.fz,mR,kU] at hl
  split at hl
  ·simp at hl
  ·cases hq : lk σ.tab t with
   | none => simp [hq] at hl
   | some x => simp only [hq,Option.map_some,Option.some.injEq] at hl; subst hl; exact DO.kT hv hp (hs.tab t x hq)
def DSt.cQ : List Nat → DSt → DSt
 | [],σ => σ
 | k :: ks,σ => DSt.cQ ks (DSt.fz k .u (fun _ => .u) σ)
theorem Ew (ρ : Ro) : ∀ (ks : List Nat) (σ : DSt),(σ.cQ ks).v ρ = (σ.v ρ).cQ ks
 | [],_ => rfl
 | k :: ks,σ => by
  simp only [DSt.cQ,St.cQ,Ew ρ ks,DSt.rZ,dVU,St.kill]
theorem BT : ∀ (ks : List Nat) {σ : DSt},σ.sc → (σ.cQ ks).sc ∧ (σ.cQ ks).nx = σ.nx ∧ (σ.cQ ks).tys = σ.tys ∧ (σ.cQ ks).lin = σ.lin ∧ (σ.cQ ks).prs = σ.prs
 | [],_,h => ⟨h,rfl,rfl,rfl,rfl⟩
 | k :: ks,σ,h => BT ks (h.fz (k := k) (by simp [DV.vars,Sc.nil]) (fun _ => by simp [DV.vars,Sc.nil]))
def eO (LT : List Nat) : az → List Nat
 | [] => []
 | (k,_) :: r => match LT.any (Nat.beq k) with | true => eO LT r | false => k :: eO LT r
theorem zt (ρ : Ro) (LT : List Nat) : ∀ T : az,others LT (aG ρ T) = eO LT T
 | [] => rfl
 | (k,x) :: r => by
  simp only [aG,others,eO,zt ρ LT r]
  cases LT.any (Nat.beq k) <;> rfl
def DSt.keep (L LT : List Nat) (σ : DSt) : DSt :=
 let σ1 := σ.cQ (eO LT σ.tab)
 { σ1 with ab := pick σ1.ab L,tab := pick σ1.tab LT }
theorem kV (ρ : Ro) (S : bq) : ∀ L : List Nat,bK ρ (pick S L) = pick (bK ρ S) L
 | [] => rfl
 | k :: ks => by
  simp only [pick,eh]
  cases lk S k with
  | none => simp only [Option.map_none]; exact kV ρ S ks
  | some x => simp only [Option.map_some,bK,kV ρ S ks]
theorem pY (ρ : Ro) (S : az) : ∀ L : List Nat,aG ρ (pick S L) = pick (aG ρ S) L
 | [] => rfl
 | k :: ks => by
  simp only [pick,cO]
  cases lk S k with
  | none => simp only [Option.map_none]; exact pY ρ S ks
  | some x => simp only [Option.map_some,aG,pY ρ S ks]
theorem Pg (ρ : Ro) (L LT : List Nat) (σ : DSt) : (σ.keep L LT).v ρ = (σ.v ρ).keep L LT := by
 have h1 := Ew ρ (eO LT σ.tab) σ
 have h2 : others LT (σ.v ρ).tab = eO LT σ.tab := zt ρ LT σ.tab
 have h3 : (σ.v ρ).keep L LT = ⟨pick ((σ.v ρ).cQ (eO LT σ.tab)).ab L,pick ((σ.v ρ).cQ (eO LT σ.tab)).tab LT⟩ := by simp only [St.keep,h2]
 rw [h3, ← h1]
 simp only [DSt.keep,DSt.v,kV,pY]
structure Co1 (P : Program) (n : Nat) (σ σ' : DSt) : Prop where
 sc : σ.sc → σ'.sc
 nx : σ'.nx = σ.nx
 tys : σ'.tys = σ.tys
 lin : σ'.lin = σ.lin
 prs : σ'.prs = σ.prs
 imp : ∀ ρ,Imp P n (σ.v ρ) (σ'.v ρ)
theorem Co1.ok {P : Program} {I : Pr} {n : Nat} {σ σ' : DSt} {ρ : Ro} (h : Co1 P n σ σ') (k : σ.ok P I ρ) : σ'.ok P I ρ :=
 ⟨k.g,h.tys ▸ k.tys,h.lin ▸ k.lin,h.prs ▸ k.prs⟩
theorem Co1.refl {P : Program} {n : Nat} {σ : DSt} : Co1 P n σ σ := ⟨id,rfl,rfl,rfl,rfl,fun _ => Imp.refl⟩
theorem Co1.trans {P : Program} {n : Nat} {σ σ1 σ2 : DSt} (h : Co1 P n σ σ1) (k : Co1 P n σ1 σ2) : Co1 P n σ σ2 :=
 ⟨fun x => k.sc (h.sc x),k.nx.trans h.nx,k.tys.trans h.tys,k.lin.trans h.lin,k.prs.trans h.prs,fun ρ => (h.imp ρ).trans (k.imp ρ)⟩
theorem Nf {P : Program} {n : Nat} (L LT : List Nat) (σ : DSt) : Co1 P n σ (σ.keep L LT) := by
 have hk : ∀ (ks : List Nat) (σ : DSt),(σ.cQ ks).nx = σ.nx ∧ (σ.cQ ks).tys = σ.tys ∧ (σ.cQ ks).lin = σ.lin ∧ (σ.cQ ks).prs = σ.prs := by
  intro ks
  induction ks with
  | nil => intro σ; exact ⟨rfl,rfl,rfl,rfl⟩
  | cons k ks ih => intro σ; exact ih (DSt.fz k .u (fun _ => .u) σ)
 have h1 := hk (eO LT σ.tab) σ
 refine ⟨fun hs => ?_,h1.1,h1.2.1,h1.2.2.1,h1.2.2.2,fun ρ => ?_⟩
 ·have h2 := (BT (eO LT σ.tab) hs).1
  exact ⟨fun t v hl => h2.ab t v (eJ _ _ _ _ hl),fun t v hl => h2.tab t v (eJ _ _ _ _ hl),h2.tys,h2.lin,h2.prs⟩
 ·exact Jw L LT (Pg ρ L LT σ).symm
def DSt.eH (k : Nat) (σ : DSt) : Option DSt :=
 match lk σ.tab k with
 | some (.vec _ _ l fr) => some (DSt.fz k (.p (.sl l) fr) (fun _ => .u) σ)
 | some (.mp a l fr) => some (DSt.fz k (.p (.mp a l) fr) (fun _ => .u) σ)
 | some (.box _ cells) => match fj cells with
  | some (row,fr) => match j5 row with
   | true => some (DSt.fz k .u (fun off => .pd row off fr) σ)
   | false => none
  | none => none
 | _ => none
theorem FZ {P : Program} {n k : Nat} {σ σ' : DSt} (h : σ.eH k = some σ') : Co1 P n σ σ' := by
 unfold DSt.eH at h
 split at h
 ·rename_i t sz l fr hk
  simp only [Option.some.injEq] at h; subst h
  refine ⟨fun hs => hs.fz (by have := hs.tab k _ hk; simpa [DV.vars,DP.vars,DO.vars] using this) (fun _ => by simp [DV.vars,Sc.nil]),rfl,rfl,rfl,rfl,fun ρ => ?_⟩
  refine py [k] ?_
  simp only [St.freeze,St.eH,da hk,DO.v,DSt.rZ,DV.v,DP.v]
 ·rename_i a l fr hk
  simp only [Option.some.injEq] at h; subst h
  refine ⟨fun hs => hs.fz (by have := hs.tab k _ hk; simpa [DV.vars,DP.vars,DO.vars] using this) (fun _ => by simp [DV.vars,Sc.nil]),rfl,rfl,rfl,rfl,fun ρ => ?_⟩
  refine py [k] ?_
  simp only [St.freeze,St.eH,da hk,DO.v,DSt.rZ,DV.v,DP.v]
 ·rename_i t cells hk
  split at h
  ·rename_i row fr hrow
   split at h
   ·rename_i hc
    simp only [Option.some.injEq] at h; subst h
    refine ⟨fun hs => hs.fz (by simp [DV.vars,Sc.nil]) (fun _ => by simp only [DV.vars]; exact j6 hrow (by have := hs.tab k _ hk; simpa [DO.vars] using this)),rfl,rfl,rfl,rfl,fun ρ => ?_⟩
    refine py [k] ?_
    simp only [St.freeze,St.eH,da hk,DO.v,jq hrow hc,DSt.rZ,DV.v]
   ·cases h
  ·cases h
 ·cases h
inductive Co where
 | fz (k : Nat)
 | rn (k k' : Nat)
 | nil (t K : Nat) (e : TypeId) (sz : Nat)
 | cell (k j K : Nat) (e : TypeId) (sz : Nat)
def DSt.co (n : Nat) (σ : DSt) : Co → Option DSt
 | .fz k => σ.eH k
 | .rn k k' => match (lk σ.tab k').isSome,Nat.ble (k' + 1) n with
  | false,true => some (σ.rn k k')
  | _,_ => none
 | .nil t K e sz => match lk σ.ab t,(lk σ.tab K).isSome,Nat.ble (K + 1) n,Nat.ble 1 sz with
  | some (.p .nl _),false,true,true => some { σ with ab := (t,.vec K) :: rm σ.ab t,tab := (K,.vec e sz none true) :: σ.tab }
  | _,_,_,_ => none
 | .cell k j K e sz => match lk σ.tab k,(lk σ.tab K).isSome,Nat.ble (K + 1) n,Nat.ble 1 sz with
  | some (.box t cells),false,true,true => match cells[j]? with
   | some (.p .nl _) => some { σ with tab := (K,.vec e sz none true) :: (k,.box t (cells.set j (.vec K))) :: rm σ.tab k }
   | _ => none
  | _,_,_,_ => none
theorem Q0 {P : Program} {n : Nat} {σ σ' : DSt} {c : Co} (h : σ.co n c = some σ') : Co1 P n σ σ' := by
 cases c with
 | fz k => exact FZ h
 | rn k k' =>
  simp only [DSt.co] at h
  split at h
  ·rename_i h1 h2
   simp only [Option.some.injEq] at h; subst h
   refine ⟨fun hs => hs.rn k k',rfl,rfl,rfl,rfl,fun ρ => ?_⟩
   refine OE k k' ?_ h2 (DSt.uV ρ σ k k').symm
   simp only [DSt.v,cO,Option.isSome_map]; exact h1
  ·cases h
 | nil t K e sz =>
  simp only [DSt.co] at h
  split at h
  ·rename_i fr hl hK hKn hsz
   simp only [Option.some.injEq] at h; subst h
   refine ⟨fun hs => ⟨?_,?_,hs.tys,hs.lin,hs.prs⟩,rfl,rfl,rfl,rfl,fun ρ => ?_⟩
   ·intro t' v hl'
    simp only [bS] at hl'
    split at hl'
    ·simp only [Option.some.injEq] at hl'; subst hl'; simp [DV.vars,Sc.nil]
    ·rw [kU] at hl'
     split at hl'
     ·cases hl'
     ·exact hs.ab t' v hl'
   ·intro t' v hl'
    simp only [bS] at hl'
    split at hl'
    ·simp only [Option.some.injEq] at hl'; subst hl'; simp [DO.vars,aL,Sc.nil]
    ·exact hs.tab t' v hl'
   ·refine Fu t K e sz ?_ ?_ hKn hsz ?_
    ·simp only [Jz,DSt.v,eh,hl,Option.map_some,DV.v,DP.v]
    ·simp only [DSt.v,cO,Option.isSome_map]; exact hK
    ·simp only [St.lL,DSt.v,bK,aG,rG,DV.v,DO.v,lvV]
  ·cases h
 | cell k j K e sz =>
  simp only [DSt.co] at h
  split at h
  ·rename_i t cells hk hK hKn hsz
   split at h
   ·rename_i fr hj
    simp only [Option.some.injEq] at h; subst h
    refine ⟨fun hs => ⟨hs.ab,?_,hs.tys,hs.lin,hs.prs⟩,rfl,rfl,rfl,rfl,fun ρ => ?_⟩
    ·intro t' v hl'
     simp only [bS] at hl'
     split at hl'
     ·simp only [Option.some.injEq] at hl'; subst hl'; simp [DO.vars,aL,Sc.nil]
     ·split at hl'
      ·simp only [Option.some.injEq] at hl'; subst hl'
       have := hs.tab k _ hk
       simp only [DO.vars,lT] at this ⊢
       intro x hx
       rcases List.mem_or_eq_of_mem_set hx with hx | rfl
       ·exact this x hx
       ·simp [DV.vars,Sc.nil]
      ·rw [kU] at hl'
       split at hl'
       ·cases hl'
       ·exact hs.tab t' v hl'
    ·refine Dq k j K e sz ?_ hKn hsz ?_
     ·simp only [DSt.v,cO,Option.isSome_map]; exact hK
     ·simp only [St.xO,da hk,DO.v,dI,List.getElem?_map,hj,Option.map_some,DV.v,DP.v,Ac,dW]
      simp only [DSt.v,aG,DO.v,iC,dI,List.map_set,DV.v,lvV]
   ·cases h
  ·cases h
def DSt.cos (n : Nat) (σ : DSt) : List Co → Option DSt
 | [] => some σ
 | c :: cs => match σ.co n c with
  | some σ' => σ'.cos n cs
  | none => none
theorem oh {P : Program} {n : Nat} : ∀ {cs : List Co} {σ σ' : DSt},σ.cos n cs = some σ' → Co1 P n σ σ'
 | [],σ,σ',h => by simp only [DSt.cos,Option.some.injEq] at h; subst h; exact Co1.refl
 | c :: cs,σ,σ',h => by
  simp only [DSt.cos] at h
  split at h
  ·rename_i σ1 h1; exact (Q0 h1).trans (oh h)
  ·cases h
end Go.TL
