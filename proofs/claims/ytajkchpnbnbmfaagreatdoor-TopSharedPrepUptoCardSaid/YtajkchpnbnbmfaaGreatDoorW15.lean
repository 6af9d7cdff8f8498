/- Objects that are put away or frozen. -/
import Derived.Test.YtajkchpnbnbmfaaGreatDoorW14
namespace Go.TL
mutual
def DV.fz (k : Nat) (vc : DV) (pd : Nat → DV) : DV → DV
 | .vec j => match Nat.beq j k with | true => vc | false => .vec j
 | .ptr j off => match Nat.beq j k with | true => pd off | false => .ptr j off
 | .vptr j sz i off => match Nat.beq j k with | true => .u | false => .vptr j sz i off
 | .ref j => match Nat.beq j k with | true => vc | false => .ref j
 | .agg xs => .agg (kq k vc pd xs)
 | .tup xs => .tup (kq k vc pd xs)
 | .fn f first caps => .fn f (kq k vc pd first) (kq k vc pd caps)
 | .ifc t x => .ifc t (DV.fz k vc pd x)
 | .u => .u
 | .p x fr => .p x fr
 | .pd row off fr => .pd row off fr
 | .pc l fr => .pc l fr
def kq (k : Nat) (vc : DV) (pd : Nat → DV) : List DV → List DV
 | [] => []
 | x :: xs => DV.fz k vc pd x :: kq k vc pd xs
end
mutual
theorem rZ (ρ : Ro) (k : Nat) (vc : DV) (pd : Nat → DV) : ∀ x : DV,(DV.fz k vc pd x).v ρ = SV.fz k (vc.v ρ) (fun n => (pd n).v ρ) (x.v ρ)
 | .vec j => by simp only [DV.fz,DV.v,SV.fz]; cases Nat.beq j k <;> simp [DV.v]
 | .ptr j off => by simp only [DV.fz,DV.v,SV.fz]; cases Nat.beq j k <;> simp [DV.v]
 | .vptr j sz i off => by simp only [DV.fz,DV.v,SV.fz]; cases Nat.beq j k <;> simp [DV.v]
 | .ref j => by simp only [DV.fz,DV.v,SV.fz]; cases Nat.beq j k <;> simp [DV.v]
 | .agg xs => by simp only [DV.fz,DV.v,SV.fz,sY ρ k vc pd xs]
 | .tup xs => by simp only [DV.fz,DV.v,SV.fz,sY ρ k vc pd xs]
 | .fn f first caps => by simp only [DV.fz,DV.v,SV.fz,sY ρ k vc pd first,sY ρ k vc pd caps]
 | .ifc t x => by simp only [DV.fz,DV.v,SV.fz,rZ ρ k vc pd x]
 | .u => by simp [DV.fz,DV.v,SV.fz]
 | .p x fr => by simp [DV.fz,DV.v,SV.fz]
 | .pd row off fr => by simp [DV.fz,DV.v,SV.fz]
 | .pc l fr => by simp [DV.fz,DV.v,SV.fz]
theorem sY (ρ : Ro) (k : Nat) (vc : DV) (pd : Nat → DV) : ∀ xs : List DV,dvs ρ (kq k vc pd xs) = fzs k (vc.v ρ) (fun n => (pd n).v ρ) (dvs ρ xs)
 | [] => by simp [kq,dvs,fzs]
 | x :: xs => by simp only [kq,dvs,fzs,rZ ρ k vc pd x,sY ρ k vc pd xs]
end
mutual
theorem kT {n : Nat} {k : Nat} {vc : DV} {pd : Nat → DV} (hv : Sc n vc.vars) (hp : ∀ j,Sc n (pd j).vars) : ∀ {x : DV},Sc n x.vars → Sc n (DV.fz k vc pd x).vars
 | .vec j,_ => by simp only [DV.fz]; cases Nat.beq j k with | true => exact hv | false => simp [DV.vars,Sc.nil]
 | .ptr j off,_ => by simp only [DV.fz]; cases Nat.beq j k with | true => exact hp off | false => simp [DV.vars,Sc.nil]
 | .vptr j sz i off,h => by simp only [DV.fz]; cases Nat.beq j k with | true => simp [DV.vars,Sc.nil] | false => exact h
 | .ref j,_ => by simp only [DV.fz]; cases Nat.beq j k with | true => exact hv | false => simp [DV.vars,Sc.nil]
 | .agg xs,h => by simp only [DV.fz,DV.vars] at h ⊢; exact oc hv hp h
 | .tup xs,h => by simp only [DV.fz,DV.vars] at h ⊢; exact oc hv hp h
 | .fn f first caps,h => by simp only [DV.fz,DV.vars,Sc.app] at h ⊢; exact ⟨oc hv hp h.1,oc hv hp h.2⟩
 | .ifc t x,h => by simp only [DV.fz,DV.vars] at h ⊢; exact kT hv hp h
 | .u,_ => by simp [DV.fz,DV.vars,Sc.nil]
 | .p x fr,h => by simpa only [DV.fz] using h
 | .pd row off fr,h => by simpa only [DV.fz] using h
 | .pc l fr,h => by simpa only [DV.fz] using h
theorem oc {n : Nat} {k : Nat} {vc : DV} {pd : Nat → DV} (hv : Sc n vc.vars) (hp : ∀ j,Sc n (pd j).vars) : ∀ {xs : List DV},Sc n (av xs) → Sc n (av (kq k vc pd xs))
 | [],_ => by simp [kq,av,Sc.nil]
 | x :: xs,h => by simp only [kq,av,Sc.app] at h ⊢; exact ⟨kT hv hp h.1,oc hv hp h.2⟩
end
def fX (k : Nat) (vc : DV) (pd : Nat → DV) : bq → bq
 | [] => []
 | (t,x) :: r => (t,DV.fz k vc pd x) :: fX k vc pd r
def DO.fz (k : Nat) (vc : DV) (pd : Nat → DV) : DO → DO
 | .box t cells => .box t (kq k vc pd cells)
 | o => o
def j4 (k : Nat) (vc : DV) (pd : Nat → DV) : az → az
 | [] => []
 | (t,x) :: r => (t,DO.fz k vc pd x) :: j4 k vc pd r
theorem mQ (ρ : Ro) (k : Nat) (vc : DV) (pd : Nat → DV) : ∀ l : bq,bK ρ (fX k vc pd l) = dU k (vc.v ρ) (fun n => (pd n).v ρ) (bK ρ l)
 | [] => rfl
 | (t,x) :: r => by simp only [fX,bK,dU,rZ,mQ ρ k vc pd r]
theorem Pd (ρ : Ro) (k : Nat) (vc : DV) (pd : Nat → DV) (o : DO) : (o.fz k vc pd).v ρ = (o.v ρ).fz k (vc.v ρ) (fun n => (pd n).v ρ) := by
 cases o <;> simp [DO.fz,DO.v,OV.fz,sY]
theorem sZ (ρ : Ro) (k : Nat) (vc : DV) (pd : Nat → DV) : ∀ l : az,aG ρ (j4 k vc pd l) = iK k (vc.v ρ) (fun n => (pd n).v ρ) (aG ρ l)
 | [] => rfl
 | (t,x) :: r => by simp only [j4,aG,iK,Pd,sZ ρ k vc pd r]
theorem jK (k : Nat) (vc : DV) (pd : Nat → DV) : ∀ (l : bq) (t : Nat),lk (fX k vc pd l) t = (lk l t).map (DV.fz k vc pd)
 | [],_ => rfl
 | (j,x) :: r,t => by simp only [fX,lk]; cases Nat.beq j t <;> simp [jK k vc pd r t]
theorem mR (k : Nat) (vc : DV) (pd : Nat → DV) : ∀ (l : az) (t : Nat),lk (j4 k vc pd l) t = (lk l t).map (DO.fz k vc pd)
 | [],_ => rfl
 | (j,x) :: r,t => by simp only [j4,lk]; cases Nat.beq j t <;> simp [mR k vc pd r t]
theorem jL (k : Nat) (vc : SV) (pd : Nat → SV) : ∀ (l : List (Nat × SV)) (t : Nat),lk (dU k vc pd l) t = (lk l t).map (SV.fz k vc pd)
 | [],_ => rfl
 | (j,x) :: r,t => by simp only [dU,lk]; cases Nat.beq j t <;> simp [jL k vc pd r t]
theorem mS (k : Nat) (vc : SV) (pd : Nat → SV) : ∀ (l : Tab) (t : Nat),lk (iK k vc pd l) t = (lk l t).map (OV.fz k vc pd)
 | [],_ => rfl
 | (j,x) :: r,t => by simp only [iK,lk]; cases Nat.beq j t <;> simp [mS k vc pd r t]
theorem kU {α : Type} (l : List (Nat × α)) (n m : Nat) : lk (rm l n) m = if m = n then none else lk l m := by
 by_cases h : m = n
 ·subst h; rw [gk,if_pos rfl]
 ·rw [bP _ _ _ h,if_neg h]
theorem bS {α : Type} (l : List (Nat × α)) (n m : Nat) (x : α) : lk ((n,x) :: l) m = if m = n then some x else lk l m := by
 by_cases h : m = n
 ·subst h; rw [ar,if_pos rfl]
 ·rw [aq _ _ _ _ h,if_neg h]
def DSt.re (σ : DSt) (k d : Nat) (ov : DO) : DSt :=
 { σ with ab := (d,.vec d) :: fX k .u (fun _ => .u) σ.ab,tab := (d,ov) :: j4 k .u (fun _ => .u) (rm σ.tab k) }
theorem RM (ρ : Ro) (σ : DSt) (k d : Nat) (ov : DO) : (σ.re k d ov).v ρ = (σ.v ρ).re k d (ov.v ρ) := by
 simp only [DSt.re,DSt.v,St.re,bK,aG,mQ,sZ,iC,DV.v]
theorem bu.re {s s' : St} (h : bu s s') (k d : Nat) (ov : OV) : bu (s.re k d ov) (s'.re k d ov) := by
 constructor
 ·intro t
  simp only [St.re,bS,jL,h.ab t]
 ·intro t
  simp only [St.re,bS,mS,kU,h.tab t]
theorem DO.kT {n k : Nat} {vc : DV} {pd : Nat → DV} (hv : Sc n vc.vars) (hp : ∀ j,Sc n (pd j).vars) {o : DO} (h : Sc n o.vars) : Sc n (o.fz k vc pd).vars := by
 cases o with
 | box t cells => simp only [DO.fz,DO.vars] at h ⊢; exact oc hv hp h
 | vec t sz l fr => exact h
 | mp a l fr => exact h
theorem DSt.sc.re {σ : DSt} (hs : σ.sc) (k d : Nat) {ov : DO} (ho : Sc σ.nx ov.vars) : (σ.re k d ov).sc := by
 have hu : Sc σ.nx DV.u.vars := by simp [DV.vars,Sc.nil]
 refine ⟨?_,?_,hs.tys,hs.lin,hs.prs⟩
 ·intro t v hl
  simp only [DSt.re,bS] at hl
  split at hl
  ·simp only [Option.some.injEq] at hl; subst hl; simp [DV.vars,Sc.nil]
  ·rw [jK] at hl
   cases hq : lk σ.ab t with
   | none => simp [hq] at hl
   | some x => simp only [hq,Option.map_some,Option.some.injEq] at hl; subst hl; exact Go.TL.kT hu (fun _ => hu) (hs.ab t x hq)
 ·intro t v hl
  simp only [DSt.re,bS] at hl
  split at hl
  ·simp only [Option.some.injEq] at hl; subst hl; exact ho
  ·rw [mR] at hl
   cases hq : lk (rm σ.tab k) t with
   | none => simp [hq] at hl
   | some x =>
    simp only [hq,Option.map_some,Option.some.injEq] at hl; subst hl
    rw [kU] at hq
    split at hq
    ·cases hq
    ·exact DO.kT hu (fun _ => hu) (hs.tab t x hq)
theorem x4 {P : Program} {I : Pr} {σ : DSt} {o : Oper} {gs : List G} {k d n : Nat} {ov : DO} {tys : List (Nat × TypeId)} {lin : List Lin} {prs : List PF} (hov : σ.sc → Sc (σ.nx + n) ov.vars)
  (hg : σ.sc → fT (σ.nx + n) tys lin prs)
  (h : ∀ ρ,σ.sc → σ.ok P I ρ → gsV I ρ gs → ∃ ρ',ao σ.nx ρ ρ' ∧ Gok ρ' ∧ cb P ρ' tys ∧ aR ρ' lin ∧ bQ I ρ' prs ∧
   ∃ (H : Hint) (ps : List Prop),aop P H (σ.v ρ) o = some ((σ.v ρ).re k d (ov.v ρ'),ps) ∧ ia ps) : Good P I σ o ((σ.grow n tys lin prs).re k d ov) gs := by
 intro hs
 have hs' := hs.grow (hg hs)
 refine ⟨hs'.re k d (hov hs),Nat.le_add_right _ _,?_⟩
 intro ρ hok hgs
 obtain ⟨ρ',ha,hgk,h1,h2,h3,H,ps,h4,h5⟩ := h ρ hs hok hgs
 have hok' := hok.grow (n := n) hs ha hgk h1 h2 h3
 refine ⟨ρ',ha,⟨hok'.g,hok'.tys,hok'.lin,hok'.prs⟩,H,_,ps,h4,h5,?_⟩
 rw [RM]
 exact bu.re (DSt.eb hs ha) _ _ _
end Go.TL
namespace Go.TL
def pR (σ : DSt) (d : Nat) : DV → Option (LV × Bool × Nat × Option (TypeId × Nat))
 | .vec k => match lk σ.tab k with
  | some (.vec t sz l fr) => some (l,fr,k,some (t,sz))
  | _ => none
 | .p .nl _ => some (none,true,d,none)
 | _ => none
def x5 (σ : DSt) : DV → Option (LV × Bool)
 | .vec k => match lk σ.tab k with
  | some (.vec _ _ l fr) => some (l,fr)
  | _ => none
 | .p (.sl l) fr => some (l,fr)
 | .p .nl _ => some (none,true)
 | .pc l fr => some (l,fr)
 | _ => none
theorem Nb {σ : DSt} {d : Nat} {x : DV} {l : LV} {fr : Bool} {k : Nat} {ts : Option (TypeId × Nat)} (ρ : Ro) (h : pR σ d x = some (l,fr,k,ts)) :
  qS (σ.v ρ).tab d (x.v ρ) = some (lvV ρ l,fr,k,ts) := by
 unfold pR at h
 split at h
 ·split at h
  ·rename_i hk
   simp only [Option.some.injEq,Prod.mk.injEq] at h; obtain ⟨rfl,rfl,rfl,rfl⟩ := h
   simp only [DV.v,qS,da hk,DO.v]
  ·cases h
 ·simp only [Option.some.injEq,Prod.mk.injEq] at h; obtain ⟨rfl,rfl,rfl,rfl⟩ := h
  simp [DV.v,DP.v,qS,lvV]
 ·cases h
theorem Kb {σ : DSt} {d : Nat} {x : DV} {l : LV} {fr : Bool} {k : Nat} {ts : Option (TypeId × Nat)} (ρ : Ro) (h : pR σ d x = some (l,fr,k,ts)) : Jq (x.v ρ) = false := by
 unfold pR at h
 split at h
 ·rfl
 ·rfl
 ·cases h
theorem Ig {σ : DSt} {x : DV} {l : LV} {fr : Bool} (ρ : Ro) (h : x5 σ x = some (l,fr)) : kA (σ.v ρ).tab (x.v ρ) = some (lvV ρ l,fr) := by
 unfold x5 at h
 split at h
 ·split at h
  ·rename_i hk
   simp only [Option.some.injEq,Prod.mk.injEq] at h; obtain ⟨rfl,rfl⟩ := h
   simp only [DV.v,kA,da hk,DO.v]
  ·cases h
 ·simp only [Option.some.injEq,Prod.mk.injEq] at h; obtain ⟨rfl,rfl⟩ := h
  simp [DV.v,DP.v,kA]
 ·simp only [Option.some.injEq,Prod.mk.injEq] at h; obtain ⟨rfl,rfl⟩ := h
  simp [DV.v,DP.v,kA,lvV]
 ·simp only [Option.some.injEq,Prod.mk.injEq] at h; obtain ⟨rfl,rfl⟩ := h
  simp [DV.v,kA]
 ·cases h
theorem Kc {σ : DSt} (hs : σ.sc) {d : Nat} {x : DV} {l : LV} {fr : Bool} {k : Nat} {ts : Option (TypeId × Nat)} (h : pR σ d x = some (l,fr,k,ts)) : Sc σ.nx (aL l) := by
 unfold pR at h
 split at h
 ·split at h
  ·rename_i hk
   simp only [Option.some.injEq,Prod.mk.injEq] at h; obtain ⟨rfl,rfl,rfl,rfl⟩ := h
   simpa [DO.vars] using hs.tab _ _ hk
  ·cases h
 ·simp only [Option.some.injEq,Prod.mk.injEq] at h; obtain ⟨rfl,rfl,rfl,rfl⟩ := h
  exact Sc.nil
 ·cases h
theorem En {σ : DSt} (hs : σ.sc) {x : DV} (hx : Sc σ.nx x.vars) {l : LV} {fr : Bool} (h : x5 σ x = some (l,fr)) : Sc σ.nx (aL l) := by
 unfold x5 at h
 split at h
 ·split at h
  ·rename_i hk
   simp only [Option.some.injEq,Prod.mk.injEq] at h; obtain ⟨rfl,rfl⟩ := h
   simpa [DO.vars] using hs.tab _ _ hk
  ·cases h
 ·simp only [Option.some.injEq,Prod.mk.injEq] at h; obtain ⟨rfl,rfl⟩ := h
  simpa [DV.vars,DP.vars] using hx
 ·simp only [Option.some.injEq,Prod.mk.injEq] at h; obtain ⟨rfl,rfl⟩ := h
  exact Sc.nil
 ·simp only [Option.some.injEq,Prod.mk.injEq] at h; obtain ⟨rfl,rfl⟩ := h
  simpa [DV.vars] using hx
 ·cases h
def wj (n : Nat) (a b : LV) : List Lin :=
 [((Lin.at (4 * n + 1)).ax (-1) (bj a)).ax (-1) (bj b),((bj a).ax 1 (bj b)).ax (-1) (Lin.at (4 * n + 1)),
  ((Lin.at (4 * n + 2)).ax (-1) (dS a)).ax (-1) (dS b),((dS a).ax 1 (dS b)).ax (-1) (Lin.at (4 * n + 2))]
def Ke (σ : DSt) (d : Nat) (e : TypeId) (i : TypeInfo) : Option (TypeId × Nat) → Bool
 | some (t',sz) => Nat.beq t' e && Nat.beq sz i.size
 | none => (lk σ.tab d).isNone
def x6 (P : Program) (σ : DSt) (o : Oper) (s x : Operand) (t : TypeId) : DR :=
 match o.dst,dE P t with
 | some d,some (e,i) => match pR σ d (dev σ s),x5 σ (dev σ x),i.zero with
  | some (a,fr,k,ts),some (b,fr2),some z => match lk (rm σ.tab k) d,Nat.beq z.cells.size i.size,Nat.beq i.size 0,Ke σ d e i ts,(j3 P σ e i a && j3 P σ e i b) && Nat.ble (2097152 * max i.bytes 1) 140737488355328 with
   | none,true,false,true,true => some ((σ.grow 1 [(σ.nx,e)] (wj σ.nx a b) [.app σ.nx a b]).re k d (.vec e i.size (some σ.nx) (fr && fr2)),[.le (((bj a).ax 1 (bj b)).aD (-2097152))])
   | _,_,_,_,_ => none
  | _,_,_ => none
 | _,_ => none
theorem Eo {σ : DSt} {ρ : Ro} {k d : Nat} (h : lk (rm σ.tab k) d = none) : lk (rm (σ.v ρ).tab k) d = none := by
 simp only [DSt.v,iC,cO,h,Option.map_none]
theorem BH {P : Program} {I : Pr} {σ σ' : DSt} {o : Oper} {s x : Operand} {t : TypeId} {gs : List G} (ho : o.op = .call { callee := .builtin .append,args := #[s,x],argTypes := #[t,t] })
  (h : x6 P σ o s x t = some (σ',gs)) : Good P I σ o σ' gs := by
 unfold x6 at h
 split at h
 ·rename_i d e i hd hse
  split at h
  ·rename_i a fr k ts b fr2 z hb hsr hz
   split at h
   ·rename_i hfree hzs hsz hts hall
    simp only [Bool.and_eq_true] at hall
    obtain ⟨⟨hoa,hob⟩,hroom⟩ := hall
    simp only [Option.some.injEq,Prod.mk.injEq] at h; obtain ⟨rfl,rfl⟩ := h
    have asc : σ.sc → Sc σ.nx (aL a) := fun hs => Kc hs hb
    have bsc : σ.sc → Sc σ.nx (aL b) := fun hs => En hs (hs.dev x) hsr
    refine x4 (fun hs => by simp only [DO.vars,aL,Sc.cons]; exact ⟨Nat.lt_succ_self _,Sc.nil⟩) (fun hs => ⟨by simp,fun q hq => ?_,fun f hf => ?_⟩) ?_
    ·have a1 := (df (asc hs)).mono (Nat.le_succ σ.nx)
     have a2 := (df (bsc hs)).mono (Nat.le_succ σ.nx)
     have a3 := (fa (asc hs)).mono (Nat.le_succ σ.nx)
     have a4 := (fa (bsc hs)).mono (Nat.le_succ σ.nx)
     have n1 : Sc (σ.nx + 1) (Lin.at (4 * σ.nx + 1)).vars := Lin.aS (by omega)
     have n2 : Sc (σ.nx + 1) (Lin.at (4 * σ.nx + 2)).vars := Lin.aS (by omega)
     simp only [wj,List.mem_cons,List.mem_nil_iff,or_false] at hq
     rcases hq with rfl | rfl | rfl | rfl
     ·exact Lin.aw (Lin.aw n1 a1) a2
     ·exact Lin.aw (Lin.aw a1 a2) n1
     ·exact Lin.aw (Lin.aw n2 a3) a4
     ·exact Lin.aw (Lin.aw a3 a4) n2
    ·simp only [List.mem_singleton] at hf; subst hf
     simp only [PF.vars,Sc.cons,Sc.app]
     exact ⟨Nat.lt_succ_self _,(asc hs).mono (Nat.le_succ _),(bsc hs).mono (Nat.le_succ _)⟩
    ·intro ρ hs hok hg
     simp only [gsV,G.v,Lin.aB,Lin.aZ,de,and_true] at hg
     obtain ⟨ta,la⟩ := jo hok hoa
     obtain ⟨tb,lb⟩ := jo hok hob
     have hlen : (lvV ρ a ++ lvV ρ b).length ≤ b7 := by rw [List.length_append]; unfold b7; omega
     have hroom' := Nat.le_of_ble_eq_true hroom
     refine ⟨up ρ σ.nx (vaL (lvV ρ a ++ lvV ρ b)),bR _ _ _ _ (Nat.le_refl _),hok.g.up _ (nW hlen),?_,?_,?_,⟨[],[]⟩,[(∀ row ∈ lvV ρ b,row.length = i.size) ∧ ((lvV ρ a).length + (lvV ρ b).length) * max i.bytes 1 ≤ 140737488355328],?_,⟨⟨lb,?_⟩,trivial⟩⟩
     ·refine ⟨?_,trivial⟩
      rw [aI]; exact .of hlen (ta.2.append tb.2)
     ·have ha := bR ρ σ.nx σ.nx (vaL (lvV ρ a ++ lvV ρ b)) (Nat.le_refl _)
      have hn : ((up ρ σ.nx (vaL (lvV ρ a ++ lvV ρ b))) σ.nx).l = lvV ρ a ++ lvV ρ b := by rw [aI]; rfl
      have e1 := dR ha (asc hs)
      have e2 := dR ha (bsc hs)
      refine ⟨?_,?_,?_,?_,trivial⟩ <;> simp only [Lin.aZ,Lin.aW,cJ,c9,hn,de,iE,e1,e2,List.length_append,vG] <;> omega
     ·have ha := bR ρ σ.nx σ.nx (vaL (lvV ρ a ++ lvV ρ b)) (Nat.le_refl _)
      have hn : ((up ρ σ.nx (vaL (lvV ρ a ++ lvV ρ b))) σ.nx).l = lvV ρ a ++ lvV ρ b := by rw [aI]; rfl
      refine ⟨?_,trivial⟩
      simp only [PF.v,hn,dR ha (asc hs),dR ha (bsc hs)]
     ·have hn : ((up ρ σ.nx (vaL (lvV ρ a ++ lvV ρ b))) σ.nx).l = lvV ρ a ++ lvV ρ b := by rw [aI]; rfl
      have hn' : lvV (up ρ σ.nx (vaL (lvV ρ a ++ lvV ρ b))) (some σ.nx) = lvV ρ a ++ lvV ρ b := hn
      have h1 := Nb ρ hb
      have h2 := Ig ρ hsr
      unfold aop
      simp only [ho,Nat.beq_refl,Kb ρ hb,o4,hd,hse,aA,h1,h2,hz,Eo hfree,hzs,hsz]
      cases ts with
      | some p => simp only [Ke] at hts; simp only [hts,nt,DO.v,hn']
      | none =>
       have hts' : (lk (σ.v ρ).tab d).isNone = true := by
        simp only [Ke] at hts; simp only [DSt.v,cO]; cases hq : lk σ.tab d with
        | none => rfl
        | some _ => simp [hq] at hts
       simp only [hts',nt,DO.v,hn']
     ·refine Nat.le_trans (Nat.mul_le_mul_right _ ?_) hroom'
      omega
   ·cases h
  ·cases h
 ·cases h
def uR (P : Program) (σ : DSt) (o : Oper) (s x : Operand) (t : TypeId) : DR :=
 match o.dst,dE P t with
 | some d,some (e,i) => match dev σ s,x5 σ (dev σ x),i.zero with
  | .pc a fr,some (b,fr2),some z => match lk σ.tab d,Nat.beq z.cells.size i.size,Nat.beq i.size 0,(j3 P σ e i a && j3 P σ e i b) && Nat.ble (2097152 * max i.bytes 1) 140737488355328 with
   | none,true,false,true => some ((σ.grow 1 [(σ.nx,e)] (wj σ.nx a b) [.app σ.nx a b]).re d d (.vec e i.size (some σ.nx) (fr && fr2)),[.le (((bj a).ax 1 (bj b)).aD (-2097152)),.le ((Lin.scale (-1) (bj b)).aD 1)])
   | _,_,_,_ => none
  | _,_,_ => none
 | _,_ => none
theorem zX {P : Program} {I : Pr} {σ σ' : DSt} {o : Oper} {s x : Operand} {t : TypeId} {gs : List G} (ho : o.op = .call { callee := .builtin .append,args := #[s,x],argTypes := #[t,t] })
  (h : uR P σ o s x t = some (σ',gs)) : Good P I σ o σ' gs := by
 unfold uR at h
 split at h
 ·rename_i d e i hd hse
  split at h
  ·rename_i a fr b fr2 z hb hsr hz
   split at h
   ·rename_i hfree hzs hsz hall
    simp only [Bool.and_eq_true] at hall
    obtain ⟨⟨hoa,hob⟩,hroom⟩ := hall
    simp only [Option.some.injEq,Prod.mk.injEq] at h; obtain ⟨rfl,rfl⟩ := h
    have asc : σ.sc → Sc σ.nx (aL a) := fun hs => by
     have := hs.dev s
     rw [hb] at this; simpa only [DV.vars] using this
    have bsc : σ.sc → Sc σ.nx (aL b) := fun hs => En hs (hs.dev x) hsr
    refine x4 (fun hs => by simp only [DO.vars,aL,Sc.cons]; exact ⟨Nat.lt_succ_self _,Sc.nil⟩) (fun hs => ⟨by simp,fun q hq => ?_,fun f hf => ?_⟩) ?_
    ·have a1 := (df (asc hs)).mono (Nat.le_succ σ.nx)
     have a2 := (df (bsc hs)).mono (Nat.le_succ σ.nx)
     have a3 := (fa (asc hs)).mono (Nat.le_succ σ.nx)
     have a4 := (fa (bsc hs)).mono (Nat.le_succ σ.nx)
     have n1 : Sc (σ.nx + 1) (Lin.at (4 * σ.nx + 1)).vars := Lin.aS (by omega)
     have n2 : Sc (σ.nx + 1) (Lin.at (4 * σ.nx + 2)).vars := Lin.aS (by omega)
     simp only [wj,List.mem_cons,List.mem_nil_iff,or_false] at hq
     rcases hq with rfl | rfl | rfl | rfl
     ·exact Lin.aw (Lin.aw n1 a1) a2
     ·exact Lin.aw (Lin.aw a1 a2) n1
     ·exact Lin.aw (Lin.aw n2 a3) a4
     ·exact Lin.aw (Lin.aw a3 a4) n2
    ·simp only [List.mem_singleton] at hf; subst hf
     simp only [PF.vars,Sc.cons,Sc.app]
     exact ⟨Nat.lt_succ_self _,(asc hs).mono (Nat.le_succ _),(bsc hs).mono (Nat.le_succ _)⟩
    ·intro ρ hs hok hg
     simp only [gsV,G.v,Lin.aB,Lin.aZ,Lin.aT,de,and_true] at hg
     obtain ⟨hg,hg2⟩ := hg
     obtain ⟨ta,la⟩ := jo hok hoa
     obtain ⟨tb,lb⟩ := jo hok hob
     have hlen : (lvV ρ a ++ lvV ρ b).length ≤ b7 := by rw [List.length_append]; unfold b7; omega
     have hroom' := Nat.le_of_ble_eq_true hroom
     refine ⟨up ρ σ.nx (vaL (lvV ρ a ++ lvV ρ b)),bR _ _ _ _ (Nat.le_refl _),hok.g.up _ (nW hlen),?_,?_,?_,⟨[],[]⟩,[(∀ row ∈ lvV ρ a,row.length = i.size) ∧ (∀ row ∈ lvV ρ b,row.length = i.size) ∧ 0 < (lvV ρ b).length ∧ ((lvV ρ a).length + (lvV ρ b).length) * max i.bytes 1 ≤ 140737488355328],?_,⟨⟨la,lb,by omega,?_⟩,trivial⟩⟩
     ·refine ⟨?_,trivial⟩
      rw [aI]; exact .of hlen (ta.2.append tb.2)
     ·have ha := bR ρ σ.nx σ.nx (vaL (lvV ρ a ++ lvV ρ b)) (Nat.le_refl _)
      have hn : ((up ρ σ.nx (vaL (lvV ρ a ++ lvV ρ b))) σ.nx).l = lvV ρ a ++ lvV ρ b := by rw [aI]; rfl
      have e1 := dR ha (asc hs)
      have e2 := dR ha (bsc hs)
      refine ⟨?_,?_,?_,?_,trivial⟩ <;> simp only [Lin.aZ,Lin.aW,cJ,c9,hn,de,iE,e1,e2,List.length_append,vG] <;> omega
     ·have ha := bR ρ σ.nx σ.nx (vaL (lvV ρ a ++ lvV ρ b)) (Nat.le_refl _)
      have hn : ((up ρ σ.nx (vaL (lvV ρ a ++ lvV ρ b))) σ.nx).l = lvV ρ a ++ lvV ρ b := by rw [aI]; rfl
      refine ⟨?_,trivial⟩
      simp only [PF.v,hn,dR ha (asc hs),dR ha (bsc hs)]
     ·have hn : ((up ρ σ.nx (vaL (lvV ρ a ++ lvV ρ b))) σ.nx).l = lvV ρ a ++ lvV ρ b := by rw [aI]; rfl
      have hn' : lvV (up ρ σ.nx (vaL (lvV ρ a ++ lvV ρ b))) (some σ.nx) = lvV ρ a ++ lvV ρ b := hn
      have h1 : (dev σ s).v ρ = .pc (lvV ρ a) fr := by rw [hb]; rfl
      have h2 := Ig ρ hsr
      have h3 : lk (σ.v ρ).tab d = none := by simp only [DSt.v,cO,hfree,Option.map_none]
      unfold aop
      simp only [ho,Nat.beq_refl,Jq,mB,hd,hse,aA,h1,h2,hz,h3,hzs,hsz,nt,DO.v,hn']
     ·refine Nat.le_trans (Nat.mul_le_mul_right _ ?_) hroom'
      omega
   ·cases h
  ·cases h
 ·cases h
def s5 (σ : DSt) (o : Oper) (mx : Bool) (x y : Operand) : DR :=
 match eN (dev σ x),eN (dev σ y) with
 | some (k,a),some (k',b) => match decide (k = k') with
  | true => match bN σ (a.ax (-1) b),bN σ (b.ax (-1) a) with
   | true,_ => some (σ.put o.dst (.p (.int k (match mx with | true => b | false => a)) true),[])
   | _,true => some (σ.put o.dst (.p (.int k (match mx with | true => a | false => b)) true),[])
   | _,_ => match kP k with
    | true => none
    | false => match mx with
     | true => some ((σ.grow 1 [] (jm k σ.nx ++ [a.ax (-1) (Lin.at (4 * σ.nx)),b.ax (-1) (Lin.at (4 * σ.nx))]) []).put o.dst (.p (.int k (Lin.at (4 * σ.nx))) true),[.le (a.aD (-k.max)),.le (b.aD (-k.max)),.le ((Lin.scale (-1) a).aD k.min),.le ((Lin.scale (-1) b).aD k.min)])
     | false => some ((σ.grow 1 [] (jm k σ.nx ++ [(Lin.at (4 * σ.nx)).ax (-1) a,(Lin.at (4 * σ.nx)).ax (-1) b]) []).put o.dst (.p (.int k (Lin.at (4 * σ.nx))) true),[.le (a.aD (-k.max)),.le (b.aD (-k.max)),.le ((Lin.scale (-1) a).aD k.min),.le ((Lin.scale (-1) b).aD k.min)])
  | false => none
 | _,_ => none
theorem wk {P : Program} {H : Hint} {s : St} {o : Oper} {x y : Operand} {ts : Array TypeId} {k : IntKind} {a b : Int} (mx : Bool) (ho : o.op = .call { callee := .builtin (match mx with | true => .max | false => .min),args := #[x,y],argTypes := ts })
  (hx : isInt (ev s x) = some (k,a)) (hy : isInt (ev s y) = some (k,b)) :
  aop P H s o = some (s.put o.dst (.p (.v (.int k (match mx with | true => (if b > a then b else a) | false => (if b < a then b else a)))) true),[]) := by
 unfold aop
 cases mx <;> simp only [ho,hY,hx,hy,tr]
theorem r6 {P : Program} {I : Pr} {σ σ' : DSt} {o : Oper} {x y : Operand} {ts : Array TypeId} {gs : List G} (mx : Bool) (ho : o.op = .call { callee := .builtin (match mx with | true => .max | false => .min),args := #[x,y],argTypes := ts })
  (h : s5 σ o mx x y = some (σ',gs)) : Good P I σ o σ' gs := by
 unfold s5 at h
 split at h
 ·rename_i k a k' b hx hy
  split at h
  ·rename_i hk
   have := of_decide_eq_true hk; subst this
   have ex : ∀ ρ,isInt (ev (σ.v ρ) x) = some (k,a.v ρ) := fun ρ => by rw [aA]; exact (dA hx).1
   have ey : ∀ ρ,isInt (ev (σ.v ρ) y) = some (k,b.v ρ) := fun ρ => by rw [aA]; exact (dA hy).1
   have asc : σ.sc → Sc σ.nx a.vars := fun hs => dt hx (hs.dev x)
   have bsc : σ.sc → Sc σ.nx b.vars := fun hs => dt hy (hs.dev y)
   split at h
   ·rename_i hp
    simp only [Option.some.injEq,Prod.mk.injEq] at h; obtain ⟨rfl,rfl⟩ := h
    refine a6 (fun hs => by simp only [DV.vars,DP.vars]; cases mx; exact asc hs; exact bsc hs) fun ρ hs hok _ => ⟨⟨[],[]⟩,[],?_,trivial⟩
    have := bw hok hp
    rw [Lin.aZ] at this
    rw [wk mx ho (ex ρ) (ey ρ)]
    cases mx with
    | true =>
     have e : (if b.v ρ > a.v ρ then b.v ρ else a.v ρ) = b.v ρ := by split <;> omega
     simp [DV.v,DP.v,e]
    | false =>
     have e : (if b.v ρ < a.v ρ then b.v ρ else a.v ρ) = a.v ρ := by split <;> omega
     simp [DV.v,DP.v,e]
   ·rename_i hp _
    simp only [Option.some.injEq,Prod.mk.injEq] at h; obtain ⟨rfl,rfl⟩ := h
    refine a6 (fun hs => by simp only [DV.vars,DP.vars]; cases mx; exact bsc hs; exact asc hs) fun ρ hs hok _ => ⟨⟨[],[]⟩,[],?_,trivial⟩
    have := bw hok hp
    rw [Lin.aZ] at this
    rw [wk mx ho (ex ρ) (ey ρ)]
    cases mx with
    | true =>
     have e : (if b.v ρ > a.v ρ then b.v ρ else a.v ρ) = a.v ρ := by split <;> omega
     simp [DV.v,DP.v,e]
    | false =>
     have e : (if b.v ρ < a.v ρ then b.v ρ else a.v ρ) = b.v ρ := by split <;> omega
     simp [DV.v,DP.v,e]
   ·split at h
    ·cases h
    ·rename_i hk64
     have nsc : Sc (σ.nx + 1) (Lin.at (4 * σ.nx)).vars := rU (Nat.lt_succ_self _)
     split at h
     ·simp only [Option.some.injEq,Prod.mk.injEq] at h; obtain ⟨rfl,rfl⟩ := h
      refine jn hk64 (fun hs e he => ?_) fun ρ hs hok hg => ?_
      ·simp only [List.mem_cons,List.mem_nil_iff,or_false] at he
       rcases he with rfl | rfl
       ·exact Lin.aw ((asc hs).mono (Nat.le_succ _)) nsc
       ·exact Lin.aw ((bsc hs).mono (Nat.le_succ _)) nsc
      ·simp only [gsV,G.v,Lin.aB,Lin.aT,and_true] at hg
       refine ⟨if b.v ρ > a.v ρ then b.v ρ else a.v ρ,by split <;> omega,by split <;> omega,?_,⟨[],[]⟩,[],?_,trivial⟩
       ·rintro ρ' rfl
        have ha := bR ρ σ.nx σ.nx (vaN (if b.v ρ > a.v ρ then b.v ρ else a.v ρ)) (Nat.le_refl _)
        have hn : ((up ρ σ.nx (vaN (if b.v ρ > a.v ρ then b.v ρ else a.v ρ))) σ.nx).n = if b.v ρ > a.v ρ then b.v ρ else a.v ρ := by rw [aI]; rfl
        refine ⟨?_,?_,trivial⟩ <;> simp only [Lin.aZ,Lin.aW,gI,hn,Lin.ag ha (asc hs),Lin.ag ha (bsc hs)] <;> split <;> omega
       ·rw [wk true ho (ex ρ) (ey ρ)]
     ·simp only [Option.some.injEq,Prod.mk.injEq] at h; obtain ⟨rfl,rfl⟩ := h
      refine jn hk64 (fun hs e he => ?_) fun ρ hs hok hg => ?_
      ·simp only [List.mem_cons,List.mem_nil_iff,or_false] at he
       rcases he with rfl | rfl
       ·exact Lin.aw nsc ((asc hs).mono (Nat.le_succ _))
       ·exact Lin.aw nsc ((bsc hs).mono (Nat.le_succ _))
      ·simp only [gsV,G.v,Lin.aB,Lin.aT,and_true] at hg
       refine ⟨if b.v ρ < a.v ρ then b.v ρ else a.v ρ,by split <;> omega,by split <;> omega,?_,⟨[],[]⟩,[],?_,trivial⟩
       ·rintro ρ' rfl
        have ha := bR ρ σ.nx σ.nx (vaN (if b.v ρ < a.v ρ then b.v ρ else a.v ρ)) (Nat.le_refl _)
        have hn : ((up ρ σ.nx (vaN (if b.v ρ < a.v ρ then b.v ρ else a.v ρ))) σ.nx).n = if b.v ρ < a.v ρ then b.v ρ else a.v ρ := by rw [aI]; rfl
        refine ⟨?_,?_,trivial⟩ <;> simp only [Lin.aZ,Lin.aW,gI,hn,Lin.ag ha (asc hs),Lin.ag ha (bsc hs)] <;> split <;> omega
       ·rw [wk false ho (ex ρ) (ey ρ)]
  ·cases h
 ·cases h
end Go.TL
namespace Go.TL
def s6 : DV → Option (DP × Bool)
 | .p .nl _ => some (.sl none,true)
 | .p (.sl l) fr => some (.sl l,fr)
 | .p (.ls l) fr => some (.ls l,fr)
 | .p (.mp a l) fr => some (.mp a l,fr)
 | .p x _ => some (x,true)
 | .pc l fr => some (.sl l,fr)
 | .fn _ _ _ => some (.un,true)
 | _ => none
def fj : List DV → Option (List DP × Bool)
 | [] => some ([],true)
 | x :: xs => match s6 x,fj xs with
  | some (y,f),some (ys,fs) => some (y :: ys,f && fs)
  | _,_ => none
def Aj : DP → Bool
 | .cst (.slice none 0 0) => false
 | _ => true
def j5 : List DP → Bool
 | [] => true
 | x :: xs => match Aj x with | true => j5 xs | false => false
theorem Ep {ρ : Ro} {x : DV} {y : DP} {fr : Bool} (h : s6 x = some (y,fr)) (hc : Aj y = true) : qK (x.v ρ) = some (y.v ρ,fr) := by
 unfold s6 at h
 split at h <;> first | (cases h; done) | (simp only [Option.some.injEq,Prod.mk.injEq] at h; obtain ⟨rfl,rfl⟩ := h) <;> try (simp [DV.v,DP.v,qK,lvV]; done)
 rename_i z fr' h1 h2 h3 h4
 cases z <;> first | exact absurd rfl h1 | exact absurd rfl (h2 _) | exact absurd rfl (h3 _) | exact absurd rfl (h4 _ _) | (simp [DV.v,DP.v,qK]; done) | skip
 rename_i v
 simp only [DV.v,DP.v]
 unfold qK
 split <;> first
  | (rename_i e; simp at e; done)
  | (rename_i e; simp only [SV.p.injEq,PV.v.injEq] at e; rw [e.1] at hc; simp [Aj] at hc; done)
  | (rename_i e; simp only [SV.p.injEq,PV.v.injEq] at e; rw [e.1]; done)
  | (rename_i h _ _ _ _ _ _ _; exact absurd rfl (h v fr'))
theorem jq {ρ : Ro} : ∀ {xs : List DV} {ys : List DP} {fr : Bool},fj xs = some (ys,fr) → j5 ys = true → gl (dvs ρ xs) = some (ak ρ ys,fr)
 | [],ys,fr,h,_ => by simp only [fj,Option.some.injEq,Prod.mk.injEq] at h; obtain ⟨rfl,rfl⟩ := h; simp [dvs,gl,ak]
 | x :: xs,ys,fr,h,hc => by
  simp only [fj] at h
  split at h
  ·rename_i y f ys' fs h1 h2
   simp only [Option.some.injEq,Prod.mk.injEq] at h; obtain ⟨rfl,rfl⟩ := h
   simp only [j5] at hc
   split at hc
   ·rename_i hc1
    simp only [dvs,gl,Ep h1 hc1,jq h2 hc,ak]
   ·cases hc
  ·cases h
theorem Kf {n : Nat} {x : DV} {y : DP} {fr : Bool} (h : s6 x = some (y,fr)) (hx : Sc n x.vars) : Sc n y.vars := by
 unfold s6 at h
 split at h <;> first | (cases h; done) | (simp only [Option.some.injEq,Prod.mk.injEq] at h; obtain ⟨rfl,rfl⟩ := h; first | exact hx | exact Sc.nil)
theorem j6 {n : Nat} : ∀ {xs : List DV} {ys : List DP} {fr : Bool},fj xs = some (ys,fr) → Sc n (av xs) → Sc n (bf ys)
 | [],ys,fr,h,_ => by simp only [fj,Option.some.injEq,Prod.mk.injEq] at h; obtain ⟨rfl,rfl⟩ := h; exact Sc.nil
 | x :: xs,ys,fr,h,hx => by
  simp only [fj] at h
  split at h
  ·rename_i y f ys' fs h1 h2
   simp only [Option.some.injEq,Prod.mk.injEq] at h; obtain ⟨rfl,rfl⟩ := h
   simp only [av,Sc.app] at hx
   simp only [bf,Sc.app]
   exact ⟨Kf h1 hx.1,j6 h2 hx.2⟩
  ·cases h
def cD (sz : Nat) : Nat → List DP → List (List DP)
 | 0,_ => []
 | n + 1,xs => xs.take sz :: cD sz n (xs.drop sz)
theorem BI (ρ : Ro) (sz : Nat) : ∀ (n : Nat) (xs : List DP),cH ρ (cD sz n xs) = chunk sz n (ak ρ xs)
 | 0,_ => rfl
 | n + 1,xs => by simp only [cD,cH,chunk,fV,iD,BI ρ sz n]
theorem pS (sz : Nat) : ∀ (n : Nat) (xs : List DP),(cD sz n xs).length = n
 | 0,_ => rfl
 | n + 1,xs => by simp [cD,pS sz n]
theorem zk {m : Nat} (sz : Nat) : ∀ (n : Nat) (xs : List DP),Sc m (bf xs) → Sc m (e9 (cD sz n xs))
 | 0,_,_ => Sc.nil
 | n + 1,xs,h => by
  simp only [cD,e9,Sc.app]
  rw [jY] at h
  exact ⟨jY.2 fun x hx => h x (List.mem_of_mem_take hx),zk sz n _ (jY.2 fun x hx => h x (List.mem_of_mem_drop hx))⟩
def fY (zs : List DV) : Nat → List DV
 | 0 => []
 | n + 1 => zs ++ fY zs n
theorem ua (ρ : Ro) (zs : List DV) : ∀ n,dvs ρ (fY zs n) = ez (dvs ρ zs) n
 | 0 => by simp [fY,dvs,ez]
 | n + 1 => by simp only [fY,ez,pJ,ua ρ zs n]
theorem ns {n : Nat} {a b : List DV} : Sc n (av (a ++ b)) ↔ Sc n (av a) ∧ Sc n (av b) := by
 simp only [lT,List.mem_append]
 exact ⟨fun h => ⟨fun x hx => h x (.inl hx),fun x hx => h x (.inr hx)⟩,fun h x hx => hx.elim (h.1 x) (h.2 x)⟩
theorem r7 {m : Nat} {zs : List DV} (h : Sc m (av zs)) : ∀ n,Sc m (av (fY zs n))
 | 0 => Sc.nil
 | n + 1 => by simp only [fY]; exact ns.2 ⟨h,r7 h n⟩
def iF (tys : List (Nat × TypeId)) (cs : List CK) : List (List DP) → Option (List G × Lin)
 | [] => some ([],Lin.lit 0)
 | r :: rs => match dty tys cs r,iF tys cs rs with
  | some gs,some (hs,z) => some (gs ++ hs,((drz r).ax 1 z).aD 1)
  | _,_ => none
theorem zl {P : Program} {I : Pr} {ρ : Ro} {tys : List (Nat × TypeId)} (hg : Gok ρ) (ht : cb P ρ tys) (e : TypeId) : ∀ (rs : List (List DP)) (gs : List G) (z : Lin),iF tys (cks P e) rs = some (gs,z) → gsV I ρ gs →
  bL P e (cH ρ rs) ∧ z.v ρ = (rsz (cH ρ rs) : Int)
 | [],gs,z,h,_ => by
  simp only [iF,Option.some.injEq,Prod.mk.injEq] at h; obtain ⟨rfl,rfl⟩ := h
  exact ⟨bL.nil,by simp [Lin.bI,cH,rsz]⟩
 | r :: rs,gs,z,h,hv => by
  simp only [iF] at h
  split at h
  ·rename_i g1 g2 z2 h1 h2
   simp only [Option.some.injEq,Prod.mk.injEq] at h; obtain ⟨rfl,rfl⟩ := h
   rw [eL] at hv
   obtain ⟨a1,a2⟩ := zl hg ht e rs g2 z2 h2 hv.2
   refine ⟨bL.cons (dz hg ht _ _ _ h1 hv.1) a1,?_⟩
   rw [Lin.aB,Lin.aZ,vU (P := P) (I := I) hg _ _ _ h1,a2]
   simp only [cH,rsz]; omega
  ·cases h
theorem pT {n : Nat} {tys : List (Nat × TypeId)} {cs : List CK} : ∀ (rs : List (List DP)) (gs : List G) (z : Lin),iF tys cs rs = some (gs,z) → Sc n (e9 rs) → Sc n z.vars
 | [],gs,z,h,_ => by
  simp only [iF,Option.some.injEq,Prod.mk.injEq] at h; obtain ⟨rfl,rfl⟩ := h; exact Lin.cI
 | r :: rs,gs,z,h,hx => by
  simp only [iF] at h
  split at h
  ·rename_i g1 g2 z2 h1 h2
   simp only [Option.some.injEq,Prod.mk.injEq] at h; obtain ⟨rfl,rfl⟩ := h
   simp only [e9,Sc.app] at hx
   exact Lin.aX (Lin.aw (nY hx.1) (pT rs g2 z2 h2 hx.2))
  ·cases h
def r8 (n len : Nat) : List Lin := [(Lin.at (4 * n + 1)).aD (-(len : Int)),(Lin.scale (-1) (Lin.at (4 * n + 1))).aD (len : Int)]
def Ih (n : Nat) (z : Lin) : List Lin := [(Lin.at (4 * n + 2)).ax (-1) z,z.ax (-1) (Lin.at (4 * n + 2))]
def DSt.fZ (σ : DSt) (d : Nat) (ov : DO) : DSt := { σ with ab := (d,.vec d) :: σ.ab,tab := (d,ov) :: σ.tab }
theorem Kg (ρ : Ro) (σ : DSt) (d : Nat) (ov : DO) : (σ.fZ d ov).v ρ = ⟨(d,.vec d) :: (σ.v ρ).ab,(d,ov.v ρ) :: (σ.v ρ).tab⟩ := by
 simp [DSt.fZ,DSt.v,bK,aG,DV.v]
theorem Ii {σ : DSt} (hs : σ.sc) {d : Nat} {ov : DO} (ho : Sc σ.nx ov.vars) : (σ.fZ d ov).sc := by
 refine ⟨?_,?_,hs.tys,hs.lin,hs.prs⟩
 ·intro t v hl
  simp only [DSt.fZ,bS] at hl
  split at hl
  ·simp only [Option.some.injEq] at hl; subst hl; simp [DV.vars,Sc.nil]
  ·exact hs.ab t v hl
 ·intro t v hl
  simp only [DSt.fZ,bS] at hl
  split at hl
  ·simp only [Option.some.injEq] at hl; subst hl; exact ho
  ·exact hs.tab t v hl
theorem bu.fZ {s s' : St} (h : bu s s') (d : Nat) (ov : OV) : bu ⟨(d,.vec d) :: s.ab,(d,ov) :: s.tab⟩ ⟨(d,.vec d) :: s'.ab,(d,ov) :: s'.tab⟩ := by
 constructor <;> intro t <;> simp only [bS] <;> split <;> first | rfl | exact h.ab t | exact h.tab t
theorem uS {P : Program} {I : Pr} {σ : DSt} {o : Oper} {gs : List G} {d n : Nat} {ov : DO} {tys : List (Nat × TypeId)} {lin : List Lin} {prs : List PF} (hov : σ.sc → Sc (σ.nx + n) ov.vars)
  (hg : σ.sc → fT (σ.nx + n) tys lin prs)
  (h : ∀ ρ,σ.sc → σ.ok P I ρ → gsV I ρ gs → ∃ ρ',ao σ.nx ρ ρ' ∧ Gok ρ' ∧ cb P ρ' tys ∧ aR ρ' lin ∧ bQ I ρ' prs ∧
   ∃ (H : Hint) (ps : List Prop),aop P H (σ.v ρ) o = some (⟨(d,.vec d) :: (σ.v ρ).ab,(d,ov.v ρ') :: (σ.v ρ).tab⟩,ps) ∧ ia ps) : Good P I σ o ((σ.grow n tys lin prs).fZ d ov) gs := by
 intro hs
 have hs' := hs.grow (hg hs)
 refine ⟨Ii hs' (hov hs),Nat.le_add_right _ _,?_⟩
 intro ρ hok hgs
 obtain ⟨ρ',ha,hgk,h1,h2,h3,H,ps,h4,h5⟩ := h ρ hs hok hgs
 have hok' := hok.grow (n := n) hs ha hgk h1 h2 h3
 refine ⟨ρ',ha,⟨hok'.g,hok'.tys,hok'.lin,hok'.prs⟩,H,_,ps,h4,h5,?_⟩
 rw [Kg]
 exact bu.fZ (DSt.eb hs ha) _ _
def nu (P : Program) (σ : DSt) (o : Oper) (t : TypeId) (len : Nat) (parts : Array (Nat × Operand)) : DR :=
 match o.dst,dE P t with
 | some d,some (e,i) => match i.zero,lk σ.tab d with
  | some z,none => match gK z with
   | some zs => match Nat.beq zs.length i.size && Nat.ble len 2097152,Nat.beq i.size 0,Nat.ble (len * i.size) 16777216,kQ (fun n => some (n * i.size,i.size)) (fY zs len) (jZ σ parts.toList) with
    | true,false,true,some cells => match fj cells with
     | some (xs,fr) => match j5 xs with
      | true => match iF σ.tys (cks P e) (cD i.size len xs) with
       | some (gs,rz) => some ((σ.grow 1 [(σ.nx,e)] (r8 σ.nx len ++ Ih σ.nx rz) [.lit σ.nx (cD i.size len xs)]).fZ d (.vec e i.size (some σ.nx) fr),gs)
       | none => some ((σ.grow 1 [] (r8 σ.nx len) [.lit σ.nx (cD i.size len xs)]).fZ d (.vec e i.size (some σ.nx) fr),[])
      | false => none
     | none => none
    | _,_,_,_ => none
   | none => none
  | _,_ => none
 | _,_ => none
theorem zm (ρ : Ro) (l : List (List DP)) : (cH ρ l).length = l.length := by simp [y0]
theorem uT {P : Program} {I : Pr} {σ σ' : DSt} {o : Oper} {t : TypeId} {len : Nat} {parts : Array (Nat × Operand)} {gs : List G} (ho : o.op = .buildSlice t len parts) (h : nu P σ o t len parts = some (σ',gs)) : Good P I σ o σ' gs := by
 unfold nu at h
 split at h
 ·rename_i d e i hd hse
  split at h
  ·rename_i z hz hfree
   split at h
   ·rename_i zs hzs
    split at h
    ·rename_i cells hsz hi0 hle hfill
     simp only [Bool.and_eq_true] at hsz
     split at h
     ·rename_i xs fr hxs
      split at h
      ·rename_i hcs
       have hlen2 : len ≤ b7 := Nat.le_of_ble_eq_true hsz.2
       have csc : σ.sc → Sc σ.nx (bf xs) := fun hs => j6 hxs (pL _ _ _ _ (r7 (mN hzs) _) (rL hs _) hfill)
       have lsc : σ.sc → Sc σ.nx (e9 (cD i.size len xs)) := fun hs => zk _ _ _ (csc hs)
       have hop : ∀ ρ : Ro,aop P ⟨[],[]⟩ (σ.v ρ) o = some (⟨(d,.vec d) :: (σ.v ρ).ab,(d,.vec e i.size (cH ρ (cD i.size len xs)) fr) :: (σ.v ρ).tab⟩,[]) := by
        intro ρ
        have f1 : gn (fun n => some (n * i.size,i.size)) (ez (dvs ρ zs) len) (dV (σ.v ρ) parts.toList) = some (dvs ρ cells) := by
         rw [uM, ← ua,sS,hfill]; rfl
        unfold aop
        simp only [ho,iN,hd,hse,hz,lV hfree,pK ρ,hzs,Option.map_some,ek,hsz.1,hi0,hle,f1,jq hxs hcs,tr,BI]
       have nsc1 : Sc (σ.nx + 1) (Lin.at (4 * σ.nx + 1)).vars := Lin.aS (by omega)
       have nsc2 : Sc (σ.nx + 1) (Lin.at (4 * σ.nx + 2)).vars := Lin.aS (by omega)
       have psc : σ.sc → ∀ f ∈ [PF.lit σ.nx (cD i.size len xs)],Sc (σ.nx + 1) f.vars := fun hs f hf => by
        simp only [List.mem_singleton] at hf; subst hf
        simp only [PF.vars,Sc.cons]; exact ⟨Nat.lt_succ_self _,(lsc hs).mono (Nat.le_succ _)⟩
       have l1sc : ∀ q ∈ r8 σ.nx len,Sc (σ.nx + 1) q.vars := fun q hq => by
        simp only [r8,List.mem_cons,List.mem_nil_iff,or_false] at hq
        rcases hq with rfl | rfl
        ·exact Lin.aX nsc1
        ·exact Lin.aX (Lin.cL nsc1)
       have osc : Sc (σ.nx + 1) (DO.vec e i.size (some σ.nx) fr).vars := by simp only [DO.vars,aL,Sc.cons]; exact ⟨Nat.lt_succ_self _,Sc.nil⟩
       have key : ∀ ρ,σ.sc → σ.ok P I ρ → ∃ ρ',ao σ.nx ρ ρ' ∧ Gok ρ' ∧ (ρ' σ.nx).l = cH ρ (cD i.size len xs) ∧ aR ρ' (r8 σ.nx len) ∧ bQ I ρ' [.lit σ.nx (cD i.size len xs)] ∧
         aop P ⟨[],[]⟩ (σ.v ρ) o = some (⟨(d,.vec d) :: (σ.v ρ).ab,(d,(DO.vec e i.size (some σ.nx) fr).v ρ') :: (σ.v ρ).tab⟩,[]) := by
        intro ρ hs hok
        have hll : (cH ρ (cD i.size len xs)).length = len := by rw [zm,pS]
        have hn : ((up ρ σ.nx (vaL (cH ρ (cD i.size len xs)))) σ.nx).l = cH ρ (cD i.size len xs) := by rw [aI]; rfl
        have ha := bR ρ σ.nx σ.nx (vaL (cH ρ (cD i.size len xs))) (Nat.le_refl _)
        refine ⟨up ρ σ.nx (vaL (cH ρ (cD i.size len xs))),ha,hok.g.up _ (nW (by rw [hll]; exact hlen2)),hn,?_,⟨?_,trivial⟩,?_⟩
        ·refine ⟨?_,?_,trivial⟩ <;> simp only [Lin.aB,Lin.aT,Lin.aW,cJ,hn,hll] <;> omega
        ·simp only [PF.v,hn,xT ha (lsc hs)]
        ·rw [hop ρ]
         have hn' : lvV (up ρ σ.nx (vaL (cH ρ (cD i.size len xs)))) (some σ.nx) = cH ρ (cD i.size len xs) := hn
         simp only [DO.v,hn']
       split at h
       ·rename_i gs' rz hty
        simp only [Option.some.injEq,Prod.mk.injEq] at h; obtain ⟨rfl,rfl⟩ := h
        refine uS (fun _ => osc) (fun hs => ⟨by simp,fun q hq => ?_,psc hs⟩) ?_
        ·rcases List.mem_append.1 hq with hq | hq
         ·exact l1sc q hq
         ·have zsc := (pT _ _ _ hty (lsc hs)).mono (Nat.le_succ σ.nx)
          simp only [Ih,List.mem_cons,List.mem_nil_iff,or_false] at hq
          rcases hq with rfl | rfl
          ·exact Lin.aw nsc2 zsc
          ·exact Lin.aw zsc nsc2
        ·intro ρ hs hok hg
         obtain ⟨ρ',ha,hgk,hn,q1,q2,q3⟩ := key ρ hs hok
         obtain ⟨t1,t2⟩ := zl hok.g hok.tys e _ _ _ hty hg
         refine ⟨ρ',ha,hgk,⟨?_,trivial⟩,cq q1 ?_,q2,⟨[],[]⟩,[],q3,trivial⟩
         ·rw [hn]; exact .of (by rw [zm,pS]; exact hlen2) t1
         ·have zv := Lin.ag ha (pT _ _ _ hty (lsc hs))
          refine ⟨?_,?_,trivial⟩ <;> simp only [Lin.aZ,Lin.aW,c9,hn,zv,t2] <;> omega
       ·simp only [Option.some.injEq,Prod.mk.injEq] at h; obtain ⟨rfl,rfl⟩ := h
        refine uS (fun _ => osc) (fun hs => ⟨by simp,l1sc,psc hs⟩) ?_
        intro ρ hs hok hg
        obtain ⟨ρ',ha,hgk,hn,q1,q2,q3⟩ := key ρ hs hok
        exact ⟨ρ',ha,hgk,trivial,q1,q2,⟨[],[]⟩,[],q3,trivial⟩
      ·cases h
     ·cases h
    ·cases h
   ·cases h
  ·cases h
 ·cases h
def DSt.setObj (σ : DSt) (k : Nat) (ov : DO) : DSt := { σ with tab := (k,ov) :: rm σ.tab k }
theorem lX (ρ : Ro) (σ : DSt) (k : Nat) (ov : DO) : (σ.setObj k ov).v ρ = ⟨(σ.v ρ).ab,(k,ov.v ρ) :: rm (σ.v ρ).tab k⟩ := by
 simp only [DSt.setObj,DSt.v,aG,iC]
theorem mT {σ : DSt} (hs : σ.sc) {k : Nat} {ov : DO} (ho : Sc σ.nx ov.vars) : (σ.setObj k ov).sc := by
 refine ⟨hs.ab,?_,hs.tys,hs.lin,hs.prs⟩
 intro t v hl
 simp only [DSt.setObj,bS] at hl
 split at hl
 ·simp only [Option.some.injEq] at hl; subst hl; exact ho
 ·rw [kU] at hl
  split at hl
  ·cases hl
  ·exact hs.tab t v hl
def DV.one : DV → Bool
 | .u | .agg _ | .tup _ => false
 | _ => true
def wm : List DV → Bool
 | [] => true
 | x :: xs => match x.one with | true => wm xs | false => false
theorem Pe (ρ : Ro) (x : DV) : (x.v ρ).one = x.one := by cases x <;> simp [DV.v,SV.one,DV.one]
theorem x7 (ρ : Ro) : ∀ xs : List DV,uo (dvs ρ xs) = wm xs
 | [] => by simp [dvs,uo,wm]
 | x :: xs => by simp only [dvs,uo,wm,Pe,x7 ρ xs]; cases x.one <;> rfl
theorem Nc {P : Program} : ∀ (cs : List CK) (row ys : List PV) (off : Nat),WTs P cs row → off + ys.length ≤ row.length → WTs P ((cs.drop off).take ys.length) ys → WTs P cs (spl row off ys) := by
 intro cs row ys off hr hl hy
 rw [aY] at hr hy ⊢
 obtain ⟨r1,r2⟩ := hr
 obtain ⟨y1,y2⟩ := hy
 refine ⟨by simp only [spl,List.length_append,List.length_take,List.length_drop]; omega,?_⟩
 intro j ck x hc hx
 simp only [spl,List.getElem?_append,List.length_take,List.getElem?_take,List.getElem?_drop] at hx
 have hm : min off row.length = off := by omega
 rw [hm] at hx
 split at hx
 ·exact r2 j ck x hc hx
 ·rename_i h1
  split at hx
  ·rename_i h2
   refine y2 (j - off) ck x ?_ hx
   rw [List.getElem?_take,if_pos h2,List.getElem?_drop]
   rw [show off + (j - off) = j by omega]; exact hc
  ·refine r2 j ck x hc ?_
   rw [show off + ys.length + (j - off - ys.length) = j by omega] at hx
   exact hx
theorem bu.setObj {s s' : St} (h : bu s s') (k : Nat) (ov : OV) : bu ⟨s.ab,(k,ov) :: rm s.tab k⟩ ⟨s'.ab,(k,ov) :: rm s'.tab k⟩ := by
 refine ⟨h.ab,fun t => ?_⟩
 simp only [bS,kU,h.tab t]
theorem dVU {ρ : Ro} : DV.u.v ρ = SV.u := by simp [DV.v]
theorem Kh (ρ : Ro) (cs : List DP) (off : Nat) (new : List DP) : ak ρ (spl cs off new) = spl (ak ρ cs) off (ak ρ new) := by
 simp [spl,nr,fV,iD,dh]
theorem Ij {n : Nat} {cs new : List DP} {off : Nat} (h : Sc n (bf cs)) (h' : Sc n (bf new)) : Sc n (bf (spl cs off new)) := by
 rw [jY] at *
 intro x hx
 simp only [spl,List.mem_append] at hx
 rcases hx with hx | hx | hx
 ·exact h x (List.mem_of_mem_take hx)
 ·exact h' x hx
 ·exact h x (List.mem_of_mem_drop hx)
def wo (n l : Nat) : List Lin := [(Lin.at (4 * n + 1)).ax (-1) (Lin.at (4 * l + 1)),(Lin.at (4 * l + 1)).ax (-1) (Lin.at (4 * n + 1))]
def BJ (P : Program) (σ : DSt) (o : Oper) (t : TypeId) (x y : Operand) : DR :=
 match fU (dev σ y),P.info? t with
 | some xs,some i => match wm xs,Nat.beq xs.length i.size with
  | true,true => match dev σ x with
   | .ptr k off => match lk σ.tab k with
    | some (.box bt cells) => match Nat.ble (off + xs.length) cells.length with
     | true => some ((σ.setObj k (.box bt (spl cells off xs))).put o.dst .u,[])
     | false => none
    | _ => none
   | .vptr k sz n off => match lk σ.tab k,fj xs with
    | some (.vec bt sz' (some l) fr),some (ys,fr2) => match lk σ.tys l,Nat.beq sz sz' && j5 ys with
     | some e,true => match eM (cks P e) σ.nx with
      | some R => match Nat.ble (off + xs.length) R.cells.length && Nat.beq ys.length xs.length,dty σ.tys (((cks P e).drop off).take ys.length) ys with
       | true,some gs => some (((σ.grow (R.nx - σ.nx + 1) ((R.nx,e) :: R.tys) (wo R.nx l ++ gO l R) [.set R.nx l n (spl R.cells off ys),.row l n R.cells]).setObj k (.vec bt sz' (some R.nx) (fr && fr2))).put o.dst .u,inR n l ++ gs)
       | _,_ => none
      | none => none
     | _,_ => none
    | _,_ => none
   | _ => none
  | _,_ => none
 | _,_ => none
theorem zo {P : Program} {H : Hint} {s : St} {o : Oper} {t : TypeId} {x y : Operand} (ho : o.op = .store t x y) :
  aop P H s o = match ev s x with | .vptr _ _ _ _ => nt (fp P H s o t x y) | _ => tr (fp P H s o t x y) := by
 unfold aop
 simp only [ho]
 cases ev s x <;> rfl
theorem DB {P : Program} {I : Pr} {σ σ' : DSt} {o : Oper} {t : TypeId} {x y : Operand} {gs : List G} (ho : o.op = .store t x y) (h : BJ P σ o t x y = some (σ',gs)) : Good P I σ o σ' gs := by
 unfold BJ at h
 split at h
 ·rename_i xs i hxs hi
  have xsc : σ.sc → Sc σ.nx (av xs) := fun hs => rK hxs (hs.dev y)
  have f1 : ∀ ρ,cellsOf (ev (σ.v ρ) y) = some (dvs ρ xs) := fun ρ => by rw [aA,uJ,hxs]; rfl
  split at h
  ·rename_i hone hlen
   split at h
   ·rename_i k off he
    have e1 : ∀ ρ,ev (σ.v ρ) x = .ptr k off := fun ρ => by rw [aA,he]; simp [DV.v]
    split at h
    ·rename_i bt cells hk
     split at h
     ·rename_i hle
      simp only [Option.some.injEq,Prod.mk.injEq] at h; obtain ⟨rfl,rfl⟩ := h
      intro hs
      have hs1 := mT hs (k := k) (ov := .box bt (spl cells off xs)) (by simp only [DO.vars]; exact H0 (by have := hs.tab k _ hk; simpa [DO.vars] using this) (xsc hs))
      refine ⟨hs1.put _ (by simp [DV.vars,Sc.nil]),by rw [cC]; exact Nat.le_refl _,fun ρ hok _ => ⟨ρ,ao.refl _ _,?_,⟨[],[]⟩,_,[],?_,trivial,bu.refl _⟩⟩
      ·exact (DSt.ok.put (σ := σ.setObj k (.box bt (spl cells off xs))) ⟨hok.g,hok.tys,hok.lin,hok.prs⟩ _ _)
      ·rw [dy,lX,dVU]
       rw [zo ho,e1]
       simp [fp,f1,hi,x7,hone,ek,hlen,e1,da hk,DO.v,hle,Eh,tr]
     ·cases h
    ·cases h
   ·rename_i k sz n off he
    have e1 : ∀ ρ,ev (σ.v ρ) x = .vptr k sz (n.v ρ).toNat off := fun ρ => by rw [aA,he]; simp [DV.v]
    have nsc : σ.sc → Sc σ.nx n.vars := fun hs => by have := hs.dev x; rw [he] at this; simpa [DV.vars] using this
    split at h
    ·rename_i bt sz' l fr ys fr2 hk hys
     split at h
     ·rename_i e hl hsz
      simp only [Bool.and_eq_true] at hsz
      split at h
      ·rename_i R hR
       split at h
       ·rename_i gs0 hle hty
        simp only [Bool.and_eq_true] at hle
        have hyl := Nat.eq_of_beq_eq_true hle.2
        have hle1 := Nat.le_of_ble_eq_true hle.1
        simp only [Option.some.injEq,Prod.mk.injEq] at h; obtain ⟨rfl,rfl⟩ := h
        have hRs := lp _ _ _ hR
        have hnx : σ.nx + (R.nx - σ.nx + 1) = R.nx + 1 := by have := hRs.le; omega
        have ysc : σ.sc → Sc σ.nx (bf ys) := fun hs => j6 hys (xsc hs)
        have hgsc : σ.sc → fT (σ.nx + (R.nx - σ.nx + 1)) ((R.nx,e) :: R.tys) (wo R.nx l ++ gO l R) [.set R.nx l n (spl R.cells off ys),.row l n R.cells] := by
         intro hs
         have hll := gN hs hl
         have hle' := hRs.le
         rw [hnx]
         refine ⟨?_,?_,?_⟩
         ·intro k' e' hk'
          simp only [List.mem_cons,Prod.mk.injEq] at hk'
          rcases hk' with ⟨rfl,_⟩ | hk'
          ·exact Nat.lt_succ_self _
          ·exact Nat.lt_succ_of_lt (hRs.tys k' e' hk')
         ·intro q hq
          rcases List.mem_append.1 hq with hq | hq
          ·have n1 : Sc (R.nx + 1) (Lin.at (4 * R.nx + 1)).vars := Lin.aS (by omega)
           have n2 : Sc (R.nx + 1) (Lin.at (4 * l + 1)).vars := Lin.aS (by omega)
           simp only [wo,List.mem_cons,List.mem_nil_iff,or_false] at hq
           rcases hq with rfl | rfl
           ·exact Lin.aw n1 n2
           ·exact Lin.aw n2 n1
          ·exact (rQ hRs hll q hq).mono (Nat.le_succ _)
         ·intro f hf
          simp only [List.mem_cons,List.mem_nil_iff,or_false] at hf
          have c1 := hRs.cells.mono (Nat.le_succ R.nx)
          have c2 := (nsc hs).mono (show σ.nx ≤ R.nx + 1 by omega)
          rcases hf with rfl | rfl
          ·simp only [PF.vars,Sc.cons,Sc.app]
           exact ⟨Nat.lt_succ_self _,by omega,c2,Ij c1 ((ysc hs).mono (by omega))⟩
          ·simp only [PF.vars,Sc.cons,Sc.app]
           exact ⟨by omega,c2,c1⟩
        intro hs
        have hs1 := hs.grow (hgsc hs)
        have hs2 := mT hs1 (k := k) (ov := .vec bt sz' (some R.nx) (fr && fr2)) (by simp only [DO.vars,aL,Sc.cons]; exact ⟨by show R.nx < σ.nx + (R.nx - σ.nx + 1); omega,Sc.nil⟩)
        refine ⟨hs2.put _ (by simp [DV.vars,Sc.nil]),by rw [cC]; exact Nat.le_add_right _ _,?_⟩
        intro ρ hok hg
        rw [eL] at hg
        obtain ⟨g0,g1⟩ := Ah hg.1
        obtain ⟨ρ1,hw⟩ := xX hs hok hl (nsc hs) hR g0 g1
        have hll := gN hs hl
        have hlt : (n.v ρ).toNat < (ρ l).l.length := by omega
        have hrow : (ρ l).l[(n.v ρ).toNat] = ak ρ1 R.cells := by have := hw.row; simp [hlt] at this; exact this
        have yv : ak ρ1 ys = ak ρ ys := gH hw.ag (ysc hs)
        have hnew : WTs P (cks P e) (spl (ak ρ1 R.cells) off (ak ρ ys)) := by
         have hty1 := (c7 hok.tys hl).2 _ (List.getElem_mem hlt)
         rw [hrow] at hty1
         refine Nc _ _ _ _ hty1 (by rw [dh,dh]; omega) ?_
         rw [dh]
         exact dz hok.g hok.tys _ _ _ hty hg.2
        have hz : aU P e ((ρ l).l.set (n.v ρ).toNat (spl (ak ρ1 R.cells) off (ak ρ ys))) := by
         have h0 := c7 hok.tys hl
         refine ⟨by rw [List.length_set]; exact h0.1,fun row hr => ?_⟩
         rcases List.mem_or_eq_of_mem_set hr with hr | rfl
         ·exact h0.2 row hr
         ·exact hnew
        have ha1 := bR ρ1 R.nx R.nx (vaL ((ρ l).l.set (n.v ρ).toNat (spl (ak ρ1 R.cells) off (ak ρ ys)))) (Nat.le_refl _)
        have ha : ao σ.nx ρ (up ρ1 R.nx (vaL ((ρ l).l.set (n.v ρ).toNat (spl (ak ρ1 R.cells) off (ak ρ ys))))) := hw.ag.trans ha1 hRs.le
        have hn : ((up ρ1 R.nx (vaL ((ρ l).l.set (n.v ρ).toNat (spl (ak ρ1 R.cells) off (ak ρ ys))))) R.nx).l = (ρ l).l.set (n.v ρ).toNat (spl (ak ρ1 R.cells) off (ak ρ ys)) := by rw [aI]; rfl
        have hgk := hw.g.up R.nx (ej hz.len)
        generalize up ρ1 R.nx (vaL ((ρ l).l.set (n.v ρ).toNat (spl (ak ρ1 R.cells) off (ak ρ ys)))) = ρ' at ha1 ha hn hgk
        have hle' := hRs.le
        have e3 : ρ' l = ρ l := ha l hll
        have e4 := Lin.ag ha (nsc hs)
        have e5 : ak ρ' R.cells = ak ρ1 R.cells := gH ha1 hRs.cells
        have e6 : ak ρ' ys = ak ρ ys := gH ha (ysc hs)
        have hok' : (σ.grow (R.nx - σ.nx + 1) ((R.nx,e) :: R.tys) (wo R.nx l ++ gO l R) [.set R.nx l n (spl R.cells off ys),.row l n R.cells]).ok P I ρ' := by
         refine hok.grow hs ha hgk ⟨by rw [hn]; exact hz,(rI ha1 hRs.tys).2 hw.tys⟩ (cq ?_ ((nT ha1 (rQ hRs hll)).2 hw.lin)) ⟨?_,?_,trivial⟩
         ·refine ⟨?_,?_,trivial⟩ <;> simp only [Lin.aZ,Lin.aW,cJ,hn,e3,List.length_set] <;> omega
         ·simp only [PF.v,hn,e3,e4,Kh,e5,e6]
         ·refine ⟨by rw [e4]; exact g0,?_⟩
          rw [e3,e4,e5]; exact hw.row
        refine ⟨ρ',ha,?_,⟨[],[(k,ak ρ1 R.cells)]⟩,(⟨(σ.v ρ).ab,(k,.vec bt sz' ((ρ l).l.set (n.v ρ).toNat (spl (ak ρ1 R.cells) off (ak ρ ys))) (fr && fr2)) :: rm (σ.v ρ).tab k⟩ : St).put o.dst .u,[(ρ l).l[(n.v ρ).toNat]? = some (ak ρ1 R.cells)],?_,⟨hw.row,trivial⟩,?_⟩
        ·exact (DSt.ok.put (σ := (σ.grow (R.nx - σ.nx + 1) ((R.nx,e) :: R.tys) (wo R.nx l ++ gO l R) [.set R.nx l n (spl R.cells off ys),.row l n R.cells]).setObj k (.vec bt sz' (some R.nx) (fr && fr2))) ⟨hok'.g,hok'.tys,hok'.lin,hok'.prs⟩ _ _)
        ·rw [zo ho,e1]
         have hble : Nat.ble (off + (dvs ρ xs).length) (ak ρ1 R.cells).length = true := by rw [ek,dh]; exact hle.1
         simp [fp,f1,hi,x7,hone,ek,hlen,e1,da hk,DO.v,lvV,jq hys hsz.2,lk,hsz.1,dh,hle.1,nt]
        ·rw [dy,lX,dVU]
         refine bu.put ?_ _ _
         have hv' : (DO.vec bt sz' (some R.nx) (fr && fr2)).v ρ' = .vec bt sz' ((ρ l).l.set (n.v ρ).toNat (spl (ak ρ1 R.cells) off (ak ρ ys))) (fr && fr2) := by simp only [DO.v,lvV,hn]
         rw [hv']
         exact bu.setObj (DSt.eb hs ha) _ _
       ·cases h
      ·cases h
     ·cases h
    ·cases h
   ·cases h
  ·cases h
 ·cases h
end Go.TL
