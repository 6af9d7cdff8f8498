/- What functions do, told by states; calls. -/
import Derived.Test.YtajkchpnbnbmfaaGreatDoorW19
import Derived.Laws.Small
namespace Go.TL
structure bh where
 nw : Nat
 tys : List (Nat × TypeId)
 lin : List Lin
 prs : List PF
 tab : az
 res : List DV
structure Spec where
 fn : Nat
 nv : Nat
 args : List DV
 tab : az
 tys : List (Nat × TypeId)
 lin : List Lin
 prs : List PF
 gf : Lin
 gW : List bh
def dj : Nat → List DV → bq
 | _,[] => []
 | k,x :: xs => (k,x) :: dj (k + 1) xs
theorem iY (ρ : Ro) : ∀ (k : Nat) (l : List DV),bK ρ (dj k l) = c8 k (dvs ρ l)
 | _,[] => by simp [dj,bK,dvs,c8]
 | k,x :: xs => by simp only [dj,bK,dvs,c8,iY ρ (k + 1) xs]
def Spec.pre (s : Spec) : DSt := ⟨dj 0 s.args,s.tab,s.tys,s.lin,s.prs,s.nv,[]⟩
def bh.st (p : bh) (nv : Nat) : DSt := ⟨dj 0 p.res,p.tab,p.tys,p.lin,p.prs,nv + p.nw,[]⟩
def dmk : List DV → DV
 | [x] => x
 | xs => .tup xs
def mk : List SV → SV
 | [x] => x
 | xs => .tup xs
theorem Q3 (ρ : Ro) : ∀ l : List DV,(dmk l).v ρ = mk (dvs ρ l)
 | [] => by simp [dmk,mk,DV.v,dvs]
 | [x] => by simp [dmk,mk,dvs]
 | x :: y :: r => by simp [dmk,mk,DV.v,dvs]
def jM (P : Program) (I : Pr) (s : Spec) (ρ : Ro) : SV → Tab → Prop := fun r T' =>
 ∃ p ∈ s.gW, ∃ ρ',ao s.nv ρ ρ' ∧ (p.st s.nv).ok P I ρ' ∧ r = (dmk p.res).v ρ' ∧ T' = aG ρ' p.tab
def fy (P : Program) (I : Pr) (N : Nat) (s : Spec) : Prop := ∀ ρ,s.pre.ok P I ρ → (s.gf.v ρ).toNat < N → FnS P s.fn (dvs ρ s.args) (aG ρ s.tab) (jM P I s ρ)
def Po (P : Program) (I : Pr) (s : Spec) : Prop := ∀ ρ,s.pre.ok P I ρ → FnS P s.fn (dvs ρ s.args) (aG ρ s.tab) (jM P I s ρ)
def fK : List (Nat × Nat) → Nat → Nat
 | [],k => k
 | (a,b) :: r,k => fK r (sw a b k)
mutual
theorem Gf (π π' : Nat → Nat) : ∀ x : SV,SV.rn π' (SV.rn π x) = SV.rn (fun k => π' (π k)) x
 | .vec _ => by simp [SV.rn]
 | .ptr _ _ => by simp [SV.rn]
 | .vptr _ _ _ _ => by simp [SV.rn]
 | .ref _ => by simp [SV.rn]
 | .agg xs => by simp only [SV.rn,mj π π' xs]
 | .tup xs => by simp only [SV.rn,mj π π' xs]
 | .fn f first caps => by simp only [SV.rn,mj π π' first,mj π π' caps]
 | .ifc t x => by simp only [SV.rn,Gf π π' x]
 | .u => by simp [SV.rn]
 | .p _ _ => by simp [SV.rn]
 | .pd _ _ _ => by simp [SV.rn]
 | .pc _ _ => by simp [SV.rn]
theorem mj (π π' : Nat → Nat) : ∀ x : List SV,rns π' (rns π x) = rns (fun k => π' (π k)) x
 | [] => by simp [rns]
 | x :: xs => by simp only [rns,Gf π π' x,mj π π' xs]
end
theorem Pp (π π' : Nat → Nat) (o : OV) : OV.rn π' (OV.rn π o) = OV.rn (fun k => π' (π k)) o := by cases o <;> simp [OV.rn,mj]
theorem vf (π π' : Nat → Nat) : ∀ T : Tab,cK π' (cK π T) = cK (fun k => π' (π k)) T
 | [] => rfl
 | (k,x) :: r => by simp only [cK,Pp,vf π π' r]
theorem FnS.sws {P : Program} {f : FuncId} : ∀ (l : List (Nat × Nat)) {args : List SV} {T : Tab} {R : SV → Tab → Prop},FnS P f args T R →
  FnS P f (rns (fK l) args) (cK (fK l) T) fun r T' => ∃ r0 T0,R r0 T0 ∧ r = SV.rn (fK l) r0 ∧ T' = cK (fK l) T0
 | [],args,T,R,h => by
  have e : fK [] = fun k => k := rfl
  rw [e,lZ,uW]
  exact h.mono fun r T' hR => ⟨r,T',hR,(Al r).symm,(uW T').symm⟩
 | (a,b) :: l,args,T,R,h => by
  have h1 := FnS.sws l (h.sw a b)
  rw [mj,vf] at h1
  refine h1.mono ?_
  rintro r T' ⟨r0,T0,⟨r1,T1,hR,rfl,rfl⟩,rfl,rfl⟩
  exact ⟨r1,T1,hR,by rw [Gf]; rfl,by rw [vf]; rfl⟩
theorem FnS.pre {P : Program} {g : FuncId} {T T2 : Tab} {R : SV → Tab → Prop} {args args2 : List SV} (hT : ∀ k b,lk T k = some b → ∃ a,lk T2 k = some a ∧ ∀ w E lo,OR w E lo k a → OR w E lo k b)
  (hk : ∀ k,lk T2 k ≠ none → lk T k ≠ none) (ha : ∀ w E lo vs,VRs w E lo args2 vs → VRs w E lo args vs) (h : FnS P g args T R) : FnS P g args2 T2 R := by
 intro lo w E vals hlo ht hv
 refine h lo w E vals hlo ⟨?_,?_,?_,ht.ext⟩ (ha _ _ _ _ hv)
 ·intro k b hl
  obtain ⟨a,h1,h2⟩ := hT k b hl
  exact h2 _ _ _ (ht.obj k a h1)
 ·intro k hn
  refine ht.dead k ?_
  cases hq : lk T2 k with
  | none => rfl
  | some x => exact absurd hn (hk k (by rw [hq]; simp))
 ·intro b k hb
  obtain ⟨h1,h2,h3⟩ := ht.own b k hb
  exact ⟨h1,h2,hk k h3⟩
structure qa where
 K : Nat
 e : TypeId
 sz : Nat
def ka : List qa → az → az
 | [],T => T
 | a :: r,T => ka r ((a.K,.vec a.e a.sz none true) :: T)
def sq (K : Nat) : List DV → List DV
 | [] => []
 | x :: xs => (match x with | .vec j => (match Nat.beq j K with | true => .p .nl true | false => .vec j) | x => x) :: sq K xs
def ot : List qa → List DV → List DV
 | [],l => l
 | a :: r,l => sq a.K (ot r l)
def Av : List qa → az → Bool
 | [],_ => true
 | a :: r,T => match (lk T a.K).isSome,Nat.ble 1 a.sz with
  | false,true => Av r ((a.K,.vec a.e a.sz none true) :: T)
  | _,_ => false
theorem Cc (ρ : Ro) (K : Nat) : ∀ l : List DV,dvs ρ (sq K l) = kK K (dvs ρ l)
 | [] => by simp [sq,dvs,kK]
 | x :: xs => by
  simp only [sq,dvs,kK,Cc ρ K xs]
  congr 1
  cases x with
  | vec j => simp only [DV.v]; cases Nat.beq j K <;> simp [DV.v,DP.v]
  | _ => simp only [DV.v]
theorem FnS.fG {P : Program} {ρ : Ro} {g : FuncId} {R : SV → Tab → Prop} : ∀ {l : List qa} {T : az} {args : List DV},Av l T = true → FnS P g (dvs ρ args) (aG ρ (ka l T)) R → FnS P g (dvs ρ (ot l args)) (aG ρ T) R
 | [],T,args,_,h => h
 | a :: r,T,args,hb,h => by
  simp only [Av] at hb
  split at hb
  ·rename_i h1 h2
   have h3 := FnS.fG (l := r) hb h
   refine FnS.OF a.K a.e a.sz (dvs ρ (ot r args)) ?_ ?_ h2 h3
   ·simp only [ot]; exact (Cc ρ a.K _).symm
   ·rw [cO]; cases hq : lk T a.K with
    | none => rfl
    | some x => rw [hq] at h1; simp at h1
  ·cases hb
def kb (P : Program) (σ : DSt) (o : Oper) : Option (Nat × List DV) :=
 match o.op with
 | .call c => match c.callee with
  | .value f => match dev σ f with
   | .fn (.func g) first caps => some (g,apps first (apps (ib σ c.args.toList) caps))
   | _ => none
  | .invoke r m => match dev σ r with
   | .ifc t x => match methodOf P t m with
    | some g => some (g,x :: ib σ c.args.toList)
    | none => none
   | _ => none
  | _ => none
 | _ => none
theorem Cd (ρ : Ro) : ∀ a b : List DV,dvs ρ (apps a b) = apps (dvs ρ a) (dvs ρ b)
 | [],b => by simp [apps,dvs]
 | x :: a,b => by simp only [apps,dvs,Cd ρ a b]
theorem DF {P : Program} (ρ : Ro) {σ : DSt} {o : Oper} {g : Nat} {xs : List DV} (h : kb P σ o = some (g,xs)) : lJ P (σ.v ρ) o = some (g,dvs ρ xs) := by
 unfold kb at h
 unfold lJ
 split at h
 ·rename_i c hop
  split at h
  ·rename_i f hcv
   split at h
   ·rename_i g' first caps hf
    simp only [Option.some.injEq,Prod.mk.injEq] at h; obtain ⟨rfl,rfl⟩ := h
    simp only [hop,hcv,aA,hf,DV.v,Cd,vT]
   ·cases h
  ·rename_i r m hcv
   split at h
   ·rename_i t x hf
    split at h
    ·rename_i g' hm
     simp only [Option.some.injEq,Prod.mk.injEq] at h; obtain ⟨rfl,rfl⟩ := h
     simp only [hop,hcv,aA,hf,DV.v,hm,dvs,vT]
    ·cases h
   ·cases h
  ·cases h
 ·cases h
mutual
def DV.inB (T : az) : DV → Bool
 | .vec j => (lk T j).isSome
 | .ptr j _ => (lk T j).isSome
 | .vptr j _ _ _ => (lk T j).isSome
 | .ref j => (lk T j).isSome
 | .agg xs => jN T xs
 | .tup xs => jN T xs
 | .fn _ first caps => match jN T first with | true => jN T caps | false => false
 | .ifc _ x => DV.inB T x
 | .u => true
 | .p _ _ => true
 | .pd _ _ _ => true
 | .pc _ _ => true
def jN (T : az) : List DV → Bool
 | [] => true
 | x :: xs => match DV.inB T x with | true => jN T xs | false => false
end
theorem fA {ρ : Ro} {T : az} {k : Nat} : (lk (aG ρ T) k).isSome = (lk T k).isSome := by rw [cO]; cases lk T k <;> rfl
mutual
theorem Mt {ρ : Ro} {T : az} : ∀ x : DV,(x.v ρ).inB (aG ρ T) = x.inB T
 | .vec j => by simp only [DV.v,SV.inB,DV.inB,fA]
 | .ptr j _ => by simp only [DV.v,SV.inB,DV.inB,fA]
 | .vptr j _ _ _ => by simp only [DV.v,SV.inB,DV.inB,fA]
 | .ref j => by simp only [DV.v,SV.inB,DV.inB,fA]
 | .agg xs => by simp only [DV.v,SV.inB,DV.inB,ml xs]
 | .tup xs => by simp only [DV.v,SV.inB,DV.inB,ml xs]
 | .fn _ first caps => by simp only [DV.v,SV.inB,DV.inB,ml first,ml caps]; rfl
 | .ifc _ x => by simp only [DV.v,SV.inB,DV.inB,Mt x]
 | .u => by simp only [DV.v,SV.inB,DV.inB]
 | .p _ _ => by simp only [DV.v,SV.inB,DV.inB]
 | .pd _ _ _ => by simp only [DV.v,SV.inB,DV.inB]
 | .pc _ _ => by simp only [DV.v,SV.inB,DV.inB]
theorem ml {ρ : Ro} {T : az} : ∀ xs : List DV,gC (aG ρ T) (dvs ρ xs) = jN T xs
 | [] => by simp only [dvs,gC,jN]
 | x :: xs => by simp only [dvs,gC,jN,Mt x,ml xs]; rfl
end
def wP (T0 : az) : az → Bool
 | [] => true
 | (_,.box _ cells) :: r => match jN T0 cells with | true => wP T0 r | false => false
 | _ :: r => wP T0 r
theorem ou {ρ : Ro} {T0 : az} : ∀ r : az,fD (aG ρ T0) (aG ρ r) = wP T0 r
 | [] => rfl
 | (k,x) :: r => by cases x <;> simp only [aG,DO.v,fD,wP,ml,ou r] <;> rfl
def wQ (n : Nat) (T0 T : az) : az → Bool
 | [] => true
 | (k,_) :: r => match (lk T0 k).isSome,(lk T k).isSome,Nat.ble (k + 1) n with
  | true,_,_ => wQ n T0 T r
  | false,false,true => wQ n T0 T r
  | _,_,_ => false
theorem Ix {ρ ρ' : Ro} {n : Nat} {T0 T : az} : ∀ r : az,fN n (aG ρ T0) (aG ρ T) (aG ρ' r) = wQ n T0 T r
 | [] => rfl
 | (k,x) :: r => by
  simp only [aG,fN,wQ,fA,Ix r]; rfl
def tu (T' : az) : List Nat → List Nat
 | [] => []
 | k :: ks => match (lk T' k).isSome with | true => tu T' ks | false => k :: tu T' ks
theorem Ce {ρ : Ro} {T' : az} : ∀ ks : List Nat,gone (aG ρ T') ks = tu T' ks
 | [] => rfl
 | k :: ks => by simp only [gone,tu,fA,Ce ks]; rfl
theorem Cf {ρ : Ro} : ∀ T : az,keys (aG ρ T) = cZ T
 | [] => rfl
 | (k,x) :: r => by simp only [aG,keys,cZ,Cf r]
def ke : List Nat → bq → bq
 | [],l => l
 | k :: ks,l => ke ks (fX k .u (fun _ => .u) l)
def ow : List Nat → az → az
 | [],T => T
 | k :: ks,T => ow ks (j4 k .u (fun _ => .u) T)
theorem wR (ρ : Ro) : ∀ (ks : List Nat) (l : bq),bK ρ (ke ks l) = fM ks (bK ρ l)
 | [],l => rfl
 | k :: ks,l => by simp only [ke,fM,wR ρ ks,mQ,dVU]
theorem Cg (ρ : Ro) : ∀ (ks : List Nat) (l : az),aG ρ (ow ks l) = gE ks (aG ρ l)
 | [],l => rfl
 | k :: ks,l => by simp only [ow,gE,Cg ρ ks,sZ,dVU]
theorem Mu (ρ : Ro) : ∀ (ks : List Nat) (l : az),aG ρ (rmK ks l) = rmK ks (aG ρ l)
 | [],l => rfl
 | k :: ks,l => by simp only [rmK,Mu ρ ks,iC]
theorem Mv (ρ : Ro) : ∀ (a b : az),aG ρ (app a b) = app (aG ρ a) (aG ρ b)
 | [],b => rfl
 | (k,x) :: a,b => by simp only [app,aG,Mv ρ a b]
def Mw (T0 T' : az) (S : bq) : bq := ke (tu T' (cZ T0)) S
def Gg (T0 T' : az) (T : az) : az := app T' (ow (tu T' (cZ T0)) (rmK (cZ T0) T))
theorem mn : ∀ (ks : List Nat) {a b : List (Nat × SV)},(∀ t,lk a t = lk b t) → ∀ t,lk (fM ks a) t = lk (fM ks b) t
 | [],_,_,h => h
 | k :: ks,a,b,h => mn ks fun t => by rw [jL,jL,h t]
theorem ox : ∀ (ks : List Nat) {a b : Tab},(∀ t,lk a t = lk b t) → ∀ t,lk (gE ks a) t = lk (gE ks b) t
 | [],_,_,h => h
 | k :: ks,a,b,h => ox ks fun t => by rw [mS,mS,h t]
theorem ug {α : Type} : ∀ (ks : List Nat) {a b : List (Nat × α)},(∀ t,lk a t = lk b t) → ∀ t,lk (rmK ks a) t = lk (rmK ks b) t
 | [],_,_,h => h
 | k :: ks,a,b,h => ug ks fun t => by rw [kU,kU,h t]
theorem Ci {n : Nat} : ∀ (ks : List Nat) {S : bq},(∀ t v,lk S t = some v → Sc n v.vars) → ∀ t v,lk (ke ks S) t = some v → Sc n v.vars
 | [],_,h => h
 | k :: ks,S,h => Ci ks fun t v hl => by
  rw [jK] at hl
  cases hq : lk S t with
  | none => simp [hq] at hl
  | some x => simp only [hq,Option.map_some,Option.some.injEq] at hl; subst hl; exact Go.TL.kT (by simp [DV.vars,Sc.nil]) (fun _ => by simp [DV.vars,Sc.nil]) (h t x hq)
theorem wS {n : Nat} : ∀ (ks : List Nat) {S : az},(∀ t v,lk S t = some v → Sc n v.vars) → ∀ t v,lk (ow ks S) t = some v → Sc n v.vars
 | [],_,h => h
 | k :: ks,S,h => wS ks fun t v hl => by
  rw [mR] at hl
  cases hq : lk S t with
  | none => simp [hq] at hl
  | some x => simp only [hq,Option.map_some,Option.some.injEq] at hl; subst hl; exact DO.kT (by simp [DV.vars,Sc.nil]) (fun _ => by simp [DV.vars,Sc.nil]) (h t x hq)
def Tm.vars : Tm → List Nat
 | .v k => [k]
 | .i e => e.vars
 | .b f => f.vars
 | .s e => e.vars
 | .l x => aL x
def vg (n : Nat) : Th → Bool
 | [] => true
 | (_,t) :: r => match scB n t.vars with | true => vg n r | false => false
theorem Ey {n : Nat} : ∀ {θ : Th},vg n θ = true → ∀ k t,lk θ k = some t → Sc n t.vars
 | (j,t0) :: r,h,k,t,hl => by
  simp only [vg] at h
  split at h
  ·rename_i h1
   simp only [lk] at hl
   cases hb : Nat.beq j k with
   | true => simp only [hb,Option.some.injEq] at hl; subst hl; exact j9 h1
   | false => simp only [hb] at hl; exact Ey h k t hl
  ·cases h
def tv (θ : Th) : Nat → Bool
 | 0 => true
 | n + 1 => match lk θ n with | some _ => tv θ n | none => false
theorem Cj {θ : Th} : ∀ {n : Nat},tv θ n = true → ∀ k,k < n → ∃ t,lk θ k = some t
 | n + 1,h,k,hk => by
  simp only [tv] at h
  split at h
  ·rename_i t ht
   by_cases e : k = n
   ·subst e; exact ⟨t,ht⟩
   ·exact Cj h k (by omega)
  ·cases h
theorem Q4 {n : Nat} {ρ ρ2 : Ro} {θ : Th} (ha : ao n ρ ρ2) (hs : vg n θ = true) {k : Nat} {t : Tm} (hl : lk θ k = some t) : ap ρ2 θ k = ap ρ θ k := by
 have h := Ey hs k t hl
 simp only [ap,hl]
 cases t <;> simp only [Tm.vars] at h
 case v j => exact ha j (Sc.cons.1 h).1
 case i e => simp only [Lin.ag ha h]
 case b f => simp only [BF.ag ha h]
 case s e => simp only [SE.ag ha h]
 case l l => simp only [dR ha h]
def iZ (nv nx : Nat) : Nat → Th
 | 0 => []
 | w + 1 => (nv + w,.v (nx + w)) :: iZ nv nx w
theorem sr (nv nx : Nat) : ∀ (w k : Nat),lk (iZ nv nx w) k = if nv ≤ k ∧ k < nv + w then some (.v (nx + (k - nv))) else none
 | 0,k => by rw [if_neg (by omega)]; rfl
 | w + 1,k => by
  simp only [iZ,bS,sr nv nx w k]
  by_cases e : k = nv + w
  ·subst e; rw [if_pos rfl,if_pos ⟨by omega,by omega⟩]; congr 3; omega
  ·rw [if_neg e]
   by_cases h : nv ≤ k ∧ k < nv + w
   ·rw [if_pos h,if_pos ⟨h.1,by omega⟩]
   ·rw [if_neg h,if_neg (by omega)]
theorem su {α : Type} : ∀ (a b : List (Nat × α)) (k : Nat),lk (a ++ b) k = match lk a k with | some x => some x | none => lk b k
 | [],b,k => rfl
 | (j,x) :: a,b,k => by
  simp only [List.cons_append,lk]
  cases Nat.beq j k with
  | true => rfl
  | false => exact su a b k
def ep (nv nx w : Nat) (ρ ρ' : Ro) : Ro := fun k => if nx ≤ k ∧ k < nx + w then ρ' (nv + (k - nx)) else ρ k
theorem zC (nv nx w : Nat) (ρ ρ' : Ro) : ao nx ρ (ep nv nx w ρ ρ') := fun k hk => by unfold ep; rw [if_neg (by omega)]
theorem Iy {nv nx w : Nat} {ρ ρ' : Ro} {θ : Th} (ha : tv θ nv = true) (hs : vg nx θ = true) (hag : ao nv (ap ρ θ) ρ') : ao (nv + w) (ap (ep nv nx w ρ ρ') (iZ nv nx w ++ θ)) ρ' := by
 intro k hk
 by_cases h : k < nv
 ·obtain ⟨t,ht⟩ := Cj ha k h
  have e1 : lk (iZ nv nx w ++ θ) k = some t := by rw [su,sr,if_neg (by omega)]; exact ht
  have e2 : ap (ep nv nx w ρ ρ') (iZ nv nx w ++ θ) k = ap (ep nv nx w ρ ρ') θ k := by simp only [ap,e1,ht]
  rw [e2,Q4 (zC nv nx w ρ ρ') hs ht]; exact hag k h
 ·have e1 : lk (iZ nv nx w ++ θ) k = some (.v (nx + (k - nv))) := by rw [su,sr,if_pos (by omega)]
  simp only [ap,e1,ep]
  rw [if_pos (by omega)]; congr 1; omega
theorem Ku {nv nx w : Nat} {ρ ρ' : Ro} (h : Gok ρ) (h' : Gok ρ') : Gok (ep nv nx w ρ ρ') := by
 have key : ∀ k,ep nv nx w ρ ρ' k = ρ' (nv + (k - nx)) ∨ ep nv nx w ρ ρ' k = ρ k := fun k => by unfold ep; split <;> simp
 constructor <;> intro k <;> rcases key k with e | e <;> rw [e]
 ·exact h'.lo _
 ·exact h.lo _
 ·exact h'.hi _
 ·exact h.hi _
 ·exact h'.st _
 ·exact h.st _
 ·exact h'.ln _
 ·exact h.ln _
def oy (θ : Th) : List (Nat × TypeId) → List (Nat × TypeId)
 | [] => []
 | (k,e) :: r => match kr θ (some k) with
  | some j => (j,e) :: oy θ r
  | none => oy θ r
theorem sx {P : Program} {ρ : Ro} {θ : Th} : ∀ {l : List (Nat × TypeId)},cb P (ap ρ θ) l → cb P ρ (oy θ l)
 | [],_ => trivial
 | (k,e) :: r,h => by
  simp only [oy]
  have hlv := iS ρ θ (some k)
  simp only [lvV] at hlv
  split
  ·rename_i j hj
   rw [hj] at hlv
   exact ⟨by have := h.1; rw [← hlv] at this; exact this,sx h.2⟩
  ·exact sx h.2
def vh (θ : Th) : List Lin → List Lin
 | [] => []
 | e :: r => e.si θ :: vh θ r
theorem wT {ρ : Ro} {θ : Th} : ∀ {l : List Lin},aR (ap ρ θ) l → aR ρ (vh θ l)
 | [],_ => trivial
 | e :: r,h => ⟨by rw [Lin.dD]; exact h.1,wT h.2⟩
def oz (θ : Th) : List PF → List PF
 | [] => []
 | f :: r => match f.inst θ with
  | some g => g :: oz θ r
  | none => oz θ r
theorem sy {I : Pr} {ρ : Ro} {θ : Th} : ∀ {l : List PF},bQ I (ap ρ θ) l → bQ I ρ (oz θ l)
 | [],_ => trivial
 | f :: r,h => by
  simp only [oz]
  split
  ·rename_i g hg; exact ⟨(PF.gP I ρ θ hg).2 h.1,sy h.2⟩
  ·exact sy h.2
def bh.vars (p : bh) : List Nat := av p.res ++ (iB p.tab ++ (iJ p.tys ++ (gb p.lin ++ iI p.prs)))
def mo (n : Nat) (σ1 : DSt) (o : Oper) (T0 : az) (θ : Th) (π : Nat → Nat) (nv : Nat) (p : bh) : Option DSt :=
 let θp := iZ nv σ1.nx p.nw ++ θ
 let nx := σ1.nx + p.nw
 match fw θp π p.tab with
 | some T' =>
  let res := (dmk p.res).inst θp π
  let tys := oy θp p.tys
  let lin := vh θp p.lin
  let prs := oz θp p.prs
  match wQ n T0 σ1.tab T',scB nx (res.vars ++ (iB T' ++ (iJ tys ++ (gb lin ++ iI prs)))),scB (nv + p.nw) p.vars with
  | true,true,true => some (DSt.put ⟨Mw T0 T' σ1.ab,Gg T0 T' σ1.tab,tys ++ σ1.tys,lin ++ σ1.lin,prs ++ σ1.prs,nx,σ1.hc⟩ o.dst res)
  | _,_,_ => none
 | none => none
theorem yo {n : Nat} {ρ ρ' : Ro} (h : ao n ρ ρ') : ∀ {l : az},Sc n (iB l) → aG ρ' l = aG ρ l
 | [],_ => rfl
 | (k,x) :: r,hs => by simp only [iB,Sc.app] at hs; simp only [aG,DO.ag h hs.1,yo h hs.2]
theorem Ck {P : Program} {n : Nat} {ρ ρ' : Ro} (h : ao n ρ ρ') : ∀ {l : List (Nat × TypeId)},Sc n (iJ l) → cb P ρ l → cb P ρ' l
 | [],_,_ => trivial
 | (k,e) :: r,hs,hv => by
  simp only [iJ,Sc.cons] at hs
  exact ⟨by rw [h k hs.1]; exact hv.1,Ck h hs.2 hv.2⟩
theorem zD {n : Nat} {ρ ρ' : Ro} (h : ao n ρ ρ') : ∀ {l : List Lin},Sc n (gb l) → aR ρ l → aR ρ' l
 | [],_,_ => trivial
 | e :: r,hs,hv => by
  simp only [gb,Sc.app] at hs
  exact ⟨by rw [Lin.ag h hs.1]; exact hv.1,zD h hs.2 hv.2⟩
theorem Cl {I : Pr} {n : Nat} {ρ ρ' : Ro} (h : ao n ρ ρ') : ∀ {l : List PF},Sc n (iI l) → bQ I ρ l → bQ I ρ' l
 | [],_,_ => trivial
 | e :: r,hs,hv => by
  simp only [iI,Sc.app] at hs
  exact ⟨by rw [PF.ag h hs.1]; exact hv.1,Cl h hs.2 hv.2⟩
theorem Kv (l : List DV) : (dmk l).vars = av l := by
 unfold dmk; split
 ·simp [av]
 ·simp [DV.vars]
theorem ao.symm {n : Nat} {ρ ρ' : Ro} (h : ao n ρ ρ') : ao n ρ' ρ := fun k hk => (h k hk).symm
theorem uh {P : Program} {I : Pr} {n nv : Nat} {σ1 σ' : DSt} {o : Oper} {T0 : az} {θ : Th} {π : Nat → Nat} {p : bh} (h : mo n σ1 o T0 θ π nv p = some σ') (hs : σ1.sc) (hall : tv θ nv = true) (htm : vg σ1.nx θ = true) :
  σ'.sc ∧ σ1.nx ≤ σ'.nx ∧ ∀ ρ ρ',σ1.ok P I ρ → ao nv (ap ρ θ) ρ' → (p.st nv).ok P I ρ' →
   fN n (aG ρ T0) (σ1.v ρ).tab (cK π (aG ρ' p.tab)) = true ∧
   ∃ ρ2,ao σ1.nx ρ ρ2 ∧ σ'.ok P I ρ2 ∧ bu ((St.after (σ1.v ρ) (aG ρ T0) (cK π (aG ρ' p.tab))).put o.dst (SV.rn π ((dmk p.res).v ρ'))) (σ'.v ρ2) := by
 unfold mo at h
 simp only at h
 split at h
 ·rename_i T' hT'
  split at h
  ·rename_i h1 h2 h3
   simp only [Option.some.injEq] at h; subst h
   have h2 := j9 h2
   have h3 := j9 h3
   simp only [bh.vars,Sc.app] at h2 h3
   have hnx : σ1.nx ≤ σ1.nx + p.nw := Nat.le_add_right _ _
   refine ⟨?_,by rw [cC]; exact hnx,?_⟩
   ·refine DSt.sc.put ⟨?_,?_,?_,?_,?_⟩ o.dst h2.1
    ·exact Ci _ fun t v hl => (hs.ab t v hl).mono hnx
    ·intro k v hl
     simp only [Gg] at hl
     rw [jW] at hl
     split at hl
     ·rename_i x hx
      simp only [Option.some.injEq] at hl; subst hl
      exact p6 h2.2.1 k x hx
     ·exact wS _ (fun t v hl => (hs.tab t v (vD _ _ _ _ hl).1).mono hnx) k v hl
    ·intro k e he
     rcases List.mem_append.1 he with he | he
     ·exact p8 h2.2.2.1 k e he
     ·exact Nat.lt_of_lt_of_le (hs.tys k e he) hnx
    ·intro e he
     rcases List.mem_append.1 he with he | he
     ·exact nB h2.2.2.2.1 e he
     ·exact (hs.lin e he).mono hnx
    ·intro e he
     rcases List.mem_append.1 he with he | he
     ·exact p7 h2.2.2.2.2 e he
     ·exact (hs.prs e he).mono hnx
   ·intro ρ ρ' hok hag hp
    have ha2 := zC nv σ1.nx p.nw ρ ρ'
    have hap := Iy (w := p.nw) hall htm hag
    have hap' := hap.symm
    have hT2 : aG (ep nv σ1.nx p.nw ρ ρ') T' = cK π (aG ρ' p.tab) := by
     rw [sa _ _ π hT',yo hap' h3.2.1]
    refine ⟨?_,ep nv σ1.nx p.nw ρ ρ',ha2,?_,?_⟩
    ·rw [← hT2]
     show fN n (aG ρ T0) (aG ρ σ1.tab) _ = true
     rw [Ix]; exact h1
    ·have hk := hok.ag hs ha2 (Ku hok.g hp.g)
     exact DSt.ok.put ⟨hk.g,jJ.2 ⟨sx (Ck hap' h3.2.2.1 hp.tys),hk.tys⟩,cq (wT (zD hap' h3.2.2.2.1 hp.lin)) hk.lin,ic.2 ⟨sy (Cl hap' h3.2.2.2.2 hp.prs),hk.prs⟩⟩ o.dst _
    ·rw [dy]
     have hr : ((dmk p.res).inst (iZ nv σ1.nx p.nw ++ θ) π).v (ep nv σ1.nx p.nw ρ ρ') = SV.rn π ((dmk p.res).v ρ') := by
      rw [gP,DV.ag hap' (by rw [Kv]; exact h3.1)]
     rw [hr]
     refine bu.put ?_ o.dst _
     have hsame : bu (σ1.v (ep nv σ1.nx p.nw ρ ρ')) (σ1.v ρ) := (DSt.eb hs ha2).symm
     constructor
     ·intro t
      simp only [St.after,DSt.v,Mw,wR,Cf]
      rw [← hT2,Ce]
      exact mn _ (fun t => (hsame.ab t).symm) t
     ·intro t
      simp only [St.after,DSt.v,Gg,Mv,Cg,Mu,Cf]
      rw [← hT2,Ce,jW,jW]
      split
      ·rfl
      ·exact ox _ (ug _ fun t => (hsame.tab t).symm) t
  ·cases h
 ·cases h
end Go.TL
namespace Go.TL
def kf (n : Nat) (σ1 : DSt) (o : Oper) (T0 : az) (θ : Th) (π : Nat → Nat) (nv : Nat) : List bh → Option (List DSt)
 | [] => some []
 | p :: r => match mo n σ1 o T0 θ π nv p,kf n σ1 o T0 θ π nv r with
  | some σ',some l => some (σ' :: l)
  | _,_ => none
theorem qI {n : Nat} {σ1 : DSt} {o : Oper} {T0 : az} {θ : Th} {π : Nat → Nat} {nv : Nat} : ∀ {ps : List bh} {l : List DSt},kf n σ1 o T0 θ π nv ps = some l →
  (∀ p ∈ ps, ∃ σ' ∈ l,mo n σ1 o T0 θ π nv p = some σ') ∧ ∀ σ' ∈ l, ∃ p ∈ ps,mo n σ1 o T0 θ π nv p = some σ'
 | [],l,h => by simp only [kf,Option.some.injEq] at h; subst h; exact ⟨by simp,by simp⟩
 | p :: r,l,h => by
  simp only [kf] at h
  split at h
  ·rename_i σ' l' h1 h2
   simp only [Option.some.injEq] at h; subst h
   obtain ⟨a,b⟩ := qI h2
   refine ⟨?_,?_⟩
   ·intro q hq
    rcases List.mem_cons.1 hq with rfl | hq
    ·exact ⟨σ',List.mem_cons_self ..,h1⟩
    ·obtain ⟨x,h3,h4⟩ := a q hq; exact ⟨x,List.mem_cons_of_mem _ h3,h4⟩
   ·intro x hx
    rcases List.mem_cons.1 hx with rfl | hx
    ·exact ⟨p,List.mem_cons_self ..,h1⟩
    ·obtain ⟨q,h3,h4⟩ := b x hx; exact ⟨q,List.mem_cons_of_mem _ h3,h4⟩
  ·cases h
def wU (T : az) : List Nat → Bool
 | [] => true
 | k :: r => match (lk T k).isSome with | true => wU T r | false => false
theorem wV {T : az} : ∀ {l : List Nat},wU T l = true → ∀ k ∈ l,lk T k ≠ none
 | k :: r,h,j,hj => by
  simp only [wU] at h
  split at h
  ·rename_i h1
   rcases List.mem_cons.1 hj with rfl | hj
   ·intro e; rw [e] at h1; cases h1
   ·exact wV h j hj
  ·cases h
theorem ui {α : Type} : ∀ {l : List (Nat × α)} {k : Nat},lk l k ≠ none → k ∈ cZ l
 | [],k,h => by simp [lk] at h
 | (j,x) :: r,k,h => by
  simp only [lk] at h
  simp only [cZ,List.mem_cons]
  cases hb : Nat.beq j k with
  | true => exact .inl (Nat.eq_of_beq_eq_true hb).symm
  | false => simp only [hb] at h; exact .inr (ui h)
def Mx (θ : Th) (e : Lin) : Option Nat → List G
 | none => []
 | some m => [.le (((e.si θ).aD 1).ax (-1) (Lin.at (4 * m + 2))),.le (Lin.scale (-1) (e.si θ)),.pf (.pr 0 [m])]
def Cm (P : Program) (n : Nat) (s : Spec) (mx : Option Nat) (σ1 : DSt) (o : Oper) (g : Nat) (args1 : List DV) (π : Nat → Nat) (fG : List qa) (T0 : az) (θ : Th) : aQ :=
 match Nat.beq g s.fn,aE P s.fn,tv θ s.nv,vg σ1.nx θ,lr θ σ1.tys s.tys with
 | true,true,true,true,true => match yd θ,BU θ s.prs,fw θ π s.tab,kf n σ1 o T0 θ π s.nv s.gW with
  | some g1,some g2,some T,some outs => match wv (ka fG T0) T,wU T (cZ (ka fG T0)),Av fG T0,iT args1 (ot fG (fu θ π s.args)) with
   | true,true,true,true => match wP T0 T0,jN T0 args1 with
    | true,true => some (outs,todo σ1 (g1 ++ (Am θ s.lin ++ (g2 ++ Mx θ s.gf mx))))
    | _,_ => none
   | _,_,_,_ => none
  | _,_,_,_ => none
 | _,_,_,_,_ => none
def oA (P : Program) (I : Pr) (s : Spec) : Option Nat → Prop
 | none => Po P I s
 | some _ => ∃ N : Nat,(∀ va : Va,I 0 [va] → rsz va.l ≤ N) ∧ fy P I N s
theorem DG {P : Program} {I : Pr} {n : Nat} {s : Spec} {mx : Option Nat} {σ1 : DSt} {o : Oper} {g : Nat} {args1 : List DV} {l : List (Nat × Nat)} {fG : List qa} {ks : List Nat} {θ : Th} {outs : List DSt} {q : List Seq}
  (h : Cm P n s mx σ1 o g args1 (fK l) fG (pick σ1.tab ks) θ = some (outs,q)) (hspec : oA P I s mx) (hc : kb P σ1 o = some (g,args1)) (hV : Valid P I q) : aM P I n o σ1 outs := by
 unfold Cm at h
 split at h
 ·rename_i e1 e2 e3 e4 e5
  split at h
  ·rename_i g1 g2 T outs' f1 f2 f3 f4
   split at h
   ·rename_i k1 k2 k3 k4
    split at h
    ·rename_i k5 k6
     simp only [Option.some.injEq,Prod.mk.injEq] at h; obtain ⟨rfl,rfl⟩ := h
     have := Nat.eq_of_beq_eq_true e1; subst this
     intro hs
     obtain ⟨m1,m2⟩ := qI f4
     refine ⟨?_,?_⟩
     ·intro σ' hσ'
      obtain ⟨p,hp,hcp⟩ := m2 σ' hσ'
      have := uh (P := P) (I := I) hcp hs e3 e4
      exact ⟨this.1,this.2.1⟩
     ·intro ρ hok K Q lo w0 E0 hK a w hh hd
      have hv := fk hok hV
      rw [eL,eL,eL] at hv
      have hpre : s.pre.ok P I (ap ρ θ) := ⟨Ik hok.g f1 hv.1,mU hok.tys e5,ye hv.2.1,BV f2 hv.2.2.1⟩
      have hF : FnS P s.fn (dvs (ap ρ θ) s.args) (aG (ap ρ θ) s.tab) (jM P I s (ap ρ θ)) := by
       cases mx with
       | none => exact hspec _ hpre
       | some m =>
        obtain ⟨N,hN,hF⟩ := hspec
        refine hF _ hpre ?_
        have h4 := hv.2.2.2
        simp only [Mx,gsV,G.v,Lin.aZ,Lin.aT,Lin.aB,Lin.dD,Lin.aW,PF.v,List.map_cons,List.map_nil,and_true] at h4
        have h5 := hN _ h4.2.2
        have h6 : aN ρ (4 * m + 2) = (rsz (ρ m).l : Int) := by
         unfold aN
         have q1 : (4 * m + 2) % 4 = 2 := by omega
         have q2 : (4 * m + 2) / 4 = m := by omega
         simp only [q1,q2]
        have h7 := h4.1
        have h8 := h4.2.1
        rw [h6] at h7
        show (s.gf.v (ap ρ θ)).toNat < N
        omega
      have hF1 := hF.sws l
      rw [← ga ρ θ (fK l) s.args, ← sa ρ θ (fK l) f3] at hF1
      have hT1 : ∀ k b,lk (aG ρ T) k = some b → ∃ a,lk (aG ρ (ka fG (pick σ1.tab ks))) k = some a ∧ ∀ w E lo,OR w E lo k a → OR w E lo k b := by
       intro k b hl
       simp only [cO] at hl ⊢
       cases hq : lk T k with
       | none => simp [hq] at hl
       | some y =>
        simp only [hq,Option.map_some,Option.some.injEq] at hl; subst hl
        obtain ⟨x,hx,hle⟩ := uU k1 k y hq
        exact ⟨x.v ρ,by rw [hx]; rfl,fun w E lo hr => Il (ρ := ρ) hle hr⟩
      have hT3 : ∀ k,lk (aG ρ (ka fG (pick σ1.tab ks))) k ≠ none → lk (aG ρ T) k ≠ none := by
       intro k hk
       simp only [cO] at hk ⊢
       have h1 : lk (ka fG (pick σ1.tab ks)) k ≠ none := by intro e; rw [e] at hk; simp at hk
       have h2 := wV k2 k (ui h1)
       cases hq : lk T k with
       | none => exact absurd hq h2
       | some x => simp
      have hF2 := FnS.pre hT1 hT3 (fun _ _ _ _ h => h) hF1
      have hF3 := FnS.fG k3 hF2
      have hF4 := FnS.pre (fun k b hl => ⟨b,hl,fun _ _ _ h => h⟩) (fun _ h => h) (fun w E lo vs hv => jr (ρ := ρ) k4 hv) hF3
      refine MS (aG ρ (pick σ1.tab ks)) hd (DF ρ hc) e2 ?_ ?_ ?_ hF4 hh ?_
      ·intro k ov hl
       rw [pY] at hl
       exact eJ _ _ _ _ hl
      ·rw [ou]; exact k5
      ·rw [ml]; exact k6
      ·rintro r T' ⟨r0,T1,⟨p,hp,ρ',hag,hpo,rfl,rfl⟩,rfl,rfl⟩
       obtain ⟨σ',hσ',hcp⟩ := m1 p hp
       obtain ⟨_,_,hgo⟩ := uh (P := P) (I := I) hcp hs e3 e4
       obtain ⟨hnew,ρ2,ha2,hok2,hsame⟩ := hgo ρ ρ' hok hag hpo
       exact ⟨hnew,fun a' w' hh' => hK σ' hσ' ρ2 ha2 hok2 a' w' (hsame.holds hh')⟩
    ·cases h
   ·cases h
  ·cases h
 ·cases h
theorem aM.co {P : Program} {I : Pr} {n : Nat} {o : Oper} {σ σ1 : DSt} {outs : List DSt} (c : Co1 P n σ σ1) (h : aM P I n o σ1 outs) : aM P I n o σ outs := by
 intro hs
 obtain ⟨h1,h2⟩ := h (c.sc hs)
 refine ⟨fun σ' hσ' => ⟨(h1 σ' hσ').1,c.nx ▸ (h1 σ' hσ').2⟩,?_⟩
 intro ρ hok K Q lo w0 E0 hK a w hh hd
 exact h2 ρ (c.ok hok) K Q lo w0 E0 (fun σ' hσ' ρ' ha => hK σ' hσ' ρ' (c.nx ▸ ha)) a w (c.imp ρ lo w0 E0 a w hh) hd
abbrev Nm := List (Nat × Nat)
def Gh (K k : Nat) (m : Nm) : Nm := match lk m K with | some _ => m | none => (K,k) :: m
mutual
def My : DV → DV → Nm → Nm
 | .vec K,y,m => match y with | .vec k => Gh K k m | _ => m
 | .ptr K _,y,m => match y with | .ptr k _ => Gh K k m | _ => m
 | .vptr K _ _ _,y,m => match y with | .vptr k _ _ _ => Gh K k m | _ => m
 | .ref K,y,m => match y with | .ref k => Gh K k m | _ => m
 | .agg xs,y,m => match y with | .agg ys => kg xs ys m | _ => m
 | .tup xs,y,m => match y with | .tup ys => kg xs ys m | _ => m
 | .fn _ a b,y,m => match y with | .fn _ c d => kg b d (kg a c m) | _ => m
 | .ifc _ x,y,m => match y with | .ifc _ y => My x y m | _ => m
 | .u,_,m => m
 | .p _ _,_,m => m
 | .pd _ _ _,_,m => m
 | .pc _ _,_,m => m
def kg : List DV → List DV → Nm → Nm
 | x :: xs,ys,m => match ys with | y :: ys => kg xs ys (My x y m) | [] => m
 | [],_,m => m
end
def vi (H S : az) : Nm → Nm → Nm
 | [],m => m
 | (K,k) :: r,m => match lk H K,lk S k with
  | some (.box _ xs),some (.box _ ys) => vi H S r (kg xs ys m)
  | _,_ => vi H S r m
mutual
def Pq (S : az) : DV → DV → List Co → List Co
 | .p x _,y,l => match x,y with
  | .sl _,.vec k => fc (.fz k) l
  | .mp _ _,.ref k => fc (.fz k) l
  | _,_ => l
 | .pc _ _,y,l => match y with | .vec k => fc (.fz k) l | _ => l
 | .pd _ _ _,y,l => match y with
  | .ptr k _ => (match lk S k with | some (.box _ cells) => Ap S k cells l | _ => l)
  | _ => l
 | .agg xs,y,l => match y with | .agg ys => tw S xs ys l | _ => l
 | .tup xs,y,l => match y with | .tup ys => tw S xs ys l | _ => l
 | .fn _ _ b,y,l => match y with | .fn _ _ d => tw S b d l | _ => l
 | .ifc _ x,y,l => match y with | .ifc _ y => Pq S x y l | _ => l
 | .vec _,_,l => l
 | .ptr _ _,_,l => l
 | .u,_,l => l
 | .vptr _ _ _ _,_,l => l
 | .ref _,_,l => l
def tw (S : az) : List DV → List DV → List Co → List Co
 | x :: xs,ys,l => match ys with | y :: ys => tw S xs ys (Pq S x y l) | [] => l
 | [],_,l => l
end
def yp (H S : az) : Nm → List Co → List Co
 | [],l => l
 | (K,k) :: r,l => match lk H K,lk S k with
  | some (.box _ xs),some (.box _ ys) => yp H S r (tw S xs ys l)
  | _,_ => yp H S r l
def Mz : Nm → Nat → Bool
 | [],_ => false
 | (_,a) :: r,k => match Nat.beq a k with | true => true | false => Mz r k
def Iz (T : az) (m : Nm) : Nat → Nat
 | 0 => 0
 | k + 1 => match (lk T (k + 1)).isSome,Mz m (k + 1) with
  | false,false => k + 1
  | _,_ => Iz T m k
def yq (T : az) (d : Nat) : List Nat → Nm → Nm
 | [],m => m
 | K :: r,m => match lk m K with
  | some _ => yq T d r m
  | none => yq T d r ((K,Iz T m d) :: m)
def Gi : List DV → List DV → List Nat
 | .vec K :: xs,.p .nl _ :: ys => K :: Gi xs ys
 | _ :: xs,_ :: ys => Gi xs ys
 | _,_ => []
def Cn (k : Nat) : Nat → List DV → List DV → List (Nat × Nat × Nat)
 | j,.vec K :: xs,.p .nl _ :: ys => (k,j,K) :: Cn k (j + 1) xs ys
 | j,_ :: xs,_ :: ys => Cn k (j + 1) xs ys
 | _,_,_ => []
def Gj (H S : az) : Nm → List (Nat × Nat × Nat)
 | [] => []
 | (K,k) :: r => match lk H K,lk S k with
  | some (.box _ xs),some (.box _ ys) => Cn k 0 xs ys ++ Gj H S r
  | _,_ => Gj H S r
def yr (H : az) (m : Nm) : List (Nat × Nat × Nat) → List Co
 | [] => []
 | (k,j,K) :: r => match lk H K,lk m K with
  | some (.vec e sz _ _),some K' => .cell k j K' e sz :: yr H m r
  | _,_ => yr H m r
def IA : List (Nat × Nat × Nat) → List Nat
 | [] => []
 | (_,_,K) :: r => K :: IA r
def Cp (H : az) (m : Nm) : List Nat → List qa
 | [] => []
 | K :: r => match lk H K,lk m K with
  | some (.vec e sz _ _),some K' => ⟨K',e,sz⟩ :: Cp H m r
  | _,_ => Cp H m r
def Cq : List bh → List Nat
 | [] => []
 | p :: r => cZ p.tab ++ Cq r
def yt (acc : Nm) : Nm → Nm
 | [] => acc
 | (K,a) :: r => match fK acc K with
  | c => match Nat.beq c a with
   | true => yt acc r
   | false => yt (acc ++ [(c,a)]) r
def Ps (π : Nat → Nat) : List Nat → List Nat
 | [] => []
 | k :: r => π k :: Ps π r
def Gk (l : List qa) : List Nat → List Nat
 | [] => []
 | k :: r => match l.any (fun a => Nat.beq a.K k) with | true => Gk l r | false => k :: Gk l r
def Ez (P : Program) (n : Nat) (s : Spec) (mx : Option Nat) (σ1 : DSt) (o : Oper) (l : Nm) (fG : List qa) (ks : List Nat) : aQ :=
 match kb P σ1 o with
 | some (g,args1) => Cm P n s mx σ1 o g args1 (fK l) fG (pick σ1.tab ks) (wF 0 (ka fG (pick σ1.tab ks)) (pX (fK l) s.tab) (ma 0 (js (fK l) s.args) args1 []))
 | none => none
def EA (P : Program) (n : Nat) (s : Spec) (mx : Option Nat) (σa : DSt) (o : Oper) (nk : List Nat) (ck : List (Nat × Nat × Nat)) (m : Nm) : aQ :=
 match σa.cos n (yr s.tab m ck) with
 | some σ1 => match yt [] m,Cp s.tab m nk with
  | l,fG => Ez P n s mx σ1 o l fG (Gk fG (Ps (fK l) (cZ s.tab)))
 | none => none
def Gl (P : Program) (n : Nat) (s : Spec) (mx : Option Nat) (σ : DSt) (o : Oper) (args : List DV) : aQ :=
 match vi s.tab σ.tab (kg s.args args []) (kg s.args args []) with
 | m0 => match σ.cos n (yp s.tab σ.tab m0 (tw σ.tab s.args args [])) with
  | some σa => match Gi s.args args,Gj s.tab σa.tab m0 with
   | nk,ck => EA P n s mx σa o nk ck (yq σa.tab (match o.dst with | some d => d | none => n - 1) (nk ++ (IA ck ++ Cq s.gW)) m0)
  | none => none
theorem Gm {P : Program} {I : Pr} {n : Nat} {s : Spec} {mx : Option Nat} {σ : DSt} {o : Oper} {args : List DV} {outs : List DSt} {q : List Seq} (h : Gl P n s mx σ o args = some (outs,q)) (hspec : oA P I s mx) (hV : Valid P I q) :
  aM P I n o σ outs := by
 unfold Gl at h
 simp only at h
 split at h
 ·rename_i σa ha
  refine aM.co (oh ha) ?_
  unfold EA at h
  split at h
  ·rename_i σ1 h1
   refine aM.co (oh h1) ?_
   simp only at h
   unfold Ez at h
   split at h
   ·rename_i g args1 hc
    exact DG h hspec hc hV
   ·cases h
  ·cases h
 ·cases h
def lA (P : Program) (n : Nat) (σ : DSt) (o : Oper) (g : Nat) (args : List DV) : List (Spec × Option Nat) → aQ
 | [] => none
 | (s,mx) :: r => match Nat.beq s.fn g with
  | true => match Gl P n s mx σ o args with
   | some x => some x
   | none => lA P n σ o g args r
  | false => lA P n σ o g args r
def Gn (P : Program) (n : Nat) (SS : List (Spec × Option Nat)) (σ : DSt) (o : Oper) : aQ :=
 match kb P σ o with
 | some (g,args) => lA P n σ o g args SS
 | none => none
theorem Gp {P : Program} {I : Pr} {n : Nat} {SS : List (Spec × Option Nat)} (hS : ∀ p ∈ SS,oA P I p.1 p.2) : Handler P I n (Gn P n SS) := by
 intro σ o outs q h hV
 unfold Gn at h
 split at h
 ·rename_i g args hc
  have key : ∀ L : List (Spec × Option Nat),(∀ p ∈ L,oA P I p.1 p.2) → lA P n σ o g args L = some (outs,q) → aM P I n o σ outs := by
   intro L
   induction L with
   | nil => intro _ h; simp [lA] at h
   | cons p r ih =>
    obtain ⟨s,mx⟩ := p
    intro hL h
    simp only [lA] at h
    split at h
    ·split at h
     ·rename_i x hx
      simp only [Option.some.injEq] at h; subst h
      exact Gm hx (hL _ (List.mem_cons_self ..)) hV
     ·exact ih (fun p hp => hL p (List.mem_cons_of_mem _ hp)) h
    ·exact ih (fun p hp => hL p (List.mem_cons_of_mem _ hp)) h
  exact key SS hS h
 ·cases h
end Go.TL
namespace Go.TL
def hOr (h1 h2 : DSt → Oper → aQ) (σ : DSt) (o : Oper) : aQ :=
 match h1 σ o with
 | some r => some r
 | none => h2 σ o
theorem vj {P : Program} {I : Pr} {n : Nat} {h1 h2 : DSt → Oper → aQ} (k1 : Handler P I n h1) (k2 : Handler P I n h2) : Handler P I n (hOr h1 h2) := by
 intro σ o outs q h hV
 unfold hOr at h
 split at h
 ·rename_i r hr
  simp only [Option.some.injEq] at h; subst h
  exact k1 σ o outs q hr hV
 ·exact k2 σ o outs q h hV
def kY (σ : DSt) (t : Nat) (k : IntKind) (e : Lin) (fr : Bool) (j : Nat) : DSt :=
 { σ with ab := (t,.p (.int k (Lin.lit j)) fr) :: σ.ab,lin := e.aD (-j) :: (Lin.scale (-1) e).aD j :: σ.lin }
def oB (P : Program) (σ : DSt) (o : Oper) (t : Nat) (k : IntKind) (e : Lin) (fr : Bool) : Nat → aQ
 | 0 => some ([],[])
 | j + 1 => match dop P (kY σ t k e fr j) o,oB P σ o t k e fr j with
  | some (σ',gs),some (l,q) => some (σ' :: l,todo (kY σ t k e fr j) gs ++ q)
  | _,_ => none
def Cr (P : Program) (σ : DSt) (o : Oper) : aQ :=
 match o.op with
 | .index xt x (.tmp t) => match lk σ.ab t,dev σ x,P.underlying xt with
  | some (.p (.int k e) fr),.agg _,some (.array len _) => match Nat.ble len 100 with
   | true => match oB P σ o t k e fr len with
    | some (l,q) => some (l,q ++ todo σ [.le (Lin.scale (-1) e),.le ((e.aD 1).aD (-len))])
    | none => none
   | false => none
  | _,_,_ => none
 | _ => none
theorem Kw {σ : DSt} (hs : σ.sc) {t : Nat} {k : IntKind} {e : Lin} {fr : Bool} (hl : lk σ.ab t = some (.p (.int k e) fr)) (j : Nat) : (kY σ t k e fr j).sc := by
 have he : Sc σ.nx e.vars := by have := hs.ab t _ hl; simpa [DV.vars,DP.vars] using this
 refine ⟨?_,hs.tab,hs.tys,?_,hs.prs⟩
 ·intro t' v h
  simp only [kY,bS] at h
  split at h
  ·simp only [Option.some.injEq] at h; subst h; simp [DV.vars,DP.vars,Lin.lit,Lin.vars,cB,Sc.nil]
  ·exact hs.ab t' v h
 ·intro x hx
  simp only [kY,List.mem_cons] at hx
  rcases hx with rfl | rfl | hx
  ·exact Lin.aX he
  ·exact Lin.aX (Lin.cL he)
  ·exact hs.lin x hx
theorem Kx {P : Program} {I : Pr} {σ : DSt} {ρ : Ro} (hok : σ.ok P I ρ) {t : Nat} {k : IntKind} {e : Lin} {fr : Bool} {j : Nat} (he : e.v ρ = j) : (kY σ t k e fr j).ok P I ρ := by
 refine ⟨hok.g,hok.tys,⟨?_,?_,hok.lin⟩,hok.prs⟩
 ·rw [Lin.aB]; omega
 ·rw [Lin.aB,Lin.aT]; omega
theorem Gq {σ : DSt} {ρ : Ro} {t : Nat} {k : IntKind} {e : Lin} {fr : Bool} {j : Nat} (hl : lk σ.ab t = some (.p (.int k e) fr)) (he : e.v ρ = j) : bu (σ.v ρ) ((kY σ t k e fr j).v ρ) := by
 refine ⟨fun t' => ?_,fun _ => rfl⟩
 simp only [kY,DSt.v,bK,bS]
 split
 ·rename_i h; subst h
  simp only [eh,hl,Option.map_some,DV.v,DP.v,he,Lin.bI]
 ·rfl
theorem Ct {P : Program} {I : Pr} {n : Nat} {σ : DSt} {o : Oper} {t : Nat} {k : IntKind} {e : Lin} {fr : Bool} (hl : lk σ.ab t = some (.p (.int k e) fr)) : ∀ (m : Nat) (l : List DSt) (q : List Seq),oB P σ o t k e fr m = some (l,q) → Valid P I q →
  σ.sc → (∀ σ' ∈ l,σ'.sc ∧ σ.nx ≤ σ'.nx) ∧ ∀ ρ,σ.ok P I ρ → 0 ≤ e.v ρ → e.v ρ < m → ∀ (K : Act → World → Prop) (Q : Exit → Act → World → Prop) (lo : Nat) (w0 : World) (E0 : Env),
   (∀ σ' ∈ l, ∀ ρ',ao σ.nx ρ ρ' → σ'.ok P I ρ' → ∀ a' w',Holds (mkC P n lo w0 E0) (σ'.v ρ') a' w' → K a' w') →
   ∀ a w,Holds (mkC P n lo w0 E0) (σ.v ρ) a w → (∀ d,o.dst = some d → d < n) → o.wp P a w K Q := by
 intro m
 induction m with
 | zero =>
  intro l q h hV hs
  simp only [oB,Option.some.injEq,Prod.mk.injEq] at h; obtain ⟨rfl,rfl⟩ := h
  refine ⟨by simp,?_⟩
  intro ρ hok h0 h1
  exact absurd h1 (by have : ((0 : Nat) : Int) = 0 := rfl; omega)
 | succ m ih =>
  intro l q h hV hs
  simp only [oB] at h
  split at h
  ·rename_i σ1 gs l1 q1 h1 h2
   simp only [Option.some.injEq,Prod.mk.injEq] at h; obtain ⟨rfl,rfl⟩ := h
   have V1 : Valid P I (todo (kY σ t k e fr m) gs) := fun s hs => hV s (List.mem_append.2 (.inl hs))
   have V2 : Valid P I q1 := fun s hs => hV s (List.mem_append.2 (.inr hs))
   obtain ⟨i1,i2⟩ := ih l1 q1 h2 V2 hs
   obtain ⟨d1,d2⟩ := u6 (n := n) h1 V1 (Kw hs hl m)
   refine ⟨?_,?_⟩
   ·intro σ' hσ'
    rcases List.mem_cons.1 hσ' with rfl | hσ'
    ·exact d1 _ (by simp)
    ·exact i1 σ' hσ'
   ·intro ρ hok h0 hlt K Q lo w0 E0 hK a w hh hd
    by_cases he : e.v ρ = m
    ·refine d2 ρ (Kx hok he) K Q lo w0 E0 ?_ a w ((Gq hl he).holds hh) hd
     intro σ' hσ' ρ' ha hok' a' w' hh'
     simp only [List.mem_singleton] at hσ'; subst hσ'
     exact hK _ (List.mem_cons_self ..) ρ' ha hok' a' w' hh'
    ·exact i2 ρ hok h0 (by omega) K Q lo w0 E0 (fun σ' hσ' => hK σ' (List.mem_cons_of_mem _ hσ')) a w hh hd
  ·cases h
theorem DH {P : Program} {I : Pr} {n : Nat} : Handler P I n (Cr P) := by
 intro σ o outs q h hV
 unfold Cr at h
 split at h
 ·rename_i xt x t hop
  split at h
  ·rename_i k e fr xs len et hl hx hu
   split at h
   ·split at h
    ·rename_i l q1 hg
     simp only [Option.some.injEq,Prod.mk.injEq] at h; obtain ⟨rfl,rfl⟩ := h
     have V1 : Valid P I q1 := fun s hs => hV s (List.mem_append.2 (.inl hs))
     have V2 : Valid P I (todo σ [.le (Lin.scale (-1) e),.le ((e.aD 1).aD (-len))]) := fun s hs => hV s (List.mem_append.2 (.inr hs))
     intro hs
     obtain ⟨h1,h2⟩ := Ct (n := n) hl len l q1 hg V1 hs
     refine ⟨h1,?_⟩
     intro ρ hok
     have hv := fk hok V2
     simp only [gsV,G.v,Lin.aT,Lin.aB,and_true] at hv
     exact h2 ρ hok (by omega) (by omega)
    ·cases h
   ·cases h
  ·cases h
 ·cases h
end Go.TL
namespace Go.TL
def aH : Pr := fun id vs =>
 match id % 16,vs with
 | 15,l => match id / 16,l with
  | 4,[l] => ∀ row ∈ l.l, ∃ (k : Int) (r : List PV),row = .v (.int .i64 k) :: r ∧ (k = 1 ∨ k = 3)
  | 5,[b,k,s] => b.b = ((k.n == 8) && (s.s.toList == (⟨#[125]⟩ : ByteArray).toList))
  | _,_ => True
 | _,_ => True
structure Pt (I : Pr) : Prop where
 eq : ∀ id vs,id ≠ 0 → I id vs = aH id vs
end Go.TL
namespace Go.TL
theorem Ky {C : Ctx} {E : Env} {σ : St} {a : Act} {w : World} {o : Oper} {tx ty : TypeId} {x y : Operand} {b c : Bool} (ho : o.op = .binOp .neq tx x y ty) (hu : C.P.underlying tx = some .bool) (ex : a.eval x = .bool b) (ey : a.eval y = .bool c) (h : au C E σ a w) (hd : aV C o) :
  bs C o (σ.put o.dst (.p (.v (.bool (b != c))) true)) a w := by
 refine bn h hd (v := .bool (b != c)) ?_ (cT true rfl)
 refine cF ho (by rw [ex]; simp [eqGuard]) ?_
 rw [ex,ey]
 simp only [binOp,Sem.run_bind,run_equal_bool w tx b c hu,Result.andThen_ok,Sem.run_pure]
 cases b <;> cases c <;> rfl
theorem Kz {C : Ctx} {E : Env} {σ : St} {a : Act} {w : World} {o : Oper} {tx ty : TypeId} {x y : Operand} {b c : Bool} (ho : o.op = .binOp .eql tx x y ty) (hu : C.P.underlying tx = some .bool) (ex : a.eval x = .bool b) (ey : a.eval y = .bool c) (h : au C E σ a w) (hd : aV C o) :
  bs C o (σ.put o.dst (.p (.v (.bool (b == c))) true)) a w := by
 refine bn h hd (v := .bool (b == c)) ?_ (cT true rfl)
 refine cF ho (by rw [ex]; simp [eqGuard]) ?_
 rw [ex,ey]
 simp only [binOp,Sem.run_bind,run_equal_bool w tx b c hu,Result.andThen_ok,Sem.run_pure]
def tz (f g : BF) : BF := .or (.and f g) (.and (.not f) (.not g))
theorem EC (ρ : Ro) (f g : BF) : (tz f g).v ρ = (f.v ρ == g.v ρ) := by simp only [tz,BF.v]; cases f.v ρ <;> cases g.v ρ <;> rfl
def yu (P : Program) (t : TypeId) : Bool := match P.underlying t with | some .bool => true | _ => false
theorem Gs {P : Program} {t : TypeId} (h : yu P t = true) : P.underlying t = some .bool := by
 unfold yu at h; split at h
 ·assumption
 ·cases h
def Gt (P : Program) (σ : DSt) (o : Oper) : aQ :=
 match o.op with
 | .binOp op tx x y _ => match yu P tx,mX σ x,mX σ y with
  | true,some f,some g => match op with
   | .eql => some ([σ.put o.dst (.p (.bl (tz f g)) true)],[])
   | .neq => some ([σ.put o.dst (.p (.bl (.not (tz f g))) true)],[])
   | _ => none
  | _,_,_ => none
 | _ => none
theorem Gu {P : Program} {I : Pr} {n : Nat} : Handler P I n (Gt P) := by
 intro σ o outs q h hV hs
 unfold Gt at h
 split at h
 ·rename_i op tx x y ty ho
  split at h
  ·rename_i f g hb hf hg
   have hu := Gs hb
   have sf := ve hs hf
   have sg := ve hs hg
   have ssc : Sc σ.nx (tz f g).vars := by simp only [tz,BF.vars,Sc.app]; exact ⟨⟨sf,sg⟩,sf,sg⟩
   have step : ∀ (r : BF) (hr : Sc σ.nx r.vars),(∀ ρ, ∀ C : Ctx,C.P = P → ∀ E a w,au C E (σ.v ρ) a w → aV C o → bs C o ((σ.v ρ).put o.dst (.p (.v (.bool (r.v ρ))) true)) a w) →
     (∀ σ' ∈ [σ.put o.dst (.p (.bl r) true)],σ'.sc ∧ σ.nx ≤ σ'.nx) ∧ ∀ ρ,σ.ok P I ρ → ∀ (K : Act → World → Prop) (Q : Exit → Act → World → Prop) (lo : Nat) (w0 : World) (E0 : Env),
      (∀ σ' ∈ [σ.put o.dst (.p (.bl r) true)], ∀ ρ',ao σ.nx ρ ρ' → σ'.ok P I ρ' → ∀ a' w',Holds (mkC P n lo w0 E0) (σ'.v ρ') a' w' → K a' w') →
      ∀ a w,Holds (mkC P n lo w0 E0) (σ.v ρ) a w → (∀ d,o.dst = some d → d < n) → o.wp P a w K Q := by
    intro r hr hrun
    refine ⟨?_,?_⟩
    ·intro σ' hσ'
     simp only [List.mem_singleton] at hσ'; subst hσ'
     exact ⟨hs.put o.dst (by simpa [DV.vars,DP.vars] using hr),by rw [cC]; exact Nat.le_refl _⟩
    ·intro ρ hok K Q lo w0 E0 hK a w ⟨E,hh⟩ hd
     obtain ⟨v,w',hx,hH⟩ := hrun ρ (mkC P n lo w0 E0) rfl E a w hh hd
     unfold Oper.wp
     have hH' : Holds (mkC P n lo w0 E0) ((σ.put o.dst (.p (.bl r) true)).v ρ) (a.put o.dst v) w' := by rw [dy]; exact hH
     rcases hx with hx | ⟨hx,rfl⟩
     ·change Sem.run P _ _ = _ at hx
      rw [hx]; exact hK _ (by simp) ρ (ao.refl _ _) (hok.put _ _) _ _ hH'
     ·change Sem.run P _ _ = _ at hx
      rw [hx]; exact hK _ (by simp) ρ (ao.refl _ _) (hok.put _ _) _ _ hH'
   split at h
   ·simp only [Option.some.injEq,Prod.mk.injEq] at h; obtain ⟨rfl,rfl⟩ := h
    refine step _ ssc fun ρ C hC E a w hh hd => ?_
    have := Kz ho (by rw [hC]; exact hu) (jU ⟨E,hh⟩ (oq ρ hf)) (jU ⟨E,hh⟩ (oq ρ hg)) hh hd
    rw [EC]; exact this
   ·simp only [Option.some.injEq,Prod.mk.injEq] at h; obtain ⟨rfl,rfl⟩ := h
    refine step _ ssc fun ρ C hC E a w hh hd => ?_
    have := Ky ho (by rw [hC]; exact hu) (jU ⟨E,hh⟩ (oq ρ hf)) (jU ⟨E,hh⟩ (oq ρ hg)) hh hd
    simp only [BF.v,EC]; exact this
   ·cases h
  ·cases h
 ·cases h
end Go.TL
