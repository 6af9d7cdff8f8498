/- What is left to prove; a state taken for an instance of another. -/
import Derived.Test.YtajkchpnbnbmfaaGreatDoorW16
namespace Go.TL
structure Seq where
 tys : List (Nat × TypeId)
 lin : List Lin
 prs : List PF
 goal : G
def Seq.valid (P : Program) (I : Pr) (s : Seq) : Prop := ∀ ρ,Gok ρ → cb P ρ s.tys → aR ρ s.lin → bQ I ρ s.prs → s.goal.v I ρ
def Valid (P : Program) (I : Pr) (l : List Seq) : Prop := ∀ s ∈ l,s.valid P I
theorem Valid.app {P : Program} {I : Pr} {a b : List Seq} : Valid P I (a ++ b) ↔ Valid P I a ∧ Valid P I b := by
 unfold Valid; simp only [List.mem_append]
 exact ⟨fun h => ⟨fun s hs => h s (.inl hs),fun s hs => h s (.inr hs)⟩,fun h s hs => hs.elim (h.1 s) (h.2 s)⟩
theorem Valid.nil {P : Program} {I : Pr} : Valid P I [] := by intro s hs; simp at hs
def Km : PF → PF → Bool
 | .pr id a,.pr id' a' => Nat.beq id id' && pW.natsEq a a'
 | .tru f,.tru g => f.beq g
 | .sub s a lo hi,.sub s' a' lo' hi' => (Nat.beq s s' && Nat.beq a a') && (lo.beq lo' && hi.beq hi')
 | .row l i c,.row l' i' c' => (Nat.beq l l' && i.beq i') && mV c c'
 | .app l a b,.app l' a' b' => Nat.beq l l' && (fb a a' && fb b b')
 | _,_ => false
theorem Ng {a b : PF} (h : Km a b = true) : a = b := by
 unfold Km at h
 split at h
 ·simp only [Bool.and_eq_true] at h; rw [Nat.eq_of_beq_eq_true h.1,zp h.2]
 ·rw [BF.beq_eq h]
 ·simp only [Bool.and_eq_true] at h; rw [Nat.eq_of_beq_eq_true h.1.1,Nat.eq_of_beq_eq_true h.1.2,Lin.beq_eq h.2.1,Lin.beq_eq h.2.2]
 ·simp only [Bool.and_eq_true] at h; rw [Nat.eq_of_beq_eq_true h.1.1,Lin.beq_eq h.1.2,pU h.2]
 ·simp only [Bool.and_eq_true] at h; rw [Nat.eq_of_beq_eq_true h.1,dJ h.2.1,dJ h.2.2]
 ·cases h
def iV (f : PF) : List PF → Bool
 | [] => false
 | g :: r => match Km f g with | true => true | false => iV f r
theorem fx {I : Pr} {ρ : Ro} {f : PF} : ∀ {l : List PF},iV f l = true → bQ I ρ l → f.v I ρ
 | g :: r,h,hv => by
  simp only [iV] at h
  split at h
  ·rename_i h1; rw [Ng h1]; exact hv.1
  ·exact fx h hv.2
def j7 (e : Lin) : Lin := (Lin.scale (-1) e).aD 1
def lY (σ : DSt) : BF → Option Bool
 | .lit b => some b
 | .le e => match bN σ e with
  | true => some true
  | false => match bN σ (j7 e) with | true => some false | false => none
 | .not f => match lY σ f with | some b => some (!b) | none => none
 | .eq e => match bN σ e,bN σ (Lin.scale (-1) e) with
  | true,true => some true
  | true,false => match bN σ (e.aD 1) with
   | true => some false
   | false => match iV (.tru (.not (.eq e))) σ.prs with | true => some false | false => none
  | false,true => match bN σ (j7 e) with
   | true => some false
   | false => match iV (.tru (.not (.eq e))) σ.prs with | true => some false | false => none
  | false,false => match iV (.tru (.eq e)) σ.prs with
   | true => some true
   | false => match iV (.tru (.not (.eq e))) σ.prs with | true => some false | false => none
 | f => match iV (.tru f) σ.prs with
  | true => some true
  | false => match iV (.tru (.not f)) σ.prs with | true => some false | false => none
theorem wA {P : Program} {I : Pr} {σ : DSt} {ρ : Ro} (hok : σ.ok P I ρ) : ∀ {f : BF} {b : Bool},lY σ f = some b → f.v ρ = b
 | .lit c,b,h => by simp only [lY,Option.some.injEq] at h; subst h; rfl
 | .le e,b,h => by
  simp only [lY] at h
  split at h
  ·rename_i hp
   simp only [Option.some.injEq] at h; subst h
   have := bw hok hp; simp [BF.v,this]
  ·split at h
   ·rename_i hp
    simp only [Option.some.injEq] at h; subst h
    have := bw hok hp
    simp only [j7,Lin.aB,Lin.aT] at this
    simp only [BF.v,decide_eq_false_iff_not]; omega
   ·cases h
 | .not f,b,h => by
  simp only [lY] at h
  split at h
  ·rename_i c hc
   simp only [Option.some.injEq] at h; subst h
   simp only [BF.v,wA hok hc]
  ·cases h
 | .var k,b,h => by
  simp only [lY] at h
  split at h
  ·rename_i hp
   simp only [Option.some.injEq] at h; subst h
   exact fx hp hok.prs
  ·split at h
   ·rename_i hp
    simp only [Option.some.injEq] at h; subst h
    have := fx hp hok.prs
    simpa [PF.v,BF.v] using this
   ·cases h
 | .eq e,b,h => by
  have neg : ∀ c,(match iV (.tru (.not (.eq e))) σ.prs with | true => some false | false => none) = some c → (BF.eq e).v ρ = c := by
   intro c h
   split at h
   ·rename_i hp
    simp only [Option.some.injEq] at h; subst h
    have := fx hp hok.prs
    simpa [PF.v,BF.v] using this
   ·cases h
  simp only [lY] at h
  split at h
  ·rename_i h1 h2
   simp only [Option.some.injEq] at h; subst h
   have a1 := bw hok h1
   have a2 := bw hok h2
   rw [Lin.aT] at a2
   simp only [BF.v,decide_eq_true_eq]; omega
  ·split at h
   ·rename_i h1
    simp only [Option.some.injEq] at h; subst h
    have a1 := bw hok h1
    rw [Lin.aB] at a1
    simp only [BF.v,decide_eq_false_iff_not]; omega
   ·exact neg b h
  ·split at h
   ·rename_i h1
    simp only [Option.some.injEq] at h; subst h
    have a1 := bw hok h1
    simp only [j7,Lin.aB,Lin.aT] at a1
    simp only [BF.v,decide_eq_false_iff_not]; omega
   ·exact neg b h
  ·split at h
   ·rename_i hp
    simp only [Option.some.injEq] at h; subst h
    exact fx hp hok.prs
   ·exact neg b h
 | .and f g,b,h => by
  simp only [lY] at h
  split at h
  ·rename_i hp
   simp only [Option.some.injEq] at h; subst h
   exact fx hp hok.prs
  ·split at h
   ·rename_i hp
    simp only [Option.some.injEq] at h; subst h
    have := fx hp hok.prs
    simp only [PF.v,BF.v] at this ⊢
    exact (Bool.not_eq_true' _).mp this
   ·cases h
 | .or f g,b,h => by
  simp only [lY] at h
  split at h
  ·rename_i hp
   simp only [Option.some.injEq] at h; subst h
   exact fx hp hok.prs
  ·split at h
   ·rename_i hp
    simp only [Option.some.injEq] at h; subst h
    have := fx hp hok.prs
    simp only [PF.v,BF.v] at this ⊢
    exact (Bool.not_eq_true' _).mp this
   ·cases h
def Kn (σ : DSt) : PF → Bool
 | .tru f => match lY σ f with | some true => true | _ => false
 | _ => false
theorem Ph {P : Program} {I : Pr} {σ : DSt} {ρ : Ro} (hok : σ.ok P I ρ) {f : PF} (h : Kn σ f = true) : f.v I ρ := by
 unfold Kn at h
 split at h
 ·split at h
  ·rename_i hd; exact wA hok hd
  ·cases h
 ·cases h
def Im (σ : DSt) : G → Bool
 | .le e => bN σ e
 | .pf f => match iV f σ.prs with | true => true | false => Kn σ f
def todo (σ : DSt) : List G → List Seq
 | [] => []
 | g :: r => match Im σ g with
  | true => todo σ r
  | false => ⟨σ.tys,σ.lin,σ.prs,g⟩ :: todo σ r
theorem fk {P : Program} {I : Pr} {σ : DSt} {ρ : Ro} (hok : σ.ok P I ρ) : ∀ {gs : List G},Valid P I (todo σ gs) → gsV I ρ gs
 | [],_ => trivial
 | g :: r,h => by
  simp only [todo] at h
  split at h
  ·rename_i hs
   refine ⟨?_,fk hok h⟩
   cases g with
   | le e => exact bw hok hs
   | pf f =>
    simp only [Im] at hs
    split at hs
    ·rename_i hm; exact fx hm hok.prs
    ·exact Ph hok hs
  ·exact ⟨h _ (List.mem_cons_self ..) ρ hok.g hok.tys hok.lin hok.prs,fk hok fun s hs => h s (List.mem_cons_of_mem _ hs)⟩
mutual
theorem Al : ∀ x : SV,SV.rn (fun k => k) x = x
 | .vec _ => by simp [SV.rn]
 | .ptr _ _ => by simp [SV.rn]
 | .vptr _ _ _ _ => by simp [SV.rn]
 | .ref _ => by simp [SV.rn]
 | .agg xs => by simp only [SV.rn,lZ xs]
 | .tup xs => by simp only [SV.rn,lZ xs]
 | .fn f first caps => by simp only [SV.rn,lZ first,lZ caps]
 | .ifc t x => by simp only [SV.rn,Al x]
 | .u => by simp [SV.rn]
 | .p _ _ => by simp [SV.rn]
 | .pd _ _ _ => by simp [SV.rn]
 | .pc _ _ => by simp [SV.rn]
theorem lZ : ∀ x : List SV,rns (fun k => k) x = x
 | [] => by simp [rns]
 | x :: xs => by simp only [rns,Al x,lZ xs]
end
theorem Io (o : OV) : OV.rn (fun k => k) o = o := by cases o <;> simp [OV.rn,lZ]
theorem uW : ∀ T : Tab,cK (fun k => k) T = T
 | [] => rfl
 | (k,x) :: r => by simp only [cK,Io,uW r]
def td (θ : Th) : bq → bq
 | [] => []
 | (t,x) :: r => (t,x.inst θ (fun k => k)) :: td θ r
theorem wB (θ : Th) : ∀ (l : bq) (t : Nat),lk (td θ l) t = (lk l t).map fun x => x.inst θ (fun k => k)
 | [],_ => rfl
 | (j,x) :: r,t => by simp only [td,lk]; cases Nat.beq j t <;> simp [wB θ r t]
theorem wC {θ : Th} : ∀ {l T : az},fw θ (fun k => k) l = some T → ∀ k,(∀ x,lk l k = some x → ∃ y,lk T k = some y ∧ x.inst θ (fun k => k) = some y) ∧ (lk l k = none → lk T k = none)
 | [],T,h,k => by simp only [fw,Option.some.injEq] at h; subst h; exact ⟨by simp [lk],fun _ => rfl⟩
 | (j,z) :: r,T,h,k => by
  simp only [fw] at h
  split at h
  ·rename_i y r' h1 h2
   simp only [Option.some.injEq] at h; subst h
   simp only [lk]
   cases Nat.beq j k with
   | true => exact ⟨fun x hx => by simp only [Option.some.injEq] at hx; subst hx; exact ⟨y,rfl,h1⟩,by simp⟩
   | false => exact wC h2 k
  ·cases h
def F0 (n : Nat) : Th → Bool
 | [] => true
 | (k,_) :: r => match Nat.ble n k with | true => F0 n r | false => false
theorem Nh {n : Nat} {ρ : Ro} : ∀ {θ : Th},F0 n θ = true → ao n ρ (ap ρ θ) := by
 intro θ h k hk
 have : lk θ k = none := by
  induction θ with
  | nil => rfl
  | cons p r ih =>
   obtain ⟨j,t⟩ := p
   simp only [F0] at h
   split at h
   ·rename_i hj
    have := Nat.le_of_ble_eq_true hj
    simp only [lk]
    cases hb : Nat.beq j k with
    | true => have := Nat.eq_of_beq_eq_true hb; omega
    | false => exact ih h
   ·cases h
 simp only [ap,this]
def Am (θ : Th) : List Lin → List G
 | [] => []
 | e :: r => .le (e.si θ) :: Am θ r
def BU (θ : Th) : List PF → Option (List G)
 | [] => some []
 | f :: r => match f.inst θ,BU θ r with
  | some g,some gs => some (.pf g :: gs)
  | _,_ => none
theorem ye {I : Pr} {ρ : Ro} {θ : Th} : ∀ {l : List Lin},gsV I ρ (Am θ l) → aR (ap ρ θ) l
 | [],_ => trivial
 | e :: r,h => ⟨by have := h.1; simp only [G.v,Lin.dD] at this; exact this,ye h.2⟩
theorem BV {I : Pr} {ρ : Ro} {θ : Th} : ∀ {l : List PF} {gs : List G},BU θ l = some gs → gsV I ρ gs → bQ I (ap ρ θ) l
 | [],_,_,_ => trivial
 | f :: r,gs,h,hv => by
  simp only [BU] at h
  split at h
  ·rename_i g gs' h1 h2
   simp only [Option.some.injEq] at h; subst h
   exact ⟨(PF.gP I ρ θ h1).1 hv.1,BV h2 hv.2⟩
  ·cases h
def cZ {α : Type} : List (Nat × α) → List Nat
 | [] => []
 | (k,_) :: r => k :: cZ r
theorem wD {α : Type} : ∀ {l : List (Nat × α)} {k : Nat},k ∈ cZ l → lk l k ≠ none
 | (j,x) :: r,k,h => by
  simp only [lk]
  cases hb : Nat.beq j k with
  | true => simp
  | false =>
   simp only [cZ,List.mem_cons] at h
   rcases h with rfl | h
   ·simp [Nat.beq_refl] at hb
   ·exact wD h
theorem uX {α : Type} (l : List (Nat × α)) : ∀ (ks : List Nat) (t : Nat),lk (pick l ks) t ≠ none → t ∈ ks
 | [],t,h => by simp [pick,lk] at h
 | k :: ks,t,h => by
  simp only [pick] at h
  split at h
  ·simp only [lk] at h
   cases hb : Nat.beq k t with
   | true => rw [Nat.eq_of_beq_eq_true hb]; exact List.mem_cons_self ..
   | false => simp only [hb] at h; exact List.mem_cons_of_mem _ (uX l ks t h)
  ·exact List.mem_cons_of_mem _ (uX l ks t h)
def core (n0 : Nat) (σ T : DSt) (θ : Th) : Option (List G) :=
 match F0 n0 θ,yd θ,lr θ σ.tys T.tys,BU θ T.prs with
 | true,some g1,true,some g2 => match s9 σ.ab (td θ T.ab),fw θ (fun k => k) T.tab with
  | true,some tb => match wv σ.tab tb with
   | true => some (g1 ++ (Am θ T.lin ++ g2))
   | false => none
  | _,_ => none
 | _,_,_,_ => none
structure wE (P : Program) (I : Pr) (n n0 : Nat) (σ T : DSt) (ρ ρ' : Ro) : Prop where
 ag : ao n0 ρ ρ'
 g : Gok ρ'
 tys : cb P ρ' T.tys
 lin : aR ρ' T.lin
 prs : bQ I ρ' T.prs
 imp : Imp P n (σ.v ρ) (T.v ρ')
theorem Ni {P : Program} {I : Pr} {n n0 : Nat} {σ T : DSt} {θ : Th} {gs : List G} {ρ : Ro} (h : core n0 σ T θ = some gs) (hkeys : ∀ k,lk σ.tab k ≠ none → lk T.tab k ≠ none) (hok : σ.ok P I ρ) (hv : gsV I ρ gs) :
  wE P I n n0 σ T ρ (ap ρ θ) := by
 unfold core at h
 split at h
 ·rename_i g1 g2 h1 h2 h3 h4
  split at h
  ·rename_i tb h5 h6
   split at h
   ·rename_i h7
    simp only [Option.some.injEq] at h; subst h
    rw [eL,eL] at hv
    refine ⟨Nh h1,Ik hok.g h2 hv.1,mU hok.tys h3,ye hv.2.1,BV h4 hv.2.2,?_⟩
    refine BR ?_ ?_ ?_
    ·intro t b hl
     simp only [DSt.v,eh] at hl ⊢
     cases hq : lk T.ab t with
     | none => simp [hq] at hl
     | some y =>
      simp only [hq,Option.map_some,Option.some.injEq] at hl; subst hl
      obtain ⟨x,hx,hle⟩ := wx h5 t (y.inst θ (fun k => k)) (by rw [wB,hq]; rfl)
      refine ⟨x.v ρ,by rw [hx]; rfl,fun w E lo v hr => ?_⟩
      have := BQ (ρ := ρ) hle hr
      rw [gP,Al] at this; exact this
    ·intro k b hl
     simp only [DSt.v,cO] at hl ⊢
     cases hq : lk T.tab k with
     | none => simp [hq] at hl
     | some y =>
      simp only [hq,Option.map_some,Option.some.injEq] at hl; subst hl
      obtain ⟨y',hy1,hy2⟩ := (wC h6 k).1 y hq
      obtain ⟨x,hx,hle⟩ := uU h7 k y' hy1
      refine ⟨x.v ρ,by rw [hx]; rfl,fun w E lo hr => ?_⟩
      have := Il (ρ := ρ) hle hr
      rw [DO.gP ρ θ _ hy2,Io] at this; exact this
    ·intro k hk
     simp only [DSt.v,cO] at hk ⊢
     have : lk σ.tab k ≠ none := by intro e; rw [e] at hk; simp at hk
     have := hkeys k this
     cases hq : lk T.tab k with
     | none => exact absurd hq this
     | some y => simp
   ·cases h
  ·cases h
 ·cases h
def isVar (e : Lin) : Option Nat :=
 match isZ e.c,e.t with
 | true,[(a,c)] => match mL c,Nat.beq (a % 4) 0 with | true,true => some (a / 4) | _,_ => none
 | _,_ => none
def Pj (e : Lin) : Tm := match isVar e with | some j => .v j | none => .i e
def gw (n0 k : Nat) (tm : Tm) (θ : Th) : Th :=
 match Nat.ble n0 k with
 | true => match lk θ k with | some _ => θ | none => (k,tm) :: θ
 | false => θ
def Mq (n0 : Nat) : DP → DP → Th → Th
 | .int _ e,.int _ e',θ => match isVar e with | some k => gw n0 k (Pj e') θ | none => θ
 | .bl (.var k),.bl f,θ => gw n0 k (match f with | .var j => .v j | f => .b f) θ
 | .st (.var k),.st e,θ => gw n0 k (match e with | .var j => .v j | e => .s e) θ
 | .sl (some k),.sl l,θ => gw n0 k (match l with | some j => .v j | none => .l none) θ
 | .sl (some k),.nl,θ => gw n0 k (.l none) θ
 | .ls (some k),.ls l,θ => gw n0 k (match l with | some j => .v j | none => .l none) θ
 | .mp _ (some k),.mp _ l,θ => gw n0 k (match l with | some j => .v j | none => .l none) θ
 | .ls (some k),.cst _,θ => gw n0 k (.l none) θ
 | .mp _ (some k),.cst _,θ => gw n0 k (.l none) θ
 | _,_,θ => θ
def BW (n0 : Nat) : List DP → List DP → Th → Th
 | x :: xs,y :: ys,θ => BW n0 xs ys (Mq n0 x y θ)
 | _,_,θ => θ
def Ao (n0 : Nat) : LV → LV → Th → Th
 | some k,some j,θ => gw n0 k (.v j) θ
 | some k,none,θ => gw n0 k (.l none) θ
 | none,_,θ => θ
mutual
def F1 (n0 : Nat) : DV → DV → Th → Th
 | .p x _,y,θ => match y with
  | .p y _ => Mq n0 x y θ
  | .pc l _ => match x with | .sl k => Ao n0 k l θ | _ => θ
  | _ => θ
 | .vptr _ _ i _,y,θ => match y with
  | .vptr _ _ i' _ => (match isVar i with | some k => gw n0 k (Pj i') θ | none => θ)
  | _ => θ
 | .pd r _ _,y,θ => match y with | .pd r' _ _ => BW n0 r r' θ | _ => θ
 | .pc l _,y,θ => match y with | .pc l' _ => Ao n0 l l' θ | _ => θ
 | .agg xs,y,θ => match y with | .agg ys => ma n0 xs ys θ | _ => θ
 | .tup xs,y,θ => match y with | .tup ys => ma n0 xs ys θ | _ => θ
 | .fn _ a b,y,θ => match y with | .fn _ c d => ma n0 b d (ma n0 a c θ) | _ => θ
 | .ifc _ x,y,θ => match y with | .ifc _ y => F1 n0 x y θ | _ => θ
 | .u,_,θ => θ
 | .ptr _ _,_,θ => θ
 | .vec _,_,θ => θ
 | .ref _,_,θ => θ
def ma (n0 : Nat) : List DV → List DV → Th → Th
 | x :: xs,ys,θ => match ys with | y :: ys => ma n0 xs ys (F1 n0 x y θ) | [] => θ
 | [],_,θ => θ
end
def Q1 (n0 : Nat) : DO → DO → Th → Th
 | .box _ xs,.box _ ys,θ => ma n0 xs ys θ
 | .vec _ _ l _,.vec _ _ l' _,θ => Ao n0 l l' θ
 | .mp _ l _,.mp _ l' _,θ => Ao n0 l l' θ
 | _,_,θ => θ
def uY (n0 : Nat) (S : bq) : bq → Th → Th
 | [],θ => θ
 | (t,x) :: r,θ => match lk S t with
  | some y => uY n0 S r (F1 n0 x y θ)
  | none => uY n0 S r θ
def wF (n0 : Nat) (S : az) : az → Th → Th
 | [],θ => θ
 | (t,x) :: r,θ => match lk S t with
  | some y => wF n0 S r (Q1 n0 x y θ)
  | none => wF n0 S r θ
def yg (a : Nat) (lo hi : Lin) : List PF → Option Nat
 | [] => none
 | .sub s a' lo' hi' :: r => match Nat.beq a a',lo.beq lo',hi.beq hi' with
  | true,true,true => some s
  | _,_,_ => yg a lo hi r
 | _ :: r => yg a lo hi r
def yh (a : Nat) (i : Lin) : List PF → Option (List DP)
 | [] => none
 | .row a' i' c :: r => match Nat.beq a a',i.beq i' with | true,true => some c | _,_ => yh a i r
 | _ :: r => yh a i r
def F2 (a : Nat) (k : Int) : List (Nat × Int) → Bool
 | [] => false
 | (b,j) :: r => match Nat.beq a b with | true => decide (k = j) | false => F2 a k r
def Ko (j : Nat) : Th → Bool
 | [] => false
 | (_,.v i) :: r => match Nat.beq i j with | true => true | false => Ko j r
 | _ :: r => Ko j r
def Ip (n0 : Nat) (θ : Th) (m : Nat) (k : Int) : List (Nat × Int) → Option Nat
 | [] => none
 | (b,j) :: r => match Nat.ble n0 (b / 4),Nat.beq (b % 4) m,decide (k = j),Ko (b / 4) θ with
  | true,true,true,false => some (b / 4)
  | _,_,_,_ => Ip n0 θ m k r
def j8 (n0 : Nat) (S : List PF) : List PF → Th → Th
 | [],θ => θ
 | .sub s a lo hi :: r,θ => match ny θ a with
  | some a' => match yg a' (lo.si θ) (hi.si θ) S with
   | some s' => j8 n0 S r (gw n0 s (.v s') θ)
   | none => j8 n0 S r θ
  | none => j8 n0 S r θ
 | .row a i c :: r,θ => match ny θ a with
  | some a' => match yh a' (i.si θ) S with
   | some c' => j8 n0 S r (BW n0 c c' θ)
   | none => j8 n0 S r θ
  | none => j8 n0 S r θ
 | _ :: r,θ => j8 n0 S r θ
def wG (n0 : Nat) (θ : Th) : List (Nat × Int) → List (Nat × Int) → Option (Nat × Nat) → Option (Nat × Nat)
 | [],_,u => u
 | (a,k) :: r,f,u => match Nat.ble n0 (a / 4),lk θ (a / 4) with
  | true,none => match u with
   | some _ => none
   | none => match Ip n0 θ (a % 4) k f with | some b => wG n0 θ r f (some (a / 4,b)) | none => none
  | true,some (.v j) => match F2 (4 * j + a % 4) k f with | true => wG n0 θ r f u | false => none
  | true,some _ => none
  | false,_ => match F2 a k f with | true => wG n0 θ r f u | false => none
def BX (n0 : Nat) (θ : Th) : List (Nat × Int) → Nat
 | [] => 0
 | (a,_) :: r => match Nat.ble n0 (a / 4),lk θ (a / 4) with | true,none => BX n0 θ r + 1 | _,_ => BX n0 θ r
def F3 (n0 : Nat) (θ : Th) (e : Lin) : List Lin → Option (Nat × Nat)
 | [] => none
 | f :: r => match decide (e.c = f.c),Nat.beq e.t.length f.t.length with
  | true,true => match wG n0 θ e.t f.t none with | some p => some p | none => F3 n0 θ e r
  | _,_ => F3 n0 θ e r
def lx (n0 : Nat) (S : List Lin) : List Lin → Th → Th
 | [],θ => θ
 | e :: r,θ => match BX n0 θ e.t with
  | 1 => match F3 n0 θ e S with
   | some (k,j) => lx n0 S r ((k,.v j) :: θ)
   | none => lx n0 S r θ
  | _ => lx n0 S r θ
def yi (c : Co) : List Co → Bool
 | [] => false
 | d :: r => match c,d with
  | .fz k,.fz k' => Nat.beq k k' || yi c r
  | .rn k _,.rn k' _ => Nat.beq k k' || yi c r
  | .nil t _ _ _,.nil t' _ _ _ => Nat.beq t t' || yi c r
  | .cell k j _ _ _,.cell k' j' _ _ _ => (Nat.beq k k' && Nat.beq j j') || yi c r
  | _,_ => yi c r
def fc (c : Co) (l : List Co) : List Co := match yi c l with | true => l | false => l ++ [c]
def Ap (S : az) (k : Nat) : List DV → List Co → List Co
 | [],l => fc (.fz k) l
 | .vec j :: r,l => Ap S k r (fc (.fz j) l)
 | _ :: r,l => Ap S k r l
mutual
def F4 (H S : az) (t : Option Nat) : DV → DV → List Co → List Co
 | .p x _,y,l => match x,y with
  | .sl _,.vec k => fc (.fz k) l
  | .mp _ _,.ref k => fc (.fz k) l
  | _,_ => l
 | .pc _ _,y,l => match y with | .vec k => fc (.fz k) l | _ => l
 | .pd _ _ _,y,l => match y with
  | .ptr k _ => (match lk S k with | some (.box _ cells) => Ap S k cells l | _ => l)
  | _ => l
 | .vec K,y,l => match y with
  | .p .nl _ => (match t,lk H K with | some t,some (.vec e sz _ _) => fc (.nil t K e sz) l | _,_ => l)
  | .vec k => (match Nat.beq k K with | true => l | false => fc (.rn k K) l)
  | _ => l
 | .ptr K _,y,l => match y with
  | .ptr k _ => (match Nat.beq k K with | true => l | false => fc (.rn k K) l)
  | _ => l
 | .agg xs,y,l => match y with | .agg ys => Aq H S xs ys l | _ => l
 | .tup xs,y,l => match y with | .tup ys => Aq H S xs ys l | _ => l
 | .fn _ _ b,y,l => match y with | .fn _ _ d => Aq H S b d l | _ => l
 | .ifc _ x,y,l => match y with | .ifc _ y => F4 H S none x y l | _ => l
 | .u,_,l => l
 | .ref K,y,l => match y with
  | .ref k => (match Nat.beq k K with | true => l | false => fc (.rn k K) l)
  | _ => l
 | .vptr _ _ _ _,_,l => l
def Aq (H S : az) : List DV → List DV → List Co → List Co
 | x :: xs,ys,l => match ys with | y :: ys => Aq H S xs ys (F4 H S none x y l) | [] => l
 | [],_,l => l
end
def yk (H S : az) (Sl : bq) : bq → List Co → List Co
 | [],l => l
 | (t,x) :: r,l => match lk Sl t with
  | some y => yk H S Sl r (F4 H S (some t) x y l)
  | none => yk H S Sl r l
def Ex (H S : az) (k : Nat) : Nat → List DV → List DV → List Co → List Co
 | j,x :: xs,y :: ys,l => Ex H S k (j + 1) xs ys (match x,y with
  | .vec K,.p .nl _ => (match lk H K with | some (.vec e sz _ _) => fc (.cell k j K e sz) l | _ => l)
  | x,y => F4 H S none x y l)
 | _,_,_,l => l
def F5 (H S : az) : az → List Co → List Co
 | [],l => l
 | (k,x) :: r,l => match x,lk S k with
  | .box _ xs,some (.box _ ys) => F5 H S r (Ex H S k 0 xs ys l)
  | _,_ => F5 H S r l
def Mr (n0 : Nat) (σ2 T : DSt) (θ : Th) (ex : Th → List G) : Option (List Seq) :=
 match core n0 σ2 T θ with
 | some gs => some (todo σ2 (gs ++ ex θ))
 | none => none
def pZ (n n0 : Nat) (σ T : DSt) (ex : Th → List G) : Option (List Seq) :=
 match σ.cos n (F5 T.tab σ.tab T.tab (yk T.tab σ.tab σ.ab T.ab [])) with
 | none => none
 | some σ1 => match σ1.keep (cZ T.ab) (cZ T.tab) with
  | σ2 => Mr n0 σ2 T (lx n0 σ2.lin T.lin (lx n0 σ2.lin T.lin (j8 n0 σ2.prs T.prs (wF n0 σ2.tab T.tab (uY n0 σ2.ab T.ab []))))) ex
def F6 (n : Nat) (σ0 σ T : DSt) : Option (List Seq) := pZ n σ0.nx σ T fun _ => []
theorem uZ {P : Program} {I : Pr} {n n0 : Nat} {σ T : DSt} {ex : Th → List G} {seqs : List Seq} (h : pZ n n0 σ T ex = some seqs) (hV : Valid P I seqs) :
  ∀ ρ,σ.ok P I ρ → ∃ θ,wE P I n n0 σ T ρ (ap ρ θ) ∧ gsV I ρ (ex θ) := by
 unfold pZ at h
 split at h
 ·cases h
 ·rename_i σ1 h1
  simp only at h
  generalize lx n0 _ _ _ = θ at h
  unfold Mr at h
  split at h
  ·rename_i gs hc
   simp only [Option.some.injEq] at h; subst h
   intro ρ hok
   have c1 := oh (P := P) h1
   have c2 := Nf (P := P) (n := n) (cZ T.ab) (cZ T.tab) σ1
   have hok2 := c2.ok (c1.ok hok)
   have hk : ∀ k,lk (σ1.keep (cZ T.ab) (cZ T.tab)).tab k ≠ none → lk T.tab k ≠ none := fun k hk => wD (uX _ _ _ hk)
   have hg := eL.1 (fk hok2 hV)
   have r := Ni (n := n) hc hk hok2 hg.1
   exact ⟨_,⟨r.ag,r.g,r.tys,r.lin,r.prs,((c1.imp ρ).trans (c2.imp ρ)).trans r.imp⟩,hg.2⟩
  ·cases h
theorem yl {P : Program} {I : Pr} {n : Nat} {σ0 σ T : DSt} {seqs : List Seq} (h : F6 n σ0 σ T = some seqs) (hV : Valid P I seqs) :
  ∀ ρ,σ.ok P I ρ → ∃ ρ',wE P I n σ0.nx σ T ρ ρ' := fun ρ hok => by
 obtain ⟨θ,h1,_⟩ := uZ h hV ρ hok
 exact ⟨_,h1⟩
end Go.TL
namespace Go.TL
structure GOk (P : Program) (I : Pr) (σ σ' : DSt) : Prop where
 sc : σ.sc → σ'.sc
 nx : σ.nx ≤ σ'.nx
 run : σ.sc → ∀ ρ,σ.ok P I ρ → ∃ ρ',ao σ.nx ρ ρ' ∧ σ'.ok P I ρ' ∧ bu (σ.v ρ) (σ'.v ρ')
theorem GOk.refl {P : Program} {I : Pr} {σ : DSt} : GOk P I σ σ := ⟨id,Nat.le_refl _,fun _ ρ hok => ⟨ρ,ao.refl _ _,hok,bu.refl _⟩⟩
theorem bu.trans {s s' s'' : St} (h : bu s s') (k : bu s' s'') : bu s s'' := ⟨fun t => (h.ab t).trans (k.ab t),fun t => (h.tab t).trans (k.tab t)⟩
theorem GOk.trans {P : Program} {I : Pr} {σ σ1 σ2 : DSt} (h : GOk P I σ σ1) (k : GOk P I σ1 σ2) : GOk P I σ σ2 := by
 refine ⟨fun hs => k.sc (h.sc hs),Nat.le_trans h.nx k.nx,?_⟩
 intro hs ρ hok
 obtain ⟨ρ1,a1,o1,s1⟩ := h.run hs ρ hok
 obtain ⟨ρ2,a2,o2,s2⟩ := k.run (h.sc hs) ρ1 o1
 exact ⟨ρ2,a1.trans a2 h.nx,o2,s1.trans s2⟩
theorem BZ {P : Program} {I : Pr} {σ : DSt} {e : TypeId} {lin : List Lin} {prs : List PF} (hg : σ.sc → fT (σ.nx + 1) [(σ.nx,e)] lin prs)
  (h : σ.sc → ∀ ρ,σ.ok P I ρ → ∃ l : List (List PV),aU P e l ∧ ∀ ρ',ao σ.nx ρ ρ' → (ρ' σ.nx).l = l → aR ρ' lin ∧ bQ I ρ' prs) : GOk P I σ (σ.grow 1 [(σ.nx,e)] lin prs) := by
 refine ⟨fun hs => hs.grow (hg hs),Nat.le_succ _,?_⟩
 intro hs ρ hok
 obtain ⟨l,hl,hr⟩ := h hs ρ hok
 let ρ' : Ro := fun k => if k = σ.nx then vaL l else ρ k
 have ha : ao σ.nx ρ ρ' := fun k hk => by simp only [ρ']; rw [if_neg (by omega)]
 have hvl : (ρ' σ.nx).l = l := by simp only [ρ',if_true]; rfl
 have hgk : Gok ρ' := by
  have key : ∀ k,ig (ρ' k) := by
   intro k
   simp only [ρ']
   split
   ·exact ej hl.len
   ·exact ⟨hok.g.lo k,hok.g.hi k,hok.g.st k,hok.g.ln k⟩
  exact ⟨fun k => (key k).lo,fun k => (key k).hi,fun k => (key k).st,fun k => (key k).ln⟩
 obtain ⟨h1,h2⟩ := hr ρ' ha hvl
 exact ⟨ρ',ha,hok.grow hs ha hgk ⟨by rw [hvl]; exact hl,trivial⟩ h1 h2,DSt.eb hs ha⟩
def F7 (σ : DSt) (l : Nat) : DSt :=
 match lk σ.tys l,Nat.ble (l + 1) σ.nx with
 | some e,true => σ.grow 1 [(σ.nx,e)] [(Lin.at (4 * σ.nx + 1)).ax (-1) (Lin.at (4 * l + 1)),(Lin.at (4 * l + 1)).ax (-1) (Lin.at (4 * σ.nx + 1)),(Lin.at (4 * σ.nx + 2)).ax (-1) (Lin.at (4 * l + 2)),(Lin.at (4 * l + 2)).ax (-1) (Lin.at (4 * σ.nx + 2))]
   [.sub σ.nx l (Lin.lit 0) (Lin.at (4 * l + 1))]
 | _,_ => σ
theorem Kp {P : Program} {I : Pr} {σ : DSt} {l : Nat} : GOk P I σ (F7 σ l) := by
 unfold F7
 split
 ·rename_i e he hl
  have hl' := Nat.le_of_ble_eq_true hl
  have q : ∀ t,t < 4 → (4 * l + t) / 4 < σ.nx + 1 := fun t ht => by omega
  have q' : ∀ t,t < 4 → (4 * σ.nx + t) / 4 < σ.nx + 1 := fun t ht => by omega
  refine BZ ?_ ?_
  ·intro hs
   refine ⟨by simp,?_,?_⟩
   ·intro x hx
    simp only [List.mem_cons,List.mem_nil_iff,or_false] at hx
    rcases hx with rfl | rfl | rfl | rfl
    ·exact Lin.aw (Lin.aS (q' 1 (by omega))) (Lin.aS (q 1 (by omega)))
    ·exact Lin.aw (Lin.aS (q 1 (by omega))) (Lin.aS (q' 1 (by omega)))
    ·exact Lin.aw (Lin.aS (q' 2 (by omega))) (Lin.aS (q 2 (by omega)))
    ·exact Lin.aw (Lin.aS (q 2 (by omega))) (Lin.aS (q' 2 (by omega)))
   ·intro x hx
    simp only [List.mem_singleton] at hx; subst hx
    simp only [PF.vars,Sc.cons,Sc.app]
    exact ⟨by omega,by omega,Lin.cI,Lin.aS (q 1 (by omega))⟩
  ·intro hs ρ hok
   refine ⟨(ρ l).l,c7 hok.tys he,?_⟩
   intro ρ' ha hl2
   have hll : (ρ' l).l = (ρ l).l := by rw [ha l hl']
   simp only [aR,Lin.aZ,Lin.aW,cJ,c9,hl2,hll,bQ,PF.v,Lin.bI]
   refine ⟨⟨by omega,by omega,by omega,by omega,trivial⟩,?_,trivial⟩
   simp
 ·exact GOk.refl
def ju : List DP → Bool
 | [] => true
 | .cst _ :: _ => false
 | _ :: r => ju r
theorem zu {ρ : Ro} (hg : Gok ρ) : ∀ {xs : List DP},ju xs = true → (drz xs).v ρ = (rz (ak ρ xs) : Int)
 | [],_ => by simp [drz,ak,rz,Lin.bI]
 | x :: xs,h => by
  have hr : ju xs = true := by cases x <;> first | exact h | (simp [ju] at h)
  have hx : ∀ v,x = .cst v → ∀ s,v ≠ .string s := by cases x <;> first | (simp [ju] at h; done) | simp
  simp only [drz,ak,dc,Lin.FF,Mp hg x hx,zu hg hr]
  omega
def gx (l : Nat) (i : Lin) : List PF → Option (Nat × Lin)
 | [] => none
 | .sub s a lo hi :: r => match Nat.beq a l,lo.beq i with
  | true,true => some (s,hi)
  | _,_ => gx l i r
 | _ :: r => gx l i r
theorem eo {I : Pr} {ρ : Ro} {l : Nat} {i : Lin} {s : Nat} {hi : Lin} : ∀ {r : List PF},gx l i r = some (s,hi) → bQ I ρ r → (PF.sub s l i hi).v I ρ ∧ PF.sub s l i hi ∈ r
 | .sub s' a lo hi' :: r,h,hv => by
  simp only [gx] at h
  split at h
  ·rename_i h1 h2
   simp only [Option.some.injEq,Prod.mk.injEq] at h; obtain ⟨rfl,rfl⟩ := h
   have := Nat.eq_of_beq_eq_true h1; subst this
   have := Lin.beq_eq h2; subst this
   exact ⟨hv.1,List.mem_cons_self ..⟩
  ·have := eo h hv.2; exact ⟨this.1,List.mem_cons_of_mem _ this.2⟩
 | .row _ _ _ :: r,h,hv => by have := eo (r := r) h hv.2; exact ⟨this.1,List.mem_cons_of_mem _ this.2⟩
 | .app _ _ _ :: r,h,hv => by have := eo (r := r) h hv.2; exact ⟨this.1,List.mem_cons_of_mem _ this.2⟩
 | .lit _ _ :: r,h,hv => by have := eo (r := r) h hv.2; exact ⟨this.1,List.mem_cons_of_mem _ this.2⟩
 | .set _ _ _ _ :: r,h,hv => by have := eo (r := r) h hv.2; exact ⟨this.1,List.mem_cons_of_mem _ this.2⟩
 | .tru _ :: r,h,hv => by have := eo (r := r) h hv.2; exact ⟨this.1,List.mem_cons_of_mem _ this.2⟩
 | .cat _ _ _ :: r,h,hv => by have := eo (r := r) h hv.2; exact ⟨this.1,List.mem_cons_of_mem _ this.2⟩
 | .pr _ _ :: r,h,hv => by have := eo (r := r) h hv.2; exact ⟨this.1,List.mem_cons_of_mem _ this.2⟩
def Ar (σ : DSt) : DSt :=
 match σ.prs with
 | .row l i cells :: rest => match gx l i rest,gx l (i.aD 1) rest with
  | some (s,hi),none => match lk σ.tys l,bN σ ((i.ax (-1) hi).aD 1),ju cells with
   | some e,true,true => σ.grow 1 [(σ.nx,e)]
     [(((Lin.at (4 * s + 2)).ax (-1) (Lin.at (4 * σ.nx + 2))).ax (-1) (drz cells)).aD (-1),((((Lin.at (4 * σ.nx + 2)).ax 1 (drz cells)).ax (-1) (Lin.at (4 * s + 2))).aD 1),
      ((Lin.at (4 * s + 1)).ax (-1) (Lin.at (4 * σ.nx + 1))).aD (-1),(((Lin.at (4 * σ.nx + 1)).ax (-1) (Lin.at (4 * s + 1))).aD 1)]
     [.sub σ.nx l (i.aD 1) hi]
   | _,_,_ => σ
  | _,_ => σ
 | _ => σ
theorem Kq {P : Program} {I : Pr} {σ : DSt} : GOk P I σ (Ar σ) := by
 unfold Ar
 split
 ·rename_i l i cells rest hp
  split
  ·rename_i s hi hf _
   split
   ·rename_i e he hlt hpl
    have q' : ∀ t,t < 4 → (4 * σ.nx + t) / 4 < σ.nx + 1 := fun t ht => by omega
    refine BZ ?_ ?_
    ·intro hs
     have h1 := hs.prs (.row l i cells) (by rw [hp]; simp)
     have h2 : PF.sub s l i hi ∈ rest := by
      have : ∀ r : List PF,gx l i r = some (s,hi) → PF.sub s l i hi ∈ r := by
       intro r
       induction r with
       | nil => intro h; simp [gx] at h
       | cons f r ih =>
        intro h
        cases f with
        | sub s' a lo hi' =>
         simp only [gx] at h
         split at h
         ·rename_i g1 g2
          simp only [Option.some.injEq,Prod.mk.injEq] at h; obtain ⟨rfl,rfl⟩ := h
          rw [Nat.eq_of_beq_eq_true g1,Lin.beq_eq g2]; exact List.mem_cons_self ..
         ·exact List.mem_cons_of_mem _ (ih h)
        | _ => exact List.mem_cons_of_mem _ (ih h)
      exact this rest hf
     have h3 := hs.prs _ (by rw [hp]; exact List.mem_cons_of_mem _ h2)
     simp only [PF.vars,Sc.cons,Sc.app] at h1 h3
     have q : ∀ t,t < 4 → (4 * s + t) / 4 < σ.nx + 1 := fun t ht => by omega
     have hz := (nY h1.2.2).mono (Nat.le_succ σ.nx)
     refine ⟨by simp,?_,?_⟩
     ·intro x hx
      simp only [List.mem_cons,List.mem_nil_iff,or_false] at hx
      rcases hx with rfl | rfl | rfl | rfl
      ·exact Lin.aX (Lin.aw (Lin.aw (Lin.aS (q 2 (by omega))) (Lin.aS (q' 2 (by omega)))) hz)
      ·exact Lin.aX (Lin.aw (Lin.aw (Lin.aS (q' 2 (by omega))) hz) (Lin.aS (q 2 (by omega))))
      ·exact Lin.aX (Lin.aw (Lin.aS (q 1 (by omega))) (Lin.aS (q' 1 (by omega))))
      ·exact Lin.aX (Lin.aw (Lin.aS (q' 1 (by omega))) (Lin.aS (q 1 (by omega))))
     ·intro x hx
      simp only [List.mem_singleton] at hx; subst hx
      simp only [PF.vars,Sc.cons,Sc.app]
      exact ⟨by omega,by omega,Lin.aX (h1.2.1.mono (Nat.le_succ _)),h3.2.2.2.mono (Nat.le_succ _)⟩
    ·intro hs ρ hok
     have hpv := hok.prs
     rw [hp] at hpv
     obtain ⟨hrow,hrest⟩ := hpv
     obtain ⟨hsub,hmem⟩ := eo hf hrest
     have h1 := hs.prs (.row l i cells) (by rw [hp]; simp)
     have h3 := hs.prs _ (by rw [hp]; exact List.mem_cons_of_mem _ hmem)
     simp only [PF.vars,Sc.cons,Sc.app] at h1 h3
     simp only [PF.v] at hrow hsub
     have hlt' := bw hok hlt
     simp only [Lin.aB,Lin.aZ] at hlt'
     refine ⟨((ρ l).l.take (hi.v ρ).toNat).drop ((i.v ρ).toNat + 1),(c7 hok.tys he).sub _ _,?_⟩
     intro ρ' ha hl2
     have hi1 : i.v ρ' = i.v ρ := Lin.ag ha h1.2.1
     have hi2 : hi.v ρ' = hi.v ρ := Lin.ag ha h3.2.2.2
     have hl1 : (ρ' l).l = (ρ l).l := by rw [ha l h1.1]
     have hs1 : (ρ' s).l = (ρ s).l := by rw [ha s h3.1]
     have hz1 : (drz cells).v ρ' = (rz (ak ρ cells) : Int) := by rw [Lin.ag ha (nY h1.2.2)]; exact zu hok.g hpl
     have hcons : (ρ s).l = ak ρ cells :: ((ρ l).l.take (hi.v ρ).toNat).drop ((i.v ρ).toNat + 1) := by
      rw [hsub]
      have hget : ((ρ l).l.take (hi.v ρ).toNat)[(i.v ρ).toNat]? = some (ak ρ cells) := by
       rw [List.getElem?_take,if_pos (by omega)]; exact hrow.2
      obtain ⟨hlt2,heq⟩ := List.getElem?_eq_some_iff.1 hget
      rw [List.drop_eq_getElem_cons hlt2,heq]
     have hn : (i.v ρ + 1).toNat = (i.v ρ).toNat + 1 := by omega
     simp only [aR,Lin.aZ,Lin.aB,Lin.aW,cJ,c9,hl2,hl1,hs1,hz1,bQ,PF.v,hi1,hi2,hn,hcons,dM,List.length_cons]
     refine ⟨⟨by omega,by omega,by omega,by omega,trivial⟩,?_,trivial⟩
     trivial
   ·exact GOk.refl
  ·exact GOk.refl
 ·exact GOk.refl
end Go.TL
