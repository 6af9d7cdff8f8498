/- Code: branches, joins, loops. -/
import Derived.Test.YtajkchpnbnbmfaaGreatDoorW18
namespace Go.TL
structure Ann where
 keep : Nat → Option (List Nat)
 loop : Nat → DSt → Option (DSt × Lin)
 join : Bool → Nat → DSt → List DSt → Option DSt
 opens : Nat → DSt → List Nat
 hc : List Cert
 Iw : Nat → Option Nat
structure Res where
 nor : List DSt
 base : DSt
 oth : List (Exit × DSt)
 q : List Seq
def scB (n : Nat) : List Nat → Bool
 | [] => true
 | k :: r => match Nat.ble (k + 1) n with | true => scB n r | false => false
theorem j9 {n : Nat} : ∀ {l : List Nat},scB n l = true → Sc n l
 | [],_ => Sc.nil
 | k :: r,h => by
  simp only [scB] at h
  split at h
  ·rename_i h1; exact Sc.cons.2 ⟨Nat.le_of_ble_eq_true h1,j9 h⟩
  ·cases h
def gb : List Lin → List Nat
 | [] => []
 | e :: r => e.vars ++ gb r
def iI : List PF → List Nat
 | [] => []
 | e :: r => e.vars ++ iI r
def iJ : List (Nat × TypeId) → List Nat
 | [] => []
 | (k,_) :: r => k :: iJ r
def kW (n0 : Nat) (T : DSt) : Bool :=
 match Nat.ble n0 T.nx with
 | true => scB T.nx (fR T.ab ++ (iB T.tab ++ (iJ T.tys ++ (gb T.lin ++ iI T.prs))))
 | false => false
theorem sd {n : Nat} : ∀ {l : bq},Sc n (fR l) → ∀ t v,lk l t = some v → Sc n v.vars
 | [],_,t,v,h => by simp [lk] at h
 | (j,x) :: r,hs,t,v,h => by
  simp only [fR,Sc.app] at hs
  simp only [lk] at h
  cases hb : Nat.beq j t with
  | true => simp only [hb,Option.some.injEq] at h; subst h; exact hs.1
  | false => simp only [hb] at h; exact sd hs.2 t v h
theorem p6 {n : Nat} : ∀ {l : az},Sc n (iB l) → ∀ t v,lk l t = some v → Sc n v.vars
 | [],_,t,v,h => by simp [lk] at h
 | (j,x) :: r,hs,t,v,h => by
  simp only [iB,Sc.app] at hs
  simp only [lk] at h
  cases hb : Nat.beq j t with
  | true => simp only [hb,Option.some.injEq] at h; subst h; exact hs.1
  | false => simp only [hb] at h; exact p6 hs.2 t v h
theorem nB {n : Nat} : ∀ {l : List Lin},Sc n (gb l) → ∀ e ∈ l,Sc n e.vars
 | [],_,e,h => by simp at h
 | x :: r,hs,e,h => by
  simp only [gb,Sc.app] at hs
  rcases List.mem_cons.1 h with rfl | h
  ·exact hs.1
  ·exact nB hs.2 e h
theorem p7 {n : Nat} : ∀ {l : List PF},Sc n (iI l) → ∀ e ∈ l,Sc n e.vars
 | [],_,e,h => by simp at h
 | x :: r,hs,e,h => by
  simp only [iI,Sc.app] at hs
  rcases List.mem_cons.1 h with rfl | h
  ·exact hs.1
  ·exact p7 hs.2 e h
theorem p8 {n : Nat} : ∀ {l : List (Nat × TypeId)},Sc n (iJ l) → ∀ k e,(k,e) ∈ l → k < n
 | [],_,k,e,h => by simp at h
 | (j,x) :: r,hs,k,e,h => by
  simp only [iJ,Sc.cons] at hs
  rcases List.mem_cons.1 h with h | h
  ·simp only [Prod.mk.injEq] at h; rw [h.1]; exact hs.1
  ·exact p8 hs.2 k e h
theorem u9 {n0 : Nat} {T : DSt} (h : kW n0 T = true) : n0 ≤ T.nx ∧ T.sc := by
 unfold kW at h
 split at h
 ·rename_i h1
  have hs := j9 h
  simp only [Sc.app] at hs
  exact ⟨Nat.le_of_ble_eq_true h1,sd hs.1,p6 hs.2.1,p8 hs.2.2.1,nB hs.2.2.2.1,p7 hs.2.2.2.2⟩
 ·cases h
def DSt.over (T σ0 : DSt) : DSt := { T with tys := T.tys ++ σ0.tys,lin := T.lin ++ σ0.lin,prs := T.prs ++ σ0.prs,hc := σ0.hc }
theorem ym {T σ0 : DSt} (hT : kW σ0.nx T = true) (hs : σ0.sc) : (T.over σ0).sc ∧ σ0.nx ≤ (T.over σ0).nx := by
 obtain ⟨h1,h2⟩ := u9 hT
 refine ⟨⟨h2.ab,h2.tab,?_,?_,?_⟩,h1⟩
 ·intro k e he; exact (List.mem_append.1 he).elim (h2.tys k e) fun h => Nat.lt_of_lt_of_le (hs.tys k e h) h1
 ·intro e he; exact (List.mem_append.1 he).elim (h2.lin e) fun h => (hs.lin e h).mono h1
 ·intro e he; exact (List.mem_append.1 he).elim (h2.prs e) fun h => (hs.prs e h).mono h1
theorem tj {P : Program} {I : Pr} {n : Nat} {T σ0 σ : DSt} {ρ ρ' : Ro} (c : wE P I n σ0.nx σ T ρ ρ') (hs : σ0.sc) (h0 : σ0.ok P I ρ) : (T.over σ0).ok P I ρ' := by
 have h1 := h0.ag hs c.ag c.g
 exact ⟨c.g,jJ.2 ⟨c.tys,h1.tys⟩,cq c.lin h1.lin,ic.2 ⟨c.prs,h1.prs⟩⟩
def wK (n : Nat) (σ0 T : DSt) : List DSt → Option (List Seq)
 | [] => some []
 | σ :: r => match F6 n σ0 σ T,wK n σ0 T r with
  | some a,some b => some (a ++ b)
  | _,_ => none
theorem se {n : Nat} {σ0 T : DSt} : ∀ {S : List DSt} {q : List Seq},wK n σ0 T S = some q → ∀ σ ∈ S, ∃ p,F6 n σ0 σ T = some p ∧ ∀ s ∈ p,s ∈ q
 | [],q,h,σ,hσ => by simp at hσ
 | σ0' :: r,q,h,σ,hσ => by
  simp only [wK] at h
  split at h
  ·rename_i a b h1 h2
   simp only [Option.some.injEq] at h; subst h
   rcases List.mem_cons.1 hσ with rfl | hσ
   ·exact ⟨a,h1,fun s hs => List.mem_append.2 (.inl hs)⟩
   ·obtain ⟨p,e1,e2⟩ := se h2 σ hσ
    exact ⟨p,e1,fun s hs => List.mem_append.2 (.inr (e2 s hs))⟩
  ·cases h
def As (n : Nat) (A : Ann) (must : Bool) (at' : Nat) (σ0 : DSt) (S : List DSt) : aQ :=
 match S with
 | [] => some ([],[])
 | [σ] => some ([σ],[])
 | S => match A.join must at' σ0 S with
  | some T => match kW σ0.nx T,wK n σ0 T S with
   | true,some q => some ([T.over σ0],q)
   | _,_ => none
  | none => match must with
   | true => none
   | false => some (S,[])
structure B7 (P : Program) (I : Pr) (n : Nat) (σ0 : DSt) (S S' : List DSt) : Prop where
 sc : ∀ σ' ∈ S',σ'.sc ∧ σ0.nx ≤ σ'.nx
 to : ∀ σ ∈ S, ∀ ρ,σ.ok P I ρ → σ0.ok P I ρ → ∃ σ' ∈ S', ∃ ρ',ao σ0.nx ρ ρ' ∧ σ'.ok P I ρ' ∧ Imp P n (σ.v ρ) (σ'.v ρ')
theorem vb {P : Program} {I : Pr} {n : Nat} {A : Ann} {must : Bool} {at' : Nat} {σ0 : DSt} {S S' : List DSt} {q : List Seq} (h : As n A must at' σ0 S = some (S',q)) (hV : Valid P I q) (h0 : σ0.sc) (hS : ∀ σ ∈ S,σ.sc ∧ σ0.nx ≤ σ.nx) :
  B7 P I n σ0 S S' := by
 unfold As at h
 split at h
 ·simp only [Option.some.injEq,Prod.mk.injEq] at h; obtain ⟨rfl,rfl⟩ := h
  exact ⟨by simp,by simp⟩
 ·rename_i σ
  simp only [Option.some.injEq,Prod.mk.injEq] at h; obtain ⟨rfl,rfl⟩ := h
  refine ⟨hS,?_⟩
  intro τ hτ ρ hok _
  exact ⟨τ,hτ,ρ,ao.refl _ _,hok,Imp.refl⟩
 ·split at h
  ·rename_i T hT
   split at h
   ·rename_i q' hb hi
    simp only [Option.some.injEq,Prod.mk.injEq] at h; obtain ⟨rfl,rfl⟩ := h
    refine ⟨by simpa using ym hb h0,?_⟩
    intro σ hσ ρ hok hok0
    obtain ⟨p,e1,e2⟩ := se hi σ hσ
    obtain ⟨ρ',c⟩ := yl e1 (fun s hs => hV s (e2 s hs)) ρ hok
    exact ⟨T.over σ0,by simp,ρ',c.ag,tj c h0 hok0,c.imp⟩
   ·cases h
  ·split at h
   ·cases h
   ·simp only [Option.some.injEq,Prod.mk.injEq] at h; obtain ⟨rfl,rfl⟩ := h
    refine ⟨hS,?_⟩
    intro τ hτ ρ hok _
    exact ⟨τ,hτ,ρ,ao.refl _ _,hok,Imp.refl⟩
def Gc {α : Type} (base cur : List α) : List α := cur.take (cur.length - base.length)
def mW (σ0 A : DSt) : DSt := { A with lin := Gc σ0.lin A.lin,prs := (Gc σ0.prs A.prs).filter fun f => match f with | .lit _ _ => false | .cat _ _ _ => false | _ => true,tys := Gc σ0.tys A.tys }
abbrev Node := Array Bool × DSt
def tk : List Bool → List Bool → Bool
 | [],[] => true
 | true :: xs,true :: ys => tk xs ys
 | false :: xs,false :: ys => tk xs ys
 | _,_ => false
theorem kX : ∀ {a b : List Bool},tk a b = true → a = b
 | [],[],_ => rfl
 | true :: xs,true :: ys,h => by rw [kX (a := xs) (b := ys) h]
 | false :: xs,false :: ys,h => by rw [kX (a := xs) (b := ys) h]
 | true :: _,false :: _,h => by cases h
 | false :: _,true :: _,h => by cases h
 | [],_ :: _,h => by cases h
 | true :: _,[],h => by cases h
 | false :: _,[],h => by cases h
def addNode (l : Array Bool) (σ : DSt) : List (Array Bool × List DSt) → List (Array Bool × List DSt)
 | [] => [(l,[σ])]
 | (m,S) :: r => match tk l.toList m.toList with | true => (m,S ++ [σ]) :: r | false => (m,S) :: addNode l σ r
def mg : List Node → List (Array Bool × List DSt) → List (Array Bool × List DSt)
 | [],g => g
 | (l,σ) :: r,g => mg r (addNode l σ g)
def B8 (n : Nat) (σ0 : DSt) (S : List DSt) : List DSt :=
 match S with
 | A :: _ :: _ => match kW σ0.nx (mW σ0 A),wK n σ0 (mW σ0 A) S with
  | true,some [] => [(mW σ0 A).over σ0]
  | _,_ => S
 | _ => S
def vd (l : Array Bool) : List DSt → List Node
 | [] => []
 | σ :: r => (l,σ) :: vd l r
def oi (n : Nat) (σ0 : DSt) : List (Array Bool × List DSt) → List Node
 | [] => []
 | (l,S) :: r => vd l (B8 n σ0 S) ++ oi n σ0 r
theorem iq {l : Array Bool} {nd : Node} : ∀ {S : List DSt},nd ∈ vd l S ↔ nd.1 = l ∧ nd.2 ∈ S
 | [] => by simp [vd]
 | σ :: r => by
  obtain ⟨a,b⟩ := nd
  simp only [vd,List.mem_cons,Prod.mk.injEq,iq (S := r)]
  constructor
  ·rintro (⟨h1,h2⟩ | ⟨h1,h2⟩)
   ·exact ⟨h1,.inl h2⟩
   ·exact ⟨h1,.inr h2⟩
  ·rintro ⟨h1,h2 | h2⟩
   ·exact .inl ⟨h1,h2⟩
   ·exact .inr ⟨h1,h2⟩
theorem ub {l : Array Bool} {σ : DSt} : ∀ {g : List (Array Bool × List DSt)} {m : Array Bool} {S : List DSt},(m,S) ∈ addNode l σ g → ∀ τ ∈ S,(m = l ∧ τ = σ) ∨ ∃ S',(m,S') ∈ g ∧ τ ∈ S'
 | [],m,S,h,τ,hτ => by
  simp only [addNode,List.mem_singleton,Prod.mk.injEq] at h
  obtain ⟨rfl,rfl⟩ := h
  exact .inl ⟨rfl,by simpa using hτ⟩
 | (k,R) :: r,m,S,h,τ,hτ => by
  simp only [addNode] at h
  split at h
  ·rename_i he
   rcases List.mem_cons.1 h with h | h
   ·simp only [Prod.mk.injEq] at h; obtain ⟨rfl,rfl⟩ := h
    rcases List.mem_append.1 hτ with hτ | hτ
    ·exact .inr ⟨R,List.mem_cons_self ..,hτ⟩
    ·exact .inl ⟨(Array.toList_inj.1 (kX he)).symm,by simpa using hτ⟩
   ·exact .inr ⟨S,List.mem_cons_of_mem _ h,hτ⟩
  ·rcases List.mem_cons.1 h with h | h
   ·simp only [Prod.mk.injEq] at h; obtain ⟨rfl,rfl⟩ := h
    exact .inr ⟨S,List.mem_cons_self ..,hτ⟩
   ·rcases ub h τ hτ with h | ⟨S',h1,h2⟩
    ·exact .inl h
    ·exact .inr ⟨S',List.mem_cons_of_mem _ h1,h2⟩
theorem wL {l : Array Bool} {σ : DSt} : ∀ {g : List (Array Bool × List DSt)},(∃ S,(l,S) ∈ addNode l σ g ∧ σ ∈ S) ∧ ∀ m S τ,(m,S) ∈ g → τ ∈ S → ∃ S',(m,S') ∈ addNode l σ g ∧ τ ∈ S'
 | [] => ⟨⟨[σ],by simp [addNode]⟩,fun _ _ _ h => by simp at h⟩
 | (k,R) :: r => by
  obtain ⟨⟨S0,h1,h2⟩,h3⟩ := wL (l := l) (σ := σ) (g := r)
  simp only [addNode]
  split
  ·rename_i he
   have hk : l = k := Array.toList_inj.1 (kX he)
   subst hk
   refine ⟨⟨R ++ [σ],List.mem_cons_self ..,by simp⟩,fun m S τ hm hτ => ?_⟩
   rcases List.mem_cons.1 hm with hm | hm
   ·simp only [Prod.mk.injEq] at hm; obtain ⟨rfl,rfl⟩ := hm
    exact ⟨_,List.mem_cons_self ..,List.mem_append.2 (.inl hτ)⟩
   ·exact ⟨S,List.mem_cons_of_mem _ hm,hτ⟩
  ·refine ⟨⟨S0,List.mem_cons_of_mem _ h1,h2⟩,fun m S τ hm hτ => ?_⟩
   rcases List.mem_cons.1 hm with hm | hm
   ·exact ⟨S,by rw [hm]; exact List.mem_cons_self ..,hτ⟩
   ·obtain ⟨S',q1,q2⟩ := h3 m S τ hm hτ
    exact ⟨S',List.mem_cons_of_mem _ q1,q2⟩
theorem zy : ∀ {nds : List Node} {g : List (Array Bool × List DSt)},(∀ nd ∈ nds, ∃ S,(nd.1,S) ∈ mg nds g ∧ nd.2 ∈ S) ∧ (∀ m S τ,(m,S) ∈ g → τ ∈ S → ∃ S',(m,S') ∈ mg nds g ∧ τ ∈ S') ∧
  ∀ m S τ,(m,S) ∈ mg nds g → τ ∈ S → (∃ nd ∈ nds,nd.2 = τ) ∨ ∃ S',(m,S') ∈ g ∧ τ ∈ S'
 | [],g => ⟨by simp,fun _ S _ h k => ⟨S,h,k⟩,fun _ S _ h k => .inr ⟨S,h,k⟩⟩
 | (l,σ) :: r,g => by
  obtain ⟨h1,h2,h3⟩ := zy (nds := r) (g := addNode l σ g)
  obtain ⟨⟨S0,a1,a2⟩,a3⟩ := wL (l := l) (σ := σ) (g := g)
  simp only [mg]
  refine ⟨fun nd hnd => ?_,fun m S τ hm hτ => ?_,fun m S τ hm hτ => ?_⟩
  ·rcases List.mem_cons.1 hnd with rfl | hnd
   ·exact h2 _ _ _ a1 a2
   ·exact h1 nd hnd
  ·obtain ⟨S',q1,q2⟩ := a3 m S τ hm hτ
   exact h2 _ _ _ q1 q2
  ·rcases h3 m S τ hm hτ with ⟨nd,q1,q2⟩ | ⟨S',q1,q2⟩
   ·exact .inl ⟨nd,List.mem_cons_of_mem _ q1,q2⟩
   ·rcases ub q1 τ q2 with ⟨_,rfl⟩ | h
    ·exact .inl ⟨_,List.mem_cons_self ..,rfl⟩
    ·exact .inr h
theorem Ir {P : Program} {I : Pr} {n : Nat} {σ0 : DSt} {S : List DSt} (h0 : σ0.sc) (hS : ∀ σ ∈ S,σ.sc ∧ σ0.nx ≤ σ.nx) : B7 P I n σ0 S (B8 n σ0 S) := by
 have same : B7 P I n σ0 S S := ⟨hS,fun τ hτ ρ hok _ => ⟨τ,hτ,ρ,ao.refl _ _,hok,Imp.refl⟩⟩
 unfold B8
 split
 ·split
  ·rename_i A B r hb hi
   refine ⟨by simpa using ym hb h0,?_⟩
   intro σ hσ ρ hok hok0
   obtain ⟨p,e1,e2⟩ := se hi σ hσ
   obtain ⟨ρ',c⟩ := yl e1 (fun s hs => by have := e2 s hs; simp at this) ρ hok
   exact ⟨_,by simp,ρ',c.ag,tj c h0 hok0,c.imp⟩
  ·exact same
 ·exact same
def B9 (n : Nat) (σ0 : DSt) (nds : List Node) : List Node := oi n σ0 (mg nds [])
theorem zz {P : Program} {I : Pr} {n : Nat} {σ0 : DSt} (h0 : σ0.sc) : ∀ {g : List (Array Bool × List DSt)},(∀ m S τ,(m,S) ∈ g → τ ∈ S → τ.sc ∧ σ0.nx ≤ τ.nx) →
  (∀ nd ∈ oi n σ0 g,nd.2.sc ∧ σ0.nx ≤ nd.2.nx) ∧ ∀ m S τ,(m,S) ∈ g → τ ∈ S → ∀ ρ,τ.ok P I ρ → σ0.ok P I ρ → ∃ nd ∈ oi n σ0 g,nd.1 = m ∧ ∃ ρ',ao σ0.nx ρ ρ' ∧ nd.2.ok P I ρ' ∧ Imp P n (τ.v ρ) (nd.2.v ρ')
 | [],_ => ⟨by simp [oi],by simp⟩
 | (l,S) :: r,hs => by
  obtain ⟨r1,r2⟩ := zz (P := P) (I := I) (n := n) h0 (g := r) fun m S τ hm => hs m S τ (List.mem_cons_of_mem _ hm)
  have j := Ir (P := P) (I := I) (n := n) h0 (fun σ hσ => hs l S σ (List.mem_cons_self ..) hσ)
  simp only [oi]
  refine ⟨fun nd hnd => ?_,fun m S' τ hm hτ ρ hok hok0 => ?_⟩
  ·rcases List.mem_append.1 hnd with hnd | hnd
   ·exact j.sc _ (iq.1 hnd).2
   ·exact r1 nd hnd
  ·rcases List.mem_cons.1 hm with hm | hm
   ·simp only [Prod.mk.injEq] at hm; obtain ⟨rfl,rfl⟩ := hm
    obtain ⟨σ',q1,q2⟩ := j.to τ hτ ρ hok hok0
    exact ⟨(m,σ'),List.mem_append.2 (.inl (iq.2 ⟨rfl,q1⟩)),rfl,q2⟩
   ·obtain ⟨nd,q1,q2⟩ := r2 m S' τ hm hτ ρ hok hok0
    exact ⟨nd,List.mem_append.2 (.inr q1),q2⟩
theorem Is {P : Program} {I : Pr} {n : Nat} {σ0 : DSt} (h0 : σ0.sc) {nds : List Node} (hs : ∀ nd ∈ nds,nd.2.sc ∧ σ0.nx ≤ nd.2.nx) :
  (∀ nd ∈ B9 n σ0 nds,nd.2.sc ∧ σ0.nx ≤ nd.2.nx) ∧ ∀ nd ∈ nds, ∀ ρ,nd.2.ok P I ρ → σ0.ok P I ρ → ∃ nd' ∈ B9 n σ0 nds,nd'.1 = nd.1 ∧ ∃ ρ',ao σ0.nx ρ ρ' ∧ nd'.2.ok P I ρ' ∧ Imp P n (nd.2.v ρ) (nd'.2.v ρ') := by
 obtain ⟨g1,_,g3⟩ := zy (nds := nds) (g := [])
 obtain ⟨r1,r2⟩ := zz (P := P) (I := I) (n := n) h0 (g := mg nds []) fun m S τ hm hτ => by
  rcases g3 m S τ hm hτ with ⟨nd,q1,rfl⟩ | ⟨S',q1,_⟩
  ·exact hs nd q1
  ·simp at q1
 refine ⟨r1,fun nd hnd ρ hok hok0 => ?_⟩
 obtain ⟨S,q1,q2⟩ := g1 nd hnd
 exact r2 nd.1 S nd.2 q1 q2 ρ hok hok0
def one : DSt → aQ := fun τ => some ([τ],[])
def sh (P : Program) (CL : DSt → Oper → aQ) (ops : Array Oper) (listed : Array Bool) (σ : DSt) : List Nat → Option (List Node × List Seq)
 | [] => some ([],[])
 | i :: r => match ops.toList[i]? with
  | some o => match sb ops.toList o (Gb P CL o one) one σ,sh P CL ops listed σ r with
   | some (outs,q),some (l,q') => some (vd (listed.setIfInBounds i true) outs ++ l,q ++ q')
   | _,_ => none
  | none => none
def Gd (P : Program) (CL : DSt → Oper → aQ) (ops : Array Oper) (listed : Array Bool) (σ : DSt) : Option (List Node × List Seq) :=
 match B6 ops listed σ (Region.ready .any ops listed) with
 | some i => match ops.toList[i]? with
  | some o => match nJ o,Region.free .any ops listed i,(Region.ready .any ops listed).contains i with
   | true,true,true => match sb ops.toList o (B3 P o one) one σ with
    | some (outs,q) => some (vd (listed.setIfInBounds i true) outs,q)
    | none => none
   | _,_,_ => none
  | none => none
 | none => sh P CL ops listed σ (Region.ready .any ops listed)
def sj (P : Program) (CL : DSt → Oper → aQ) (ops : Array Oper) : List Node → Option (List Node × List Seq)
 | [] => some ([],[])
 | (l,σ) :: r => match (Region.ready .any ops l).isEmpty,Gd P CL ops l σ,sj P CL ops r with
  | false,some (a,q),some (b,q') => some (a ++ b,q ++ q')
  | _,_,_ => none
def ly (ops : Array Oper) : List Node → Bool
 | [] => true
 | (l,_) :: r => match (Region.ready .any ops l).isEmpty with | true => ly ops r | false => false
def gd : List Node → List DSt
 | [] => []
 | (_,σ) :: r => σ :: gd r
def sk (P : Program) (n : Nat) (CL : DSt → Oper → aQ) (ops : Array Oper) (σ0 : DSt) : Nat → List Node → aQ
 | 0,nds => match ly ops nds with | true => some (gd nds,[]) | false => none
 | k + 1,nds => match ly ops nds with
  | true => some (gd nds,[])
  | false => match sj P CL ops nds with
   | some (s,q) => wH q (sk P n CL ops σ0 k (B9 n σ0 s))
   | none => none
structure Ca (P : Program) (I : Pr) (n : Nat) (ops : Array Oper) (Q : Exit → St → Prop) (k : Nat) (l : Array Bool) (σ : DSt) (s : List Node) : Prop where
 sc : ∀ nd ∈ s,nd.2.sc ∧ σ.nx ≤ nd.2.nx
 run : ∀ ρ,σ.ok P I ρ → (∀ nd ∈ s, ∀ ρ',ao σ.nx ρ ρ' → nd.2.ok P I ρ' → fE P n ops k nd.1 (nd.2.v ρ') Q) → fE P n ops (k + 1) l (σ.v ρ) Q
theorem p9 {P : Program} {I : Pr} {A : St → Prop} (σ : DSt) (outs : List DSt) (q : List Seq) (h : one σ = some (outs,q)) (_ : Valid P I q) (hs : σ.sc) : gy P I A A σ outs := by
 simp only [one,Option.some.injEq,Prod.mk.injEq] at h; obtain ⟨rfl,rfl⟩ := h
 exact ⟨by simp [hs],fun ρ hok hB => hB σ (by simp) ρ (ao.refl _ _) hok⟩
theorem uc {P : Program} {I : Pr} {n : Nat} {CL : DSt → Oper → aQ} (hC : Handler P I n CL) {ops : Array Oper} {k : Nat} {listed : Array Bool} {Q : Exit → St → Prop} (hds : gR n ops.toList = true) {σ : DSt} (hs : σ.sc) :
  ∀ (rs : List Nat) (s : List Node) (q : List Seq),sh P CL ops listed σ rs = some (s,q) → Valid P I q → (∀ nd ∈ s,nd.2.sc ∧ σ.nx ≤ nd.2.nx) ∧
   ∀ ρ,σ.ok P I ρ → (∀ nd ∈ s, ∀ ρ',ao σ.nx ρ ρ' → nd.2.ok P I ρ' → fE P n ops k nd.1 (nd.2.v ρ') Q) → Fw P n ops k listed (σ.v ρ) Q rs
 | [],s,q,h,_ => by
  simp only [sh,Option.some.injEq,Prod.mk.injEq] at h; obtain ⟨rfl,rfl⟩ := h
  exact ⟨by simp,fun _ _ _ => trivial⟩
 | i :: r,s,q,h,hV => by
  simp only [sh] at h
  split at h
  ·rename_i o ho
   split at h
   ·rename_i outs q1 l q2 e1 e2
    simp only [Option.some.injEq,Prod.mk.injEq] at h; obtain ⟨rfl,rfl⟩ := h
    rw [Valid.app] at hV
    have ho' : ops[i]? = some o := by simpa using ho
    have hdo : ∀ d,o.dst = some d → d < n := fun d hd => dL hds o (List.mem_of_getElem? ho) d hd
    have g1 := nA (B5 fun lo w0 E0 a w => wpOp P ops (lift (mkC P n lo w0 E0) Q) i (wpAny P .any ops (lift (mkC P n lo w0 E0) Q) k (listed.setIfInBounds i true)) a w)
      (zw hC hdo (Q := Q) _ (fun lo w0 E0 a w => wpAny P .any ops (lift (mkC P n lo w0 E0) Q) k (listed.setIfInBounds i true) a w)
       (fun s lo w0 E0 a w hh hw hwp => by unfold wpOp; simp only [ho',gu hh (dL hds) hw,if_true]; exact .inl hwp) p9)
      (zx hdo _ (fun lo w0 E0 a w => wpAny P .any ops (lift (mkC P n lo w0 E0) Q) k (listed.setIfInBounds i true) a w)
       (fun s lo w0 E0 a w hh hw hk => by unfold wpOp; simp only [ho',gu hh (dL hds) hw,Bool.false_eq_true,if_false]; exact hk) p9) e1 hV.1 hs
    obtain ⟨g2,g3⟩ := uc hC (Q := Q) (k := k) hds hs r l q2 e2 hV.2
    refine ⟨fun nd hnd => (List.mem_append.1 hnd).elim (fun h => g1.sc _ (iq.1 h).2) (g2 nd),?_⟩
    intro ρ hok hB
    refine ⟨g1.run ρ hok fun x hx ρ' ha hok' => hB (_,x) (List.mem_append.2 (.inl (iq.2 ⟨rfl,hx⟩))) ρ' ha hok',g3 ρ hok fun nd hnd => hB nd (List.mem_append.2 (.inr hnd))⟩
   ·cases h
  ·cases h
theorem Ge {P : Program} {I : Pr} {n : Nat} {CL : DSt → Oper → aQ} (hC : Handler P I n CL) {ops : Array Oper} {k : Nat} {listed : Array Bool} {Q : Exit → St → Prop} (hds : gR n ops.toList = true) (hsel : Region.noSelect ops = true)
  (hQ : ∀ c s,Q (.panic c) s → False) {σ : DSt} (hs : σ.sc) (he : (Region.ready .any ops listed).isEmpty = false) {s : List Node} {q : List Seq} (h : Gd P CL ops listed σ = some (s,q)) (hV : Valid P I q) : Ca P I n ops Q k listed σ s := by
 unfold Gd at h
 split at h
 ·rename_i i hi
  split at h
  ·rename_i o ho
   split at h
   ·rename_i hpure hfree hr
    split at h
    ·rename_i outs q1 hg
     simp only [Option.some.injEq,Prod.mk.injEq] at h; obtain ⟨rfl,rfl⟩ := h
     have g := nA (n := n) (B := fun s => fE P n ops k (listed.setIfInBounds i true) s Q) (B5 fun lo w0 E0 a w => wpAny P .any ops (lift (mkC P n lo w0 E0) Q) (k + 1) listed a w)
      (DC ho hds hpure hsel hfree hr hQ p9)
      (fun σ outs q h hV hs => by
       have g := p9 (P := P) (I := I) (A := fun s => fE P n ops k (listed.setIfInBounds i true) s Q) _ outs q h hV (Ms hs o.dst).1
       refine ⟨fun σ' hσ' => by have := g.sc σ' hσ'; rw [cC] at this; exact this,?_⟩
       intro ρ hok hw hB
       refine zV i ho hds hw hsel hfree hr hQ ?_
       have := g.run ρ (hok.put _ _) (fun σ' hσ' ρ' ha hok' => hB σ' hσ' ρ' (by rw [cC] at ha; exact ha) hok')
       rw [dy] at this; simp only [DV.v,dvs] at this
       exact this) hg hV hs
     exact ⟨fun nd hnd => g.sc _ (iq.1 hnd).2,fun ρ hok hB => g.run ρ hok fun x hx ρ' ha hok' => hB (_,x) (iq.2 ⟨rfl,hx⟩) ρ' ha hok'⟩
    ·cases h
   ·cases h
  ·cases h
 ·obtain ⟨g1,g2⟩ := uc hC (Q := Q) (k := k) hds hs _ s q h hV
  exact ⟨g1,fun ρ hok hB => JB _ rfl he (g2 ρ hok hB)⟩
theorem ud {P : Program} {I : Pr} {n : Nat} {CL : DSt → Oper → aQ} (hC : Handler P I n CL) {ops : Array Oper} {k : Nat} {Q : Exit → St → Prop} (hds : gR n ops.toList = true) (hsel : Region.noSelect ops = true)
  (hQ : ∀ c s,Q (.panic c) s → False) : ∀ {nds s : List Node} {q : List Seq},sj P CL ops nds = some (s,q) → Valid P I q → (∀ nd ∈ nds,nd.2.sc) →
  (∀ x ∈ s, ∃ nd ∈ nds,x.2.sc ∧ nd.2.nx ≤ x.2.nx) ∧ ∀ nd ∈ nds, ∃ s',Ca P I n ops Q k nd.1 nd.2 s' ∧ ∀ x ∈ s',x ∈ s
 | [],s,q,h,_,_ => by
  simp only [sj,Option.some.injEq,Prod.mk.injEq] at h; obtain ⟨rfl,rfl⟩ := h
  exact ⟨by simp,by simp⟩
 | (l,σ) :: r,s,q,h,hV,hs => by
  simp only [sj] at h
  split at h
  ·rename_i a q1 b q2 he h1 h2
   simp only [Option.some.injEq,Prod.mk.injEq] at h; obtain ⟨rfl,rfl⟩ := h
   rw [Valid.app] at hV
   have g := Ge hC (k := k) hds hsel hQ (hs (l,σ) (List.mem_cons_self ..)) he h1 hV.1
   obtain ⟨g1,g2⟩ := ud hC (k := k) hds hsel hQ h2 hV.2 fun nd hnd => hs nd (List.mem_cons_of_mem _ hnd)
   refine ⟨fun x hx => ?_,fun nd hnd => ?_⟩
   ·rcases List.mem_append.1 hx with hx | hx
    ·exact ⟨(l,σ),List.mem_cons_self ..,g.sc x hx⟩
    ·obtain ⟨nd,q1,q2⟩ := g1 x hx; exact ⟨nd,List.mem_cons_of_mem _ q1,q2⟩
   ·rcases List.mem_cons.1 hnd with rfl | hnd
    ·exact ⟨a,g,fun x hx => List.mem_append.2 (.inl hx)⟩
    ·obtain ⟨s',q1,q2⟩ := g2 nd hnd; exact ⟨s',q1,fun x hx => List.mem_append.2 (.inr (q2 x hx))⟩
  ·cases h
theorem ue {ops : Array Oper} : ∀ {nds : List Node},ly ops nds = true → ∀ nd ∈ nds,(Region.ready .any ops nd.1).isEmpty = true
 | [],_,nd,h => by simp at h
 | (l,σ) :: r,h,nd,hnd => by
  simp only [ly] at h
  split at h
  ·rename_i he
   rcases List.mem_cons.1 hnd with rfl | hnd
   ·exact he
   ·exact ue h nd hnd
  ·cases h
theorem mh : ∀ {nds : List Node} {σ : DSt},σ ∈ gd nds ↔ ∃ nd ∈ nds,nd.2 = σ
 | [],σ => by simp [gd]
 | (l,τ) :: r,σ => by simp only [gd,List.mem_cons,mh (nds := r),exists_eq_or_imp,eq_comm]
theorem DE {P : Program} {I : Pr} {n : Nat} {CL : DSt → Oper → aQ} (hC : Handler P I n CL) {ops : Array Oper} (hds : gR n ops.toList = true) (hsel : Region.noSelect ops = true) {Q : Exit → St → Prop} (hQ : ∀ c s,Q (.panic c) s → False) {σ0 : DSt} (h0 : σ0.sc) :
  ∀ (k : Nat) (nds : List Node) (outs : List DSt) (q : List Seq),sk P n CL ops σ0 k nds = some (outs,q) → Valid P I q → (∀ nd ∈ nds,nd.2.sc ∧ σ0.nx ≤ nd.2.nx) →
   (∀ σ' ∈ outs,σ'.sc ∧ σ0.nx ≤ σ'.nx) ∧ ∀ nd ∈ nds, ∀ ρ,σ0.ok P I ρ → nd.2.ok P I ρ → (∀ σ' ∈ outs, ∀ ρ',ao σ0.nx ρ ρ' → σ'.ok P I ρ' → Q .normal (σ'.v ρ')) → fE P n ops k nd.1 (nd.2.v ρ) Q := by
 have done : ∀ (k : Nat) (nds : List Node),ly ops nds = true → (∀ nd ∈ nds,nd.2.sc ∧ σ0.nx ≤ nd.2.nx) → (∀ σ' ∈ gd nds,σ'.sc ∧ σ0.nx ≤ σ'.nx) ∧
   ∀ nd ∈ nds, ∀ ρ,σ0.ok P I ρ → nd.2.ok P I ρ → (∀ σ' ∈ gd nds, ∀ ρ',ao σ0.nx ρ ρ' → σ'.ok P I ρ' → Q .normal (σ'.v ρ')) → fE P n ops k nd.1 (nd.2.v ρ) Q := by
  intro k nds ha hs
  refine ⟨fun σ' hσ' => ?_,fun nd hnd ρ _ hok hB => HG (ue ha nd hnd) (hB nd.2 (mh.2 ⟨nd,hnd,rfl⟩) ρ (ao.refl _ _) hok)⟩
  obtain ⟨nd,h1,rfl⟩ := mh.1 hσ'
  exact hs nd h1
 intro k
 induction k with
 | zero =>
  intro nds outs q h hV hs
  simp only [sk] at h
  split at h
  ·rename_i ha
   simp only [Option.some.injEq,Prod.mk.injEq] at h; obtain ⟨rfl,rfl⟩ := h
   exact done 0 nds ha hs
  ·cases h
 | succ k ih =>
  intro nds outs q h hV hs
  simp only [sk] at h
  split at h
  ·rename_i ha
   simp only [Option.some.injEq,Prod.mk.injEq] at h; obtain ⟨rfl,rfl⟩ := h
   exact done (k + 1) nds ha hs
  ·split at h
   ·rename_i s q1 h1
    obtain ⟨p,h2,rfl⟩ := u7 h
    rw [Valid.app] at hV
    obtain ⟨g1,g2⟩ := ud hC (k := k) hds hsel hQ h1 hV.1 fun nd hnd => (hs nd hnd).1
    obtain ⟨m1,m2⟩ := Is (P := P) (I := I) (n := n) h0 (nds := s) fun x hx => by
     obtain ⟨nd,q1,q2,q3⟩ := g1 x hx
     exact ⟨q2,Nat.le_trans (hs nd q1).2 q3⟩
    obtain ⟨r1,r2⟩ := ih _ outs p h2 hV.2 m1
    refine ⟨r1,fun nd hnd ρ hok0 hok hB => ?_⟩
    obtain ⟨s',n1,n2⟩ := g2 nd hnd
    refine n1.run ρ hok fun x hx ρ' ha hok' => ?_
    have ha0 : ao σ0.nx ρ ρ' := fun j hj => ha j (Nat.lt_of_lt_of_le hj (hs nd hnd).2)
    have hok0' := hok0.ag h0 ha0 hok'.g
    obtain ⟨nd',e1,e2,ρ2,e3,e4,e5⟩ := m2 x (n2 x hx) ρ' hok' hok0'
    have hA := r2 nd' e1 ρ2 (hok0'.ag h0 e3 e4.g) e4 fun σ' hσ' ρ3 ha3 hok3 => hB σ' hσ' ρ3 (fun j hj => by rw [ha3 j hj,e3 j hj,ha0 j hj]) hok3
    rw [e2] at hA
    exact A0 e5 hA
   ·cases h
def mX (σ : DSt) (c : Operand) : Option BF :=
 match dev σ c with
 | .p (.bl f) _ => some f
 | _ => none
theorem oq {σ : DSt} {c : Operand} {f : BF} (ρ : Ro) (h : mX σ c = some f) : q9 (σ.v ρ) c = some (f.v ρ) := by
 unfold mX at h
 split at h
 ·rename_i g fr he
  simp only [Option.some.injEq] at h; subst h
  simp only [q9,aA,he,DV.v,DP.v]
 ·cases h
theorem ve {σ : DSt} (hs : σ.sc) {c : Operand} {f : BF} (h : mX σ c = some f) : Sc σ.nx f.vars := by
 unfold mX at h
 split at h
 ·rename_i g fr he
  simp only [Option.some.injEq] at h; subst h
  have := hs.dev c; rw [he] at this; simpa [DV.vars,DP.vars] using this
 ·cases h
def parts (c : Operand) : List DSt → Option (List DSt × List DSt)
 | [] => some ([],[])
 | σ :: r => match mX σ c,parts c r with
  | some f,some (a,b) => match lY σ f with
   | some true => some (σ.asm none true f :: a,b)
   | some false => some (a,σ.asm none false f :: b)
   | none => some (σ.asm none true f :: a,σ.asm none false f :: b)
  | _,_ => none
theorem lO {P : Program} {I : Pr} {c : Operand} : ∀ {S a b : List DSt},parts c S = some (a,b) → (∀ σ ∈ S,σ.sc) →
  (∀ σ' ∈ a ++ b, ∃ σ ∈ S,σ'.sc ∧ σ'.nx = σ.nx) ∧ ∀ σ ∈ S, ∃ f,mX σ c = some f ∧ ∀ ρ,σ.ok P I ρ → (f.v ρ = true → ∃ σ' ∈ a,σ'.nx = σ.nx ∧ σ'.ok P I ρ ∧ bu (σ.v ρ) (σ'.v ρ)) ∧ (f.v ρ = false → ∃ σ' ∈ b,σ'.nx = σ.nx ∧ σ'.ok P I ρ ∧ bu (σ.v ρ) (σ'.v ρ))
 | [],a,b,h,_ => by
  simp only [parts,Option.some.injEq,Prod.mk.injEq] at h; obtain ⟨rfl,rfl⟩ := h
  exact ⟨by simp,by simp⟩
 | σ :: r,a,b,h,hs => by
  simp only [parts] at h
  split at h
  ·rename_i f a' b' hf hr
   obtain ⟨r1,r2⟩ := lO (P := P) (I := I) hr fun σ hσ => hs σ (List.mem_cons_of_mem _ hσ)
   have hσs := hs σ (List.mem_cons_self ..)
   have hfs := ve hσs hf
   have s1 : ∀ x,(σ.asm none x f).sc ∧ (σ.asm none x f).nx = σ.nx := fun x => ⟨B0 hσs none x hfs,rfl⟩
   have s2 : ∀ x ρ,f.v ρ = x → σ.ok P I ρ → (σ.asm none x f).nx = σ.nx ∧ (σ.asm none x f).ok P I ρ ∧ bu (σ.v ρ) ((σ.asm none x f).v ρ) := fun x ρ hx hok => ⟨rfl,B1 hok none hx,bu.refl _⟩
   split at h
   ·rename_i hd
    simp only [Option.some.injEq,Prod.mk.injEq] at h; obtain ⟨rfl,rfl⟩ := h
    refine ⟨?_,?_⟩
    ·intro σ' hσ'
     rcases List.mem_append.1 hσ' with hσ' | hσ'
     ·rcases List.mem_cons.1 hσ' with rfl | hσ'
      ·exact ⟨σ,List.mem_cons_self ..,s1 true⟩
      ·obtain ⟨τ,h1,h2⟩ := r1 σ' (List.mem_append.2 (.inl hσ')); exact ⟨τ,List.mem_cons_of_mem _ h1,h2⟩
     ·obtain ⟨τ,h1,h2⟩ := r1 σ' (List.mem_append.2 (.inr hσ')); exact ⟨τ,List.mem_cons_of_mem _ h1,h2⟩
    ·intro τ hτ
     rcases List.mem_cons.1 hτ with rfl | hτ
     ·refine ⟨f,hf,fun ρ hok => ⟨fun hx => ⟨_,List.mem_cons_self ..,s2 true ρ hx hok⟩,fun hx => ?_⟩⟩
      rw [wA hok hd] at hx; cases hx
     ·obtain ⟨g,h1,h2⟩ := r2 τ hτ
      refine ⟨g,h1,fun ρ hok => ⟨fun hx => ?_,fun hx => (h2 ρ hok).2 hx⟩⟩
      obtain ⟨y,q1,q2⟩ := (h2 ρ hok).1 hx; exact ⟨y,List.mem_cons_of_mem _ q1,q2⟩
   ·rename_i hd
    simp only [Option.some.injEq,Prod.mk.injEq] at h; obtain ⟨rfl,rfl⟩ := h
    refine ⟨?_,?_⟩
    ·intro σ' hσ'
     rcases List.mem_append.1 hσ' with hσ' | hσ'
     ·obtain ⟨τ,h1,h2⟩ := r1 σ' (List.mem_append.2 (.inl hσ')); exact ⟨τ,List.mem_cons_of_mem _ h1,h2⟩
     ·rcases List.mem_cons.1 hσ' with rfl | hσ'
      ·exact ⟨σ,List.mem_cons_self ..,s1 false⟩
      ·obtain ⟨τ,h1,h2⟩ := r1 σ' (List.mem_append.2 (.inr hσ')); exact ⟨τ,List.mem_cons_of_mem _ h1,h2⟩
    ·intro τ hτ
     rcases List.mem_cons.1 hτ with rfl | hτ
     ·refine ⟨f,hf,fun ρ hok => ⟨fun hx => ?_,fun hx => ⟨_,List.mem_cons_self ..,s2 false ρ hx hok⟩⟩⟩
      rw [wA hok hd] at hx; cases hx
     ·obtain ⟨g,h1,h2⟩ := r2 τ hτ
      refine ⟨g,h1,fun ρ hok => ⟨fun hx => (h2 ρ hok).1 hx,fun hx => ?_⟩⟩
      obtain ⟨y,q1,q2⟩ := (h2 ρ hok).2 hx; exact ⟨y,List.mem_cons_of_mem _ q1,q2⟩
   ·simp only [Option.some.injEq,Prod.mk.injEq] at h; obtain ⟨rfl,rfl⟩ := h
    refine ⟨?_,?_⟩
    ·intro σ' hσ'
     rcases List.mem_append.1 hσ' with hσ' | hσ'
     ·rcases List.mem_cons.1 hσ' with rfl | hσ'
      ·exact ⟨σ,List.mem_cons_self ..,s1 true⟩
      ·obtain ⟨τ,h1,h2⟩ := r1 σ' (List.mem_append.2 (.inl hσ')); exact ⟨τ,List.mem_cons_of_mem _ h1,h2⟩
     ·rcases List.mem_cons.1 hσ' with rfl | hσ'
      ·exact ⟨σ,List.mem_cons_self ..,s1 false⟩
      ·obtain ⟨τ,h1,h2⟩ := r1 σ' (List.mem_append.2 (.inr hσ')); exact ⟨τ,List.mem_cons_of_mem _ h1,h2⟩
    ·intro τ hτ
     rcases List.mem_cons.1 hτ with rfl | hτ
     ·exact ⟨f,hf,fun ρ hok => ⟨fun hx => ⟨_,List.mem_cons_self ..,s2 true ρ hx hok⟩,fun hx => ⟨_,List.mem_cons_self ..,s2 false ρ hx hok⟩⟩⟩
     ·obtain ⟨g,h1,h2⟩ := r2 τ hτ
      refine ⟨g,h1,fun ρ hok => ⟨fun hx => ?_,fun hx => ?_⟩⟩
      ·obtain ⟨y,q1,q2⟩ := (h2 ρ hok).1 hx; exact ⟨y,List.mem_cons_of_mem _ q1,q2⟩
      ·obtain ⟨y,q1,q2⟩ := (h2 ρ hok).2 hx; exact ⟨y,List.mem_cons_of_mem _ q1,q2⟩
  ·cases h
def reb (σ0 : DSt) : List DSt → DSt
 | [σ] => σ
 | _ => σ0
def iW (A : Ann) (id : Nat) (σ : DSt) : DSt :=
 match A.keep id with
 | some L => { σ with ab := pick σ.ab L }
 | none => σ
theorem Ks {A : Ann} {id : Nat} {σ : DSt} (hs : σ.sc) : (iW A id σ).sc ∧ (iW A id σ).nx = σ.nx := by
 unfold iW
 split
 ·exact ⟨⟨fun t v hl => hs.ab t v (eJ _ _ _ _ hl),hs.tab,hs.tys,hs.lin,hs.prs⟩,rfl⟩
 ·exact ⟨hs,rfl⟩
theorem Kt {P : Program} {I : Pr} {A : Ann} {id : Nat} {σ : DSt} {ρ : Ro} (h : σ.ok P I ρ) : (iW A id σ).ok P I ρ := by
 unfold iW
 split
 ·exact ⟨h.g,h.tys,h.lin,h.prs⟩
 ·exact h
theorem It {P : Program} {n : Nat} {A : Ann} {id : Nat} {σ : DSt} {ρ : Ro} : Imp P n (σ.v ρ) ((iW A id σ).v ρ) := by
 unfold iW
 split
 ·refine BR ?_ (fun k b hl => ⟨b,hl,fun _ _ _ h => h⟩) (fun k hk => hk)
  intro t b hl
  simp only [DSt.v,kV] at hl ⊢
  exact ⟨b,eJ _ _ _ _ hl,fun _ _ _ _ h => h⟩
 ·exact Imp.refl
def lz (A : Ann) (id : Nat) : List DSt → List DSt
 | [] => []
 | σ :: r => iW A id σ :: lz A id r
theorem uf {A : Ann} {id : Nat} : ∀ {l : List DSt} {x : DSt},x ∈ lz A id l → ∃ σ ∈ l,x = iW A id σ
 | σ :: r,x,h => by
  simp only [lz,List.mem_cons] at h
  rcases h with rfl | h
  ·exact ⟨σ,List.mem_cons_self ..,rfl⟩
  ·obtain ⟨τ,h1,h2⟩ := uf h; exact ⟨τ,List.mem_cons_of_mem _ h1,h2⟩
theorem wM {A : Ann} {id : Nat} : ∀ {l : List DSt} {σ : DSt},σ ∈ l → iW A id σ ∈ lz A id l
 | τ :: r,σ,h => by
  simp only [lz]
  rcases List.mem_cons.1 h with rfl | h
  ·exact List.mem_cons_self ..
  ·exact List.mem_cons_of_mem _ (wM h)
def yn (P : Program) (n : Nat) (CL : DSt → Oper → aQ) (ops : Array Oper) (draw : Bool) (σ : DSt) : aQ :=
 match gR n ops.toList with
 | true => match draw with
  | false => th P n CL ops.toList (List.range ops.size) σ
  | true => match P.follows .mixedOrders,Region.noSelect ops with
   | true,true => sk P n CL ops σ ops.size [(Array.replicate ops.size false,σ)]
   | _,_ => none
 | false => none
theorem sn {P : Program} {I : Pr} {n id : Nat} {CL : DSt → Oper → aQ} (hC : Handler P I n CL) {ops : Array Oper} {draw : Bool} {σ : DSt} {outs : List DSt} {q : List Seq} (h : yn P n CL ops draw σ = some (outs,q)) (hV : Valid P I q) (hs : σ.sc)
  {Q : Exit → St → Prop} (hQ : ∀ c s,Q (.panic c) s → False) : gy P I (fun s => AWP P n (.region id ops draw) s Q) (fun s => Q .normal s) σ outs := by
 unfold yn at h
 split at h
 ·rename_i hds
  split at h
  ·have g := wJ hC (Q := Q) hds _ σ outs q h hV hs
   exact ⟨g.sc,fun ρ hok hB => Fl (g.run ρ hok hB)⟩
  ·split at h
   ·rename_i hm hsel
    obtain ⟨g1,g2⟩ := DE hC hds hsel hQ hs _ _ outs q h hV (by simpa using hs)
    exact ⟨g1,fun ρ hok hB => HF _ _ hm rfl rfl (g2 _ (List.mem_singleton.2 rfl) ρ hok hok hB)⟩
   ·cases h
 ·cases h
def mi (e : Exit) : List DSt → List (Exit × DSt)
 | [] => []
 | σ :: r => (e,σ) :: mi e r
theorem iX {e : Exit} : ∀ {l : List DSt} {p : Exit × DSt},p ∈ mi e l → p.1 = e ∧ p.2 ∈ l
 | σ :: r,p,h => by
  simp only [mi,List.mem_cons] at h
  rcases h with rfl | h
  ·exact ⟨rfl,List.mem_cons_self ..⟩
  ·obtain ⟨h1,h2⟩ := iX h; exact ⟨h1,List.mem_cons_of_mem _ h2⟩
theorem so {e : Exit} : ∀ {l : List DSt} {σ : DSt},σ ∈ l → (e,σ) ∈ mi e l
 | τ :: r,σ,h => by
  simp only [mi]
  rcases List.mem_cons.1 h with rfl | h
  ·exact List.mem_cons_self ..
  ·exact List.mem_cons_of_mem _ (so h)
def di (id : Nat) : List (Exit × DSt) → List DSt × List (Exit × DSt)
 | [] => ([],[])
 | (.exit j,σ) :: r => match di id r with
  | (a,b) => match Nat.beq j id with
   | true => (σ :: a,b)
   | false => (a,(.exit j,σ) :: b)
 | p :: r => match di id r with
  | (a,b) => (a,p :: b)
theorem tn {id : Nat} : ∀ {l : List (Exit × DSt)} {σ : DSt},σ ∈ (di id l).1 → (.exit id,σ) ∈ l
 | [],σ,h => by simp [di] at h
 | (e,τ) :: r,σ,h => by
  cases e with
  | exit j =>
   simp only [di] at h
   cases hb : Nat.beq j id with
   | true =>
    simp only [hb,List.mem_cons] at h
    rcases h with rfl | h
    ·rw [Nat.eq_of_beq_eq_true hb]; exact List.mem_cons_self ..
    ·exact List.mem_cons_of_mem _ (tn h)
   | false => simp only [hb] at h; exact List.mem_cons_of_mem _ (tn h)
  | _ => simp only [di] at h; exact List.mem_cons_of_mem _ (tn h)
theorem tq {id : Nat} : ∀ {l : List (Exit × DSt)} {p : Exit × DSt},p ∈ (di id l).2 → p ∈ l
 | [],p,h => by simp [di] at h
 | (e,τ) :: r,p,h => by
  cases e with
  | exit j =>
   simp only [di] at h
   cases hb : Nat.beq j id with
   | true => simp only [hb] at h; exact List.mem_cons_of_mem _ (tq h)
   | false =>
    simp only [hb,List.mem_cons] at h
    rcases h with rfl | h
    ·exact List.mem_cons_self ..
    ·exact List.mem_cons_of_mem _ (tq h)
  | _ =>
   simp only [di,List.mem_cons] at h
   rcases h with rfl | h
   ·exact List.mem_cons_self ..
   ·exact List.mem_cons_of_mem _ (tq h)
theorem Cb {id : Nat} : ∀ {l : List (Exit × DSt)} {e : Exit} {σ : DSt},(e,σ) ∈ l → (e = .exit id ∧ σ ∈ (di id l).1) ∨ (e ≠ .exit id ∧ (e,σ) ∈ (di id l).2)
 | [],e,σ,h => by simp at h
 | (e0,τ) :: r,e,σ,h => by
  rcases List.mem_cons.1 h with h | h
  ·simp only [Prod.mk.injEq] at h; obtain ⟨rfl,rfl⟩ := h
   cases e with
   | exit j =>
    simp only [di]
    cases hb : Nat.beq j id with
    | true => exact .inl ⟨by rw [Nat.eq_of_beq_eq_true hb],List.mem_cons_self ..⟩
    | false => exact .inr ⟨fun e => by cases e; simp [Nat.beq_refl] at hb,List.mem_cons_self ..⟩
   | _ => simp only [di]; exact .inr ⟨by simp,List.mem_cons_self ..⟩
  ·have ih := Cb (id := id) h
   cases e0 with
   | exit j =>
    simp only [di]
    cases hb : Nat.beq j id with
    | true => exact ih.imp (fun ⟨a,b⟩ => ⟨a,List.mem_cons_of_mem _ b⟩) (fun x => x)
    | false => exact ih.imp (fun x => x) fun ⟨a,b⟩ => ⟨a,List.mem_cons_of_mem _ b⟩
   | _ => simp only [di]; exact ih.imp (fun x => x) fun ⟨a,b⟩ => ⟨a,List.mem_cons_of_mem _ b⟩
def down (m : Lin) (θ : Th) : List G := [.le (((m.si θ).ax (-1) m).aD 1),.le ((Lin.scale (-1) m).aD 1)]
def Au (n n0 : Nat) (T : DSt) (m : Lin) : List DSt → Option (List Seq)
 | [] => some []
 | σ :: r => match pZ n n0 σ T (down m),Au n n0 T m r with
  | some a,some b => some (a ++ b)
  | _,_ => none
theorem zA {n n0 : Nat} {T : DSt} {m : Lin} : ∀ {S : List DSt} {q : List Seq},Au n n0 T m S = some q → ∀ σ ∈ S, ∃ p,pZ n n0 σ T (down m) = some p ∧ ∀ s ∈ p,s ∈ q
 | [],q,h,σ,hσ => by simp at hσ
 | σ0' :: r,q,h,σ,hσ => by
  simp only [Au] at h
  split at h
  ·rename_i a b h1 h2
   simp only [Option.some.injEq] at h; subst h
   rcases List.mem_cons.1 hσ with rfl | hσ
   ·exact ⟨a,h1,fun s hs => List.mem_append.2 (.inl hs)⟩
   ·obtain ⟨p,e1,e2⟩ := zA h2 σ hσ
    exact ⟨p,e1,fun s hs => List.mem_append.2 (.inr (e2 s hs))⟩
  ·cases h
def wN (σ : DSt) : List Nat → DSt
 | [] => σ
 | l :: r => wN (F7 σ l) r
theorem zB {P : Program} {I : Pr} : ∀ {ls : List Nat} {σ : DSt},GOk P I σ (wN σ ls)
 | [],_ => GOk.refl
 | _l :: r,_σ => GOk.trans Kp (zB (ls := r))
def dN (ex : List DSt → Option Res) : Nat → List DSt → Option (List (Exit × DSt) × List Seq)
 | _,[] => some ([],[])
 | 0,_ :: _ => none
 | k + 1,σ :: r => match ex (σ :: r) with
  | some R => match dN ex k R.nor with
   | some (o,q) => some (R.oth ++ o,R.q ++ q)
   | none => none
  | none => none
def exec (P : Program) (n : Nat) (CL : DSt → Oper → aQ) (A : Ann) : Code → Nat → DSt → List DSt → Option Res
 | .skip,_,σ0,S => some ⟨S,σ0,[],[]⟩
 | .ret,_,σ0,S => some ⟨[],σ0,mi .ret S,[]⟩
 | .exit id,_,σ0,S => some ⟨[],σ0,mi (.exit id) S,[]⟩
 | .region id ops draw,_,σ0,S => match As n A false id σ0 S with
  | some (S',q0) => match iH (yn P n CL ops draw) S' with
   | some (outs,q) => some ⟨lz A id outs,reb σ0 S',[],q0 ++ q⟩
   | none => none
  | none => none
 | .seq a b,bid,σ0,S => match exec P n CL A a bid σ0 S with
  | some R => match exec P n CL A b bid (reb R.base R.nor) R.nor with
   | some R' => some ⟨R'.nor,R'.base,R.oth ++ R'.oth,R.q ++ R'.q⟩
   | none => none
  | none => none
 | .cond c x y,bid,σ0,S => match parts c S with
  | some (T,F) => match exec P n CL A x bid (reb σ0 T) T,exec P n CL A y bid (reb σ0 F) F with
   | some R,some R' => some ⟨R.nor ++ R'.nor,σ0,R.oth ++ R'.oth,R.q ++ R'.q⟩
   | _,_ => none
  | none => none
 | .block id c,_,σ0,S => match exec P n CL A c id σ0 S with
  | some R => match di id R.oth with
   | ([],o) => some ⟨R.nor,R.base,o,R.q⟩
   | (e,o) => some ⟨R.nor ++ e,σ0,o,R.q⟩
  | none => none
 | .loop c,bid,σ0,S => match A.Iw bid with
  | some m => match dN (fun S => exec P n CL A c bid σ0 S) m S with
   | some (o,q) => some ⟨[],σ0,o,q⟩
   | none => none
  | none => match As n A true (100000 + bid) σ0 S with
   | some ([σa],q0) => match wN σa (A.opens bid σa) with
    | σ => match A.loop bid σ with
     | some (T,m) => match kW σ.nx T,scB T.nx m.vars,F6 n σ σ T with
      | true,true,some q1 => match exec P n CL A c bid (T.over σ) [T.over σ] with
       | some R => match Au n σ.nx T m R.nor with
        | some q2 => some ⟨[],σ0,R.oth,q0 ++ (q1 ++ (R.q ++ q2))⟩
        | none => none
       | none => none
      | _,_,_ => none
     | none => none
   | some ([],q0) => some ⟨[],σ0,[],q0⟩
   | _ => none
 | _,_,_,_ => none
structure Iu (P : Program) (I : Pr) (n : Nat) (c : Code) (σ0 : DSt) (S : List DSt) (R : Res) : Prop where
 base : R.base.sc ∧ σ0.nx ≤ R.base.nx
 nor : ∀ σ' ∈ R.nor,σ'.sc ∧ R.base.nx ≤ σ'.nx
 oth : ∀ p ∈ R.oth,p.2.sc ∧ σ0.nx ≤ p.2.nx
 ne : ∀ p ∈ R.oth,p.1 ≠ .normal
 run : ∀ σ ∈ S, ∀ ρ,σ.ok P I ρ → σ0.ok P I ρ → ∀ Q : Exit → St → Prop,(∀ c s,Q (.panic c) s → False) →
  (∀ σ' ∈ R.nor, ∀ ρ',ao σ0.nx ρ ρ' → σ'.ok P I ρ' → R.base.ok P I ρ' → ∀ s,Imp P n s (σ'.v ρ') → Q .normal s) →
  (∀ e σ',(e,σ') ∈ R.oth → ∀ ρ',ao σ0.nx ρ ρ' → σ'.ok P I ρ' → ∀ s,Imp P n s (σ'.v ρ') → Q e s) → AWP P n c (σ.v ρ) Q
theorem wO {P : Program} {I : Pr} {σ0 : DSt} {S : List DSt} (h0 : σ0.sc) (hS : ∀ σ ∈ S,σ.sc ∧ σ0.nx ≤ σ.nx) :
  (reb σ0 S).sc ∧ σ0.nx ≤ (reb σ0 S).nx ∧ (∀ σ ∈ S,(reb σ0 S).nx ≤ σ.nx) ∧ ∀ σ ∈ S, ∀ ρ,σ.ok P I ρ → σ0.ok P I ρ → (reb σ0 S).ok P I ρ := by
 unfold reb
 split
 ·rename_i σ
  have := hS σ (by simp)
  exact ⟨this.1,this.2,by simp,fun τ hτ ρ h _ => by simp at hτ; subst hτ; exact h⟩
 ·exact ⟨h0,Nat.le_refl _,fun σ hσ => (hS σ hσ).2,fun _ _ _ _ h => h⟩
theorem AWP.of_same {P : Program} {n : Nat} {c : Code} {s s' : St} {Q : Exit → St → Prop} (h : bu s s') (k : AWP P n c s' Q) : AWP P n c s Q :=
 fun lo w0 E0 a w hh => k lo w0 E0 a w (h.holds hh)
theorem Iv {P : Program} {I : Pr} {n : Nat} {c : Code} {σ0 : DSt} (h0 : σ0.sc) {ex : List DSt → Option Res}
  (hex : ∀ S R,ex S = some R → Valid P I R.q → (∀ σ ∈ S,σ.sc ∧ σ0.nx ≤ σ.nx) → Iu P I n c σ0 S R) {m : Nat} {S : List DSt} {o : List (Exit × DSt)} {q : List Seq} (hu : dN ex m S = some (o,q)) (hV : Valid P I q) (hS : ∀ σ ∈ S,σ.sc ∧ σ0.nx ≤ σ.nx) :
  (∀ p ∈ o,p.2.sc ∧ σ0.nx ≤ p.2.nx) ∧ (∀ p ∈ o,p.1 ≠ .normal) ∧ ∀ σ ∈ S, ∀ ρ,σ.ok P I ρ → σ0.ok P I ρ → ∀ Q : Exit → St → Prop,(∀ c s,Q (.panic c) s → False) →
   (∀ e σ',(e,σ') ∈ o → ∀ ρ',ao σ0.nx ρ ρ' → σ'.ok P I ρ' → ∀ s,Imp P n s (σ'.v ρ') → Q e s) → AWP P n (.loop c) (σ.v ρ) Q := by
 have base : ∀ (m : Nat) (S : List DSt) (o : List (Exit × DSt)) (q : List Seq),dN ex m S = some (o,q) → Valid P I q → (∀ σ ∈ S,σ.sc ∧ σ0.nx ≤ σ.nx) → (∀ p ∈ o,p.2.sc ∧ σ0.nx ≤ p.2.nx) ∧ ∀ p ∈ o,p.1 ≠ .normal := by
  intro m
  induction m with
  | zero =>
   intro S o q hu hV hS
   cases S with
   | nil => simp only [dN,Option.some.injEq,Prod.mk.injEq] at hu; rw [← hu.1]; simp
   | cons σ r => simp [dN] at hu
  | succ m ih =>
   intro S o q hu hV hS
   cases S with
   | nil => simp only [dN,Option.some.injEq,Prod.mk.injEq] at hu; rw [← hu.1]; simp
   | cons σ r =>
    simp only [dN] at hu
    split at hu
    ·rename_i R hR
     split at hu
     ·rename_i o' q' hu'
      simp only [Option.some.injEq,Prod.mk.injEq] at hu; obtain ⟨rfl,rfl⟩ := hu
      rw [Valid.app] at hV
      have x := hex _ R hR hV.1 hS
      have y := ih R.nor o' q' hu' hV.2 fun σ hσ => ⟨(x.nor σ hσ).1,Nat.le_trans x.base.2 (x.nor σ hσ).2⟩
      exact ⟨fun p hp => (List.mem_append.1 hp).elim (x.oth p) (y.1 p),fun p hp => (List.mem_append.1 hp).elim (x.ne p) (y.2 p)⟩
     ·cases hu
    ·cases hu
 obtain ⟨b1,b2⟩ := base m S o q hu hV hS
 refine ⟨b1,b2,?_⟩
 intro σ hσ ρ hok hok0 Q hQ ho
 refine AV (α := Nat × DSt × Ro) (fun x => x.2.1.v x.2.2) (fun x => ∃ S o' q',x.2.1 ∈ S ∧ dN ex x.1 S = some (o',q') ∧ (∀ p ∈ o',p ∈ o) ∧ Valid P I q' ∧ (∀ σ ∈ S,σ.sc ∧ σ0.nx ≤ σ.nx) ∧ x.2.1.ok P I x.2.2 ∧ σ0.ok P I x.2.2 ∧ ao σ0.nx ρ x.2.2)
  (fun x => x.1) (m,σ,ρ) Imp.refl ⟨S,o,q,hσ,hu,fun _ h => h,hV,hS,hok,hok0,ao.refl _ _⟩ ?_
 rintro ⟨k,τ,r⟩ ⟨S1,o1,q1,hτ,hu1,hsub,hV1,hS1,okτ,ok0,ag⟩
 cases S1 with
 | nil => simp at hτ
 | cons s1 r1 =>
  cases k with
  | zero => simp [dN] at hu1
  | succ k =>
   simp only [dN] at hu1
   split at hu1
   ·rename_i R hR
    split at hu1
    ·rename_i o' q' hu'
     simp only [Option.some.injEq,Prod.mk.injEq] at hu1; obtain ⟨rfl,rfl⟩ := hu1
     rw [Valid.app] at hV1
     have x := hex _ R hR hV1.1 hS1
     refine x.run τ hτ r okτ ok0 _ ?_ ?_ ?_
     ·intro c s hc; exact hQ c s hc
     ·intro y hy r2 ag2 ok2 okb2 s im2
      exact ⟨(k,y,r2),⟨R.nor,o',q',hy,hu',fun p hp => hsub p (List.mem_append.2 (.inr hp)),hV1.2,fun σ hσ => ⟨(x.nor σ hσ).1,Nat.le_trans x.base.2 (x.nor σ hσ).2⟩,ok2,ok0.ag h0 ag2 ok2.g,ag.trans ag2 (Nat.le_refl _)⟩,Nat.lt_succ_self k,im2⟩
     ·intro e y hy r2 ag2 ok2 s im2
      have := ho e y (hsub _ (List.mem_append.2 (.inl hy))) r2 (ag.trans ag2 (Nat.le_refl _)) ok2 s im2
      cases e with
      | normal => exact absurd rfl (x.ne _ hy)
      | _ => exact this
    ·cases hu1
   ·cases hu1
theorem Nn {P : Program} {I : Pr} {n : Nat} {CL : DSt → Oper → aQ} (hC : Handler P I n CL) (A : Ann) : ∀ (c : Code) (bid : Nat) (σ0 : DSt) (S : List DSt) (R : Res),
  exec P n CL A c bid σ0 S = some R → Valid P I R.q → σ0.sc → (∀ σ ∈ S,σ.sc ∧ σ0.nx ≤ σ.nx) → Iu P I n c σ0 S R := by
 intro c
 induction c with
 | skip =>
  intro bid σ0 S R h hV h0 hS
  simp only [exec,Option.some.injEq] at h; subst h
  exact ⟨⟨h0,Nat.le_refl _⟩,hS,by simp,by simp,fun σ hσ ρ hok hok0 Q _ hn _ => Jt (hn σ hσ ρ (ao.refl _ _) hok hok0 _ Imp.refl)⟩
 | ret =>
  intro bid σ0 S R h hV h0 hS
  simp only [exec,Option.some.injEq] at h; subst h
  refine ⟨⟨h0,Nat.le_refl _⟩,by simp,?_,fun p hp => by rw [(iX hp).1]; simp,fun σ hσ ρ hok hok0 Q _ _ ho => MO (ho .ret σ (so hσ) ρ (ao.refl _ _) hok _ Imp.refl)⟩
  intro p hp; obtain ⟨_,h2⟩ := iX hp; exact hS _ h2
 | exit id =>
  intro bid σ0 S R h hV h0 hS
  simp only [exec,Option.some.injEq] at h; subst h
  refine ⟨⟨h0,Nat.le_refl _⟩,by simp,?_,fun p hp => by rw [(iX hp).1]; simp,fun σ hσ ρ hok hok0 Q _ _ ho => Ju (ho (.exit id) σ (so hσ) ρ (ao.refl _ _) hok _ Imp.refl)⟩
  intro p hp; obtain ⟨_,h2⟩ := iX hp; exact hS _ h2
 | region id ops draw =>
  intro bid σ0 S R h hV h0 hS
  simp only [exec] at h
  split at h
  ·rename_i S' q0 hj
   split at h
   ·rename_i outs q hm
    simp only [Option.some.injEq] at h; subst h
    have hj' := vb hj (fun s hs => hV s (List.mem_append.2 (.inl hs))) h0 hS
    have hVq : Valid P I q := fun s hs => hV s (List.mem_append.2 (.inr hs))
    have hrb := wO (P := P) (I := I) h0 hj'.sc
    have good : ∀ τ ∈ S', ∀ {Q : Exit → St → Prop},(∀ c s,Q (.panic c) s → False) → ∃ a,(∀ x ∈ a,x ∈ outs) ∧ gy P I (fun s => AWP P n (.region id ops draw) s Q) (fun s => Q .normal s) τ a := by
     intro τ hτ Q hQ
     obtain ⟨a,p,e1,e2,e3⟩ := gQ hm τ hτ
     exact ⟨a,e2,sn hC e1 (fun s hs => hVq s (e3 s hs)) (hj'.sc τ hτ).1 hQ⟩
    refine ⟨⟨hrb.1,hrb.2.1⟩,?_,by simp,by simp,?_⟩
    ·intro x hx
     obtain ⟨y,hy,rfl⟩ := uf hx
     obtain ⟨τ,hτ,a,p,e1,e2⟩ := mf hm y hy
     obtain ⟨a',p',e1',_,e3'⟩ := gQ hm τ hτ
     rw [e1] at e1'; simp only [Option.some.injEq,Prod.mk.injEq] at e1'; obtain ⟨rfl,rfl⟩ := e1'
     have g := (sn (id := id) hC (Q := fun e _ => e = .normal) e1 (fun s hs => hVq s (e3' s hs)) (hj'.sc τ hτ).1 (fun c s h => by cases h)).sc y e2
     have k := Ks (A := A) (id := id) g.1
     exact ⟨k.1,Nat.le_trans (hrb.2.2.1 τ hτ) (k.2 ▸ g.2)⟩
    ·intro σ hσ ρ hok hok0 Q hQ hn ho
     obtain ⟨τ,hτ,ρ1,ag1,ok1,im1⟩ := hj'.to σ hσ ρ hok hok0
     obtain ⟨a,ha,g⟩ := good τ hτ hQ
     refine AWP.imp im1 (g.run ρ1 ok1 ?_)
     intro y hy ρ2 ag2 ok2
     have hτs := hj'.sc τ hτ
     refine hn (iW A id y) (wM (ha y hy)) ρ2 (ag1.trans ag2 hτs.2) (Kt ok2) ?_ _ It
     have hb := hrb.2.2.2 τ hτ ρ1 ok1 (hok0.ag h0 ag1 ok1.g)
     exact hb.ag hrb.1 (ag2.le (hrb.2.2.1 τ hτ)) ok2.g
   ·cases h
  ·cases h
 | seq a b iha ihb =>
  intro bid σ0 S R h hV h0 hS
  simp only [exec] at h
  split at h
  ·rename_i R1 h1
   split at h
   ·rename_i R2 h2
    simp only [Option.some.injEq] at h; subst h
    have x1 := iha bid σ0 S R1 h1 (fun s hs => hV s (List.mem_append.2 (.inl hs))) h0 hS
    have hrb := wO (P := P) (I := I) x1.base.1 x1.nor
    have x2 := ihb bid _ _ R2 h2 (fun s hs => hV s (List.mem_append.2 (.inr hs))) hrb.1 (fun σ hσ => ⟨(x1.nor σ hσ).1,hrb.2.2.1 σ hσ⟩)
    have l1 : σ0.nx ≤ (reb R1.base R1.nor).nx := Nat.le_trans x1.base.2 hrb.2.1
    refine ⟨⟨x2.base.1,Nat.le_trans l1 x2.base.2⟩,x2.nor,?_,fun p hp => (List.mem_append.1 hp).elim (x1.ne p) (x2.ne p),?_⟩
    ·intro p hp
     rcases List.mem_append.1 hp with hp | hp
     ·exact x1.oth p hp
     ·exact ⟨(x2.oth p hp).1,Nat.le_trans l1 (x2.oth p hp).2⟩
    ·intro σ hσ ρ hok hok0 Q hQ hn ho
     refine MN (x1.run σ hσ ρ hok hok0 _ ?_ ?_ ?_)
     ·intro c s hc; exact hQ c s hc
     ·intro τ hτ ρ1 ag1 ok1 okb s im
      refine AWP.imp im (x2.run τ hτ ρ1 ok1 (hrb.2.2.2 τ hτ ρ1 ok1 okb) Q hQ ?_ ?_)
      ·intro y hy ρ2 ag2 ok2 okb2 s im2
       exact hn y hy ρ2 (ag1.trans ag2 l1) ok2 okb2 s im2
      ·intro e y hy ρ2 ag2 ok2 s im2
       exact ho e y (List.mem_append.2 (.inr hy)) ρ2 (ag1.trans ag2 l1) ok2 s im2
     ·intro e τ hτ ρ1 ag1 ok1 s im
      have := ho e τ (List.mem_append.2 (.inl hτ)) ρ1 ag1 ok1 s im
      cases e with
      | normal => exact absurd rfl (x1.ne _ hτ)
      | _ => exact this
   ·cases h
  ·cases h
 | cond c x y ihx ihy =>
  intro bid σ0 S R h hV h0 hS
  simp only [exec] at h
  split at h
  ·rename_i T F hp
   split at h
   ·rename_i R1 R2 h1 h2
    simp only [Option.some.injEq] at h; subst h
    obtain ⟨p1,p2⟩ := lO (P := P) (I := I) hp fun σ hσ => (hS σ hσ).1
    have hT : ∀ σ ∈ T,σ.sc ∧ σ0.nx ≤ σ.nx := fun σ hσ => by
     obtain ⟨τ,h1,h2,h3⟩ := p1 σ (List.mem_append.2 (.inl hσ)); exact ⟨h2,h3 ▸ (hS τ h1).2⟩
    have hF : ∀ σ ∈ F,σ.sc ∧ σ0.nx ≤ σ.nx := fun σ hσ => by
     obtain ⟨τ,h1,h2,h3⟩ := p1 σ (List.mem_append.2 (.inr hσ)); exact ⟨h2,h3 ▸ (hS τ h1).2⟩
    have rT := wO (P := P) (I := I) h0 hT
    have rF := wO (P := P) (I := I) h0 hF
    have x1 := ihx bid _ T R1 h1 (fun s hs => hV s (List.mem_append.2 (.inl hs))) rT.1 (fun σ hσ => ⟨(hT σ hσ).1,rT.2.2.1 σ hσ⟩)
    have x2 := ihy bid _ F R2 h2 (fun s hs => hV s (List.mem_append.2 (.inr hs))) rF.1 (fun σ hσ => ⟨(hF σ hσ).1,rF.2.2.1 σ hσ⟩)
    refine ⟨⟨h0,Nat.le_refl _⟩,?_,?_,fun p hp => (List.mem_append.1 hp).elim (x1.ne p) (x2.ne p),?_⟩
    ·intro σ hσ
     rcases List.mem_append.1 hσ with hσ | hσ
     ·exact ⟨(x1.nor σ hσ).1,Nat.le_trans rT.2.1 (Nat.le_trans x1.base.2 (x1.nor σ hσ).2)⟩
     ·exact ⟨(x2.nor σ hσ).1,Nat.le_trans rF.2.1 (Nat.le_trans x2.base.2 (x2.nor σ hσ).2)⟩
    ·intro p hp
     rcases List.mem_append.1 hp with hp | hp
     ·exact ⟨(x1.oth p hp).1,Nat.le_trans rT.2.1 (x1.oth p hp).2⟩
     ·exact ⟨(x2.oth p hp).1,Nat.le_trans rF.2.1 (x2.oth p hp).2⟩
    ·intro σ hσ ρ hok hok0 Q hQ hn ho
     obtain ⟨f,hf,hsp⟩ := p2 σ hσ
     refine Jv (f.v ρ) (oq ρ hf) ?_ ?_
     ·intro hb
      obtain ⟨τ,hτ,hnx,okτ,sm⟩ := (hsp ρ hok).1 hb
      refine AWP.of_same sm (x1.run τ hτ ρ okτ (rT.2.2.2 τ hτ ρ okτ hok0) Q hQ ?_ ?_)
      ·intro y hy ρ2 ag2 ok2 okb2 s im2
       exact hn y (List.mem_append.2 (.inl hy)) ρ2 (ag2.le rT.2.1) ok2 (hok0.ag h0 (ag2.le rT.2.1) ok2.g) s im2
      ·intro e y hy ρ2 ag2 ok2 s im2
       exact ho e y (List.mem_append.2 (.inl hy)) ρ2 (ag2.le rT.2.1) ok2 s im2
     ·intro hb
      obtain ⟨τ,hτ,hnx,okτ,sm⟩ := (hsp ρ hok).2 hb
      refine AWP.of_same sm (x2.run τ hτ ρ okτ (rF.2.2.2 τ hτ ρ okτ hok0) Q hQ ?_ ?_)
      ·intro y hy ρ2 ag2 ok2 okb2 s im2
       exact hn y (List.mem_append.2 (.inr hy)) ρ2 (ag2.le rF.2.1) ok2 (hok0.ag h0 (ag2.le rF.2.1) ok2.g) s im2
      ·intro e y hy ρ2 ag2 ok2 s im2
       exact ho e y (List.mem_append.2 (.inr hy)) ρ2 (ag2.le rF.2.1) ok2 s im2
   ·cases h
  ·cases h
 | block id c ih =>
  intro bid σ0 S R h hV h0 hS
  simp only [exec] at h
  split at h
  ·rename_i R1 h1
   have hV1 : Valid P I R1.q := by
    split at h <;> (simp only [Option.some.injEq] at h; subst h; exact hV)
   have x1 := ih id σ0 S R1 h1 hV1 h0 hS
   have hO : ∀ p ∈ (di id R1.oth).2,p ∈ R1.oth := fun p hp => tq hp
   have hE : ∀ σ ∈ (di id R1.oth).1,(Exit.exit id,σ) ∈ R1.oth := fun σ hσ => tn hσ
   have body : ∀ σ ∈ S, ∀ ρ,σ.ok P I ρ → σ0.ok P I ρ → ∀ Q : Exit → St → Prop,(∀ c s,Q (.panic c) s → False) →
     (∀ σ' ∈ R1.nor, ∀ ρ',ao σ0.nx ρ ρ' → σ'.ok P I ρ' → R1.base.ok P I ρ' → ∀ s,Imp P n s (σ'.v ρ') → Q .normal s) →
     (∀ σ' ∈ (di id R1.oth).1, ∀ ρ',ao σ0.nx ρ ρ' → σ'.ok P I ρ' → ∀ s,Imp P n s (σ'.v ρ') → Q .normal s) →
     (∀ e σ',(e,σ') ∈ (di id R1.oth).2 → ∀ ρ',ao σ0.nx ρ ρ' → σ'.ok P I ρ' → ∀ s,Imp P n s (σ'.v ρ') → Q e s) → AWP P n (.block id c) (σ.v ρ) Q := by
    intro σ hσ ρ hok hok0 Q hQ hn he ho
    refine Hy (x1.run σ hσ ρ hok hok0 _ ?_ ?_ ?_)
    ·intro c s hc; exact hQ c s hc
    ·intro y hy ρ2 ag2 ok2 okb2 s im2; exact hn y hy ρ2 ag2 ok2 okb2 s im2
    ·intro e y hy ρ2 ag2 ok2 s im2
     rcases Cb (id := id) hy with ⟨rfl,h⟩ | ⟨h,h'⟩
     ·simp only [Nat.beq_refl]; exact he y h ρ2 ag2 ok2 s im2
     ·have := ho e y h' ρ2 ag2 ok2 s im2
      cases e with
      | exit j =>
       simp only
       cases hb : Nat.beq j id with
       | true => exact absurd (by rw [Nat.eq_of_beq_eq_true hb]) h
       | false => exact this
      | _ => exact this
   split at h
   ·rename_i o ho
    simp only [Option.some.injEq] at h; subst h
    rw [ho] at hO hE body
    exact ⟨x1.base,x1.nor,fun p hp => x1.oth p (hO p hp),fun p hp => x1.ne p (hO p hp),fun σ hσ ρ hok hok0 Q hQ hn hoo =>
     body σ hσ ρ hok hok0 Q hQ hn (by simp) hoo⟩
   ·rename_i e o ho
    simp only [Option.some.injEq] at h; subst h
    rw [ho] at hO hE body
    refine ⟨⟨h0,Nat.le_refl _⟩,?_,fun p hp => x1.oth p (hO p hp),fun p hp => x1.ne p (hO p hp),fun σ hσ ρ hok hok0 Q hQ hn hoo =>
     body σ hσ ρ hok hok0 Q hQ ?_ ?_ hoo⟩
    ·intro y hy
     rcases List.mem_append.1 hy with hy | hy
     ·exact ⟨(x1.nor y hy).1,Nat.le_trans x1.base.2 (x1.nor y hy).2⟩
     ·exact x1.oth _ (hE y hy)
    ·intro y hy ρ2 ag2 ok2 okb2 s im2
     exact hn y (List.mem_append.2 (.inl hy)) ρ2 ag2 ok2 (hok0.ag h0 ag2 ok2.g) s im2
    ·intro y hy ρ2 ag2 ok2 s im2
     exact hn y (List.mem_append.2 (.inr hy)) ρ2 ag2 ok2 (hok0.ag h0 ag2 ok2.g) s im2
  ·cases h
 | loop c ih =>
  intro bid σ0 S R h hV h0 hS
  simp only [exec] at h
  split at h
  ·rename_i m _
   split at h
   ·rename_i o q hu
    simp only [Option.some.injEq] at h; subst h
    have good := Iv (P := P) (I := I) (n := n) (c := c) (σ0 := σ0) h0 (ex := fun S => exec P n CL A c bid σ0 S) (fun S R h hv hS => ih bid σ0 S R h hv h0 hS) hu hV hS
    exact ⟨⟨h0,Nat.le_refl _⟩,by simp,good.1,good.2.1,fun σ hσ ρ hok hok0 Q hQ _ ho => good.2.2 σ hσ ρ hok hok0 Q hQ ho⟩
   ·cases h
  ·split at h
   ·rename_i σa q0 hj
    have hgo := zB (P := P) (I := I) (ls := A.opens bid σa) (σ := σa)
    generalize wN σa (A.opens bid σa) = σ at h hgo
    split at h
    ·rename_i T m hT
     split at h
     ·rename_i q1 hb hm hi
      split at h
      ·rename_i R1 h1
       split at h
       ·rename_i q2 hk
        simp only [Option.some.injEq] at h; subst h
        have V0 : Valid P I q0 := fun s hs => hV s (List.mem_append.2 (.inl hs))
        have V1 : Valid P I q1 := fun s hs => hV s (List.mem_append.2 (.inr (List.mem_append.2 (.inl hs))))
        have V2 : Valid P I R1.q := fun s hs => hV s (List.mem_append.2 (.inr (List.mem_append.2 (.inr (List.mem_append.2 (.inl hs))))))
        have V3 : Valid P I q2 := fun s hs => hV s (List.mem_append.2 (.inr (List.mem_append.2 (.inr (List.mem_append.2 (.inr hs))))))
        have j := vb hj V0 h0 hS
        have hσa := j.sc σa (by simp)
        have hσ : σ.sc ∧ σ0.nx ≤ σ.nx := ⟨hgo.sc hσa.1,Nat.le_trans hσa.2 hgo.nx⟩
        have hTs := ym hb hσ.1
        have x1 := ih bid _ [T.over σ] R1 h1 V2 hTs.1 (by simpa using hTs.1)
        have l0 : σ0.nx ≤ (T.over σ).nx := Nat.le_trans hσ.2 hTs.2
        refine ⟨⟨h0,Nat.le_refl _⟩,by simp,fun p hp => ⟨(x1.oth p hp).1,Nat.le_trans l0 (x1.oth p hp).2⟩,x1.ne,?_⟩
        intro τ hτ ρ hok hok0 Q hQ hn ho
        obtain ⟨σ',hσ',ρa,aga,oka,ima⟩ := j.to τ hτ ρ hok hok0
        simp only [List.mem_singleton] at hσ'; subst hσ'
        obtain ⟨ρ1,agb,ok1,sm1⟩ := hgo.run hσa.1 ρa oka
        have ag1 : ao σ0.nx ρ ρ1 := aga.trans agb hσa.2
        have im1 : Imp P n (τ.v ρ) (σ.v ρ1) := ima.trans fun lo w0 E0 a w hh => sm1.holds hh
        obtain ⟨ρ2,c2⟩ := yl hi V1 ρ1 ok1
        refine AWP.imp im1 (AV (α := Ro) (fun r => (T.over σ).v r) (fun r => ao σ.nx ρ1 r ∧ (T.over σ).ok P I r) (fun r => (m.v r).toNat) ρ2 c2.imp ⟨c2.ag,tj c2 hσ.1 ok1⟩ ?_)
        rintro r ⟨agr,okr⟩
        refine x1.run _ (List.mem_singleton.2 rfl) r okr okr _ ?_ ?_ ?_
        ·intro c s hc; exact hQ c s hc
        ·intro y hy r2 ag2 ok2 okb2 s im2
         obtain ⟨p,e1,e2⟩ := zA hk y hy
         obtain ⟨θ,c3,hd⟩ := uZ e1 (fun s hs => V3 s (e2 s hs)) r2 ok2
         have agr2 : ao σ.nx ρ1 r2 := agr.trans ag2 hTs.2
         refine ⟨ap r2 θ,⟨agr2.trans c3.ag (Nat.le_refl _),tj c3 hσ.1 (ok1.ag hσ.1 agr2 ok2.g)⟩,?_,im2.trans c3.imp⟩
         simp only [down,gsV,G.v,Lin.aB,Lin.aZ,Lin.aT,Lin.dD] at hd
         have hmv : m.v r2 = m.v r := Lin.ag ag2 (j9 hm)
         rw [hmv] at hd
         show (m.v (ap r2 θ)).toNat < (m.v r).toNat
         omega
        ·intro e y hy r2 ag2 ok2 s im2
         have := ho e y hy r2 (ag1.trans (agr.trans ag2 hTs.2) hσ.2) ok2 s im2
         cases e with
         | normal => exact absurd rfl (x1.ne _ hy)
         | _ => exact this
       ·cases h
      ·cases h
     ·cases h
    ·cases h
   ·rename_i q0 hj
    simp only [Option.some.injEq] at h; subst h
    have j := vb hj hV h0 hS
    refine ⟨⟨h0,Nat.le_refl _⟩,by simp,by simp,by simp,?_⟩
    intro τ hτ ρ hok hok0 Q hQ hn ho
    obtain ⟨σ',hσ',_⟩ := j.to τ hτ ρ hok hok0
    simp at hσ'
   ·cases h
 | _ => intro bid σ0 S R h; simp [exec] at h
end Go.TL
