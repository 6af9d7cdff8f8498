/- Terms over variables: numbers, truths, strings, lists, known values and objects; what they stand for. -/
import Derived.Test.YtajkchpnbnbmfaaGreatDoorW06
namespace Go.TL
structure Va where
 n : Int
 b : Bool
 s : ByteArray
 l : List (List PV)
instance : Inhabited Va := ⟨⟨0,false,⟨#[]⟩,[]⟩⟩
abbrev Ro := Nat → Va
abbrev Sum := List (Nat × Int)
structure Lin where
 c : Int
 t : Sum
def aN (ρ : Ro) (a : Nat) : Int :=
 match a % 4 with
 | 0 => (ρ (a / 4)).n
 | 1 => ((ρ (a / 4)).l.length : Int)
 | 2 => (rsz (ρ (a / 4)).l : Int)
 | _ => ((ρ (a / 4)).s.size : Int)
def bO (ρ : Ro) : Sum → Int
 | [] => 0
 | (a,c) :: r => c * aN ρ a + bO ρ r
def Lin.v (ρ : Ro) (e : Lin) : Int := e.c + bO ρ e.t
def isZ : Int → Bool
 | .ofNat n => Nat.beq n 0
 | .negSucc _ => false
def mL : Int → Bool
 | .ofNat n => Nat.beq n 1
 | .negSucc _ => false
def O7 : Int → Bool
 | .ofNat _ => false
 | .negSucc n => Nat.beq n 0
def leZ : Int → Bool
 | .ofNat n => Nat.beq n 0
 | .negSucc _ => true
theorem nP {z : Int} (h : isZ z = true) : z = 0 := by
 cases z with
 | ofNat n => simp only [isZ] at h; rw [Nat.eq_of_beq_eq_true h]; rfl
 | negSucc n => simp [isZ] at h
theorem JX {z : Int} (h : mL z = true) : z = 1 := by
 cases z with
 | ofNat n => simp only [mL] at h; rw [Nat.eq_of_beq_eq_true h]; rfl
 | negSucc n => simp [mL] at h
theorem HR {z : Int} (h : leZ z = true) : z ≤ 0 := by
 cases z with
 | ofNat n => simp only [leZ] at h; rw [Nat.eq_of_beq_eq_true h]; decide
 | negSucc n => exact Int.le_of_lt (Int.negSucc_lt_zero n)
def rE (a : Nat) (c : Int) : Sum → Sum
 | [] => match isZ c with | true => [] | false => [(a,c)]
 | (a',c') :: r => match Nat.beq a a' with
  | true => match isZ (c + c') with | true => r | false => (a,c + c') :: r
  | false => match Nat.ble a a' with
   | true => match isZ c with | true => (a',c') :: r | false => (a,c) :: (a',c') :: r
   | false => (a',c') :: rE a c r
theorem HS (ρ : Ro) (a : Nat) (c : Int) : ∀ l : Sum,bO ρ (rE a c l) = c * aN ρ a + bO ρ l
 | [] => by
  simp only [rE]
  cases hz : isZ c with
  | true => simp [nP hz,bO]
  | false => simp [bO]
 | (a',c') :: r => by
  simp only [rE]
  cases hb : Nat.beq a a' with
  | true =>
   have e := Nat.eq_of_beq_eq_true hb; subst e
   cases hz : isZ (c + c') with
   | true =>
    have e := nP hz
    simp only [bO]
    have : c * aN ρ a + (c' * aN ρ a + bO ρ r) = (c + c') * aN ρ a + bO ρ r := by rw [Int.add_mul]; omega
    rw [this,e]; simp
   | false => simp only [bO]; rw [Int.add_mul]; omega
  | false =>
   cases hl : Nat.ble a a' with
   | true =>
    cases hz : isZ c with
    | true => simp [nP hz]
    | false => simp [bO]
   | false => simp only [bO,HS ρ a c r]; omega
def uD (k : Int) : Sum → Sum → Sum
 | [],y => y
 | (a,c) :: r,y => uD k r (rE a (k * c) y)
theorem HT (ρ : Ro) (k : Int) : ∀ (x y : Sum),bO ρ (uD k x y) = k * bO ρ x + bO ρ y
 | [],y => by simp [uD,bO]
 | (a,c) :: r,y => by
  simp only [uD,bO]
  rw [HT ρ k r,HS,Int.mul_add,Int.mul_assoc]; omega
def Lin.ax (x : Lin) (k : Int) (y : Lin) : Lin := ⟨x.c + k * y.c,uD k y.t x.t⟩
theorem Lin.aZ (ρ : Ro) (x : Lin) (k : Int) (y : Lin) : (x.ax k y).v ρ = x.v ρ + k * y.v ρ := by
 unfold Lin.ax Lin.v; simp only [HT,Int.mul_add]; omega
def Lin.add (x y : Lin) : Lin := x.ax 1 y
def Lin.sub (x y : Lin) : Lin := x.ax (-1) y
def Lin.scale (k : Int) (x : Lin) : Lin := Lin.ax ⟨0,[]⟩ k x
def Lin.lit (n : Int) : Lin := ⟨n,[]⟩
def Lin.at (a : Nat) : Lin := ⟨0,[(a,1)]⟩
def Lin.aD (x : Lin) (n : Int) : Lin := ⟨x.c + n,x.t⟩
theorem Lin.FF (ρ : Ro) (x y : Lin) : (x.add y).v ρ = x.v ρ + y.v ρ := by unfold Lin.add; rw [Lin.aZ]; omega
theorem Lin.aT (ρ : Ro) (k : Int) (x : Lin) : (Lin.scale k x).v ρ = k * x.v ρ := by unfold Lin.scale; rw [Lin.aZ]; simp [Lin.v,bO]
theorem Lin.bI (ρ : Ro) (n : Int) : (Lin.lit n).v ρ = n := by simp [Lin.lit,Lin.v,bO]
theorem Lin.aW (ρ : Ro) (a : Nat) : (Lin.at a).v ρ = aN ρ a := by simp [Lin.at,Lin.v,bO]
theorem Lin.aB (ρ : Ro) (x : Lin) (n : Int) : (x.aD n).v ρ = x.v ρ + n := by unfold Lin.aD Lin.v; simp only; omega
def pH : Sum → Sum → Bool
 | [],[] => true
 | (a,c) :: r,(a',c') :: r' => match Nat.beq a a',isZ (c - c') with
  | true,true => pH r r'
  | _,_ => false
 | _,_ => false
theorem uE : ∀ {x y : Sum},pH x y = true → x = y
 | [],[],_ => rfl
 | (a,c) :: r,(a',c') :: r',h => by
  simp only [pH] at h
  split at h
  ·rename_i h1 h2
   have e1 := Nat.eq_of_beq_eq_true h1
   have e2 := nP h2
   have : c = c' := by omega
   subst e1; subst this; rw [uE h]
  ·cases h
 | [],_ :: _,h => by simp [pH] at h
 | _ :: _,[],h => by simp [pH] at h
def Lin.beq (x y : Lin) : Bool := match isZ (x.c - y.c) with | true => pH x.t y.t | false => false
theorem Lin.beq_eq {x y : Lin} (h : x.beq y = true) : x = y := by
 unfold Lin.beq at h
 split at h
 ·rename_i h1
  have := nP h1
  obtain ⟨c,t⟩ := x; obtain ⟨c',t'⟩ := y
  simp only at this h
  rw [show c = c' by omega,uE h]
 ·cases h
inductive BF where
 | lit (b : Bool)
 | var (k : Nat)
 | le (e : Lin)
 | eq (e : Lin)
 | not (f : BF)
 | and (f g : BF)
 | or (f g : BF)
def BF.v (ρ : Ro) : BF → Bool
 | .lit b => b
 | .var k => (ρ k).b
 | .le e => decide (e.v ρ ≤ 0)
 | .eq e => decide (e.v ρ = 0)
 | .not f => !f.v ρ
 | .and f g => f.v ρ && g.v ρ
 | .or f g => f.v ρ || g.v ρ
inductive SE where
 | lit (b : List UInt8)
 | var (k : Nat)
def SE.v (ρ : Ro) : SE → ByteArray
 | .lit b => ⟨b.toArray⟩
 | .var k => (ρ k).s
abbrev LV := Option Nat
def lvV (ρ : Ro) : LV → List (List PV)
 | none => []
 | some k => (ρ k).l
inductive DP where
 | int (k : IntKind) (e : Lin)
 | bl (f : BF)
 | st (e : SE)
 | sl (l : LV)
 | nl
 | cst (v : Value)
 | ls (l : LV)
 | un
 | mp (a : Option Nat) (l : LV)
def DP.v (ρ : Ro) : DP → PV
 | .int k e => .v (.int k (e.v ρ))
 | .bl f => .v (.bool (f.v ρ))
 | .st e => .v (.string (e.v ρ))
 | .sl l => .sl (lvV ρ l)
 | .nl => .v (.slice none 0 0)
 | .cst v => .v v
 | .ls l => .ls (lvV ρ l)
 | .un => .un
 | .mp a l => .mp a (lvV ρ l)
inductive DV where
 | u
 | p (x : DP) (fr : Bool)
 | ptr (k off : Nat)
 | vec (k : Nat)
 | vptr (k sz : Nat) (i : Lin) (off : Nat)
 | pd (row : List DP) (off : Nat) (fr : Bool)
 | pc (l : LV) (fr : Bool)
 | agg (xs : List DV)
 | tup (xs : List DV)
 | ref (k : Nat)
 | fn (f : Fn) (first caps : List DV)
 | ifc (t : TypeId) (x : DV)
instance : Inhabited DV := ⟨.u⟩
def ak (ρ : Ro) : List DP → List PV
 | [] => []
 | x :: xs => x.v ρ :: ak ρ xs
mutual
def DV.v (ρ : Ro) : DV → SV
 | .u => .u
 | .p x fr => .p (x.v ρ) fr
 | .ptr k off => .ptr k off
 | .vec k => .vec k
 | .vptr k sz i off => .vptr k sz (i.v ρ).toNat off
 | .pd row off fr => .pd (ak ρ row) off fr
 | .pc l fr => .pc (lvV ρ l) fr
 | .agg xs => .agg (dvs ρ xs)
 | .tup xs => .tup (dvs ρ xs)
 | .ref k => .ref k
 | .fn f first caps => .fn f (dvs ρ first) (dvs ρ caps)
 | .ifc t x => .ifc t (x.v ρ)
def dvs (ρ : Ro) : List DV → List SV
 | [] => []
 | x :: xs => x.v ρ :: dvs ρ xs
end
inductive DO where
 | box (t : TypeId) (cells : List DV)
 | vec (t : TypeId) (sz : Nat) (l : LV) (fr : Bool)
 | mp (a : Option Nat) (l : LV) (fr : Bool)
def DO.v (ρ : Ro) : DO → OV
 | .box t cells => .box t (dvs ρ cells)
 | .vec t sz l fr => .vec t sz (lvV ρ l) fr
 | .mp a l fr => .mp a (lvV ρ l) fr
abbrev bq := List (Nat × DV)
abbrev az := List (Nat × DO)
def bK (ρ : Ro) : bq → List (Nat × SV)
 | [] => []
 | (k,x) :: r => (k,x.v ρ) :: bK ρ r
def aG (ρ : Ro) : az → Tab
 | [] => []
 | (k,x) :: r => (k,x.v ρ) :: aG ρ r
inductive PF where
 | row (l : Nat) (i : Lin) (cells : List DP)
 | app (l : Nat) (a b : LV)
 | lit (l : Nat) (rows : List (List DP))
 | sub (l a : Nat) (lo hi : Lin)
 | set (l a : Nat) (i : Lin) (cells : List DP)
 | tru (f : BF)
 | cat (s : Nat) (a b : SE)
 | pr (id : Nat) (args : List Nat)
abbrev Pr := Nat → List Va → Prop
def cH (ρ : Ro) : List (List DP) → List (List PV)
 | [] => []
 | r :: rs => ak ρ r :: cH ρ rs
def PF.v (I : Pr) (ρ : Ro) : PF → Prop
 | .row l i cells => 0 ≤ i.v ρ ∧ (ρ l).l[(i.v ρ).toNat]? = some (ak ρ cells)
 | .app l a b => (ρ l).l = lvV ρ a ++ lvV ρ b
 | .lit l rows => (ρ l).l = cH ρ rows
 | .sub l a lo hi => (ρ l).l = ((ρ a).l.take (hi.v ρ).toNat).drop (lo.v ρ).toNat
 | .set l a i cells => (ρ l).l = (ρ a).l.set (i.v ρ).toNat (ak ρ cells)
 | .tru f => f.v ρ = true
 | .cat s a b => (ρ s).s = a.v ρ ++ b.v ρ
 | .pr id args => I id (args.map ρ)
structure Cert where
 g : Lin
 m : Nat
 ks : List (Nat × Int)
 zs : List (Nat × Int)
structure DSt where
 ab : bq
 tab : az
 tys : List (Nat × TypeId)
 lin : List Lin
 prs : List PF
 nx : Nat
 hc : List Cert
def DSt.v (ρ : Ro) (σ : DSt) : St := ⟨bK ρ σ.ab,aG ρ σ.tab⟩
def nQ : Nat := 1099511627776
structure Gok (ρ : Ro) : Prop where
 lo : ∀ k, -9223372036854775808 ≤ (ρ k).n
 hi : ∀ k,(ρ k).n ≤ 9223372036854775807
 st : ∀ k,(ρ k).s.size ≤ bz
 ln : ∀ k,(ρ k).l.length ≤ nQ
def aR (ρ : Ro) : List Lin → Prop
 | [] => True
 | e :: r => e.v ρ ≤ 0 ∧ aR ρ r
def bQ (I : Pr) (ρ : Ro) : List PF → Prop
 | [] => True
 | f :: r => f.v I ρ ∧ bQ I ρ r
def cb (P : Program) (ρ : Ro) : List (Nat × TypeId) → Prop
 | [] => True
 | (k,e) :: r => aU P e (ρ k).l ∧ cb P ρ r
structure DSt.ok (P : Program) (I : Pr) (σ : DSt) (ρ : Ro) : Prop where
 g : Gok ρ
 tys : cb P ρ σ.tys
 lin : aR ρ σ.lin
 prs : bQ I ρ σ.prs
theorem yZ {ρ : Ro} : ∀ {l : List Lin} {e : Lin},aR ρ l → e ∈ l → e.v ρ ≤ 0
 | x :: r,e,h,hm => by
  rcases List.mem_cons.1 hm with rfl | hm
  ·exact h.1
  ·exact yZ h.2 hm
theorem c7 {P : Program} {ρ : Ro} : ∀ {l : List (Nat × TypeId)} {k : Nat} {e : TypeId},cb P ρ l → lk l k = some e → aU P e (ρ k).l
 | (j,e') :: r,k,e,h,hl => by
  simp only [lk] at hl
  cases hb : Nat.beq j k with
  | true => simp only [hb,Option.some.injEq] at hl; subst hl; rw [← Nat.eq_of_beq_eq_true hb]; exact h.1
  | false => simp only [hb] at hl; exact c7 h.2 hl
theorem cq {ρ : Ro} : ∀ {a b : List Lin},aR ρ a → aR ρ b → aR ρ (a ++ b)
 | [],_,_,h => h
 | _ :: _,_,h,k => ⟨h.1,cq h.2 k⟩
def cB : Sum → List Nat
 | [] => []
 | (a,_) :: r => (a / 4) :: cB r
def Lin.vars (e : Lin) : List Nat := cB e.t
def BF.vars : BF → List Nat
 | .lit _ => []
 | .var k => [k]
 | .le e => e.vars
 | .eq e => e.vars
 | .not f => f.vars
 | .and f g => f.vars ++ g.vars
 | .or f g => f.vars ++ g.vars
def SE.vars : SE → List Nat
 | .lit _ => []
 | .var k => [k]
def aL : LV → List Nat
 | none => []
 | some k => [k]
def DP.vars : DP → List Nat
 | .int _ e => e.vars
 | .bl f => f.vars
 | .st e => e.vars
 | .sl l => aL l
 | .nl => []
 | .cst _ => []
 | .ls l => aL l
 | .un => []
 | .mp _ l => aL l
def bf : List DP → List Nat
 | [] => []
 | x :: xs => x.vars ++ bf xs
def e9 : List (List DP) → List Nat
 | [] => []
 | x :: xs => bf x ++ e9 xs
mutual
def DV.vars : DV → List Nat
 | .p x _ => x.vars
 | .vptr _ _ i _ => i.vars
 | .pd row _ _ => bf row
 | .pc l _ => aL l
 | .agg xs => av xs
 | .tup xs => av xs
 | .fn _ first caps => av first ++ av caps
 | .ifc _ x => x.vars
 | .u => []
 | .ptr _ _ => []
 | .vec _ => []
 | .ref _ => []
def av : List DV → List Nat
 | [] => []
 | x :: xs => x.vars ++ av xs
end
def DO.vars : DO → List Nat
 | .box _ cells => av cells
 | .vec _ _ l _ => aL l
 | .mp _ l _ => aL l
def fR : bq → List Nat
 | [] => []
 | (_,x) :: r => x.vars ++ fR r
def iB : az → List Nat
 | [] => []
 | (_,x) :: r => x.vars ++ iB r
def PF.vars : PF → List Nat
 | .row l i cells => l :: (i.vars ++ bf cells)
 | .app l a b => l :: (aL a ++ aL b)
 | .lit l rows => l :: e9 rows
 | .sub l a lo hi => l :: a :: (lo.vars ++ hi.vars)
 | .set l a i cells => l :: a :: (i.vars ++ bf cells)
 | .tru f => f.vars
 | .cat s a b => s :: (a.vars ++ b.vars)
 | .pr _ args => args
def Sc (n : Nat) (l : List Nat) : Prop := ∀ k ∈ l,k < n
structure DSt.sc (σ : DSt) : Prop where
 ab : ∀ t v,lk σ.ab t = some v → Sc σ.nx v.vars
 tab : ∀ k v,lk σ.tab k = some v → Sc σ.nx v.vars
 tys : ∀ k e,(k,e) ∈ σ.tys → k < σ.nx
 lin : ∀ e ∈ σ.lin,Sc σ.nx e.vars
 prs : ∀ f ∈ σ.prs,Sc σ.nx f.vars
def ao (n : Nat) (ρ ρ' : Ro) : Prop := ∀ k,k < n → ρ' k = ρ k
theorem ao.refl (n : Nat) (ρ : Ro) : ao n ρ ρ := fun _ _ => rfl
theorem ao.trans {n m : Nat} {ρ ρ1 ρ2 : Ro} (h : ao n ρ ρ1) (k : ao m ρ1 ρ2) (hl : n ≤ m) : ao n ρ ρ2 := fun j hj => (k j (by omega)).trans (h j hj)
theorem ao.le {n m : Nat} {ρ ρ' : Ro} (h : ao m ρ ρ') (hl : n ≤ m) : ao n ρ ρ' := fun j hj => h j (by omega)
theorem Sc.app {n : Nat} {a b : List Nat} : Sc n (a ++ b) ↔ Sc n a ∧ Sc n b := by
 unfold Sc; simp only [List.mem_append]
 exact ⟨fun h => ⟨fun k hk => h k (.inl hk),fun k hk => h k (.inr hk)⟩,fun h k hk => hk.elim (h.1 k) (h.2 k)⟩
theorem Sc.cons {n a : Nat} {b : List Nat} : Sc n (a :: b) ↔ a < n ∧ Sc n b := by
 unfold Sc; simp only [List.mem_cons]
 exact ⟨fun h => ⟨h a (.inl rfl),fun k hk => h k (.inr hk)⟩,fun h k hk => hk.elim (fun e => e ▸ h.1) (h.2 k)⟩
theorem Sc.nil {n : Nat} : Sc n [] := by intro k h; simp at h
theorem Sc.mono {n m : Nat} {a : List Nat} (h : Sc n a) (hl : n ≤ m) : Sc m a := fun k hk => Nat.lt_of_lt_of_le (h k hk) hl
theorem JY {n : Nat} {ρ ρ' : Ro} (h : ao n ρ ρ') {a : Nat} (ha : a / 4 < n) : aN ρ' a = aN ρ a := by
 unfold aN; rw [h _ ha]
theorem Ec {n : Nat} {ρ ρ' : Ro} (h : ao n ρ ρ') : ∀ {x : Sum},Sc n (cB x) → bO ρ' x = bO ρ x
 | [],_ => rfl
 | (a,c) :: r,hs => by
  simp only [cB,Sc.cons] at hs
  simp only [bO,JY h hs.1,Ec h hs.2]
theorem Lin.ag {n : Nat} {ρ ρ' : Ro} (h : ao n ρ ρ') {e : Lin} (hs : Sc n e.vars) : e.v ρ' = e.v ρ := by
 unfold Lin.v; rw [Ec h hs]
theorem BF.ag {n : Nat} {ρ ρ' : Ro} (h : ao n ρ ρ') : ∀ {f : BF},Sc n f.vars → f.v ρ' = f.v ρ
 | .lit _,_ => rfl
 | .var k,hs => by simp only [BF.vars,Sc.cons] at hs; simp only [BF.v,h k hs.1]
 | .le e,hs => by simp only [BF.v,Lin.ag h hs]
 | .eq e,hs => by simp only [BF.v,Lin.ag h hs]
 | .not f,hs => by simp only [BF.vars] at hs; simp only [BF.v,BF.ag h hs]
 | .and f g,hs => by simp only [BF.vars,Sc.app] at hs; simp only [BF.v,BF.ag h hs.1,BF.ag h hs.2]
 | .or f g,hs => by simp only [BF.vars,Sc.app] at hs; simp only [BF.v,BF.ag h hs.1,BF.ag h hs.2]
theorem SE.ag {n : Nat} {ρ ρ' : Ro} (h : ao n ρ ρ') : ∀ {f : SE},Sc n f.vars → f.v ρ' = f.v ρ
 | .lit _,_ => rfl
 | .var k,hs => by simp only [SE.vars,Sc.cons] at hs; simp only [SE.v,h k hs.1]
theorem dR {n : Nat} {ρ ρ' : Ro} (h : ao n ρ ρ') : ∀ {f : LV},Sc n (aL f) → lvV ρ' f = lvV ρ f
 | none,_ => rfl
 | some k,hs => by simp only [aL,Sc.cons] at hs; simp only [lvV,h k hs.1]
theorem DP.ag {n : Nat} {ρ ρ' : Ro} (h : ao n ρ ρ') {f : DP} (hs : Sc n f.vars) : f.v ρ' = f.v ρ := by
 cases f <;> simp only [DP.vars] at hs <;> simp only [DP.v]
 ·rw [Lin.ag h hs]
 ·rw [BF.ag h hs]
 ·rw [SE.ag h hs]
 ·rw [dR h hs]
 ·rw [dR h hs]
 ·rw [dR h hs]
theorem gH {n : Nat} {ρ ρ' : Ro} (h : ao n ρ ρ') : ∀ {f : List DP},Sc n (bf f) → ak ρ' f = ak ρ f
 | [],_ => rfl
 | x :: xs,hs => by simp only [bf,Sc.app] at hs; simp only [ak,DP.ag h hs.1,gH h hs.2]
theorem xT {n : Nat} {ρ ρ' : Ro} (h : ao n ρ ρ') : ∀ {f : List (List DP)},Sc n (e9 f) → cH ρ' f = cH ρ f
 | [],_ => rfl
 | x :: xs,hs => by simp only [e9,Sc.app] at hs; simp only [cH,gH h hs.1,xT h hs.2]
mutual
theorem DV.ag {n : Nat} {ρ ρ' : Ro} (h : ao n ρ ρ') : ∀ {f : DV},Sc n f.vars → f.v ρ' = f.v ρ
 | .u,_ => by simp only [DV.v]
 | .p x fr,hs => by simp only [DV.vars] at hs; simp only [DV.v,DP.ag h hs]
 | .ptr _ _,_ => by simp only [DV.v]
 | .vec _,_ => by simp only [DV.v]
 | .vptr _ _ i _,hs => by simp only [DV.vars] at hs; simp only [DV.v,Lin.ag h hs]
 | .pd row _ _,hs => by simp only [DV.vars] at hs; simp only [DV.v,gH h hs]
 | .pc l _,hs => by simp only [DV.vars] at hs; simp only [DV.v,dR h hs]
 | .agg xs,hs => by simp only [DV.vars] at hs; simp only [DV.v,lR h hs]
 | .tup xs,hs => by simp only [DV.vars] at hs; simp only [DV.v,lR h hs]
 | .ref _,_ => by simp only [DV.v]
 | .fn f first caps,hs => by simp only [DV.vars,Sc.app] at hs; simp only [DV.v,lR h hs.1,lR h hs.2]
 | .ifc t x,hs => by simp only [DV.vars] at hs; simp only [DV.v,DV.ag h hs]
theorem lR {n : Nat} {ρ ρ' : Ro} (h : ao n ρ ρ') : ∀ {f : List DV},Sc n (av f) → dvs ρ' f = dvs ρ f
 | [],_ => by simp only [dvs]
 | x :: xs,hs => by simp only [av,Sc.app] at hs; simp only [dvs,DV.ag h hs.1,lR h hs.2]
end
theorem Ed {n : Nat} {ρ ρ' : Ro} (h : ao n ρ ρ') : ∀ {l : List Nat},Sc n l → l.map ρ' = l.map ρ
 | [],_ => rfl
 | x :: xs,hs => by rw [Sc.cons] at hs; simp only [List.map_cons,h x hs.1,Ed h hs.2]
theorem DO.ag {n : Nat} {ρ ρ' : Ro} (h : ao n ρ ρ') {f : DO} (hs : Sc n f.vars) : f.v ρ' = f.v ρ := by
 cases f <;> simp only [DO.vars] at hs <;> simp only [DO.v]
 ·rw [lR h hs]
 ·rw [dR h hs]
 ·rw [dR h hs]
theorem PF.ag {I : Pr} {n : Nat} {ρ ρ' : Ro} (h : ao n ρ ρ') {f : PF} (hs : Sc n f.vars) : f.v I ρ' = f.v I ρ := by
 cases f <;> simp only [PF.vars,Sc.app,Sc.cons] at hs <;> simp only [PF.v]
 ·rw [h _ hs.1,Lin.ag h hs.2.1,gH h hs.2.2]
 ·rw [h _ hs.1,dR h hs.2.1,dR h hs.2.2]
 ·rw [h _ hs.1,xT h hs.2]
 ·rw [h _ hs.1,h _ hs.2.1,Lin.ag h hs.2.2.1,Lin.ag h hs.2.2.2]
 ·rw [h _ hs.1,h _ hs.2.1,Lin.ag h hs.2.2.1,gH h hs.2.2.2]
 ·rw [BF.ag h hs]
 ·rw [h _ hs.1,SE.ag h hs.2.1,SE.ag h hs.2.2]
 ·rw [Ed h hs]
theorem eh (ρ : Ro) : ∀ (l : bq) (t : Nat),lk (bK ρ l) t = (lk l t).map (DV.v ρ)
 | [],_ => rfl
 | (k,x) :: r,t => by
  simp only [bK,lk]
  cases Nat.beq k t with
  | true => rfl
  | false => exact eh ρ r t
theorem cO (ρ : Ro) : ∀ (l : az) (t : Nat),lk (aG ρ l) t = (lk l t).map (DO.v ρ)
 | [],_ => rfl
 | (k,x) :: r,t => by
  simp only [aG,lk]
  cases Nat.beq k t with
  | true => rfl
  | false => exact cO ρ r t
theorem rG (ρ : Ro) : ∀ (l : bq) (t : Nat),rm (bK ρ l) t = bK ρ (rm l t)
 | [],_ => rfl
 | (k,x) :: r,t => by
  simp only [bK,rm]
  cases Nat.beq k t with
  | true => exact rG ρ r t
  | false => simp only [bK,rG ρ r t]
theorem iC (ρ : Ro) : ∀ (l : az) (t : Nat),rm (aG ρ l) t = aG ρ (rm l t)
 | [],_ => rfl
 | (k,x) :: r,t => by
  simp only [aG,rm]
  cases Nat.beq k t with
  | true => exact iC ρ r t
  | false => simp only [aG,iC ρ r t]
theorem dI (ρ : Ro) : ∀ l : List DV,dvs ρ l = l.map (DV.v ρ)
 | [] => by simp [dvs]
 | x :: xs => by simp [dvs,dI ρ xs]
theorem lS (ρ : Ro) : ∀ l : List DP,ak ρ l = l.map (DP.v ρ)
 | [] => rfl
 | x :: xs => by simp [ak,lS ρ xs]
theorem y0 (ρ : Ro) : ∀ l : List (List DP),cH ρ l = l.map (ak ρ)
 | [] => rfl
 | x :: xs => by simp [cH,y0 ρ xs]
end Go.TL
namespace Go.TL
def vQ (a : Nat) : Option Int :=
 match a % 4 with
 | 0 => some 9223372036854775807
 | 1 => some 1099511627776
 | 2 => none
 | _ => some 1073741824
def nR (a : Nat) : Int :=
 match a % 4 with
 | 0 => -9223372036854775808
 | _ => 0
theorem xU (a : Nat) : a % 4 = 0 ∨ a % 4 = 1 ∨ a % 4 = 2 ∨ a % 4 = 3 := by omega
theorem y5 {ρ : Ro} (h : Gok ρ) {a : Nat} {b : Int} (hb : vQ a = some b) : aN ρ a ≤ b := by
 unfold vQ at hb
 unfold aN
 have h1 := h.hi (a / 4)
 have h2 := h.ln (a / 4)
 have h3 := h.st (a / 4)
 unfold nQ at h2
 unfold bz at h3
 rcases xU a with e | e | e | e <;> simp only [e] at hb ⊢ <;> simp only [Option.some.injEq,reduceCtorEq] at hb <;> omega
theorem y6 {ρ : Ro} (h : Gok ρ) (a : Nat) : nR a ≤ aN ρ a := by
 unfold nR aN
 have h1 := h.lo (a / 4)
 rcases xU a with e | e | e | e <;> simp only [e] <;> omega
def isNeg : Int → Bool
 | .ofNat _ => false
 | .negSucc _ => true
theorem uF {z : Int} (h : isNeg z = true) : z < 0 := by
 cases z with
 | ofNat n => simp [isNeg] at h
 | negSucc n => exact Int.negSucc_lt_zero n
theorem jk {z : Int} (h : isNeg z = false) : 0 ≤ z := by
 cases z with
 | ofNat n => exact Int.natCast_nonneg n
 | negSucc n => simp [isNeg] at h
def ubS (acc : Int) : Sum → Option Int
 | [] => some acc
 | (a,c) :: r => match isNeg c with
  | true => ubS (acc + c * nR a) r
  | false => match vQ a with
   | some b => ubS (acc + c * b) r
   | none => none
theorem Bf {ρ : Ro} (h : Gok ρ) : ∀ (x : Sum) (acc b : Int),ubS acc x = some b → acc + bO ρ x ≤ b
 | [],acc,b,hb => by simp only [ubS,Option.some.injEq] at hb; simp only [bO]; omega
 | (a,c) :: r,acc,b,hb => by
  simp only [ubS] at hb
  simp only [bO]
  split at hb
  ·rename_i hn
   have := Bf h r _ b hb
   have h1 := uF hn
   have h2 : c * aN ρ a ≤ c * nR a := Int.mul_le_mul_of_nonpos_left (by omega) (y6 h a)
   omega
  ·rename_i hn
   split at hb
   ·rename_i b' hb'
    have := Bf h r _ b hb
    have h2 : c * aN ρ a ≤ c * b' := Int.mul_le_mul_of_nonneg_left (y5 h hb') (jk hn)
    omega
   ·cases hb
def uG (e : Lin) : Bool := match ubS e.c e.t with | some b => leZ b | none => false
theorem xV {ρ : Ro} (h : Gok ρ) {e : Lin} (hb : uG e = true) : e.v ρ ≤ 0 := by
 unfold uG at hb
 split at hb
 ·rename_i b hu
  have := Bf h _ _ _ hu
  have := HR hb
  unfold Lin.v; omega
 ·cases hb
def Bg (a : Nat) : Sum → Int
 | [] => 0
 | (a',c) :: r => match Nat.beq a a' with | true => c | false => Bg a r
def ratio (c d : Int) : Option Int :=
 match mL d,O7 d with
 | true,_ => match isNeg c,isZ c with | false,false => some c | _,_ => none
 | _,true => match isNeg c with | true => some (-c) | false => none
 | _,_ => match isZ (c - d) with | true => some 1 | false => none
def rH (rec : Lin → Bool) (e : Lin) (a : Nat) (c : Int) : List Lin → Bool
 | [] => false
 | f :: gs => match isZ (Bg a f.t) with
  | true => rH rec e a c gs
  | false => match ratio c (Bg a f.t) with
   | some k => match isNeg k with
    | true => rH rec e a c gs
    | false => match rec (e.ax (-k) f) with
     | true => true
     | false => rH rec e a c gs
   | none => rH rec e a c gs
def HU (rec : Lin → Bool) (fs : List Lin) (e : Lin) : Sum → Bool
 | [] => false
 | (a,c) :: r => match rH rec e a c fs with
  | true => true
  | false => HU rec fs e r
def FG : Sum → Option (Nat × Int)
 | [] => none
 | (a,c) :: r => match FG r with
  | some x => some x
  | none => match isNeg c with
   | false => some (a,c)
   | true => match a % 4 with
    | 0 => some (a,c)
    | _ => none
def JZ (e : Lin) (a : Nat) (c : Int) : Option Lin :=
 match isNeg c with
 | true => some ((e.ax (-c) (Lin.at a)).aD (c * nR a))
 | false => match vQ a with
  | some b => some ((e.ax (-c) (Lin.at a)).aD (c * b))
  | none => none
theorem M3 {ρ : Ro} (h : Gok ρ) {e e' : Lin} {a : Nat} {c : Int} (he : JZ e a c = some e') : e.v ρ ≤ e'.v ρ := by
 unfold JZ at he
 split at he
 ·rename_i hn
  simp only [Option.some.injEq] at he; subst he
  have h1 := uF hn
  have h2 : c * aN ρ a ≤ c * nR a := Int.mul_le_mul_of_nonpos_left (by omega) (y6 h a)
  rw [Lin.aB,Lin.aZ,Lin.aW]
  have h3 : (-c) * aN ρ a = -(c * aN ρ a) := Int.neg_mul _ _
  omega
 ·rename_i hn
  split at he
  ·rename_i b hb
   simp only [Option.some.injEq] at he; subst he
   have h2 : c * aN ρ a ≤ c * b := Int.mul_le_mul_of_nonneg_left (y5 h hb) (jk hn)
   rw [Lin.aB,Lin.aZ,Lin.aW]
   have h3 : (-c) * aN ρ a = -(c * aN ρ a) := Int.neg_mul _ _
   omega
  ·cases he
def Bh (e : Lin) (a : Nat) (c : Int) : Option Lin :=
 match a % 4,isNeg c with
 | 1,false => some ((e.ax (-c) (Lin.at a)).ax c (Lin.at (a + 1)))
 | 2,true => some ((e.ax (-c) (Lin.at a)).ax c (Lin.at (a - 1)))
 | _,_ => none
theorem Ee {ρ : Ro} {e e' : Lin} {a : Nat} {c : Int} (he : Bh e a c = some e') : e.v ρ ≤ e'.v ρ := by
 unfold Bh at he
 split at he
 ·rename_i hm hn
  simp only [Option.some.injEq] at he; subst he
  rw [Lin.aZ,Lin.aZ,Lin.aW,Lin.aW]
  have h1 : aN ρ a = ((ρ (a / 4)).l.length : Int) := by unfold aN; simp only [hm]
  have h2 : aN ρ (a + 1) = (rsz (ρ (a / 4)).l : Int) := by
   unfold aN
   have q1 : (a + 1) % 4 = 2 := by omega
   have q2 : (a + 1) / 4 = a / 4 := by omega
   simp only [q1,q2]
  have h3 := qG (ρ (a / 4)).l
  have h4 : c * ((ρ (a / 4)).l.length : Int) ≤ c * (rsz (ρ (a / 4)).l : Int) := Int.mul_le_mul_of_nonneg_left (by omega) (jk hn)
  rw [h1,h2,Int.neg_mul]; omega
 ·rename_i hm hn
  simp only [Option.some.injEq] at he; subst he
  rw [Lin.aZ,Lin.aZ,Lin.aW,Lin.aW]
  have h1 : aN ρ a = (rsz (ρ (a / 4)).l : Int) := by unfold aN; simp only [hm]
  have h2 : aN ρ (a - 1) = ((ρ (a / 4)).l.length : Int) := by
   unfold aN
   have q1 : (a - 1) % 4 = 1 := by omega
   have q2 : (a - 1) / 4 = a / 4 := by omega
   simp only [q1,q2]
  have h3 := qG (ρ (a / 4)).l
  have h5 := uF hn
  have h4 : c * (rsz (ρ (a / 4)).l : Int) ≤ c * ((ρ (a / 4)).l.length : Int) := Int.mul_le_mul_of_nonpos_left (by omega) (by omega)
  rw [h1,h2,Int.neg_mul]; omega
 ·cases he
def direct (e : Lin) : List Lin → Bool
 | [] => false
 | f :: r => match pH e.t f.t with
  | true => match leZ (e.c - f.c) with | true => true | false => direct e r
  | false => direct e r
theorem mM {ρ : Ro} {e : Lin} : ∀ {fs : List Lin},(∀ f ∈ fs,f.v ρ ≤ 0) → direct e fs = true → e.v ρ ≤ 0
 | f :: r,hf,h => by
  simp only [direct] at h
  split at h
  ·rename_i h1
   split at h
   ·rename_i h2
    have h3 := hf f (List.mem_cons_self ..)
    have h4 := HR h2
    unfold Lin.v at h3 ⊢
    rw [uE h1]; omega
   ·exact mM (fun x hx => hf x (List.mem_cons_of_mem _ hx)) h
  ·exact mM (fun x hx => hf x (List.mem_cons_of_mem _ hx)) h
def QX (a : Nat) (t : Sum) : Bool :=
 match FG t with
 | none => true
 | some (a',_) => Nat.ble (a' + 1) a
def fS (rec : Nat → Lin → Bool × Nat) (up : Bool) (e : Lin) (a : Nat) (c : Int) : List Lin → Nat → Bool × Nat
 | [],b => (false,b)
 | f :: gs,b => match isZ (Bg a f.t) with
  | true => fS rec up e a c gs b
  | false => match ratio c (Bg a f.t) with
   | some k => match isNeg k with
    | true => fS rec up e a c gs b
    | false => match e.ax (-k) f with
     | e' => match QX a e'.t,up with
      | true,false => match rec b e' with
       | (true,b) => (true,b)
       | (false,b) => fS rec up e a c gs b
      | false,true => match rec b e' with
       | (true,b) => (true,b)
       | (false,b) => fS rec up e a c gs b
      | _,_ => fS rec up e a c gs b
   | none => fS rec up e a c gs b
def vR (rec : Nat → Lin → Bool × Nat) : Option Lin → Nat → Bool × Nat
 | some e',b => match e'.t with | [] => (false,b) | _ => rec b e'
 | none,b => (false,b)
def iR (fs : List Lin) : Nat → Nat → Nat → Lin → Bool × Nat
 | 0,_,b,e => (uG e,b)
 | _ + 1,_,0,_ => (false,0)
 | n + 1,u,b + 1,e => match (match uG e with | true => true | false => direct e fs) with
  | true => (true,b)
  | false => match FG e.t with
   | none => (false,b)
   | some (a,c) => match fS (iR fs n u) false e a c fs b with
    | (true,b) => (true,b)
    | (false,b) => match vR (iR fs n u) (JZ e a c) b with
     | (true,b) => (true,b)
     | (false,b) => match vR (iR fs n u) (Bh e a c) b with
      | (true,b) => (true,b)
      | (false,b) => match u with
       | 0 => (false,b)
       | u + 1 => fS (iR fs n u) true e a c fs b
def prove : Nat → List Lin → Lin → Bool
 | 0,_,e => uG e
 | n + 1,fs,e => match uG e with
  | true => true
  | false => HU (prove n fs) fs e e.t
theorem eS {ρ : Ro} {rec : Nat → Lin → Bool × Nat} (hr : ∀ b e,(rec b e).1 = true → e.v ρ ≤ 0) (up : Bool) (e : Lin) (a : Nat) (c : Int) : ∀ (gs : List Lin) (b : Nat),(∀ f ∈ gs,f.v ρ ≤ 0) → (fS rec up e a c gs b).1 = true → e.v ρ ≤ 0
 | f :: gs,b,hg,hp => by
  have hg' : ∀ f ∈ gs,f.v ρ ≤ 0 := fun x hx => hg x (List.mem_cons_of_mem _ hx)
  have go : ∀ {b k},isNeg k = false → (rec b (e.ax (-k) f)).1 = true → e.v ρ ≤ 0 := by
   intro b k hk hq
   have h1 := hr b _ hq
   rw [Lin.aZ] at h1
   have h2 := hg f (List.mem_cons_self ..)
   have h3 : k * f.v ρ ≤ 0 := Int.mul_nonpos_of_nonneg_of_nonpos (jk hk) h2
   have h4 : (-k) * f.v ρ = -(k * f.v ρ) := Int.neg_mul _ _
   omega
  simp only [fS] at hp
  split at hp
  ·exact eS hr up e a c gs b hg' hp
  ·split at hp
   ·rename_i k _
    split at hp
    ·exact eS hr up e a c gs b hg' hp
    ·rename_i hk
     split at hp
     ·split at hp
      ·rename_i b' hq; exact go hk (by rw [hq])
      ·exact eS hr _ e a c gs _ hg' hp
     ·split at hp
      ·rename_i b' hq; exact go hk (by rw [hq])
      ·exact eS hr _ e a c gs _ hg' hp
     ·exact eS hr _ e a c gs b hg' hp
   ·exact eS hr up e a c gs b hg' hp
 | [],b,_,hp => by simp [fS] at hp
theorem y7 {ρ : Ro} {rec : Nat → Lin → Bool × Nat} (hr : ∀ b e,(rec b e).1 = true → e.v ρ ≤ 0) {e : Lin} {o : Option Lin} {b : Nat} (ho : ∀ e',o = some e' → e.v ρ ≤ e'.v ρ) (hp : (vR rec o b).1 = true) : e.v ρ ≤ 0 := by
 unfold vR at hp
 split at hp
 ·rename_i e'
  split at hp
  ·cases hp
  ·exact Int.le_trans (ho e' rfl) (hr _ _ hp)
 ·cases hp
theorem y8 {ρ : Ro} (h : Gok ρ) (fs : List Lin) (hf : ∀ f ∈ fs,f.v ρ ≤ 0) : ∀ (n u b : Nat) (e : Lin),(iR fs n u b e).1 = true → e.v ρ ≤ 0
 | 0,u,b,e,hp => by simp only [iR] at hp; exact xV h hp
 | n + 1,u,0,e,hp => by simp [iR] at hp
 | n + 1,u,b + 1,e,hp => by
  have ih := y8 h fs hf n
  simp only [iR] at hp
  split at hp
  ·rename_i hu
   split at hu
   ·rename_i hu'; exact xV h hu'
   ·exact mM hf hu
  ·split at hp
   ·cases hp
   ·rename_i a c hl
    split at hp
    ·rename_i b1 hq; exact eS (ih u) false e a c fs b hf (by rw [hq])
    ·split at hp
     ·rename_i b2 hq; exact y7 (ih u) (fun e' he => M3 h he) (by rw [hq])
     ·split at hp
      ·rename_i b3 hq; exact y7 (ih u) (fun e' he => Ee he) (by rw [hq])
      ·split at hp
       ·cases hp
       ·exact eS (ih _) true e a c fs _ hf hp
def Bi : Nat → List Lin → Option Lin
 | _,[] => none
 | 0,f :: _ => some f
 | n + 1,_ :: r => Bi n r
theorem Bj : ∀ {n : Nat} {l : List Lin} {f : Lin},Bi n l = some f → f ∈ l
 | 0,x :: r,f,h => by simp only [Bi,Option.some.injEq] at h; subst h; exact List.mem_cons_self ..
 | n + 1,x :: r,f,h => by simp only [Bi] at h; exact List.mem_cons_of_mem _ (Bj h)
def vS (fs : List Lin) : List (Nat × Int) → Lin → Option Lin
 | [],e => some e
 | (i,k) :: r,e => match isNeg k,Bi i fs with
  | false,some f => vS fs r (e.ax (-k) f)
  | _,_ => none
theorem Bk {ρ : Ro} {fs : List Lin} (hf : ∀ f ∈ fs,f.v ρ ≤ 0) : ∀ {l : List (Nat × Int)} {e e' : Lin},vS fs l e = some e' → e.v ρ ≤ e'.v ρ
 | [],e,e',h => by simp only [vS,Option.some.injEq] at h; subst h; exact Int.le_refl _
 | (i,k) :: r,e,e',h => by
  simp only [vS] at h
  split at h
  ·rename_i f hk hn
   have h1 := Bk hf h
   rw [Lin.aZ,Int.neg_mul] at h1
   have h2 : k * f.v ρ ≤ 0 := Int.mul_nonpos_of_nonneg_of_nonpos (jk hk) (hf f (Bj hn))
   omega
  ·cases h
def Bl (T : List (Nat × TypeId)) (l : Nat) : Option Nat := match lk T l with | some e => some (fh e) | none => none
theorem HV {P : Program} {ρ : Ro} {T : List (Nat × TypeId)} (hT : cb P ρ T) {l b : Nat} (h : Bl T l = some b) : (ρ l).l.length ≤ b := by
 unfold Bl at h
 split at h
 ·rename_i e he; simp only [Option.some.injEq] at h; subst h; exact (c7 hT he).1
 ·cases h
def sR (T : List (Nat × TypeId)) : List (Nat × Int) → Lin → Option Lin
 | [],e => some e
 | (a,k) :: r,e => match isNeg k,a % 4 with
  | false,1 => sR T r ((e.ax (-k) (Lin.at a)).ax k (Lin.at (a + 1)))
  | false,0 => match Bl T (a / 4) with
   | some b => sR T r ((e.ax (-k) (Lin.at (a + 1))).aD (k * b))
   | none => none
  | _,_ => none
theorem uH {P : Program} {ρ : Ro} {T : List (Nat × TypeId)} (hT : cb P ρ T) : ∀ {l : List (Nat × Int)} {e e' : Lin},sR T l e = some e' → e.v ρ ≤ e'.v ρ
 | [],e,e',h => by simp only [sR,Option.some.injEq] at h; subst h; exact Int.le_refl _
 | (a,k) :: r,e,e',h => by
  simp only [sR] at h
  split at h
  ·rename_i hk hm
   have h0 := uH hT (l := r) h
   have h5 : Bh e a k = some ((e.ax (-k) (Lin.at a)).ax k (Lin.at (a + 1))) := by unfold Bh; simp only [hm,hk]
   exact Int.le_trans (Ee h5) h0
  ·rename_i hk hm
   split at h
   ·rename_i b hs
    have h0 := uH hT (l := r) h
    have h1 := HV hT hs
    rw [Lin.aB,Lin.aZ,Lin.aW] at h0
    have h2 : aN ρ (a + 1) = ((ρ (a / 4)).l.length : Int) := by
     unfold aN
     have q1 : (a + 1) % 4 = 1 := by omega
     have q2 : (a + 1) / 4 = a / 4 := by omega
     simp only [q1,q2]
    rw [h2] at h0
    have h3 : k * ((ρ (a / 4)).l.length : Int) ≤ k * (b : Int) := Int.mul_le_mul_of_nonneg_left (by omega) (jk hk)
    rw [Int.neg_mul] at h0
    omega
   ·cases h
  ·cases h
def Bm (T : List (Nat × TypeId)) (fs : List Lin) (c : Cert) : Bool :=
 match Nat.ble 1 c.m,vS fs c.ks (Lin.scale c.m c.g) with
 | true,some e => match sR T c.zs e with
  | some e => uG e
  | none => false
 | _,_ => false
theorem HW {P : Program} {ρ : Ro} {T : List (Nat × TypeId)} (hT : cb P ρ T) (h : Gok ρ) {fs : List Lin} (hf : ∀ f ∈ fs,f.v ρ ≤ 0) {c : Cert} (hc : Bm T fs c = true) : c.g.v ρ ≤ 0 := by
 unfold Bm at hc
 split at hc
 ·rename_i e1 hm h1
  split at hc
  ·rename_i e2 h2
   have a1 := Bk hf h1
   have a2 := uH hT h2
   have a3 := xV h hc
   rw [Lin.aT] at a1
   have hm' := Nat.le_of_ble_eq_true hm
   have a4 : (c.m : Int) * c.g.v ρ ≤ 0 := by omega
   by_cases hp : c.g.v ρ ≤ 0
   ·exact hp
   ·have : 0 < (c.m : Int) * c.g.v ρ := Int.mul_pos (by omega) (by omega)
    omega
  ·cases hc
 ·cases hc
def nS (T : List (Nat × TypeId)) (fs : List Lin) (e : Lin) : List Cert → Bool
 | [] => false
 | c :: r => match e.beq c.g with
  | true => match Bm T fs c with
   | true => true
   | false => nS T fs e r
  | false => nS T fs e r
theorem pI {P : Program} {ρ : Ro} {T : List (Nat × TypeId)} (hT : cb P ρ T) (h : Gok ρ) {fs : List Lin} (hf : ∀ f ∈ fs,f.v ρ ≤ 0) {e : Lin} : ∀ {l : List Cert},nS T fs e l = true → e.v ρ ≤ 0
 | c :: r,hc => by
  simp only [nS] at hc
  split at hc
  ·rename_i hb
   split at hc
   ·rename_i ho; rw [Lin.beq_eq hb]; exact HW hT h hf ho
   ·exact pI hT h hf hc
  ·exact pI hT h hf hc
end Go.TL
namespace Go.TL
def uI : Value → DP
 | .int k n => .int k (Lin.lit n)
 | .bool b => .bl (.lit b)
 | .string s => .st (.lit s.data.toList)
 | .slice none 0 0 => .nl
 | v => .cst v
theorem Bn (ρ : Ro) (v : Value) : (uI v).v ρ = .v v := by
 unfold uI
 split <;> simp [DP.v,Lin.bI,BF.v,SE.v]
theorem y9 (v : Value) : (uI v).vars = [] := by
 unfold uI
 split <;> simp [DP.vars,Lin.lit,Lin.vars,cB,BF.vars,SE.vars]
def DSt.get (σ : DSt) (t : Nat) : DV := match lk σ.ab t with | some x => x | none => .u
def DSt.put (σ : DSt) (dst : Option Nat) (x : DV) : DSt :=
 match dst with
 | some d => { σ with ab := (d,x) :: σ.ab }
 | none => σ
def dev (σ : DSt) : Operand → DV
 | .tmp t => σ.get t
 | .const v => match v.oneCell' with | true => .p (uI v) true | false => .u
 | .func f => .fn (.func f) [] []
 | .global _ => .u
def ib (σ : DSt) : List Operand → List DV
 | [] => []
 | x :: xs => dev σ x :: ib σ xs
theorem Bo (ρ : Ro) (σ : DSt) (t : Nat) : (σ.v ρ).get t = (σ.get t).v ρ := by
 unfold St.get DSt.get DSt.v
 simp only [eh]
 cases lk σ.ab t <;> simp [DV.v]
theorem aA (ρ : Ro) (σ : DSt) (x : Operand) : ev (σ.v ρ) x = (dev σ x).v ρ := by
 cases x with
 | tmp t => exact Bo ρ σ t
 | const v => simp only [ev,dev]; cases v.oneCell' <;> simp [DV.v,Bn]
 | func f => simp [ev,dev,DV.v,dvs]
 | global g => simp [ev,dev,DV.v]
theorem vT (ρ : Ro) (σ : DSt) : ∀ xs : List Operand,evs (σ.v ρ) xs = dvs ρ (ib σ xs)
 | [] => by simp [evs,ib,dvs]
 | x :: xs => by simp [evs,ib,dvs,aA,vT ρ σ xs]
theorem dy (ρ : Ro) (σ : DSt) (dst : Option Nat) (x : DV) : (σ.put dst x).v ρ = (σ.v ρ).put dst (x.v ρ) := by
 cases dst <;> rfl
theorem DSt.sc.get {σ : DSt} (h : σ.sc) (t : Nat) : Sc σ.nx (σ.get t).vars := by
 unfold DSt.get
 cases hl : lk σ.ab t with
 | some x => exact h.ab t x hl
 | none => exact Sc.nil
theorem DSt.sc.dev {σ : DSt} (h : σ.sc) (x : Operand) : Sc σ.nx (dev σ x).vars := by
 cases x with
 | tmp t => exact h.get t
 | const v => simp only [Go.TL.dev]; cases v.oneCell' <;> simp [DV.vars,y9,Sc.nil]
 | func f => simp [Go.TL.dev,DV.vars,av,Sc.nil]
 | global g => simp [Go.TL.dev,DV.vars,Sc.nil]
theorem DSt.sc.ib {σ : DSt} (h : σ.sc) : ∀ xs : List Operand,Sc σ.nx (av (ib σ xs))
 | [] => by simp [Go.TL.ib,av,Sc.nil]
 | x :: xs => by simp only [Go.TL.ib,av,Sc.app]; exact ⟨h.dev x,h.ib xs⟩
theorem DSt.sc.put {σ : DSt} (h : σ.sc) (dst : Option Nat) {x : DV} (hx : Sc σ.nx x.vars) : (σ.put dst x).sc := by
 cases dst with
 | none => exact h
 | some d =>
  refine ⟨?_,h.tab,h.tys,h.lin,h.prs⟩
  intro t v hl
  simp only [DSt.put,lk] at hl
  cases hb : Nat.beq d t with
  | true => simp only [hb,Option.some.injEq] at hl; subst hl; exact hx
  | false => simp only [hb] at hl; exact h.ab t v hl
theorem cC (σ : DSt) (dst : Option Nat) (x : DV) : (σ.put dst x).nx = σ.nx := by cases dst <;> rfl
theorem DSt.ok.put {P : Program} {I : Pr} {σ : DSt} {ρ : Ro} (h : σ.ok P I ρ) (dst : Option Nat) (x : DV) : (σ.put dst x).ok P I ρ := by
 cases dst with
 | none => exact h
 | some d => exact ⟨h.g,h.tys,h.lin,h.prs⟩
theorem nT {n : Nat} {ρ ρ' : Ro} (h : ao n ρ ρ') : ∀ {l : List Lin},(∀ e ∈ l,Sc n e.vars) → (aR ρ' l ↔ aR ρ l)
 | [],_ => Iff.rfl
 | e :: r,hs => by simp only [aR,Lin.ag h (hs e (List.mem_cons_self ..)),nT h fun x hx => hs x (List.mem_cons_of_mem _ hx)]
theorem HX {I : Pr} {n : Nat} {ρ ρ' : Ro} (h : ao n ρ ρ') : ∀ {l : List PF},(∀ e ∈ l,Sc n e.vars) → (bQ I ρ' l ↔ bQ I ρ l)
 | [],_ => Iff.rfl
 | e :: r,hs => by simp only [bQ,PF.ag h (hs e (List.mem_cons_self ..)),HX h fun x hx => hs x (List.mem_cons_of_mem _ hx)]
theorem rI {P : Program} {n : Nat} {ρ ρ' : Ro} (h : ao n ρ ρ') : ∀ {l : List (Nat × TypeId)},(∀ k e,(k,e) ∈ l → k < n) → (cb P ρ' l ↔ cb P ρ l)
 | [],_ => Iff.rfl
 | (k,e) :: r,hs => by simp only [cb,h k (hs k e (List.mem_cons_self ..)),rI h fun k' e' hx => hs k' e' (List.mem_cons_of_mem _ hx)]
theorem DSt.ok.ag {P : Program} {I : Pr} {σ : DSt} {ρ ρ' : Ro} (h : σ.ok P I ρ) (hs : σ.sc) (ha : ao σ.nx ρ ρ') (hg : Gok ρ') : σ.ok P I ρ' :=
 ⟨hg,(rI ha hs.tys).2 h.tys,(nT ha hs.lin).2 h.lin,(HX ha hs.prs).2 h.prs⟩
theorem M4 {σ : DSt} {ρ ρ' : Ro} (hs : σ.sc) (ha : ao σ.nx ρ ρ') (t : Nat) : (lk σ.ab t).map (DV.v ρ') = (lk σ.ab t).map (DV.v ρ) := by
 cases hl : lk σ.ab t with
 | none => rfl
 | some x => simp only [Option.map_some,DV.ag ha (hs.ab t x hl)]
theorem J0 {σ : DSt} {ρ ρ' : Ro} (hs : σ.sc) (ha : ao σ.nx ρ ρ') (t : Nat) : (lk σ.tab t).map (DO.v ρ') = (lk σ.tab t).map (DO.v ρ) := by
 cases hl : lk σ.tab t with
 | none => rfl
 | some x => simp only [Option.map_some,DO.ag ha (hs.tab t x hl)]
structure bu (σ σ' : St) : Prop where
 ab : ∀ t,lk σ.ab t = lk σ'.ab t
 tab : ∀ t,lk σ.tab t = lk σ'.tab t
theorem bu.refl (σ : St) : bu σ σ := ⟨fun _ => rfl,fun _ => rfl⟩
theorem bu.symm {σ σ' : St} (h : bu σ σ') : bu σ' σ := ⟨fun t => (h.ab t).symm,fun t => (h.tab t).symm⟩
theorem bu.put {σ σ' : St} (h : bu σ σ') (dst : Option Nat) (x : SV) : bu (σ.put dst x) (σ'.put dst x) := by
 cases dst with
 | none => exact h
 | some d =>
  refine ⟨fun t => ?_,h.tab⟩
  simp only [St.put,lk]
  rw [h.ab t]
theorem bu.holds {C : Ctx} {σ σ' : St} {a : Act} {w : World} (h : bu σ σ') (hh : Holds C σ a w) : Holds C σ' a w := by
 obtain ⟨E,e⟩ := hh
 refine ⟨E,e.size,e.defers,fun t sv hl => e.ab t sv ((h.ab t).trans hl),⟨fun k ov hl => e.tab.obj k ov ((h.tab k).trans hl),fun k hk => e.tab.dead k ((h.tab k).trans hk),?_,e.tab.ext⟩,e.fr,e.lo,e.ids,e.gZ⟩
 intro b k hb
 obtain ⟨h1,h2,h3⟩ := e.tab.own b k hb
 exact ⟨h1,h2,fun h0 => h3 ((h.tab k).trans h0)⟩
theorem DSt.eb {σ : DSt} {ρ ρ' : Ro} (hs : σ.sc) (ha : ao σ.nx ρ ρ') : bu (σ.v ρ) (σ.v ρ') :=
 ⟨fun t => by simp only [DSt.v,eh,M4 hs ha],fun t => by simp only [DSt.v,cO,J0 hs ha]⟩
inductive G where
 | le (e : Lin)
 | pf (f : PF)
def G.v (I : Pr) (ρ : Ro) : G → Prop
 | .le e => e.v ρ ≤ 0
 | .pf f => f.v I ρ
def gsV (I : Pr) (ρ : Ro) : List G → Prop
 | [] => True
 | g :: r => g.v I ρ ∧ gsV I ρ r
theorem eL {I : Pr} {ρ : Ro} : ∀ {a b : List G},gsV I ρ (a ++ b) ↔ gsV I ρ a ∧ gsV I ρ b
 | [],b => by simp [gsV]
 | x :: a,b => by simp [gsV,eL (a := a),and_assoc]
abbrev DR := Option (DSt × List G)
def Good (P : Program) (I : Pr) (σ : DSt) (o : Oper) (σ' : DSt) (gs : List G) : Prop :=
 σ.sc → σ'.sc ∧ σ.nx ≤ σ'.nx ∧ ∀ ρ,σ.ok P I ρ → gsV I ρ gs → ∃ ρ',ao σ.nx ρ ρ' ∧ σ'.ok P I ρ' ∧
  ∃ (H : Hint) (s : St) (ps : List Prop),aop P H (σ.v ρ) o = some (s,ps) ∧ ia ps ∧ bu s (σ'.v ρ')
theorem a6 {P : Program} {I : Pr} {σ : DSt} {o : Oper} {x : DV} {gs : List G} (hx : σ.sc → Sc σ.nx x.vars)
  (h : ∀ ρ,σ.sc → σ.ok P I ρ → gsV I ρ gs → ∃ (H : Hint) (ps : List Prop),aop P H (σ.v ρ) o = some ((σ.v ρ).put o.dst (x.v ρ),ps) ∧ ia ps) : Good P I σ o (σ.put o.dst x) gs := by
 intro hs
 refine ⟨hs.put o.dst (hx hs),by rw [cC]; exact Nat.le_refl _,?_⟩
 intro ρ hok hg
 obtain ⟨H,ps,h1,h2⟩ := h ρ hs hok hg
 exact ⟨ρ,ao.refl _ _,hok.put _ _,H,_,ps,h1,h2,by rw [dy]; exact bu.refl _⟩
def DSt.grow (σ : DSt) (n : Nat) (tys : List (Nat × TypeId)) (lin : List Lin) (prs : List PF) : DSt :=
 { σ with nx := σ.nx + n,tys := tys ++ σ.tys,lin := lin ++ σ.lin,prs := prs ++ σ.prs }
structure fT (m : Nat) (tys : List (Nat × TypeId)) (lin : List Lin) (prs : List PF) : Prop where
 tys : ∀ k e,(k,e) ∈ tys → k < m
 lin : ∀ e ∈ lin,Sc m e.vars
 prs : ∀ f ∈ prs,Sc m f.vars
theorem DSt.sc.grow {σ : DSt} (h : σ.sc) {n : Nat} {tys : List (Nat × TypeId)} {lin : List Lin} {prs : List PF} (hg : fT (σ.nx + n) tys lin prs) : (σ.grow n tys lin prs).sc := by
 have hl : σ.nx ≤ σ.nx + n := Nat.le_add_right _ _
 refine ⟨fun t v ht => (h.ab t v ht).mono hl,fun t v ht => (h.tab t v ht).mono hl,?_,?_,?_⟩
 ·intro k e hk
  rcases List.mem_append.1 hk with hk | hk
  ·exact hg.tys k e hk
  ·exact Nat.lt_of_lt_of_le (h.tys k e hk) hl
 ·intro e he
  rcases List.mem_append.1 he with he | he
  ·exact hg.lin e he
  ·exact (h.lin e he).mono hl
 ·intro e he
  rcases List.mem_append.1 he with he | he
  ·exact hg.prs e he
  ·exact (h.prs e he).mono hl
theorem jJ {P : Program} {ρ : Ro} : ∀ {a b : List (Nat × TypeId)},cb P ρ (a ++ b) ↔ cb P ρ a ∧ cb P ρ b
 | [],b => by simp [cb]
 | (k,e) :: a,b => by simp [cb,jJ (a := a),and_assoc]
theorem za {ρ : Ro} : ∀ {a b : List Lin},aR ρ (a ++ b) ↔ aR ρ a ∧ aR ρ b
 | [],b => by simp [aR]
 | e :: a,b => by simp [aR,za (a := a),and_assoc]
theorem ic {I : Pr} {ρ : Ro} : ∀ {a b : List PF},bQ I ρ (a ++ b) ↔ bQ I ρ a ∧ bQ I ρ b
 | [],b => by simp [bQ]
 | e :: a,b => by simp [bQ,ic (a := a),and_assoc]
theorem DSt.ok.grow {P : Program} {I : Pr} {σ : DSt} {ρ ρ' : Ro} (h : σ.ok P I ρ) (hs : σ.sc) (ha : ao σ.nx ρ ρ') (hg : Gok ρ') {n : Nat} {tys : List (Nat × TypeId)} {lin : List Lin} {prs : List PF}
  (h1 : cb P ρ' tys) (h2 : aR ρ' lin) (h3 : bQ I ρ' prs) : (σ.grow n tys lin prs).ok P I ρ' := by
 have := h.ag hs ha hg
 exact ⟨hg,jJ.2 ⟨h1,this.tys⟩,za.2 ⟨h2,this.lin⟩,ic.2 ⟨h3,this.prs⟩⟩
theorem jl {P : Program} {I : Pr} {σ : DSt} {o : Oper} {x : DV} {gs : List G} {n : Nat} {tys : List (Nat × TypeId)} {lin : List Lin} {prs : List PF}
  (hx : σ.sc → Sc (σ.nx + n) x.vars) (hg : σ.sc → fT (σ.nx + n) tys lin prs)
  (h : ∀ ρ,σ.sc → σ.ok P I ρ → gsV I ρ gs → ∃ ρ',ao σ.nx ρ ρ' ∧ Gok ρ' ∧ cb P ρ' tys ∧ aR ρ' lin ∧ bQ I ρ' prs ∧
   ∃ (H : Hint) (ps : List Prop),aop P H (σ.v ρ) o = some ((σ.v ρ).put o.dst (x.v ρ'),ps) ∧ ia ps) : Good P I σ o ((σ.grow n tys lin prs).put o.dst x) gs := by
 intro hs
 have hs' := hs.grow (hg hs)
 refine ⟨hs'.put o.dst (hx hs),by rw [cC]; exact Nat.le_add_right _ _,?_⟩
 intro ρ hok hgs
 obtain ⟨ρ',ha,hgk,h1,h2,h3,H,ps,h4,h5⟩ := h ρ hs hok hgs
 refine ⟨ρ',ha,(hok.grow hs ha hgk h1 h2 h3).put _ _,H,_,ps,h4,h5,?_⟩
 rw [dy]
 exact bu.put (DSt.eb hs ha) _ _
def up (ρ : Ro) (k : Nat) (x : Va) : Ro := fun j => if j = k then x else ρ j
theorem aI (ρ : Ro) (k : Nat) (x : Va) : up ρ k x k = x := by simp [up]
theorem QY (ρ : Ro) {k j : Nat} (x : Va) (h : j ≠ k) : up ρ k x j = ρ j := by simp [up,h]
theorem bR (ρ : Ro) (k n : Nat) (x : Va) (h : n ≤ k) : ao n ρ (up ρ k x) := fun j hj => QY ρ x (by omega)
structure ig (x : Va) : Prop where
 lo : -9223372036854775808 ≤ x.n
 hi : x.n ≤ 9223372036854775807
 st : x.s.size ≤ bz
 ln : x.l.length ≤ nQ
theorem Gok.up {ρ : Ro} (h : Gok ρ) (k : Nat) {x : Va} (hx : ig x) : Gok (up ρ k x) := by
 constructor <;> intro j <;> by_cases e : j = k <;> simp only [Go.TL.up,e,if_true,if_false]
 ·exact hx.lo
 ·exact h.lo j
 ·exact hx.hi
 ·exact h.hi j
 ·exact hx.st
 ·exact h.st j
 ·exact hx.ln
 ·exact h.ln j
def vaN (n : Int) : Va := { (default : Va) with n }
def vaB (b : Bool) : Va := { (default : Va) with b }
def vaS (s : ByteArray) : Va := { (default : Va) with s }
def vaL (l : List (List PV)) : Va := { (default : Va) with l }
theorem rJ {n : Int} (h1 : -9223372036854775808 ≤ n) (h2 : n ≤ 9223372036854775807) : ig (vaN n) := ⟨h1,h2,Nat.zero_le _,Nat.zero_le _⟩
theorem nU (b : Bool) : ig (vaB b) := ⟨by show (-9223372036854775808 : Int) ≤ 0; decide,by show (0 : Int) ≤ 9223372036854775807; decide,Nat.zero_le _,Nat.zero_le _⟩
theorem nV {s : ByteArray} (h : s.size ≤ bz) : ig (vaS s) := ⟨by show (-9223372036854775808 : Int) ≤ 0; decide,by show (0 : Int) ≤ 9223372036854775807; decide,h,Nat.zero_le _⟩
theorem HY {l : List (List PV)} (h : l.length ≤ nQ) : ig (vaL l) := ⟨by show (-9223372036854775808 : Int) ≤ 0; decide,by show (0 : Int) ≤ 9223372036854775807; decide,Nat.zero_le _,h⟩
theorem J1 {n : Nat} (h : n ≤ 1073741824) : n ≤ nQ := Nat.le_trans h (by decide)
theorem ej {l : List (List PV)} (h : l.length ≤ 1073741824) : ig (vaL l) := HY (J1 h)
theorem nW {l : List (List PV)} (h : l.length ≤ b7) : ig (vaL l) := ej (Nat.le_trans h (by decide))
end Go.TL
