/- Terms over variables: numbers, truths, strings, lists, known values and objects; what they stand for. -/
import Derived.Test.YtaaimmmofkldbaaWl08
namespace Go.TL
structure Va where
  n : Int
  b : Bool
  s : ByteArray
  l : List (List PV)
  x : Value
  p : Nat × Nat
  c : Cont
instance : Inhabited Va := ⟨⟨0, false, ⟨#[]⟩, [], .nilFunc, (0, 0), fun _ => none⟩⟩
abbrev Ro := Nat → Va
abbrev Sum := List (Nat × Int)
structure Lin where
  c : Int
  t : Sum
def atomV (ρ : Ro) (a : Nat) : Int :=
  match a % 4 with
  | 0 => (ρ (a / 4)).n
  | 1 => ((ρ (a / 4)).l.length : Int)
  | 2 => (rsz (ρ (a / 4)).l : Int)
  | _ => ((ρ (a / 4)).s.size : Int)
def sumV (ρ : Ro) : Sum → Int
  | [] => 0
  | (a, c) :: r => c * atomV ρ a + sumV ρ r
def Lin.v (ρ : Ro) (e : Lin) : Int := e.c + sumV ρ e.t
def isZ : Int → Bool
  | .ofNat n => Nat.beq n 0
  | .negSucc _ => false
def isOne : Int → Bool
  | .ofNat n => Nat.beq n 1
  | .negSucc _ => false
def isMone : Int → Bool
  | .ofNat _ => false
  | .negSucc n => Nat.beq n 0
def leZ : Int → Bool
  | .ofNat n => Nat.beq n 0
  | .negSucc _ => true
theorem isZ_eq {z : Int} (h : isZ z = true) : z = 0 := by
  cases z with
  | ofNat n => simp only [isZ] at h; rw [Nat.eq_of_beq_eq_true h]; rfl
  | negSucc n => simp [isZ] at h
theorem leZ_le {z : Int} (h : leZ z = true) : z ≤ 0 := by
  cases z with
  | ofNat n => simp only [leZ] at h; rw [Nat.eq_of_beq_eq_true h]; decide
  | negSucc n => exact Int.le_of_lt (Int.negSucc_lt_zero n)
def insT (a : Nat) (c : Int) : Sum → Sum
  | [] => match isZ c with | true => [] | false => [(a, c)]
  | (a', c') :: r => match Nat.beq a a' with
    | true => match isZ (c + c') with | true => r | false => (a, c + c') :: r
    | false => match Nat.ble a a' with
      | true => match isZ c with | true => (a', c') :: r | false => (a, c) :: (a', c') :: r
      | false => (a', c') :: insT a c r
theorem insT_v (ρ : Ro) (a : Nat) (c : Int) : ∀ l : Sum, sumV ρ (insT a c l) = c * atomV ρ a + sumV ρ l
  | [] => by
    simp only [insT]
    cases hz : isZ c with
    | true => simp [isZ_eq hz, sumV]
    | false => simp [sumV]
  | (a', c') :: r => by
    simp only [insT]
    cases hb : Nat.beq a a' with
    | true =>
      have e := Nat.eq_of_beq_eq_true hb; subst e
      cases hz : isZ (c + c') with
      | true =>
        have e := isZ_eq hz
        simp only [sumV]
        have : c * atomV ρ a + (c' * atomV ρ a + sumV ρ r) = (c + c') * atomV ρ a + sumV ρ r := by rw [Int.add_mul]; omega
        rw [this, e]; simp
      | false => simp only [sumV]; rw [Int.add_mul]; omega
    | false =>
      cases hl : Nat.ble a a' with
      | true =>
        cases hz : isZ c with
        | true => simp [isZ_eq hz]
        | false => simp [sumV]
      | false => simp only [sumV, insT_v ρ a c r]; omega
def addS (k : Int) : Sum → Sum → Sum
  | [], y => y
  | (a, c) :: r, y => addS k r (insT a (k * c) y)
theorem addS_v (ρ : Ro) (k : Int) : ∀ (x y : Sum), sumV ρ (addS k x y) = k * sumV ρ x + sumV ρ y
  | [], y => by simp [addS, sumV]
  | (a, c) :: r, y => by
    simp only [addS, sumV]
    rw [addS_v ρ k r, insT_v, Int.mul_add, Int.mul_assoc]; omega
def Lin.ax (x : Lin) (k : Int) (y : Lin) : Lin := ⟨x.c + k * y.c, addS k y.t x.t⟩
theorem Lin.ax_v (ρ : Ro) (x : Lin) (k : Int) (y : Lin) : (x.ax k y).v ρ = x.v ρ + k * y.v ρ := by
  unfold Lin.ax Lin.v; simp only [addS_v, Int.mul_add]; omega
def Lin.add (x y : Lin) : Lin := x.ax 1 y
def Lin.sub (x y : Lin) : Lin := x.ax (-1) y
def Lin.scale (k : Int) (x : Lin) : Lin := Lin.ax ⟨0, []⟩ k x
def Lin.lit (n : Int) : Lin := ⟨n, []⟩
def Lin.at (a : Nat) : Lin := ⟨0, [(a, 1)]⟩
def Lin.addc (x : Lin) (n : Int) : Lin := ⟨x.c + n, x.t⟩
theorem Lin.add_v (ρ : Ro) (x y : Lin) : (x.add y).v ρ = x.v ρ + y.v ρ := by unfold Lin.add; rw [Lin.ax_v]; omega
theorem Lin.scale_v (ρ : Ro) (k : Int) (x : Lin) : (Lin.scale k x).v ρ = k * x.v ρ := by unfold Lin.scale; rw [Lin.ax_v]; simp [Lin.v, sumV]
theorem Lin.lit_v (ρ : Ro) (n : Int) : (Lin.lit n).v ρ = n := by simp [Lin.lit, Lin.v, sumV]
theorem Lin.at_v (ρ : Ro) (a : Nat) : (Lin.at a).v ρ = atomV ρ a := by simp [Lin.at, Lin.v, sumV]
theorem Lin.addc_v (ρ : Ro) (x : Lin) (n : Int) : (x.addc n).v ρ = x.v ρ + n := by unfold Lin.addc Lin.v; simp only; omega
def sumEq : Sum → Sum → Bool
  | [], [] => true
  | (a, c) :: r, (a', c') :: r' => match Nat.beq a a', isZ (c - c') with
    | true, true => sumEq r r'
    | _, _ => false
  | _, _ => false
theorem sumEq_eq : ∀ {x y : Sum}, sumEq x y = true → x = y
  | [], [], _ => rfl
  | (a, c) :: r, (a', c') :: r', h => by
    simp only [sumEq] at h
    split at h
    · rename_i h1 h2
      have e1 := Nat.eq_of_beq_eq_true h1
      have e2 := isZ_eq h2
      have : c = c' := by omega
      subst e1; subst this; rw [sumEq_eq h]
    · cases h
  | [], _ :: _, h => by simp [sumEq] at h
  | _ :: _, [], h => by simp [sumEq] at h
def Lin.beq (x y : Lin) : Bool := match isZ (x.c - y.c) with | true => sumEq x.t y.t | false => false
theorem Lin.beq_eq {x y : Lin} (h : x.beq y = true) : x = y := by
  unfold Lin.beq at h
  split at h
  · rename_i h1
    have := isZ_eq h1
    obtain ⟨c, t⟩ := x; obtain ⟨c', t'⟩ := y
    simp only at this h
    rw [show c = c' by omega, sumEq_eq h]
  · cases h
inductive BF where
  | lit (b : Bool)
  | var (k : Nat)
  | le (e : Lin)
  | eq (e : Lin)
  | not (f : BF)
  | and (f g : BF)
  | or (f g : BF)
def BF.v (ρ : Ro) : BF → Bool
  | .lit b => b
  | .var k => (ρ k).b
  | .le e => decide (e.v ρ ≤ 0)
  | .eq e => decide (e.v ρ = 0)
  | .not f => !f.v ρ
  | .and f g => f.v ρ && g.v ρ
  | .or f g => f.v ρ || g.v ρ
inductive SE where
  | lit (b : List UInt8)
  | var (k : Nat)
def SE.v (ρ : Ro) : SE → ByteArray
  | .lit b => ⟨b.toArray⟩
  | .var k => (ρ k).s
abbrev LV := Option Nat
def lvV (ρ : Ro) : LV → List (List PV)
  | none => []
  | some k => (ρ k).l
inductive DP where
  | int (k : IntKind) (e : Lin)
  | bl (f : BF)
  | st (e : SE)
  | sl (l : LV)
  | nl
  | cst (v : Value)
  | raw (k : Nat)
def DP.v (ρ : Ro) : DP → PV
  | .int k e => .v (.int k (e.v ρ))
  | .bl f => .v (.bool (f.v ρ))
  | .st e => .v (.string (e.v ρ))
  | .sl l => .sl (lvV ρ l)
  | .nl => .v (.slice none 0 0)
  | .cst v => .v v
  | .raw k => .v (ρ k).x
inductive DV where
  | u
  | p (x : DP) (fr : Bool)
  | ptr (k off : Nat)
  | vec (k : Nat)
  | vptr (k sz : Nat) (i : Lin) (off : Nat)
  | pd (row : List DP) (off : Nat) (fr : Bool)
  | pc (l : LV) (fr : Bool)
  | agg (xs : List DV)
  | tup (xs : List DV)
  | ref (k : Nat)
  | fn (f : Fn) (first caps : List DV)
  | ifc (t : TypeId) (x : DV)
  | rp (k off : Nat)
instance : Inhabited DV := ⟨.u⟩
def rowV (ρ : Ro) : List DP → List PV
  | [] => []
  | x :: xs => x.v ρ :: rowV ρ xs
mutual
def DV.v (ρ : Ro) : DV → SV
  | .u => .u
  | .p x fr => .p (x.v ρ) fr
  | .ptr k off => .ptr k off
  | .vec k => .vec k
  | .vptr k sz i off => .vptr k sz (i.v ρ).toNat off
  | .pd row off fr => .pd (rowV ρ row) off fr
  | .pc l fr => .pc (lvV ρ l) fr
  | .agg xs => .agg (dvs ρ xs)
  | .tup xs => .tup (dvs ρ xs)
  | .ref k => .ref k
  | .fn f first caps => .fn f (dvs ρ first) (dvs ρ caps)
  | .ifc t x => .ifc t (x.v ρ)
  | .rp k off => .p (.v (.pointer (some ⟨(ρ k).p.1, (ρ k).p.2 + off, none⟩))) true
def dvs (ρ : Ro) : List DV → List SV
  | [] => []
  | x :: xs => x.v ρ :: dvs ρ xs
end
abbrev Ex := Nat → List Va → World → Value → (Nat → Prop) → Prop
inductive DO where
  | box (t : TypeId) (cells : List DV)
  | vec (t : TypeId) (sz : Nat) (l : LV) (fr : Bool)
  | ex (id : Nat) (args : List Nat)
def DO.v (J : Ex) (ρ : Ro) : DO → OV
  | .box t cells => .box t (dvs ρ cells)
  | .vec t sz l fr => .vec t sz (lvV ρ l) fr
  | .ex id args => .ext (J id (args.map ρ))
abbrev DSlots := List (Nat × DV)
abbrev DTab := List (Nat × DO)
def slotsV (ρ : Ro) : DSlots → List (Nat × SV)
  | [] => []
  | (k, x) :: r => (k, x.v ρ) :: slotsV ρ r
def tabV (J : Ex) (ρ : Ro) : DTab → Tab
  | [] => []
  | (k, x) :: r => (k, x.v J ρ) :: tabV J ρ r
inductive PF where
  | row (l : Nat) (i : Lin) (cells : List DP)
  | app (l : Nat) (a b : LV)
  | lit (l : Nat) (rows : List (List DP))
  | sub (l a : Nat) (lo hi : Lin)
  | set (l a : Nat) (i : Lin) (cells : List DP)
  | tru (f : BF)
  | cat (s : Nat) (a b : SE)
  | pr (id : Nat) (args : List Nat)
abbrev Pr := Nat → List Va → Prop
def rowsV (ρ : Ro) : List (List DP) → List (List PV)
  | [] => []
  | r :: rs => rowV ρ r :: rowsV ρ rs
def PF.v (I : Pr) (ρ : Ro) : PF → Prop
  | .row l i cells => 0 ≤ i.v ρ ∧ (ρ l).l[(i.v ρ).toNat]? = some (rowV ρ cells)
  | .app l a b => (ρ l).l = lvV ρ a ++ lvV ρ b
  | .lit l rows => (ρ l).l = rowsV ρ rows
  | .sub l a lo hi => (ρ l).l = ((ρ a).l.take (hi.v ρ).toNat).drop (lo.v ρ).toNat
  | .set l a i cells => (ρ l).l = (ρ a).l.set (i.v ρ).toNat (rowV ρ cells)
  | .tru f => f.v ρ = true
  | .cat s a b => (ρ s).s = a.v ρ ++ b.v ρ
  | .pr id args => I id (args.map ρ)
structure Cert where
  g : Lin
  m : Nat
  ks : List (Nat × Int)
  zs : List (Nat × Int)
structure DSt where
  slots : DSlots
  tab : DTab
  tys : List (Nat × TypeId)
  lin : List Lin
  prs : List PF
  nx : Nat
  hc : List Cert
def DSt.v (J : Ex) (ρ : Ro) (σ : DSt) : St := ⟨slotsV ρ σ.slots, tabV J ρ σ.tab⟩
def mostVar : Nat := 1099511627776
structure Gok (ρ : Ro) : Prop where
  lo : ∀ k, -9223372036854775808 ≤ (ρ k).n
  hi : ∀ k, (ρ k).n ≤ 9223372036854775807
  st : ∀ k, (ρ k).s.size ≤ mostStr
  ln : ∀ k, (ρ k).l.length ≤ mostVar
  on : ∀ k, (ρ k).x.oneCell' = true
def linsV (ρ : Ro) : List Lin → Prop
  | [] => True
  | e :: r => e.v ρ ≤ 0 ∧ linsV ρ r
def prsV (I : Pr) (ρ : Ro) : List PF → Prop
  | [] => True
  | f :: r => f.v I ρ ∧ prsV I ρ r
def tysV (P : Program) (ρ : Ro) : List (Nat × TypeId) → Prop
  | [] => True
  | (k, e) :: r => TyRows P e (ρ k).l ∧ tysV P ρ r
structure DSt.ok (P : Program) (I : Pr) (σ : DSt) (ρ : Ro) : Prop where
  g : Gok ρ
  tys : tysV P ρ σ.tys
  lin : linsV ρ σ.lin
  prs : prsV I ρ σ.prs
theorem linsV_mem {ρ : Ro} : ∀ {l : List Lin} {e : Lin}, linsV ρ l → e ∈ l → e.v ρ ≤ 0
  | x :: r, e, h, hm => by
    rcases List.mem_cons.1 hm with rfl | hm
    · exact h.1
    · exact linsV_mem h.2 hm
theorem tysV_lk {P : Program} {ρ : Ro} : ∀ {l : List (Nat × TypeId)} {k : Nat} {e : TypeId}, tysV P ρ l → lk l k = some e → TyRows P e (ρ k).l
  | (j, e') :: r, k, e, h, hl => by
    simp only [lk] at hl
    cases hb : Nat.beq j k with
    | true => simp only [hb, Option.some.injEq] at hl; subst hl; rw [← Nat.eq_of_beq_eq_true hb]; exact h.1
    | false => simp only [hb] at hl; exact tysV_lk h.2 hl
theorem linsV_append {ρ : Ro} : ∀ {a b : List Lin}, linsV ρ a → linsV ρ b → linsV ρ (a ++ b)
  | [], _, _, h => h
  | _ :: _, _, h, k => ⟨h.1, linsV_append h.2 k⟩
def sumVars : Sum → List Nat
  | [] => []
  | (a, _) :: r => (a / 4) :: sumVars r
def Lin.vars (e : Lin) : List Nat := sumVars e.t
def BF.vars : BF → List Nat
  | .lit _ => []
  | .var k => [k]
  | .le e => e.vars
  | .eq e => e.vars
  | .not f => f.vars
  | .and f g => f.vars ++ g.vars
  | .or f g => f.vars ++ g.vars
def SE.vars : SE → List Nat
  | .lit _ => []
  | .var k => [k]
def lvVars : LV → List Nat
  | none => []
  | some k => [k]
def DP.vars : DP → List Nat
  | .int _ e => e.vars
  | .bl f => f.vars
  | .st e => e.vars
  | .sl l => lvVars l
  | .nl => []
  | .cst _ => []
  | .raw k => [k]
def rowVars : List DP → List Nat
  | [] => []
  | x :: xs => x.vars ++ rowVars xs
def rowsVars : List (List DP) → List Nat
  | [] => []
  | x :: xs => rowVars x ++ rowsVars xs
mutual
def DV.vars : DV → List Nat
  | .p x _ => x.vars
  | .vptr _ _ i _ => i.vars
  | .pd row _ _ => rowVars row
  | .pc l _ => lvVars l
  | .agg xs => dvsVars xs
  | .tup xs => dvsVars xs
  | .fn _ first caps => dvsVars first ++ dvsVars caps
  | .ifc _ x => x.vars
  | .rp k _ => [k]
  | .u => []
  | .ptr _ _ => []
  | .vec _ => []
  | .ref _ => []
def dvsVars : List DV → List Nat
  | [] => []
  | x :: xs => x.vars ++ dvsVars xs
end
def DO.vars : DO → List Nat
  | .box _ cells => dvsVars cells
  | .vec _ _ l _ => lvVars l
  | .ex _ args => args
def slotsVars : DSlots → List Nat
  | [] => []
  | (_, x) :: r => x.vars ++ slotsVars r
def tabVars : DTab → List Nat
  | [] => []
  | (_, x) :: r => x.vars ++ tabVars r
def PF.vars : PF → List Nat
  | .row l i cells => l :: (i.vars ++ rowVars cells)
  | .app l a b => l :: (lvVars a ++ lvVars b)
  | .lit l rows => l :: rowsVars rows
  | .sub l a lo hi => l :: a :: (lo.vars ++ hi.vars)
  | .set l a i cells => l :: a :: (i.vars ++ rowVars cells)
  | .tru f => f.vars
  | .cat s a b => s :: (a.vars ++ b.vars)
  | .pr _ args => args
def Sc (n : Nat) (l : List Nat) : Prop := ∀ k ∈ l, k < n
structure DSt.sc (σ : DSt) : Prop where
  slots : ∀ t v, lk σ.slots t = some v → Sc σ.nx v.vars
  tab : ∀ k v, lk σ.tab k = some v → Sc σ.nx v.vars
  tys : ∀ k e, (k, e) ∈ σ.tys → k < σ.nx
  lin : ∀ e ∈ σ.lin, Sc σ.nx e.vars
  prs : ∀ f ∈ σ.prs, Sc σ.nx f.vars
def Agree (n : Nat) (ρ ρ' : Ro) : Prop := ∀ k, k < n → ρ' k = ρ k
theorem Agree.refl (n : Nat) (ρ : Ro) : Agree n ρ ρ := fun _ _ => rfl
theorem Agree.trans {n m : Nat} {ρ ρ1 ρ2 : Ro} (h : Agree n ρ ρ1) (k : Agree m ρ1 ρ2) (hl : n ≤ m) : Agree n ρ ρ2 := fun j hj => (k j (by omega)).trans (h j hj)
theorem Agree.le {n m : Nat} {ρ ρ' : Ro} (h : Agree m ρ ρ') (hl : n ≤ m) : Agree n ρ ρ' := fun j hj => h j (by omega)
theorem Sc.app {n : Nat} {a b : List Nat} : Sc n (a ++ b) ↔ Sc n a ∧ Sc n b := by
  unfold Sc; simp only [List.mem_append]
  exact ⟨fun h => ⟨fun k hk => h k (.inl hk), fun k hk => h k (.inr hk)⟩, fun h k hk => hk.elim (h.1 k) (h.2 k)⟩
theorem Sc.cons {n a : Nat} {b : List Nat} : Sc n (a :: b) ↔ a < n ∧ Sc n b := by
  unfold Sc; simp only [List.mem_cons]
  exact ⟨fun h => ⟨h a (.inl rfl), fun k hk => h k (.inr hk)⟩, fun h k hk => hk.elim (fun e => e ▸ h.1) (h.2 k)⟩
theorem Sc.nil {n : Nat} : Sc n [] := by intro k h; simp at h
theorem Sc.mono {n m : Nat} {a : List Nat} (h : Sc n a) (hl : n ≤ m) : Sc m a := fun k hk => Nat.lt_of_lt_of_le (h k hk) hl
theorem atomV_ag {n : Nat} {ρ ρ' : Ro} (h : Agree n ρ ρ') {a : Nat} (ha : a / 4 < n) : atomV ρ' a = atomV ρ a := by
  unfold atomV; rw [h _ ha]
theorem sumV_ag {n : Nat} {ρ ρ' : Ro} (h : Agree n ρ ρ') : ∀ {x : Sum}, Sc n (sumVars x) → sumV ρ' x = sumV ρ x
  | [], _ => rfl
  | (a, c) :: r, hs => by
    simp only [sumVars, Sc.cons] at hs
    simp only [sumV, atomV_ag h hs.1, sumV_ag h hs.2]
theorem Lin.ag {n : Nat} {ρ ρ' : Ro} (h : Agree n ρ ρ') {e : Lin} (hs : Sc n e.vars) : e.v ρ' = e.v ρ := by
  unfold Lin.v; rw [sumV_ag h hs]
theorem BF.ag {n : Nat} {ρ ρ' : Ro} (h : Agree n ρ ρ') : ∀ {f : BF}, Sc n f.vars → f.v ρ' = f.v ρ
  | .lit _, _ => rfl
  | .var k, hs => by simp only [BF.vars, Sc.cons] at hs; simp only [BF.v, h k hs.1]
  | .le e, hs => by simp only [BF.v, Lin.ag h hs]
  | .eq e, hs => by simp only [BF.v, Lin.ag h hs]
  | .not f, hs => by simp only [BF.vars] at hs; simp only [BF.v, BF.ag h hs]
  | .and f g, hs => by simp only [BF.vars, Sc.app] at hs; simp only [BF.v, BF.ag h hs.1, BF.ag h hs.2]
  | .or f g, hs => by simp only [BF.vars, Sc.app] at hs; simp only [BF.v, BF.ag h hs.1, BF.ag h hs.2]
theorem SE.ag {n : Nat} {ρ ρ' : Ro} (h : Agree n ρ ρ') : ∀ {f : SE}, Sc n f.vars → f.v ρ' = f.v ρ
  | .lit _, _ => rfl
  | .var k, hs => by simp only [SE.vars, Sc.cons] at hs; simp only [SE.v, h k hs.1]
theorem lv_ag {n : Nat} {ρ ρ' : Ro} (h : Agree n ρ ρ') : ∀ {f : LV}, Sc n (lvVars f) → lvV ρ' f = lvV ρ f
  | none, _ => rfl
  | some k, hs => by simp only [lvVars, Sc.cons] at hs; simp only [lvV, h k hs.1]
theorem DP.ag {n : Nat} {ρ ρ' : Ro} (h : Agree n ρ ρ') {f : DP} (hs : Sc n f.vars) : f.v ρ' = f.v ρ := by
  cases f <;> simp only [DP.vars] at hs <;> simp only [DP.v]
  · rw [Lin.ag h hs]
  · rw [BF.ag h hs]
  · rw [SE.ag h hs]
  · rw [lv_ag h hs]
  · rw [h _ (Sc.cons.1 hs).1]
theorem row_ag {n : Nat} {ρ ρ' : Ro} (h : Agree n ρ ρ') : ∀ {f : List DP}, Sc n (rowVars f) → rowV ρ' f = rowV ρ f
  | [], _ => rfl
  | x :: xs, hs => by simp only [rowVars, Sc.app] at hs; simp only [rowV, DP.ag h hs.1, row_ag h hs.2]
theorem rows_ag {n : Nat} {ρ ρ' : Ro} (h : Agree n ρ ρ') : ∀ {f : List (List DP)}, Sc n (rowsVars f) → rowsV ρ' f = rowsV ρ f
  | [], _ => rfl
  | x :: xs, hs => by simp only [rowsVars, Sc.app] at hs; simp only [rowsV, row_ag h hs.1, rows_ag h hs.2]
mutual
theorem DV.ag {n : Nat} {ρ ρ' : Ro} (h : Agree n ρ ρ') : ∀ {f : DV}, Sc n f.vars → f.v ρ' = f.v ρ
  | .u, _ => by simp only [DV.v]
  | .p x fr, hs => by simp only [DV.vars] at hs; simp only [DV.v, DP.ag h hs]
  | .ptr _ _, _ => by simp only [DV.v]
  | .vec _, _ => by simp only [DV.v]
  | .vptr _ _ i _, hs => by simp only [DV.vars] at hs; simp only [DV.v, Lin.ag h hs]
  | .pd row _ _, hs => by simp only [DV.vars] at hs; simp only [DV.v, row_ag h hs]
  | .pc l _, hs => by simp only [DV.vars] at hs; simp only [DV.v, lv_ag h hs]
  | .agg xs, hs => by simp only [DV.vars] at hs; simp only [DV.v, dvs_ag h hs]
  | .tup xs, hs => by simp only [DV.vars] at hs; simp only [DV.v, dvs_ag h hs]
  | .ref _, _ => by simp only [DV.v]
  | .fn f first caps, hs => by simp only [DV.vars, Sc.app] at hs; simp only [DV.v, dvs_ag h hs.1, dvs_ag h hs.2]
  | .ifc t x, hs => by simp only [DV.vars] at hs; simp only [DV.v, DV.ag h hs]
  | .rp k off, hs => by simp only [DV.vars, Sc.cons] at hs; simp only [DV.v, h k hs.1]
theorem dvs_ag {n : Nat} {ρ ρ' : Ro} (h : Agree n ρ ρ') : ∀ {f : List DV}, Sc n (dvsVars f) → dvs ρ' f = dvs ρ f
  | [], _ => by simp only [dvs]
  | x :: xs, hs => by simp only [dvsVars, Sc.app] at hs; simp only [dvs, DV.ag h hs.1, dvs_ag h hs.2]
end
theorem args_ag {n : Nat} {ρ ρ' : Ro} (h : Agree n ρ ρ') : ∀ {l : List Nat}, Sc n l → l.map ρ' = l.map ρ
  | [], _ => rfl
  | x :: xs, hs => by rw [Sc.cons] at hs; simp only [List.map_cons, h x hs.1, args_ag h hs.2]
theorem DO.ag {J : Ex} {n : Nat} {ρ ρ' : Ro} (h : Agree n ρ ρ') {f : DO} (hs : Sc n f.vars) : f.v J ρ' = f.v J ρ := by
  cases f <;> simp only [DO.vars] at hs <;> simp only [DO.v]
  · rw [dvs_ag h hs]
  · rw [lv_ag h hs]
  · rw [args_ag h hs]
theorem PF.ag {I : Pr} {n : Nat} {ρ ρ' : Ro} (h : Agree n ρ ρ') {f : PF} (hs : Sc n f.vars) : f.v I ρ' = f.v I ρ := by
  cases f <;> simp only [PF.vars, Sc.app, Sc.cons] at hs <;> simp only [PF.v]
  · rw [h _ hs.1, Lin.ag h hs.2.1, row_ag h hs.2.2]
  · rw [h _ hs.1, lv_ag h hs.2.1, lv_ag h hs.2.2]
  · rw [h _ hs.1, rows_ag h hs.2]
  · rw [h _ hs.1, h _ hs.2.1, Lin.ag h hs.2.2.1, Lin.ag h hs.2.2.2]
  · rw [h _ hs.1, h _ hs.2.1, Lin.ag h hs.2.2.1, row_ag h hs.2.2.2]
  · rw [BF.ag h hs]
  · rw [h _ hs.1, SE.ag h hs.2.1, SE.ag h hs.2.2]
  · rw [args_ag h hs]
theorem lk_slotsV (ρ : Ro) : ∀ (l : DSlots) (t : Nat), lk (slotsV ρ l) t = (lk l t).map (DV.v ρ)
  | [], _ => rfl
  | (k, x) :: r, t => by
    simp only [slotsV, lk]
    cases Nat.beq k t with
    | true => rfl
    | false => exact lk_slotsV ρ r t
theorem lk_tabV (J : Ex) (ρ : Ro) : ∀ (l : DTab) (t : Nat), lk (tabV J ρ l) t = (lk l t).map (DO.v J ρ)
  | [], _ => rfl
  | (k, x) :: r, t => by
    simp only [tabV, lk]
    cases Nat.beq k t with
    | true => rfl
    | false => exact lk_tabV J ρ r t
theorem rm_slotsV (ρ : Ro) : ∀ (l : DSlots) (t : Nat), rm (slotsV ρ l) t = slotsV ρ (rm l t)
  | [], _ => rfl
  | (k, x) :: r, t => by
    simp only [slotsV, rm]
    cases Nat.beq k t with
    | true => exact rm_slotsV ρ r t
    | false => simp only [slotsV, rm_slotsV ρ r t]
theorem rm_tabV (J : Ex) (ρ : Ro) : ∀ (l : DTab) (t : Nat), rm (tabV J ρ l) t = tabV J ρ (rm l t)
  | [], _ => rfl
  | (k, x) :: r, t => by
    simp only [tabV, rm]
    cases Nat.beq k t with
    | true => exact rm_tabV J ρ r t
    | false => simp only [tabV, rm_tabV J ρ r t]
theorem dvs_map (ρ : Ro) : ∀ l : List DV, dvs ρ l = l.map (DV.v ρ)
  | [] => by simp [dvs]
  | x :: xs => by simp [dvs, dvs_map ρ xs]
theorem rowV_map (ρ : Ro) : ∀ l : List DP, rowV ρ l = l.map (DP.v ρ)
  | [] => rfl
  | x :: xs => by simp [rowV, rowV_map ρ xs]
theorem rowsV_map (ρ : Ro) : ∀ l : List (List DP), rowsV ρ l = l.map (rowV ρ)
  | [] => rfl
  | x :: xs => by simp [rowsV, rowsV_map ρ xs]
end Go.TL
namespace Go.TL
def atomUb (a : Nat) : Option Int :=
  match a % 4 with
  | 0 => some 9223372036854775807
  | 1 => some 1099511627776
  | 2 => none
  | _ => some 1073741824
def atomLb (a : Nat) : Int :=
  match a % 4 with
  | 0 => -9223372036854775808
  | _ => 0
theorem mod4 (a : Nat) : a % 4 = 0 ∨ a % 4 = 1 ∨ a % 4 = 2 ∨ a % 4 = 3 := by omega
theorem atomUb_le {ρ : Ro} (h : Gok ρ) {a : Nat} {b : Int} (hb : atomUb a = some b) : atomV ρ a ≤ b := by
  unfold atomUb at hb
  unfold atomV
  have h1 := h.hi (a / 4)
  have h2 := h.ln (a / 4)
  have h3 := h.st (a / 4)
  unfold mostVar at h2
  unfold mostStr at h3
  rcases mod4 a with e | e | e | e <;> simp only [e] at hb ⊢ <;> simp only [Option.some.injEq, reduceCtorEq] at hb <;> omega
theorem atomLb_le {ρ : Ro} (h : Gok ρ) (a : Nat) : atomLb a ≤ atomV ρ a := by
  unfold atomLb atomV
  have h1 := h.lo (a / 4)
  rcases mod4 a with e | e | e | e <;> simp only [e] <;> omega
def isNeg : Int → Bool
  | .ofNat _ => false
  | .negSucc _ => true
theorem isNeg_lt {z : Int} (h : isNeg z = true) : z < 0 := by
  cases z with
  | ofNat n => simp [isNeg] at h
  | negSucc n => exact Int.negSucc_lt_zero n
theorem isNeg_ge {z : Int} (h : isNeg z = false) : 0 ≤ z := by
  cases z with
  | ofNat n => exact Int.natCast_nonneg n
  | negSucc n => simp [isNeg] at h
def ubS (acc : Int) : Sum → Option Int
  | [] => some acc
  | (a, c) :: r => match isNeg c with
    | true => ubS (acc + c * atomLb a) r
    | false => match atomUb a with
      | some b => ubS (acc + c * b) r
      | none => none
theorem ubS_le {ρ : Ro} (h : Gok ρ) : ∀ (x : Sum) (acc b : Int), ubS acc x = some b → acc + sumV ρ x ≤ b
  | [], acc, b, hb => by simp only [ubS, Option.some.injEq] at hb; simp only [sumV]; omega
  | (a, c) :: r, acc, b, hb => by
    simp only [ubS] at hb
    simp only [sumV]
    split at hb
    · rename_i hn
      have := ubS_le h r _ b hb
      have h1 := isNeg_lt hn
      have h2 : c * atomV ρ a ≤ c * atomLb a := Int.mul_le_mul_of_nonpos_left (by omega) (atomLb_le h a)
      omega
    · rename_i hn
      split at hb
      · rename_i b' hb'
        have := ubS_le h r _ b hb
        have h2 : c * atomV ρ a ≤ c * b' := Int.mul_le_mul_of_nonneg_left (atomUb_le h hb') (isNeg_ge hn)
        omega
      · cases hb
def ubOk (e : Lin) : Bool := match ubS e.c e.t with | some b => leZ b | none => false
theorem ubOk_le {ρ : Ro} (h : Gok ρ) {e : Lin} (hb : ubOk e = true) : e.v ρ ≤ 0 := by
  unfold ubOk at hb
  split at hb
  · rename_i b hu
    have := ubS_le h _ _ _ hu
    have := leZ_le hb
    unfold Lin.v; omega
  · cases hb
def coef (a : Nat) : Sum → Int
  | [] => 0
  | (a', c) :: r => match Nat.beq a a' with | true => c | false => coef a r
def ratio (c d : Int) : Option Int :=
  match isOne d, isMone d with
  | true, _ => match isNeg c, isZ c with | false, false => some c | _, _ => none
  | _, true => match isNeg c with | true => some (-c) | false => none
  | _, _ => match isZ (c - d) with | true => some 1 | false => none
def proveF (rec : Lin → Bool) (e : Lin) (a : Nat) (c : Int) : List Lin → Bool
  | [] => false
  | f :: gs => match isZ (coef a f.t) with
    | true => proveF rec e a c gs
    | false => match ratio c (coef a f.t) with
      | some k => match isNeg k with
        | true => proveF rec e a c gs
        | false => match rec (e.ax (-k) f) with
          | true => true
          | false => proveF rec e a c gs
      | none => proveF rec e a c gs
def proveA (rec : Lin → Bool) (fs : List Lin) (e : Lin) : Sum → Bool
  | [] => false
  | (a, c) :: r => match proveF rec e a c fs with
    | true => true
    | false => proveA rec fs e r
def lastA : Sum → Option (Nat × Int)
  | [] => none
  | (a, c) :: r => match lastA r with
    | some x => some x
    | none => match isNeg c with
      | false => some (a, c)
      | true => match a % 4 with
        | 0 => some (a, c)
        | _ => none
def ownB (e : Lin) (a : Nat) (c : Int) : Option Lin :=
  match isNeg c with
  | true => some ((e.ax (-c) (Lin.at a)).addc (c * atomLb a))
  | false => match atomUb a with
    | some b => some ((e.ax (-c) (Lin.at a)).addc (c * b))
    | none => none
theorem ownB_le {ρ : Ro} (h : Gok ρ) {e e' : Lin} {a : Nat} {c : Int} (he : ownB e a c = some e') : e.v ρ ≤ e'.v ρ := by
  unfold ownB at he
  split at he
  · rename_i hn
    simp only [Option.some.injEq] at he; subst he
    have h1 := isNeg_lt hn
    have h2 : c * atomV ρ a ≤ c * atomLb a := Int.mul_le_mul_of_nonpos_left (by omega) (atomLb_le h a)
    rw [Lin.addc_v, Lin.ax_v, Lin.at_v]
    have h3 : (-c) * atomV ρ a = -(c * atomV ρ a) := Int.neg_mul _ _
    omega
  · rename_i hn
    split at he
    · rename_i b hb
      simp only [Option.some.injEq] at he; subst he
      have h2 : c * atomV ρ a ≤ c * b := Int.mul_le_mul_of_nonneg_left (atomUb_le h hb) (isNeg_ge hn)
      rw [Lin.addc_v, Lin.ax_v, Lin.at_v]
      have h3 : (-c) * atomV ρ a = -(c * atomV ρ a) := Int.neg_mul _ _
      omega
    · cases he
def lenZ (e : Lin) (a : Nat) (c : Int) : Option Lin :=
  match a % 4, isNeg c with
  | 1, false => some ((e.ax (-c) (Lin.at a)).ax c (Lin.at (a + 1)))
  | 2, true => some ((e.ax (-c) (Lin.at a)).ax c (Lin.at (a - 1)))
  | _, _ => none
theorem lenZ_le {ρ : Ro} {e e' : Lin} {a : Nat} {c : Int} (he : lenZ e a c = some e') : e.v ρ ≤ e'.v ρ := by
  unfold lenZ at he
  split at he
  · rename_i hm hn
    simp only [Option.some.injEq] at he; subst he
    rw [Lin.ax_v, Lin.ax_v, Lin.at_v, Lin.at_v]
    have h1 : atomV ρ a = ((ρ (a / 4)).l.length : Int) := by unfold atomV; simp only [hm]
    have h2 : atomV ρ (a + 1) = (rsz (ρ (a / 4)).l : Int) := by
      unfold atomV
      have q1 : (a + 1) % 4 = 2 := by omega
      have q2 : (a + 1) / 4 = a / 4 := by omega
      simp only [q1, q2]
    have h3 := length_le_rsz (ρ (a / 4)).l
    have h4 : c * ((ρ (a / 4)).l.length : Int) ≤ c * (rsz (ρ (a / 4)).l : Int) := Int.mul_le_mul_of_nonneg_left (by omega) (isNeg_ge hn)
    rw [h1, h2, Int.neg_mul]; omega
  · rename_i hm hn
    simp only [Option.some.injEq] at he; subst he
    rw [Lin.ax_v, Lin.ax_v, Lin.at_v, Lin.at_v]
    have h1 : atomV ρ a = (rsz (ρ (a / 4)).l : Int) := by unfold atomV; simp only [hm]
    have h2 : atomV ρ (a - 1) = ((ρ (a / 4)).l.length : Int) := by
      unfold atomV
      have q1 : (a - 1) % 4 = 1 := by omega
      have q2 : (a - 1) / 4 = a / 4 := by omega
      simp only [q1, q2]
    have h3 := length_le_rsz (ρ (a / 4)).l
    have h5 := isNeg_lt hn
    have h4 : c * (rsz (ρ (a / 4)).l : Int) ≤ c * ((ρ (a / 4)).l.length : Int) := Int.mul_le_mul_of_nonpos_left (by omega) (by omega)
    rw [h1, h2, Int.neg_mul]; omega
  · cases he
def direct (e : Lin) : List Lin → Bool
  | [] => false
  | f :: r => match sumEq e.t f.t with
    | true => match leZ (e.c - f.c) with | true => true | false => direct e r
    | false => direct e r
theorem direct_le {ρ : Ro} {e : Lin} : ∀ {fs : List Lin}, (∀ f ∈ fs, f.v ρ ≤ 0) → direct e fs = true → e.v ρ ≤ 0
  | f :: r, hf, h => by
    simp only [direct] at h
    split at h
    · rename_i h1
      split at h
      · rename_i h2
        have h3 := hf f (List.mem_cons_self ..)
        have h4 := leZ_le h2
        unfold Lin.v at h3 ⊢
        rw [sumEq_eq h1]; omega
      · exact direct_le (fun x hx => hf x (List.mem_cons_of_mem _ hx)) h
    · exact direct_le (fun x hx => hf x (List.mem_cons_of_mem _ hx)) h
def downB (a : Nat) (t : Sum) : Bool :=
  match lastA t with
  | none => true
  | some (a', _) => Nat.ble (a' + 1) a
def proveG (rec : Nat → Lin → Bool × Nat) (up : Bool) (e : Lin) (a : Nat) (c : Int) : List Lin → Nat → Bool × Nat
  | [], b => (false, b)
  | f :: gs, b => match isZ (coef a f.t) with
    | true => proveG rec up e a c gs b
    | false => match ratio c (coef a f.t) with
      | some k => match isNeg k with
        | true => proveG rec up e a c gs b
        | false => match e.ax (-k) f with
          | e' => match downB a e'.t, up with
            | true, false => match rec b e' with
              | (true, b) => (true, b)
              | (false, b) => proveG rec up e a c gs b
            | false, true => match rec b e' with
              | (true, b) => (true, b)
              | (false, b) => proveG rec up e a c gs b
            | _, _ => proveG rec up e a c gs b
      | none => proveG rec up e a c gs b
def proveO (rec : Nat → Lin → Bool × Nat) : Option Lin → Nat → Bool × Nat
  | some e', b => match e'.t with | [] => (false, b) | _ => rec b e'
  | none, b => (false, b)
def proveL (fs : List Lin) : Nat → Nat → Nat → Lin → Bool × Nat
  | 0, _, b, e => (ubOk e, b)
  | _ + 1, _, 0, _ => (false, 0)
  | n + 1, u, b + 1, e => match (match ubOk e with | true => true | false => direct e fs) with
    | true => (true, b)
    | false => match lastA e.t with
      | none => (false, b)
      | some (a, c) => match proveG (proveL fs n u) false e a c fs b with
        | (true, b) => (true, b)
        | (false, b) => match proveO (proveL fs n u) (ownB e a c) b with
          | (true, b) => (true, b)
          | (false, b) => match proveO (proveL fs n u) (lenZ e a c) b with
            | (true, b) => (true, b)
            | (false, b) => match u with
              | 0 => (false, b)
              | u + 1 => proveG (proveL fs n u) true e a c fs b
def prove : Nat → List Lin → Lin → Bool
  | 0, _, e => ubOk e
  | n + 1, fs, e => match ubOk e with
    | true => true
    | false => proveA (prove n fs) fs e e.t
theorem proveG_le {ρ : Ro} {rec : Nat → Lin → Bool × Nat} (hr : ∀ b e, (rec b e).1 = true → e.v ρ ≤ 0) (up : Bool) (e : Lin) (a : Nat) (c : Int) : ∀ (gs : List Lin) (b : Nat), (∀ f ∈ gs, f.v ρ ≤ 0) → (proveG rec up e a c gs b).1 = true → e.v ρ ≤ 0
  | f :: gs, b, hg, hp => by
    have hg' : ∀ f ∈ gs, f.v ρ ≤ 0 := fun x hx => hg x (List.mem_cons_of_mem _ hx)
    have go : ∀ {b k}, isNeg k = false → (rec b (e.ax (-k) f)).1 = true → e.v ρ ≤ 0 := by
      intro b k hk hq
      have h1 := hr b _ hq
      rw [Lin.ax_v] at h1
      have h2 := hg f (List.mem_cons_self ..)
      have h3 : k * f.v ρ ≤ 0 := Int.mul_nonpos_of_nonneg_of_nonpos (isNeg_ge hk) h2
      have h4 : (-k) * f.v ρ = -(k * f.v ρ) := Int.neg_mul _ _
      omega
    simp only [proveG] at hp
    split at hp
    · exact proveG_le hr up e a c gs b hg' hp
    · split at hp
      · rename_i k _
        split at hp
        · exact proveG_le hr up e a c gs b hg' hp
        · rename_i hk
          split at hp
          · split at hp
            · rename_i b' hq; exact go hk (by rw [hq])
            · exact proveG_le hr _ e a c gs _ hg' hp
          · split at hp
            · rename_i b' hq; exact go hk (by rw [hq])
            · exact proveG_le hr _ e a c gs _ hg' hp
          · exact proveG_le hr _ e a c gs b hg' hp
      · exact proveG_le hr up e a c gs b hg' hp
  | [], b, _, hp => by simp [proveG] at hp
theorem proveO_le {ρ : Ro} {rec : Nat → Lin → Bool × Nat} (hr : ∀ b e, (rec b e).1 = true → e.v ρ ≤ 0) {e : Lin} {o : Option Lin} {b : Nat} (ho : ∀ e', o = some e' → e.v ρ ≤ e'.v ρ) (hp : (proveO rec o b).1 = true) : e.v ρ ≤ 0 := by
  unfold proveO at hp
  split at hp
  · rename_i e' 
    split at hp
    · cases hp
    · exact Int.le_trans (ho e' rfl) (hr _ _ hp)
  · cases hp
theorem proveL_le {ρ : Ro} (h : Gok ρ) (fs : List Lin) (hf : ∀ f ∈ fs, f.v ρ ≤ 0) : ∀ (n u b : Nat) (e : Lin), (proveL fs n u b e).1 = true → e.v ρ ≤ 0
  | 0, u, b, e, hp => by simp only [proveL] at hp; exact ubOk_le h hp
  | n + 1, u, 0, e, hp => by simp [proveL] at hp
  | n + 1, u, b + 1, e, hp => by
    have ih := proveL_le h fs hf n
    simp only [proveL] at hp
    split at hp
    · rename_i hu
      split at hu
      · rename_i hu'; exact ubOk_le h hu'
      · exact direct_le hf hu
    · split at hp
      · cases hp
      · rename_i a c hl
        split at hp
        · rename_i b1 hq; exact proveG_le (ih u) false e a c fs b hf (by rw [hq])
        · split at hp
          · rename_i b2 hq; exact proveO_le (ih u) (fun e' he => ownB_le h he) (by rw [hq])
          · split at hp
            · rename_i b3 hq; exact proveO_le (ih u) (fun e' he => lenZ_le he) (by rw [hq])
            · split at hp
              · cases hp
              · exact proveG_le (ih _) true e a c fs _ hf hp
def nthF : Nat → List Lin → Option Lin
  | _, [] => none
  | 0, f :: _ => some f
  | n + 1, _ :: r => nthF n r
theorem nthF_mem : ∀ {n : Nat} {l : List Lin} {f : Lin}, nthF n l = some f → f ∈ l
  | 0, x :: r, f, h => by simp only [nthF, Option.some.injEq] at h; subst h; exact List.mem_cons_self ..
  | n + 1, x :: r, f, h => by simp only [nthF] at h; exact List.mem_cons_of_mem _ (nthF_mem h)
def certK (fs : List Lin) : List (Nat × Int) → Lin → Option Lin
  | [], e => some e
  | (i, k) :: r, e => match isNeg k, nthF i fs with
    | false, some f => certK fs r (e.ax (-k) f)
    | _, _ => none
theorem certK_le {ρ : Ro} {fs : List Lin} (hf : ∀ f ∈ fs, f.v ρ ≤ 0) : ∀ {l : List (Nat × Int)} {e e' : Lin}, certK fs l e = some e' → e.v ρ ≤ e'.v ρ
  | [], e, e', h => by simp only [certK, Option.some.injEq] at h; subst h; exact Int.le_refl _
  | (i, k) :: r, e, e', h => by
    simp only [certK] at h
    split at h
    · rename_i f hk hn
      have h1 := certK_le hf h
      rw [Lin.ax_v, Int.neg_mul] at h1
      have h2 : k * f.v ρ ≤ 0 := Int.mul_nonpos_of_nonneg_of_nonpos (isNeg_ge hk) (hf f (nthF_mem hn))
      omega
    · cases h
def shortB (T : List (Nat × TypeId)) (l : Nat) : Bool := match lk T l with | some _ => true | none => false
theorem shortB_le {P : Program} {ρ : Ro} {T : List (Nat × TypeId)} (hT : tysV P ρ T) {l : Nat} (h : shortB T l = true) : (ρ l).l.length ≤ 2097152 := by
  unfold shortB at h
  split at h
  · rename_i e he; exact (tysV_lk hT he).1
  · cases h
def certZ (T : List (Nat × TypeId)) : List (Nat × Int) → Lin → Option Lin
  | [], e => some e
  | (a, k) :: r, e => match isNeg k, a % 4 with
    | false, 1 => certZ T r ((e.ax (-k) (Lin.at a)).ax k (Lin.at (a + 1)))
    | false, 0 => match shortB T (a / 4) with
      | true => certZ T r ((e.ax (-k) (Lin.at (a + 1))).addc (k * 2097152))
      | false => none
    | _, _ => none
theorem certZ_le {P : Program} {ρ : Ro} {T : List (Nat × TypeId)} (hT : tysV P ρ T) : ∀ {l : List (Nat × Int)} {e e' : Lin}, certZ T l e = some e' → e.v ρ ≤ e'.v ρ
  | [], e, e', h => by simp only [certZ, Option.some.injEq] at h; subst h; exact Int.le_refl _
  | (a, k) :: r, e, e', h => by
    simp only [certZ] at h
    split at h
    · rename_i hk hm
      have h0 := certZ_le hT (l := r) h
      have h5 : lenZ e a k = some ((e.ax (-k) (Lin.at a)).ax k (Lin.at (a + 1))) := by unfold lenZ; simp only [hm, hk]
      exact Int.le_trans (lenZ_le h5) h0
    · rename_i hk hm
      split at h
      · rename_i hs
        have h0 := certZ_le hT (l := r) h
        have h1 := shortB_le hT hs
        rw [Lin.addc_v, Lin.ax_v, Lin.at_v] at h0
        have h2 : atomV ρ (a + 1) = ((ρ (a / 4)).l.length : Int) := by
          unfold atomV
          have q1 : (a + 1) % 4 = 1 := by omega
          have q2 : (a + 1) / 4 = a / 4 := by omega
          simp only [q1, q2]
        rw [h2] at h0
        have h3 : k * ((ρ (a / 4)).l.length : Int) ≤ k * 2097152 := Int.mul_le_mul_of_nonneg_left (by omega) (isNeg_ge hk)
        rw [Int.neg_mul] at h0
        omega
      · cases h
    · cases h
def certOk (T : List (Nat × TypeId)) (fs : List Lin) (c : Cert) : Bool :=
  match Nat.ble 1 c.m, certK fs c.ks (Lin.scale c.m c.g) with
  | true, some e => match certZ T c.zs e with
    | some e => ubOk e
    | none => false
  | _, _ => false
theorem certOk_le {P : Program} {ρ : Ro} {T : List (Nat × TypeId)} (hT : tysV P ρ T) (h : Gok ρ) {fs : List Lin} (hf : ∀ f ∈ fs, f.v ρ ≤ 0) {c : Cert} (hc : certOk T fs c = true) : c.g.v ρ ≤ 0 := by
  unfold certOk at hc
  split at hc
  · rename_i e1 hm h1
    split at hc
    · rename_i e2 h2
      have a1 := certK_le hf h1
      have a2 := certZ_le hT h2
      have a3 := ubOk_le h hc
      rw [Lin.scale_v] at a1
      have hm' := Nat.le_of_ble_eq_true hm
      have a4 : (c.m : Int) * c.g.v ρ ≤ 0 := by omega
      by_cases hp : c.g.v ρ ≤ 0
      · exact hp
      · have : 0 < (c.m : Int) * c.g.v ρ := Int.mul_pos (by omega) (by omega)
        omega
    · cases hc
  · cases hc
def certAny (T : List (Nat × TypeId)) (fs : List Lin) (e : Lin) : List Cert → Bool
  | [] => false
  | c :: r => match e.beq c.g with
    | true => match certOk T fs c with
      | true => true
      | false => certAny T fs e r
    | false => certAny T fs e r
theorem certAny_le {P : Program} {ρ : Ro} {T : List (Nat × TypeId)} (hT : tysV P ρ T) (h : Gok ρ) {fs : List Lin} (hf : ∀ f ∈ fs, f.v ρ ≤ 0) {e : Lin} : ∀ {l : List Cert}, certAny T fs e l = true → e.v ρ ≤ 0
  | c :: r, hc => by
    simp only [certAny] at hc
    split at hc
    · rename_i hb
      split at hc
      · rename_i ho; rw [Lin.beq_eq hb]; exact certOk_le hT h hf ho
      · exact certAny_le hT h hf hc
    · exact certAny_le hT h hf hc
end Go.TL
namespace Go.TL
def dval : Value → DP
  | .int k n => .int k (Lin.lit n)
  | .bool b => .bl (.lit b)
  | .string s => .st (.lit s.data.toList)
  | .slice none 0 0 => .nl
  | v => .cst v
theorem dval_v (ρ : Ro) (v : Value) : (dval v).v ρ = .v v := by
  unfold dval
  split <;> simp [DP.v, Lin.lit_v, BF.v, SE.v]
theorem dval_vars (v : Value) : (dval v).vars = [] := by
  unfold dval
  split <;> simp [DP.vars, Lin.lit, Lin.vars, sumVars, BF.vars, SE.vars]
def DSt.get (σ : DSt) (t : Nat) : DV := match lk σ.slots t with | some x => x | none => .u
def DSt.put (σ : DSt) (dst : Option Nat) (x : DV) : DSt :=
  match dst with
  | some d => { σ with slots := (d, x) :: σ.slots }
  | none => σ
def dev (σ : DSt) : Operand → DV
  | .tmp t => σ.get t
  | .const v => match v.oneCell' with | true => .p (dval v) true | false => .u
  | .func f => .fn (.func f) [] []
  | .global _ => .u
def devs (σ : DSt) : List Operand → List DV
  | [] => []
  | x :: xs => dev σ x :: devs σ xs
theorem dget_v {J : Ex} (ρ : Ro) (σ : DSt) (t : Nat) : (σ.v J ρ).get t = (σ.get t).v ρ := by
  unfold St.get DSt.get DSt.v
  simp only [lk_slotsV]
  cases lk σ.slots t <;> simp [DV.v]
theorem dev_v {J : Ex} (ρ : Ro) (σ : DSt) (x : Operand) : ev (σ.v J ρ) x = (dev σ x).v ρ := by
  cases x with
  | tmp t => exact dget_v ρ σ t
  | const v => simp only [ev, dev]; cases v.oneCell' <;> simp [DV.v, dval_v]
  | func f => simp [ev, dev, DV.v, dvs]
  | global g => simp [ev, dev, DV.v]
theorem devs_v {J : Ex} (ρ : Ro) (σ : DSt) : ∀ xs : List Operand, evs (σ.v J ρ) xs = dvs ρ (devs σ xs)
  | [] => by simp [evs, devs, dvs]
  | x :: xs => by simp [evs, devs, dvs, dev_v, devs_v ρ σ xs]
theorem dput_v {J : Ex} (ρ : Ro) (σ : DSt) (dst : Option Nat) (x : DV) : (σ.put dst x).v J ρ = (σ.v J ρ).put dst (x.v ρ) := by
  cases dst <;> rfl
theorem DSt.sc.get {σ : DSt} (h : σ.sc) (t : Nat) : Sc σ.nx (σ.get t).vars := by
  unfold DSt.get
  cases hl : lk σ.slots t with
  | some x => exact h.slots t x hl
  | none => exact Sc.nil
theorem DSt.sc.dev {σ : DSt} (h : σ.sc) (x : Operand) : Sc σ.nx (dev σ x).vars := by
  cases x with
  | tmp t => exact h.get t
  | const v => simp only [Go.TL.dev]; cases v.oneCell' <;> simp [DV.vars, dval_vars, Sc.nil]
  | func f => simp [Go.TL.dev, DV.vars, dvsVars, Sc.nil]
  | global g => simp [Go.TL.dev, DV.vars, Sc.nil]
theorem DSt.sc.devs {σ : DSt} (h : σ.sc) : ∀ xs : List Operand, Sc σ.nx (dvsVars (devs σ xs))
  | [] => by simp [Go.TL.devs, dvsVars, Sc.nil]
  | x :: xs => by simp only [Go.TL.devs, dvsVars, Sc.app]; exact ⟨h.dev x, h.devs xs⟩
theorem DSt.sc.put {σ : DSt} (h : σ.sc) (dst : Option Nat) {x : DV} (hx : Sc σ.nx x.vars) : (σ.put dst x).sc := by
  cases dst with
  | none => exact h
  | some d =>
    refine ⟨?_, h.tab, h.tys, h.lin, h.prs⟩
    intro t v hl
    simp only [DSt.put, lk] at hl
    cases hb : Nat.beq d t with
    | true => simp only [hb, Option.some.injEq] at hl; subst hl; exact hx
    | false => simp only [hb] at hl; exact h.slots t v hl
theorem dput_nx (σ : DSt) (dst : Option Nat) (x : DV) : (σ.put dst x).nx = σ.nx := by cases dst <;> rfl
theorem DSt.ok.put {P : Program} {I : Pr} {σ : DSt} {ρ : Ro} (h : σ.ok P I ρ) (dst : Option Nat) (x : DV) : (σ.put dst x).ok P I ρ := by
  cases dst with
  | none => exact h
  | some d => exact ⟨h.g, h.tys, h.lin, h.prs⟩
theorem lins_ag {n : Nat} {ρ ρ' : Ro} (h : Agree n ρ ρ') : ∀ {l : List Lin}, (∀ e ∈ l, Sc n e.vars) → (linsV ρ' l ↔ linsV ρ l)
  | [], _ => Iff.rfl
  | e :: r, hs => by simp only [linsV, Lin.ag h (hs e (List.mem_cons_self ..)), lins_ag h fun x hx => hs x (List.mem_cons_of_mem _ hx)]
theorem prs_ag {I : Pr} {n : Nat} {ρ ρ' : Ro} (h : Agree n ρ ρ') : ∀ {l : List PF}, (∀ e ∈ l, Sc n e.vars) → (prsV I ρ' l ↔ prsV I ρ l)
  | [], _ => Iff.rfl
  | e :: r, hs => by simp only [prsV, PF.ag h (hs e (List.mem_cons_self ..)), prs_ag h fun x hx => hs x (List.mem_cons_of_mem _ hx)]
theorem tys_ag {P : Program} {n : Nat} {ρ ρ' : Ro} (h : Agree n ρ ρ') : ∀ {l : List (Nat × TypeId)}, (∀ k e, (k, e) ∈ l → k < n) → (tysV P ρ' l ↔ tysV P ρ l)
  | [], _ => Iff.rfl
  | (k, e) :: r, hs => by simp only [tysV, h k (hs k e (List.mem_cons_self ..)), tys_ag h fun k' e' hx => hs k' e' (List.mem_cons_of_mem _ hx)]
theorem DSt.ok.ag {P : Program} {I : Pr} {σ : DSt} {ρ ρ' : Ro} (h : σ.ok P I ρ) (hs : σ.sc) (ha : Agree σ.nx ρ ρ') (hg : Gok ρ') : σ.ok P I ρ' :=
  ⟨hg, (tys_ag ha hs.tys).2 h.tys, (lins_ag ha hs.lin).2 h.lin, (prs_ag ha hs.prs).2 h.prs⟩
theorem lk_v_ag {σ : DSt} {ρ ρ' : Ro} (hs : σ.sc) (ha : Agree σ.nx ρ ρ') (t : Nat) : (lk σ.slots t).map (DV.v ρ') = (lk σ.slots t).map (DV.v ρ) := by
  cases hl : lk σ.slots t with
  | none => rfl
  | some x => simp only [Option.map_some, DV.ag ha (hs.slots t x hl)]
theorem lkt_v_ag {J : Ex} {σ : DSt} {ρ ρ' : Ro} (hs : σ.sc) (ha : Agree σ.nx ρ ρ') (t : Nat) : (lk σ.tab t).map (DO.v J ρ') = (lk σ.tab t).map (DO.v J ρ) := by
  cases hl : lk σ.tab t with
  | none => rfl
  | some x => simp only [Option.map_some, DO.ag ha (hs.tab t x hl)]
structure Same (σ σ' : St) : Prop where
  slots : ∀ t, lk σ.slots t = lk σ'.slots t
  tab : ∀ t, lk σ.tab t = lk σ'.tab t
theorem Same.refl (σ : St) : Same σ σ := ⟨fun _ => rfl, fun _ => rfl⟩
theorem Same.symm {σ σ' : St} (h : Same σ σ') : Same σ' σ := ⟨fun t => (h.slots t).symm, fun t => (h.tab t).symm⟩
theorem Same.put {σ σ' : St} (h : Same σ σ') (dst : Option Nat) (x : SV) : Same (σ.put dst x) (σ'.put dst x) := by
  cases dst with
  | none => exact h
  | some d =>
    refine ⟨fun t => ?_, h.tab⟩
    simp only [St.put, lk]
    rw [h.slots t]
theorem Same.holds {C : Ctx} {σ σ' : St} {a : Act} {w : World} (h : Same σ σ') (hh : Holds C σ a w) : Holds C σ' a w := by
  obtain ⟨E, e⟩ := hh
  refine ⟨E, e.size, e.defers, fun t sv hl => e.slots t sv ((h.slots t).trans hl), ⟨fun k ov hl => e.tab.obj k ov ((h.tab k).trans hl), fun k hk => e.tab.dead k ((h.tab k).trans hk), ?_, e.tab.ext⟩, e.fr, e.lo, e.ids, e.pres⟩
  intro b k hb
  obtain ⟨h1, h2, h3⟩ := e.tab.own b k hb
  exact ⟨h1, h2, fun h0 => h3 ((h.tab k).trans h0)⟩
theorem DSt.same_ag {J : Ex} {σ : DSt} {ρ ρ' : Ro} (hs : σ.sc) (ha : Agree σ.nx ρ ρ') : Same (σ.v J ρ) (σ.v J ρ') :=
  ⟨fun t => by simp only [DSt.v, lk_slotsV, lk_v_ag hs ha], fun t => by simp only [DSt.v, lk_tabV, lkt_v_ag hs ha]⟩
inductive G where
  | le (e : Lin)
  | pf (f : PF)
def G.v (I : Pr) (ρ : Ro) : G → Prop
  | .le e => e.v ρ ≤ 0
  | .pf f => f.v I ρ
def gsV (I : Pr) (ρ : Ro) : List G → Prop
  | [] => True
  | g :: r => g.v I ρ ∧ gsV I ρ r
theorem gsV_app {I : Pr} {ρ : Ro} : ∀ {a b : List G}, gsV I ρ (a ++ b) ↔ gsV I ρ a ∧ gsV I ρ b
  | [], b => by simp [gsV]
  | x :: a, b => by simp [gsV, gsV_app (a := a), and_assoc]
abbrev DR := Option (DSt × List G)
def Good (P : Program) (I : Pr) (J : Ex) (σ : DSt) (o : Oper) (σ' : DSt) (gs : List G) : Prop :=
  σ.sc → σ'.sc ∧ σ.nx ≤ σ'.nx ∧ ∀ ρ, σ.ok P I ρ → gsV I ρ gs → ∃ ρ', Agree σ.nx ρ ρ' ∧ σ'.ok P I ρ' ∧
    ∃ (H : Hint) (s : St) (ps : List Prop), aop P H (σ.v J ρ) o = some (s, ps) ∧ allP ps ∧ Same s (σ'.v J ρ')
theorem good_put {P : Program} {I : Pr} {J : Ex} {σ : DSt} {o : Oper} {x : DV} {gs : List G} (hx : σ.sc → Sc σ.nx x.vars)
    (h : ∀ ρ, σ.sc → σ.ok P I ρ → gsV I ρ gs → ∃ (H : Hint) (ps : List Prop), aop P H (σ.v J ρ) o = some ((σ.v J ρ).put o.dst (x.v ρ), ps) ∧ allP ps) : Good P I J σ o (σ.put o.dst x) gs := by
  intro hs
  refine ⟨hs.put o.dst (hx hs), by rw [dput_nx]; exact Nat.le_refl _, ?_⟩
  intro ρ hok hg
  obtain ⟨H, ps, h1, h2⟩ := h ρ hs hok hg
  exact ⟨ρ, Agree.refl _ _, hok.put _ _, H, _, ps, h1, h2, by rw [dput_v]; exact Same.refl _⟩
def DSt.grow (σ : DSt) (n : Nat) (tys : List (Nat × TypeId)) (lin : List Lin) (prs : List PF) : DSt :=
  { σ with nx := σ.nx + n, tys := tys ++ σ.tys, lin := lin ++ σ.lin, prs := prs ++ σ.prs }
structure GrowSc (m : Nat) (tys : List (Nat × TypeId)) (lin : List Lin) (prs : List PF) : Prop where
  tys : ∀ k e, (k, e) ∈ tys → k < m
  lin : ∀ e ∈ lin, Sc m e.vars
  prs : ∀ f ∈ prs, Sc m f.vars
theorem DSt.sc.grow {σ : DSt} (h : σ.sc) {n : Nat} {tys : List (Nat × TypeId)} {lin : List Lin} {prs : List PF} (hg : GrowSc (σ.nx + n) tys lin prs) : (σ.grow n tys lin prs).sc := by
  have hl : σ.nx ≤ σ.nx + n := Nat.le_add_right _ _
  refine ⟨fun t v ht => (h.slots t v ht).mono hl, fun t v ht => (h.tab t v ht).mono hl, ?_, ?_, ?_⟩
  · intro k e hk
    rcases List.mem_append.1 hk with hk | hk
    · exact hg.tys k e hk
    · exact Nat.lt_of_lt_of_le (h.tys k e hk) hl
  · intro e he
    rcases List.mem_append.1 he with he | he
    · exact hg.lin e he
    · exact (h.lin e he).mono hl
  · intro e he
    rcases List.mem_append.1 he with he | he
    · exact hg.prs e he
    · exact (h.prs e he).mono hl
theorem tysV_append {P : Program} {ρ : Ro} : ∀ {a b : List (Nat × TypeId)}, tysV P ρ (a ++ b) ↔ tysV P ρ a ∧ tysV P ρ b
  | [], b => by simp [tysV]
  | (k, e) :: a, b => by simp [tysV, tysV_append (a := a), and_assoc]
theorem linsV_app {ρ : Ro} : ∀ {a b : List Lin}, linsV ρ (a ++ b) ↔ linsV ρ a ∧ linsV ρ b
  | [], b => by simp [linsV]
  | e :: a, b => by simp [linsV, linsV_app (a := a), and_assoc]
theorem prsV_app {I : Pr} {ρ : Ro} : ∀ {a b : List PF}, prsV I ρ (a ++ b) ↔ prsV I ρ a ∧ prsV I ρ b
  | [], b => by simp [prsV]
  | e :: a, b => by simp [prsV, prsV_app (a := a), and_assoc]
theorem DSt.ok.grow {P : Program} {I : Pr} {σ : DSt} {ρ ρ' : Ro} (h : σ.ok P I ρ) (hs : σ.sc) (ha : Agree σ.nx ρ ρ') (hg : Gok ρ') {n : Nat} {tys : List (Nat × TypeId)} {lin : List Lin} {prs : List PF}
    (h1 : tysV P ρ' tys) (h2 : linsV ρ' lin) (h3 : prsV I ρ' prs) : (σ.grow n tys lin prs).ok P I ρ' := by
  have := h.ag hs ha hg
  exact ⟨hg, tysV_append.2 ⟨h1, this.tys⟩, linsV_app.2 ⟨h2, this.lin⟩, prsV_app.2 ⟨h3, this.prs⟩⟩
theorem good_new {P : Program} {I : Pr} {J : Ex} {σ : DSt} {o : Oper} {x : DV} {gs : List G} {n : Nat} {tys : List (Nat × TypeId)} {lin : List Lin} {prs : List PF}
    (hx : σ.sc → Sc (σ.nx + n) x.vars) (hg : σ.sc → GrowSc (σ.nx + n) tys lin prs)
    (h : ∀ ρ, σ.sc → σ.ok P I ρ → gsV I ρ gs → ∃ ρ', Agree σ.nx ρ ρ' ∧ Gok ρ' ∧ tysV P ρ' tys ∧ linsV ρ' lin ∧ prsV I ρ' prs ∧
      ∃ (H : Hint) (ps : List Prop), aop P H (σ.v J ρ) o = some ((σ.v J ρ).put o.dst (x.v ρ'), ps) ∧ allP ps) : Good P I J σ o ((σ.grow n tys lin prs).put o.dst x) gs := by
  intro hs
  have hs' := hs.grow (hg hs)
  refine ⟨hs'.put o.dst (hx hs), by rw [dput_nx]; exact Nat.le_add_right _ _, ?_⟩
  intro ρ hok hgs
  obtain ⟨ρ', ha, hgk, h1, h2, h3, H, ps, h4, h5⟩ := h ρ hs hok hgs
  refine ⟨ρ', ha, (hok.grow hs ha hgk h1 h2 h3).put _ _, H, _, ps, h4, h5, ?_⟩
  rw [dput_v]
  exact Same.put (DSt.same_ag hs ha) _ _
def up (ρ : Ro) (k : Nat) (x : Va) : Ro := fun j => if j = k then x else ρ j
theorem up_same (ρ : Ro) (k : Nat) (x : Va) : up ρ k x k = x := by simp [up]
theorem up_ne (ρ : Ro) {k j : Nat} (x : Va) (h : j ≠ k) : up ρ k x j = ρ j := by simp [up, h]
theorem up_ag (ρ : Ro) (k n : Nat) (x : Va) (h : n ≤ k) : Agree n ρ (up ρ k x) := fun j hj => up_ne ρ x (by omega)
structure VaOk (x : Va) : Prop where
  lo : -9223372036854775808 ≤ x.n
  hi : x.n ≤ 9223372036854775807
  st : x.s.size ≤ mostStr
  ln : x.l.length ≤ mostVar
  on : x.x.oneCell' = true
theorem Gok.up {ρ : Ro} (h : Gok ρ) (k : Nat) {x : Va} (hx : VaOk x) : Gok (up ρ k x) := by
  constructor <;> intro j <;> by_cases e : j = k <;> simp only [Go.TL.up, e, if_true, if_false]
  · exact hx.lo
  · exact h.lo j
  · exact hx.hi
  · exact h.hi j
  · exact hx.st
  · exact h.st j
  · exact hx.ln
  · exact h.ln j
  · exact hx.on
  · exact h.on j
def vaN (n : Int) : Va := { (default : Va) with n }
def vaB (b : Bool) : Va := { (default : Va) with b }
def vaS (s : ByteArray) : Va := { (default : Va) with s }
def vaL (l : List (List PV)) : Va := { (default : Va) with l }
theorem vaN_ok {n : Int} (h1 : -9223372036854775808 ≤ n) (h2 : n ≤ 9223372036854775807) : VaOk (vaN n) := ⟨h1, h2, Nat.zero_le _, Nat.zero_le _, rfl⟩
theorem vaB_ok (b : Bool) : VaOk (vaB b) := ⟨by show (-9223372036854775808 : Int) ≤ 0; decide, by show (0 : Int) ≤ 9223372036854775807; decide, Nat.zero_le _, Nat.zero_le _, rfl⟩
theorem vaS_ok {s : ByteArray} (h : s.size ≤ mostStr) : VaOk (vaS s) := ⟨by show (-9223372036854775808 : Int) ≤ 0; decide, by show (0 : Int) ≤ 9223372036854775807; decide, h, Nat.zero_le _, rfl⟩
theorem vaV_ok {l : List (List PV)} (h : l.length ≤ mostVar) : VaOk (vaL l) := ⟨by show (-9223372036854775808 : Int) ≤ 0; decide, by show (0 : Int) ≤ 9223372036854775807; decide, Nat.zero_le _, h, rfl⟩
theorem most_var {n : Nat} (h : n ≤ mostLen) : n ≤ mostVar := Nat.le_trans h (by decide)
theorem vaL_ok {l : List (List PV)} (h : l.length ≤ mostLen) : VaOk (vaL l) := vaV_ok (most_var h)
end Go.TL
