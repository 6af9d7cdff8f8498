/- Rows of new variables; rows that are of a type. -/
import Derived.Test.YtajkchpnbnbmfaaGreatDoorW12
namespace Go.TL
structure ij where
 cells : List DP
 nx : Nat
 tys : List (Nat × TypeId)
 lin : List Lin
 rz : Lin
def O8 : IntKind → Bool
 | .i64 => true
 | _ => false
def kP : IntKind → Bool
 | .u64 => true
 | _ => false
def eM : List CK → Nat → Option ij
 | [],n => some ⟨[],n,[],[],Lin.lit 0⟩
 | ck :: r,n => match eM r (n + 1) with
  | none => none
  | some R => match ck with
   | .int k => match kP k with
    | true => none
    | false => some ⟨.int k (Lin.at (4 * n)) :: R.cells,R.nx,R.tys,(match O8 k with | true => R.lin | false => (Lin.at (4 * n)).aD (-k.max) :: (Lin.scale (-1) (Lin.at (4 * n))).aD k.min :: R.lin),R.rz.aD 1⟩
   | .bool => some ⟨.bl (.var n) :: R.cells,R.nx,R.tys,R.lin,R.rz.aD 1⟩
   | .str => some ⟨.st (.var n) :: R.cells,R.nx,R.tys,R.lin,(R.rz.ax 1 (Lin.at (4 * n + 3))).aD 1⟩
   | .sst => some ⟨.st (.var n) :: R.cells,R.nx,R.tys,(Lin.at (4 * n + 3)).aD (-64) :: R.lin,(R.rz.ax 1 (Lin.at (4 * n + 3))).aD 1⟩
   | .sl e => some ⟨.sl (some n) :: R.cells,R.nx,(n,e) :: R.tys,R.lin,(R.rz.ax 1 (Lin.at (4 * n + 2))).aD 1⟩
   | .any => some ⟨.un :: R.cells,R.nx,R.tys,R.lin,R.rz.aD 1⟩
   | .other => none
theorem Ef {k : IntKind} : (-9223372036854775808 : Int) ≤ k.min := by cases k <;> decide
theorem Eg {k : IntKind} (h : kP k = false) : k.max ≤ (9223372036854775807 : Int) := by cases k <;> first | decide | simp [kP] at h
theorem zb {n a : Nat} {c : Int} (ha : a / 4 < n) : ∀ {x : Sum},Sc n (cB x) → Sc n (cB (rE a c x))
 | [],_ => by
  simp only [rE]; split
  ·exact Sc.nil
  ·simp only [cB,Sc.cons]; exact ⟨ha,Sc.nil⟩
 | (a',c') :: r,h => by
  simp only [cB,Sc.cons] at h
  simp only [rE]
  split
  ·split
   ·exact h.2
   ·simp only [cB,Sc.cons]; exact ⟨ha,h.2⟩
  ·split
   ·split
    ·simp only [cB,Sc.cons]; exact h
    ·simp only [cB,Sc.cons]; exact ⟨ha,h⟩
   ·simp only [cB,Sc.cons]; exact ⟨h.1,zb ha h.2⟩
theorem zd {n : Nat} {k : Int} : ∀ {x y : Sum},Sc n (cB x) → Sc n (cB y) → Sc n (cB (uD k x y))
 | [],_,_,hy => hy
 | (a,c) :: r,y,hx,hy => by
  simp only [cB,Sc.cons] at hx
  simp only [uD]
  exact zd hx.2 (zb hx.1 hy)
theorem Lin.aw {n : Nat} {x y : Lin} {k : Int} (hx : Sc n x.vars) (hy : Sc n y.vars) : Sc n (x.ax k y).vars := zd hy hx
theorem Lin.HZ {n : Nat} {x y : Lin} (hx : Sc n x.vars) (hy : Sc n y.vars) : Sc n (x.add y).vars := Lin.aw hx hy
theorem Lin.cI {n : Nat} {z : Int} : Sc n (Lin.lit z).vars := Sc.nil
theorem Lin.cL {n : Nat} {x : Lin} {k : Int} (hx : Sc n x.vars) : Sc n (Lin.scale k x).vars := Lin.aw Sc.nil hx
theorem Lin.aX {n : Nat} {x : Lin} {k : Int} (hx : Sc n x.vars) : Sc n (x.aD k).vars := hx
theorem Lin.aS {n a : Nat} (h : a / 4 < n) : Sc n (Lin.at a).vars := by
 simp only [Lin.at,Lin.vars,cB,Sc.cons]; exact ⟨h,Sc.nil⟩
theorem gI (ρ : Ro) (k : Nat) : aN ρ (4 * k) = (ρ k).n := by
 unfold aN
 have h1 : 4 * k % 4 = 0 := by omega
 have h2 : 4 * k / 4 = k := by omega
 simp only [h1,h2]
theorem cJ (ρ : Ro) (k : Nat) : aN ρ (4 * k + 1) = ((ρ k).l.length : Int) := by
 unfold aN
 have h1 : (4 * k + 1) % 4 = 1 := by omega
 have h2 : (4 * k + 1) / 4 = k := by omega
 simp only [h1,h2]
theorem c9 (ρ : Ro) (k : Nat) : aN ρ (4 * k + 2) = (rsz (ρ k).l : Int) := by
 unfold aN
 have h1 : (4 * k + 2) % 4 = 2 := by omega
 have h2 : (4 * k + 2) / 4 = k := by omega
 simp only [h1,h2]
theorem gJ (ρ : Ro) (k : Nat) : aN ρ (4 * k + 3) = ((ρ k).s.size : Int) := by
 unfold aN
 have h1 : (4 * k + 3) % 4 = 3 := by omega
 have h2 : (4 * k + 3) / 4 = k := by omega
 simp only [h1,h2]
structure Mn (P : Program) (n : Nat) (row : List PV) (R : ij) (ρ ρ' : Ro) : Prop where
 ag : ao n ρ ρ'
 g : Gok ρ'
 cells : ak ρ' R.cells = row
 tys : cb P ρ' R.tys
 lin : aR ρ' R.lin
 rz : R.rz.v ρ' = (Go.TL.rz row : Int)
structure Af (n : Nat) (R : ij) : Prop where
 le : n ≤ R.nx
 cells : Sc R.nx (bf R.cells)
 tys : ∀ k e,(k,e) ∈ R.tys → k < R.nx
 lin : ∀ e ∈ R.lin,Sc R.nx e.vars
 rz : Sc R.nx R.rz.vars
theorem lp : ∀ (cs : List CK) (n : Nat) (R : ij),eM cs n = some R → Af n R
 | [],n,R,h => by
  simp only [eM,Option.some.injEq] at h; subst h
  exact ⟨Nat.le_refl _,Sc.nil,by simp,by simp,Lin.cI⟩
 | ck :: r,n,R,h => by
  simp only [eM] at h
  split at h
  ·cases h
  ·rename_i R1 h1
   have ih := lp r (n + 1) R1 h1
   have hn : n < R1.nx := ih.le
   have a0 : 4 * n / 4 < R1.nx := by omega
   have a2 : (4 * n + 2) / 4 < R1.nx := by omega
   have a3 : (4 * n + 3) / 4 < R1.nx := by omega
   split at h
   ·rename_i k
    split at h
    ·cases h
    ·simp only [Option.some.injEq] at h; subst h
     refine ⟨Nat.le_of_lt hn,?_,ih.tys,?_,Lin.aX ih.rz⟩
     ·simp only [bf,DP.vars,Sc.app]; exact ⟨Lin.aS a0,ih.cells⟩
     ·simp only
      split
      ·exact ih.lin
      ·intro e he
       simp only [List.mem_cons] at he
       rcases he with rfl | rfl | he
       ·exact Lin.aX (Lin.aS a0)
       ·exact Lin.aX (Lin.cL (Lin.aS a0))
       ·exact ih.lin e he
   ·simp only [Option.some.injEq] at h; subst h
    refine ⟨Nat.le_of_lt hn,?_,ih.tys,ih.lin,Lin.aX ih.rz⟩
    simp only [bf,DP.vars,BF.vars,Sc.app,Sc.cons]; exact ⟨⟨hn,Sc.nil⟩,ih.cells⟩
   ·simp only [Option.some.injEq] at h; subst h
    refine ⟨Nat.le_of_lt hn,?_,ih.tys,ih.lin,Lin.aX (Lin.aw ih.rz (Lin.aS a3))⟩
    simp only [bf,DP.vars,SE.vars,Sc.app,Sc.cons]; exact ⟨⟨hn,Sc.nil⟩,ih.cells⟩
   ·simp only [Option.some.injEq] at h; subst h
    refine ⟨Nat.le_of_lt hn,?_,ih.tys,?_,Lin.aX (Lin.aw ih.rz (Lin.aS a3))⟩
    ·simp only [bf,DP.vars,SE.vars,Sc.app,Sc.cons]; exact ⟨⟨hn,Sc.nil⟩,ih.cells⟩
    ·intro e he
     rcases List.mem_cons.1 he with rfl | he
     ·exact Lin.aX (Lin.aS a3)
     ·exact ih.lin e he
   ·simp only [Option.some.injEq] at h; subst h
    refine ⟨Nat.le_of_lt hn,?_,?_,ih.lin,Lin.aX (Lin.aw ih.rz (Lin.aS a2))⟩
    ·simp only [bf,DP.vars,aL,Sc.app,Sc.cons]; exact ⟨⟨hn,Sc.nil⟩,ih.cells⟩
    ·intro k e hk
     simp only [List.mem_cons,Prod.mk.injEq] at hk
     rcases hk with ⟨rfl,_⟩ | hk
     ·exact hn
     ·exact ih.tys k e hk
   ·simp only [Option.some.injEq] at h; subst h
    exact ⟨Nat.le_of_lt hn,by simpa only [bf,DP.vars,List.nil_append] using ih.cells,ih.tys,ih.lin,Lin.aX ih.rz⟩
   ·cases h
theorem nX {P : Program} : ∀ (cs : List CK) (n : Nat) (R : ij) (row : List PV) (ρ : Ro),eM cs n = some R → WTs P cs row → Gok ρ → ∃ ρ',Mn P n row R ρ ρ'
 | [],n,R,row,ρ,h,hw,hg => by
  simp only [eM,Option.some.injEq] at h; subst h
  have := lh hw; subst this
  exact ⟨ρ,ao.refl _ _,hg,rfl,trivial,trivial,by simp [Lin.bI,Go.TL.rz]⟩
 | ck :: r,n,R,row,ρ,h,hw,hg => by
  simp only [eM] at h
  split at h
  ·cases h
  ·rename_i R1 h1
   obtain ⟨x,xs,rfl,hx,hxs⟩ := fP hw
   have step : ∀ va : Va,ig va → ∃ ρ',Mn P (n + 1) xs R1 (up ρ n va) ρ' ∧ ρ' n = va ∧ ao n ρ ρ' := by
    intro va hva
    obtain ⟨ρ',hr⟩ := nX r (n + 1) R1 xs (up ρ n va) h1 hxs (hg.up n hva)
    exact ⟨ρ',hr,by rw [hr.ag n (Nat.lt_succ_self n),aI],(bR ρ n n va (Nat.le_refl _)).trans hr.ag (Nat.le_succ n)⟩
   split at h
   ·rename_i k
    split at h
    ·cases h
    ·rename_i hk
     simp only [Option.some.injEq] at h; subst h
     obtain ⟨z,rfl,hz1,hz2⟩ := HA hx
     obtain ⟨ρ',hr,he,ha⟩ := step (vaN z) (rJ (Int.le_trans Ef hz1) (Int.le_trans hz2 (Eg hk)))
     have hn : (ρ' n).n = z := by rw [he]; rfl
     refine ⟨ρ',ha,hr.g,?_,hr.tys,?_,?_⟩
     ·simp only [ak,DP.v,Lin.aW,gI,hn,hr.cells]
     ·simp only
      split
      ·exact hr.lin
      ·refine ⟨?_,?_,hr.lin⟩
       ·rw [Lin.aB,Lin.aW,gI,hn]; omega
       ·rw [Lin.aB,Lin.aT,Lin.aW,gI,hn]; omega
     ·simp only [Lin.aB,hr.rz,Go.TL.rz,pz]; omega
   ·simp only [Option.some.injEq] at h; subst h
    obtain ⟨z,rfl⟩ := D5 hx
    obtain ⟨ρ',hr,he,ha⟩ := step (vaB z) (nU z)
    have hn : (ρ' n).b = z := by rw [he]; rfl
    refine ⟨ρ',ha,hr.g,?_,hr.tys,hr.lin,?_⟩
    ·simp only [ak,DP.v,BF.v,hn,hr.cells]
    ·simp only [Lin.aB,hr.rz,Go.TL.rz,pz]; omega
   ·simp only [Option.some.injEq] at h; subst h
    obtain ⟨z,rfl,hz⟩ := HC hx
    obtain ⟨ρ',hr,he,ha⟩ := step (vaS z) (nV hz)
    have hn : (ρ' n).s = z := by rw [he]; rfl
    refine ⟨ρ',ha,hr.g,?_,hr.tys,hr.lin,?_⟩
    ·simp only [ak,DP.v,SE.v,hn,hr.cells]
    ·simp only [Lin.aB,Lin.aZ,Lin.aW,gJ,hr.rz,Go.TL.rz,pz,hn]; omega
   ·simp only [Option.some.injEq] at h; subst h
    obtain ⟨z,rfl,hz⟩ := HB hx
    obtain ⟨ρ',hr,he,ha⟩ := step (vaS z) (nV (Nat.le_trans hz (by decide)))
    have hn : (ρ' n).s = z := by rw [he]; rfl
    unfold nH at hz
    refine ⟨ρ',ha,hr.g,?_,hr.tys,⟨?_,hr.lin⟩,?_⟩
    ·simp only [ak,DP.v,SE.v,hn,hr.cells]
    ·rw [Lin.aB,Lin.aW,gJ,hn]; omega
    ·simp only [Lin.aB,Lin.aZ,Lin.aW,gJ,hr.rz,Go.TL.rz,pz,hn]; omega
   ·rename_i e
    simp only [Option.some.injEq] at h; subst h
    obtain ⟨z,rfl,hz⟩ := Fq hx
    obtain ⟨ρ',hr,he,ha⟩ := step (vaL z) (ej hz.len)
    have hn : (ρ' n).l = z := by rw [he]; rfl
    refine ⟨ρ',ha,hr.g,?_,⟨by rw [hn]; exact hz,hr.tys⟩,hr.lin,?_⟩
    ·simp only [ak,DP.v,lvV,hn,hr.cells]
    ·simp only [Lin.aB,Lin.aZ,Lin.aW,c9,hr.rz,Go.TL.rz,pz,hn]; omega
   ·simp only [Option.some.injEq] at h; subst h
    have := OC hx; subst this
    obtain ⟨ρ',hr,he,ha⟩ := step (vaN 0) (rJ (by decide) (by decide))
    refine ⟨ρ',ha,hr.g,?_,hr.tys,hr.lin,?_⟩
    ·simp only [ak,DP.v,hr.cells]
    ·simp only [Lin.aB,hr.rz,Go.TL.rz,pz]; omega
   ·cases h
def dty (tys : List (Nat × TypeId)) : List CK → List DP → Option (List G)
 | [],[] => some []
 | ck :: cs,x :: xs => match dty tys cs xs with
  | none => none
  | some gs => match ck,x with
   | .int k,.int k' e => match decide (k = k') with
    | true => some (.le (e.aD (-k.max)) :: .le ((Lin.scale (-1) e).aD k.min) :: gs)
    | false => none
   | .bool,.bl _ => some gs
   | .str,.st (.var _) => some gs
   | .str,.st (.lit b) => match Nat.ble b.length 1073741824 with | true => some gs | false => none
   | .sst,.st (.var k) => some (.le ((Lin.at (4 * k + 3)).aD (-64)) :: gs)
   | .sst,.st (.lit b) => match Nat.ble b.length 64 with | true => some gs | false => none
   | .any,.un => some gs
   | .sl _,.sl none => some gs
   | .sl e,.sl (some k) => match lk tys k with
    | some e' => match Nat.beq e e' with | true => some gs | false => none
    | none => none
   | _,_ => none
 | _,_ => none
theorem dz {P : Program} {I : Pr} {ρ : Ro} {tys : List (Nat × TypeId)} (hg : Gok ρ) (ht : cb P ρ tys) : ∀ (cs : List CK) (xs : List DP) (gs : List G),dty tys cs xs = some gs → gsV I ρ gs → WTs P cs (ak ρ xs)
 | [],[],_,_,_ => trivial
 | ck :: cs,x :: xs,gs,h,hv => by
  simp only [dty] at h
  split at h
  ·cases h
  ·rename_i gs1 h1
   split at h
   ·split at h
    ·rename_i k k' e hk
     have := of_decide_eq_true hk; subst this
     simp only [Option.some.injEq] at h; subst h
     simp only [gsV,G.v,Lin.aB,Lin.aT] at hv
     exact ⟨.int _ _ (by omega) (by omega),dz hg ht cs xs gs1 h1 hv.2.2⟩
    ·cases h
   ·simp only [Option.some.injEq] at h; subst h
    exact ⟨.bool _,dz hg ht cs xs gs1 h1 hv⟩
   ·simp only [Option.some.injEq] at h; subst h
    exact ⟨.str _ (hg.st _),dz hg ht cs xs gs1 h1 hv⟩
   ·split at h
    ·rename_i b hb
     simp only [Option.some.injEq] at h; subst h
     refine ⟨.str _ ?_,dz hg ht cs xs gs1 h1 hv⟩
     have := Nat.le_of_ble_eq_true hb
     simpa [bz,SE.v,ByteArray.size] using this
    ·cases h
   ·simp only [Option.some.injEq] at h; subst h
    refine ⟨.sst _ ?_,dz hg ht cs xs gs1 h1 hv.2⟩
    have := hv.1
    simp only [G.v,Lin.aB,Lin.aW,gJ] at this
    simp only [SE.v,nH]; omega
   ·split at h
    ·rename_i b hb
     simp only [Option.some.injEq] at h; subst h
     refine ⟨.sst _ ?_,dz hg ht cs xs gs1 h1 hv⟩
     have := Nat.le_of_ble_eq_true hb
     simpa [nH,SE.v,ByteArray.size] using this
    ·cases h
   ·simp only [Option.some.injEq] at h; subst h
    exact ⟨.any,dz hg ht cs xs gs1 h1 hv⟩
   ·simp only [Option.some.injEq] at h; subst h
    exact ⟨aU.wt aU.nil,dz hg ht cs xs gs1 h1 hv⟩
   ·split at h
    ·rename_i e k e' hl
     split at h
     ·rename_i hb
      have := Nat.eq_of_beq_eq_true hb; subst this
      simp only [Option.some.injEq] at h; subst h
      exact ⟨aU.wt (c7 ht hl),dz hg ht cs xs gs1 h1 hv⟩
     ·cases h
    ·cases h
   ·cases h
 | [],_ :: _,_,h,_ => by simp [dty] at h
 | _ :: _,[],_,h,_ => by simp [dty] at h
def dpz : DP → Lin
 | .st (.var k) => (Lin.at (4 * k + 3)).aD 1
 | .st (.lit b) => Lin.lit (1 + (b.length : Int))
 | .sl (some k) => (Lin.at (4 * k + 2)).aD 1
 | .ls (some k) => (Lin.at (4 * k + 2)).aD 1
 | .mp _ (some k) => (Lin.at (4 * k + 2)).aD 1
 | _ => Lin.lit 1
def drz : List DP → Lin
 | [] => Lin.lit 0
 | x :: xs => (dpz x).add (drz xs)
theorem Mp {ρ : Ro} (_hg : Gok ρ) : ∀ x : DP,(∀ v,x = .cst v → ∀ s,v ≠ .string s) → (dpz x).v ρ = (pz (x.v ρ) : Int)
 | .st (.var k),_ => by simp only [dpz,Lin.aB,Lin.aW,gJ,DP.v,SE.v,pz]; omega
 | .st (.lit b),_ => by simp only [dpz,Lin.bI,DP.v,SE.v,pz,ByteArray.size,List.size_toArray]; omega
 | .sl (some k),_ => by simp only [dpz,Lin.aB,Lin.aW,c9,DP.v,lvV,pz]; omega
 | .sl none,_ => by simp [dpz,Lin.bI,DP.v,lvV,pz,rsz]
 | .int _ _,_ => by simp [dpz,Lin.bI,DP.v,pz]
 | .bl _,_ => by simp [dpz,Lin.bI,DP.v,pz]
 | .nl,_ => by simp [dpz,Lin.bI,DP.v,pz]
 | .cst v,h => by
  simp only [dpz,Lin.bI,DP.v]
  cases v <;> first | rfl | exact absurd rfl (h _ rfl _)
 | .ls (some k),_ => by simp only [dpz,Lin.aB,Lin.aW,c9,DP.v,lvV,pz]; omega
 | .ls none,_ => by simp [dpz,Lin.bI,DP.v,lvV,pz,rsz]
 | .un,_ => by simp [dpz,Lin.bI,DP.v,pz]
 | .mp _ (some k),_ => by simp only [dpz,Lin.aB,Lin.aW,c9,DP.v,lvV,pz]; omega
 | .mp _ none,_ => by simp [dpz,Lin.bI,DP.v,lvV,pz,rsz]
theorem vU {P : Program} {I : Pr} {ρ : Ro} {tys : List (Nat × TypeId)} (hg : Gok ρ) : ∀ (cs : List CK) (xs : List DP) (gs : List G),dty tys cs xs = some gs → (drz xs).v ρ = (Go.TL.rz (ak ρ xs) : Int)
 | [],[],_,_ => by simp [drz,Lin.bI,ak,Go.TL.rz]
 | ck :: cs,x :: xs,gs,h => by
  simp only [dty] at h
  split at h
  ·cases h
  ·rename_i gs1 h1
   have ih := vU (P := P) (I := I) hg cs xs gs1 h1
   have hx : ∀ v,x = .cst v → ∀ s,v ≠ .string s := by
    cases x with
    | cst v => cases ck <;> simp at h
    | _ => exact fun _ e => by cases e
   have := Mp hg x hx
   simp only [drz,Lin.FF,ak,Go.TL.rz,this,ih]; omega
 | [],_ :: _,_,h => by simp [dty] at h
 | _ :: _,[],_,h => by simp [dty] at h
theorem O9 {n : Nat} : ∀ {x : DP},Sc n x.vars → Sc n (dpz x).vars
 | .st (.var k),h => by
  simp only [DP.vars,SE.vars,Sc.cons] at h
  exact Lin.aX (Lin.aS (by omega))
 | .st (.lit b),_ => Lin.cI
 | .sl (some k),h => by
  simp only [DP.vars,aL,Sc.cons] at h
  exact Lin.aX (Lin.aS (by omega))
 | .sl none,_ => Lin.cI
 | .int _ _,_ => Lin.cI
 | .bl _,_ => Lin.cI
 | .nl,_ => Lin.cI
 | .cst v,_ => Lin.cI
 | .ls (some k),h => by
  simp only [DP.vars,aL,Sc.cons] at h
  exact Lin.aX (Lin.aS (by omega))
 | .ls none,_ => Lin.cI
 | .un,_ => Lin.cI
 | .mp _ (some k),h => by
  simp only [DP.vars,aL,Sc.cons] at h
  exact Lin.aX (Lin.aS (by omega))
 | .mp _ none,_ => Lin.cI
theorem nY {n : Nat} : ∀ {x : List DP},Sc n (bf x) → Sc n (drz x).vars
 | [],_ => Lin.cI
 | x :: xs,h => by simp only [bf,Sc.app] at h; exact Lin.HZ (O9 h.1) (nY h.2)
end Go.TL
namespace Go.TL
def fU : DV → Option (List DV)
 | .agg xs => some xs
 | .tup _ => none
 | .u => none
 | x => some [x]
theorem uJ (ρ : Ro) (x : DV) : cellsOf (x.v ρ) = (fU x).map (dvs ρ) := by
 cases x <;> simp [DV.v,cellsOf,fU,dvs]
theorem rK {n : Nat} {x : DV} {xs : List DV} (h : fU x = some xs) (hx : Sc n x.vars) : Sc n (av xs) := by
 have key : ∀ y : DV,Sc n y.vars → Sc n (av [y]) := fun y hy => by simp only [av,Sc.app]; exact ⟨hy,Sc.nil⟩
 cases x with
 | agg ys => simp only [fU,Option.some.injEq] at h; subst h; simpa only [DV.vars] using hx
 | tup _ => simp [fU] at h
 | u => simp [fU] at h
 | _ => simp only [fU,Option.some.injEq] at h; subst h; exact key _ hx
theorem pJ (ρ : Ro) (a b : List DV) : dvs ρ (a ++ b) = dvs ρ a ++ dvs ρ b := by simp [dI]
theorem uK (ρ : Ro) (a : List DV) (n : Nat) : dvs ρ (a.drop n) = (dvs ρ a).drop n := by simp [dI,List.map_drop]
theorem uL (ρ : Ro) (a : List DV) (n : Nat) : dvs ρ (a.take n) = (dvs ρ a).take n := by simp [dI,List.map_take]
theorem ek (ρ : Ro) (a : List DV) : (dvs ρ a).length = a.length := by simp [dI]
theorem Eh (ρ : Ro) (cs : List DV) (off : Nat) (new : List DV) : dvs ρ (spl cs off new) = spl (dvs ρ cs) off (dvs ρ new) := by
 simp [spl,pJ,uL,uK,ek]
theorem iD (ρ : Ro) (a : List DP) (n : Nat) : ak ρ (a.drop n) = (ak ρ a).drop n := by simp [lS,List.map_drop]
theorem fV (ρ : Ro) (a : List DP) (n : Nat) : ak ρ (a.take n) = (ak ρ a).take n := by simp [lS,List.map_take]
theorem dh (ρ : Ro) (a : List DP) : (ak ρ a).length = a.length := by simp [lS]
theorem nr (ρ : Ro) (a b : List DP) : ak ρ (a ++ b) = ak ρ a ++ ak ρ b := by simp [lS]
theorem tW {k : Nat} : ∀ {xs : List DV},k ∈ av xs ↔ ∃ x ∈ xs,k ∈ x.vars
 | [] => by simp [av]
 | x :: xs => by simp [av,tW (xs := xs)]
theorem tX {k : Nat} : ∀ {xs : List DP},k ∈ bf xs ↔ ∃ x ∈ xs,k ∈ x.vars
 | [] => by simp [bf]
 | x :: xs => by simp [bf,tX (xs := xs)]
theorem lT {n : Nat} {xs : List DV} : Sc n (av xs) ↔ ∀ x ∈ xs,Sc n x.vars := by
 unfold Sc; simp only [tW]
 exact ⟨fun h x hx k hk => h k ⟨x,hx,hk⟩,fun h k ⟨x,hx,hk⟩ => h x hx k hk⟩
theorem jY {n : Nat} {xs : List DP} : Sc n (bf xs) ↔ ∀ x ∈ xs,Sc n x.vars := by
 unfold Sc; simp only [tX]
 exact ⟨fun h x hx k hk => h k ⟨x,hx,hk⟩,fun h k ⟨x,hx,hk⟩ => h x hx k hk⟩
theorem H0 {n : Nat} {cs new : List DV} {off : Nat} (h : Sc n (av cs)) (h' : Sc n (av new)) : Sc n (av (spl cs off new)) := by
 rw [lT] at *
 intro x hx
 simp only [spl,List.mem_append] at hx
 rcases hx with hx | hx | hx
 ·exact h x (List.mem_of_mem_take hx)
 ·exact h' x hx
 ·exact h x (List.mem_of_mem_drop hx)
def Ag (σ : DSt) (o : Oper) (x : Operand) : DR := some (σ.put o.dst (dev σ x),[])
theorem vV {P : Program} {I : Pr} {σ σ' : DSt} {o : Oper} {x : Operand} {gs : List G} (ho : o.op = .move x ∨ o.op = .assign x) (h : Ag σ o x = some (σ',gs)) : Good P I σ o σ' gs := by
 simp only [Ag,Option.some.injEq,Prod.mk.injEq] at h; obtain ⟨rfl,rfl⟩ := h
 refine a6 (fun hs => hs.dev x) fun ρ hs hok _ => ⟨⟨[],[]⟩,[],?_,trivial⟩
 rcases ho with ho | ho <;> simp [aop,ho,tr,qN,aA]
def FH (σ : DSt) (o : Oper) (c x y : Operand) : DR :=
 match dev σ c with
 | .p (.bl (.lit true)) _ => some (σ.put o.dst (dev σ x),[])
 | .p (.bl (.lit false)) _ => some (σ.put o.dst (dev σ y),[])
 | _ => none
theorem FI {P : Program} {I : Pr} {σ σ' : DSt} {o : Oper} {c x y : Operand} {gs : List G} (ho : o.op = .pick c x y) (h : FH σ o c x y = some (σ',gs)) : Good P I σ o σ' gs := by
 unfold FH at h
 split at h
 ·rename_i fr he
  simp only [Option.some.injEq,Prod.mk.injEq] at h; obtain ⟨rfl,rfl⟩ := h
  refine a6 (fun hs => hs.dev x) fun ρ hs hok _ => ⟨⟨[],[]⟩,[],?_,trivial⟩
  simp [aop,ho,tr,qO,aA,he,DV.v,DP.v,BF.v]
 ·rename_i fr he
  simp only [Option.some.injEq,Prod.mk.injEq] at h; obtain ⟨rfl,rfl⟩ := h
  refine a6 (fun hs => hs.dev y) fun ρ hs hok _ => ⟨⟨[],[]⟩,[],?_,trivial⟩
  simp [aop,ho,tr,qO,aA,he,DV.v,DP.v,BF.v]
 ·cases h
def gK (z : Value) : Option (List DV) :=
 match z.cells.toList.all (·.oneCell') with
 | true => some (z.cells.toList.map fun v => .p (uI v) true)
 | false => none
theorem pK (ρ : Ro) (z : Value) : jB z = (gK z).map (dvs ρ) := by
 unfold jB gK
 cases z.cells.toList.all (·.oneCell') with
 | true => simp [dI,DV.v,Bn]
 | false => rfl
theorem mN {n : Nat} {z : Value} {xs : List DV} (h : gK z = some xs) : Sc n (av xs) := by
 unfold gK at h
 split at h
 ·simp only [Option.some.injEq] at h; subst h
  rw [lT]
  intro x hx
  simp only [List.mem_map] at hx
  obtain ⟨v,_,rfl⟩ := hx
  simp [DV.vars,y9,Sc.nil]
 ·cases h
def DSt.lU (σ : DSt) (d : Nat) (t : TypeId) (xs : List DV) : DSt := { σ with ab := (d,.ptr d 0) :: σ.ab,tab := (d,.box t xs) :: σ.tab }
theorem ze {σ : DSt} (hs : σ.sc) {d : Nat} {t : TypeId} {xs : List DV} (hx : Sc σ.nx (av xs)) : (σ.lU d t xs).sc := by
 refine ⟨?_,?_,hs.tys,hs.lin,hs.prs⟩
 ·intro j v hl
  simp only [DSt.lU,lk] at hl
  cases hb : Nat.beq d j with
  | true => simp only [hb,Option.some.injEq] at hl; subst hl; simp [DV.vars,Sc.nil]
  | false => simp only [hb] at hl; exact hs.ab j v hl
 ·intro j v hl
  simp only [DSt.lU,lk] at hl
  cases hb : Nat.beq d j with
  | true => simp only [hb,Option.some.injEq] at hl; subst hl; change Sc σ.nx _; simpa [DO.vars] using hx
  | false => simp only [hb] at hl; exact hs.tab j v hl
theorem Bp (ρ : Ro) (σ : DSt) (d : Nat) (t : TypeId) (xs : List DV) : (σ.lU d t xs).v ρ = ⟨(d,.ptr d 0) :: (σ.v ρ).ab,(d,.box t (dvs ρ xs)) :: (σ.v ρ).tab⟩ := by
 simp [DSt.lU,DSt.v,bK,aG,DV.v,DO.v]
theorem lV {ρ : Ro} {σ : DSt} {d : Nat} (h : lk σ.tab d = none) : lk (σ.v ρ).tab d = none := by
 simp [DSt.v,cO,h]
def Bq (P : Program) (σ : DSt) (o : Oper) (t : TypeId) : DR :=
 match o.dst,P.info? t with
 | some d,some i => match lk σ.tab d,i.zero with
  | none,some z => match gK z with
   | some xs => some (σ.lU d t xs,[])
   | none => none
  | _,_ => none
 | _,_ => none
theorem Dt {P : Program} {I : Pr} {σ σ' : DSt} {o : Oper} {t : TypeId} {gs : List G} (ho : o.op = .alloc t) (h : Bq P σ o t = some (σ',gs)) : Good P I σ o σ' gs := by
 unfold Bq at h
 split at h
 ·rename_i d i hd hi
  split at h
  ·rename_i z hl hz
   split at h
   ·rename_i xs hx
    simp only [Option.some.injEq,Prod.mk.injEq] at h; obtain ⟨rfl,rfl⟩ := h
    intro hs
    refine ⟨ze hs (mN hx),Nat.le_refl _,fun ρ hok _ => ⟨ρ,ao.refl _ _,⟨hok.g,hok.tys,hok.lin,hok.prs⟩,⟨[],[]⟩,_,[],?_,trivial,bu.refl _⟩⟩
    rw [Bp]
    have h1 := lV (ρ := ρ) hl
    simp [aop,ho,tr,sE,hd,hi,h1,hz,pK ρ,hx]
   ·cases h
  ·cases h
 ·cases h
def chT (P : Program) (t : TypeId) : Bool :=
 match P.underlying t with
 | some (.struct fs) => match fs.toList.getLast? with
  | some f => match P.underlying f.type with | some (.pointer e) => Nat.beq e t | _ => false
  | none => false
 | _ => false
def J2 (σ : DSt) (o : Oper) (t : TypeId) (x : Operand) : DR :=
 match o.dst,fU (dev σ x) with
 | some d,some xs => match lk σ.tab d with
  | none => some (σ.lU d t xs,[])
  | _ => none
 | _,_ => none
theorem H2 {P : Program} {I : Pr} {σ σ' : DSt} {o : Oper} {t : TypeId} {x : Operand} {gs : List G} (ho : o.op = .box t x) (h : J2 σ o t x = some (σ',gs)) : Good P I σ o σ' gs := by
 unfold J2 at h
 split at h
 ·rename_i d xs hd hx
  split at h
  ·rename_i hl
   simp only [Option.some.injEq,Prod.mk.injEq] at h; obtain ⟨rfl,rfl⟩ := h
   intro hs
   refine ⟨ze hs (rK hx (hs.dev x)),Nat.le_refl _,fun ρ hok _ => ⟨ρ,ao.refl _ _,⟨hok.g,hok.tys,hok.lin,hok.prs⟩,⟨[],[]⟩,_,[],?_,trivial,bu.refl _⟩⟩
   rw [Bp]
   have h1 := lV (ρ := ρ) hl
   simp [aop,ho,tr,Aa,hd,aA,uJ,hx,h1]
  ·cases h
 ·cases h
def kQ (place : Nat → Option (Nat × Nat)) (cells : List DV) : List (Nat × DV) → Option (List DV)
 | [] => some cells
 | (i,x) :: rest => match place i,fU x with
  | some (off,size),some xs => match Nat.beq xs.length size,Nat.ble (off + xs.length) cells.length with
   | true,true => kQ place (spl cells off xs) rest
   | _,_ => none
  | _,_ => none
def jZ (σ : DSt) : List (Nat × Operand) → List (Nat × DV)
 | [] => []
 | (i,x) :: r => (i,dev σ x) :: jZ σ r
def nZ (ρ : Ro) : List (Nat × DV) → List (Nat × SV)
 | [] => []
 | (i,x) :: r => (i,x.v ρ) :: nZ ρ r
theorem uM (ρ : Ro) (σ : DSt) : ∀ l : List (Nat × Operand),dV (σ.v ρ) l = nZ ρ (jZ σ l)
 | [] => rfl
 | (i,x) :: r => by simp only [dV,jZ,nZ,aA,uM ρ σ r]
theorem sS (ρ : Ro) (place : Nat → Option (Nat × Nat)) : ∀ (l : List (Nat × DV)) (cells : List DV),gn place (dvs ρ cells) (nZ ρ l) = (kQ place cells l).map (dvs ρ)
 | [],cells => rfl
 | (i,x) :: r,cells => by
  simp only [nZ,gn,kQ,uJ]
  cases place i with
  | none => rfl
  | some pl =>
   obtain ⟨off,size⟩ := pl
   cases fU x with
   | none => rfl
   | some xs =>
    simp only [Option.map_some,ek]
    cases Nat.beq xs.length size with
    | false => rfl
    | true => cases Nat.ble (off + xs.length) cells.length with
     | false => rfl
     | true => rw [← Eh]; exact sS ρ place r _
theorem pL {n : Nat} (place : Nat → Option (Nat × Nat)) : ∀ (l : List (Nat × DV)) (cells out : List DV),Sc n (av cells) → (∀ p ∈ l,Sc n p.2.vars) → kQ place cells l = some out → Sc n (av out)
 | [],cells,out,hc,_,h => by simp only [kQ,Option.some.injEq] at h; subst h; exact hc
 | (i,x) :: r,cells,out,hc,hl,h => by
  simp only [kQ] at h
  split at h
  ·rename_i off size xs hp hx
   split at h
   ·exact pL place r _ _ (H0 hc (rK hx (hl (i,x) (List.mem_cons_self ..)))) (fun p hp => hl p (List.mem_cons_of_mem _ hp)) h
   ·cases h
  ·cases h
theorem rL {σ : DSt} (hs : σ.sc) : ∀ (l : List (Nat × Operand)), ∀ p ∈ jZ σ l,Sc σ.nx p.2.vars
 | [],p,hp => by simp [jZ] at hp
 | (i,x) :: r,p,hp => by
  simp only [jZ,List.mem_cons] at hp
  rcases hp with rfl | hp
  ·exact hs.dev x
  ·exact rL hs r p hp
def rM (P : Program) (t : TypeId) (parts : List (Nat × DV)) : Option (List DV) :=
 match P.info? t,P.underlying t with
 | some it,some (.array _ e) =>
  match it.zero,P.info? e with
  | some z,some ie => match gK z with
   | some cs => kQ (fun i => some (i * ie.size,ie.size)) cs parts
   | none => none
  | _,_ => none
 | some it,some (.struct fields) =>
  match it.zero,fields.toList.mapM (fun f => (P.info? f.type).map fun i => (f.offset,i.size)) with
  | some z,some places => match gK z with
   | some cs => kQ (places.toArray[·]?) cs parts
   | none => none
  | _,_ => none
 | _,_ => none
theorem J3 (P : Program) (ρ : Ro) (t : TypeId) (l : List (Nat × DV)) : qP P t (nZ ρ l) = (rM P t l).map (dvs ρ) := by
 unfold qP rM
 cases P.info? t with
 | none => rfl
 | some it => cases P.underlying t with
  | none => rfl
  | some d => cases d with
   | array m e =>
    simp only
    cases it.zero with
    | none => rfl
    | some z => cases P.info? e with
     | none => rfl
     | some ie =>
      simp only [pK ρ]
      cases gK z with
      | none => rfl
      | some cs => simp only [Option.map_some]; exact sS ρ _ l cs
   | struct fs =>
    simp only
    cases it.zero with
    | none => rfl
    | some z => cases List.mapM (fun f : Field => Option.map (fun i : TypeInfo => (f.offset,i.size)) (P.info? f.type)) fs.toList with
     | none => rfl
     | some places =>
      simp only [pK ρ]
      cases gK z with
      | none => rfl
      | some cs => simp only [Option.map_some]; exact sS ρ _ l cs
   | _ => rfl
theorem H3 {P : Program} {n : Nat} {t : TypeId} {l : List (Nat × DV)} {out : List DV} (hl : ∀ p ∈ l,Sc n p.2.vars) (h : rM P t l = some out) : Sc n (av out) := by
 unfold rM at h
 split at h
 ·split at h
  ·split at h
   ·rename_i cs hz; exact pL _ _ _ _ (mN hz) hl h
   ·cases h
  ·cases h
 ·split at h
  ·split at h
   ·rename_i cs hz; exact pL _ _ _ _ (mN hz) hl h
   ·cases h
  ·cases h
 ·cases h
def Br (P : Program) (σ : DSt) (o : Oper) (t : TypeId) (parts : Array (Nat × Operand)) : DR :=
 match rM P t (jZ σ parts.toList) with
 | some xs => some (σ.put o.dst (.agg xs),[])
 | none => none
theorem Du {P : Program} {I : Pr} {σ σ' : DSt} {o : Oper} {t : TypeId} {parts : Array (Nat × Operand)} {gs : List G} (ho : o.op = .build t parts) (h : Br P σ o t parts = some (σ',gs)) : Good P I σ o σ' gs := by
 unfold Br at h
 split at h
 ·rename_i xs hx
  simp only [Option.some.injEq,Prod.mk.injEq] at h; obtain ⟨rfl,rfl⟩ := h
  refine a6 (fun hs => by simp only [DV.vars]; exact H3 (rL hs _) hx) fun ρ hs hok _ => ⟨⟨[],[]⟩,[],?_,trivial⟩
  simp [aop,ho,tr,sF,uM,J3,hx,DV.v]
 ·cases h
def eE (P : Program) (t : TypeId) (off : Nat) (cells : List DV) : Option DV :=
 match ew P t,P.info? t with
 | some true,some i => match Nat.ble (off + i.size) cells.length with
  | true => some (.agg ((cells.drop off).take i.size))
  | false => none
 | some false,some i => match Nat.beq i.size 1,(cells.drop off) with
  | true,x :: _ => some x
  | _,_ => none
 | _,_ => none
theorem gv (P : Program) (ρ : Ro) (t : TypeId) (off : Nat) (cells : List DV) : fo P t off (dvs ρ cells) = (eE P t off cells).map (DV.v ρ) := by
 unfold fo eE
 cases ew P t with
 | none => rfl
 | some ag => cases P.info? t with
  | none => cases ag <;> rfl
  | some i => cases ag with
   | true =>
    simp only [ek]
    cases Nat.ble (off + i.size) cells.length <;> simp [DV.v,uL,uK]
   | false =>
    simp only [← uK]
    cases List.drop off cells with
    | nil => simp only [dvs]; cases Nat.beq i.size 1 <;> rfl
    | cons x xs => simp only [dvs]; cases Nat.beq i.size 1 <;> rfl
theorem gL {P : Program} {n : Nat} {t : TypeId} {off : Nat} {cells : List DV} {x : DV} (hc : Sc n (av cells)) (h : eE P t off cells = some x) : Sc n x.vars := by
 rw [lT] at hc
 unfold eE at h
 split at h
 ·split at h
  ·simp only [Option.some.injEq] at h; subst h
   simp only [DV.vars]; rw [lT]
   exact fun y hy => hc y (List.mem_of_mem_drop (List.mem_of_mem_take hy))
  ·cases h
 ·split at h
  ·rename_i hx
   simp only [Option.some.injEq] at h; subst h
   exact hc _ (List.mem_of_mem_drop (by rw [hx]; exact List.mem_cons_self ..))
  ·cases h
 ·cases h
def rN (fr : Bool) : DP → DV
 | .sl l => .p (.sl l) fr
 | .ls l => .p (.ls l) fr
 | .un => .p .un true
 | .mp a l => .p (.mp a l) fr
 | x => .p x true
def fJ (fr : Bool) : List DP → List DV
 | [] => []
 | x :: xs => rN fr x :: fJ fr xs
theorem H4 (ρ : Ro) (fr : Bool) (x : DP) : mkp fr (x.v ρ) = (rN fr x).v ρ := by
 cases x <;> simp [DP.v,mkp,rN,DV.v]
theorem sT (ρ : Ro) (fr : Bool) : ∀ xs : List DP,(ak ρ xs).map (mkp fr) = dvs ρ (fJ fr xs)
 | [] => by simp [ak,fJ,dvs]
 | x :: xs => by simp [ak,fJ,dvs,H4,sT ρ fr xs]
theorem pM {n : Nat} {fr : Bool} : ∀ {xs : List DP},Sc n (bf xs) → Sc n (av (fJ fr xs))
 | [],_ => Sc.nil
 | x :: xs,h => by
  simp only [bf,Sc.app] at h
  simp only [fJ,av,Sc.app]
  exact ⟨by cases x <;> simpa [rN,DV.vars] using h.1,pM h.2⟩
def Bt (P : Program) (σ : DSt) (o : Oper) (t : TypeId) (x : Operand) (f : Nat) : DR :=
 match dev σ x,qX P t f with
 | .agg xs,some (off,ft) => match eE P ft off xs with
  | some v => some (σ.put o.dst v,[])
  | none => none
 | _,_ => none
theorem Dv {P : Program} {I : Pr} {σ σ' : DSt} {o : Oper} {t : TypeId} {x : Operand} {f : Nat} {gs : List G} (ho : o.op = .field t x f) (h : Bt P σ o t x f = some (σ',gs)) : Good P I σ o σ' gs := by
 unfold Bt at h
 split at h
 ·rename_i xs off ft he hf
  split at h
  ·rename_i v hv
   simp only [Option.some.injEq,Prod.mk.injEq] at h; obtain ⟨rfl,rfl⟩ := h
   refine a6 (fun hs => gL (by have := hs.dev x; rw [he] at this; simpa [DV.vars] using this) hv) fun ρ hs hok _ => ⟨⟨[],[]⟩,[],?_,trivial⟩
   simp [aop,ho,tr,sG,aA,he,DV.v,hf,lf,gv,hv]
  ·cases h
 ·cases h
def uN (σ : DSt) (o : Oper) (x : Operand) (n : Nat) : DR :=
 match dev σ x with
 | .tup xs => match xs[n]? with
  | some v => some (σ.put o.dst v,[])
  | none => none
 | _ => none
theorem zW {P : Program} {I : Pr} {σ σ' : DSt} {o : Oper} {x : Operand} {n : Nat} {gs : List G} (ho : o.op = .extract x n) (h : uN σ o x n = some (σ',gs)) : Good P I σ o σ' gs := by
 unfold uN at h
 split at h
 ·rename_i xs he
  split at h
  ·rename_i v hv
   simp only [Option.some.injEq,Prod.mk.injEq] at h; obtain ⟨rfl,rfl⟩ := h
   refine a6 (fun hs => ?_) fun ρ hs hok _ => ⟨⟨[],[]⟩,[],?_,trivial⟩
   ·have := hs.dev x; rw [he] at this; simp only [DV.vars] at this
    exact (lT.1 this) v (List.mem_of_getElem? hv)
   ·simp [aop,ho,tr,mD,aA,he,DV.v,dI,hv]
  ·cases h
 ·cases h
def Bu (P : Program) (σ : DSt) (o : Oper) (t : TypeId) (x : Operand) : DR :=
 match P.underlying t with
 | some (.interface _) => none
 | some _ => some (σ.put o.dst (.ifc t (dev σ x)),[])
 | none => none
theorem Dw {P : Program} {I : Pr} {σ σ' : DSt} {o : Oper} {t : TypeId} {x : Operand} {gs : List G} (ho : o.op = .makeInterface t x) (h : Bu P σ o t x = some (σ',gs)) : Good P I σ o σ' gs := by
 unfold Bu at h
 split at h
 ·cases h
 ·rename_i d hn hu
  simp only [Option.some.injEq,Prod.mk.injEq] at h; obtain ⟨rfl,rfl⟩ := h
  refine a6 (fun hs => by simpa [DV.vars] using hs.dev x) fun ρ hs hok _ => ⟨⟨[],[]⟩,[],?_,trivial⟩
  cases d <;> simp_all [aop,tr,sH,aA,DV.v]
 ·cases h
def FJ (σ : DSt) (o : Oper) (f : Fn) (first caps : Array Operand) : DR :=
 some (σ.put o.dst (.fn f (ib σ first.toList) (ib σ caps.toList)),[])
theorem FK {P : Program} {I : Pr} {σ σ' : DSt} {o : Oper} {f : Fn} {first caps : Array Operand} {gs : List G} (ho : o.op = .makeFunc f first caps) (h : FJ σ o f first caps = some (σ',gs)) : Good P I σ o σ' gs := by
 simp only [FJ,Option.some.injEq,Prod.mk.injEq] at h; obtain ⟨rfl,rfl⟩ := h
 refine a6 (fun hs => by simp only [DV.vars,Sc.app]; exact ⟨hs.ib _,hs.ib _⟩) fun ρ hs hok _ => ⟨⟨[],[]⟩,[],?_,trivial⟩
 simp [aop,ho,tr,vu,vT,DV.v]
def gM (n m : Nat) : DV → Option DV
 | .ptr k off => some (.ptr k (off + n))
 | .pd row 0 fr => some (.pd ((row.drop n).take m) 0 fr)
 | .vptr k sz i off => some (.vptr k sz i (off + n))
 | _ => none
theorem J4 (ρ : Ro) (n m : Nat) (x : DV) : shift n m (x.v ρ) = (gM n m x).map (DV.v ρ) := by
 cases x with
 | pd row off fr => cases off <;> simp [DV.v,shift,gM,fV,iD]
 | _ => simp [DV.v,shift,gM]
theorem H5 {k n m : Nat} {x y : DV} (h : gM n m x = some y) (hx : Sc k x.vars) : Sc k y.vars := by
 cases x with
 | pd row off fr =>
  cases off with
  | zero =>
   simp only [gM,Option.some.injEq] at h; subst h
   simp only [DV.vars,jY] at hx ⊢
   exact fun y hy => hx y (List.mem_of_mem_drop (List.mem_of_mem_take hy))
  | succ _ => simp [gM] at h
 | ptr _ _ => simp only [gM,Option.some.injEq] at h; subst h; exact hx
 | vptr _ _ _ _ => simp only [gM,Option.some.injEq] at h; subst h; exact hx
 | _ => simp [gM] at h
def pN (P : Program) (σ : DSt) (o : Oper) (s : TypeId) (x : Operand) (f : Nat) : DR :=
 match bM P s f with
 | some (n,m) => match gM n m (dev σ x) with
  | some v => some (σ.put o.dst v,[])
  | none => none
 | none => none
theorem vW {P : Program} {I : Pr} {σ σ' : DSt} {o : Oper} {s : TypeId} {x : Operand} {f : Nat} {gs : List G} (ho : o.op = .fieldAddr s x f) (h : pN P σ o s x f = some (σ',gs)) : Good P I σ o σ' gs := by
 unfold pN at h
 split at h
 ·rename_i n m hf
  split at h
  ·rename_i v hv
   simp only [Option.some.injEq,Prod.mk.injEq] at h; obtain ⟨rfl,rfl⟩ := h
   refine a6 (fun hs => H5 hv (hs.dev x)) fun ρ hs hok _ => ⟨⟨[],[]⟩,[],?_,trivial⟩
   simp [aop,ho,tr,aA,jD,hf,J4,hv]
  ·cases h
 ·cases h
def rP (σ : DSt) (o : Oper) (x : Operand) : DR :=
 match dev σ x with
 | .ptr k off => some (σ.put o.dst (.ptr k off),[])
 | .pd row off fr => some (σ.put o.dst (.pd row off fr),[])
 | .vptr k sz i off => some (σ.put o.dst (.vptr k sz i off),[])
 | .ifc t y => some (σ.put o.dst (.ifc t y),[])
 | .fn (.func f) first caps => some (σ.put o.dst (.fn (.func f) first caps),[])
 | _ => none
theorem xW {P : Program} {I : Pr} {σ σ' : DSt} {o : Oper} {x : Operand} {gs : List G} (ho : o.op = .nilCheck x) (h : rP σ o x = some (σ',gs)) : Good P I σ o σ' gs := by
 unfold rP at h
 split at h <;> first
  | (rename_i he
     simp only [Option.some.injEq,Prod.mk.injEq] at h; obtain ⟨rfl,rfl⟩ := h
     refine a6 (fun hs => by have := hs.dev x; rw [he] at this; exact this) fun ρ hs hok _ => ⟨⟨[],[]⟩,[],?_,trivial⟩
     simp [aop,ho,tr,kz,aA,he,DV.v])
  | cases h
end Go.TL
namespace Go.TL
theorem gN {σ : DSt} (hs : σ.sc) {l : Nat} {e : TypeId} (h : lk σ.tys l = some e) : l < σ.nx := by
 have : ∀ {t : List (Nat × TypeId)},lk t l = some e → (l,e) ∈ t := by
  intro t
  induction t with
  | nil => intro h; simp [lk] at h
  | cons x r ih =>
   obtain ⟨j,y⟩ := x
   intro h
   simp only [lk] at h
   cases hb : Nat.beq j l with
   | true => simp only [hb,Option.some.injEq] at h; subst h; rw [Nat.eq_of_beq_eq_true hb]; exact List.mem_cons_self ..
   | false => simp only [hb] at h; exact List.mem_cons_of_mem _ (ih h)
 exact hs.tys l e (this h)
def gO (l : Nat) (R : ij) : List Lin := (R.rz.ax (-1) (Lin.at (4 * l + 2))).aD 1 :: R.lin
def inR (i : Lin) (l : Nat) : List G := [.le (Lin.scale (-1) i),.le ((i.ax (-1) (Lin.at (4 * l + 1))).aD 1)]
theorem Ah {I : Pr} {ρ : Ro} {i : Lin} {l : Nat} (h : gsV I ρ (inR i l)) : 0 ≤ i.v ρ ∧ i.v ρ < ((ρ l).l.length : Int) := by
 simp only [inR,gsV,G.v,Lin.aT,Lin.aB,Lin.aZ,Lin.aW,cJ] at h
 omega
structure Pa (P : Program) (I : Pr) (σ : DSt) (l : Nat) (i : Lin) (R : ij) (ρ ρ' : Ro) : Prop where
 ag : ao σ.nx ρ ρ'
 g : Gok ρ'
 tys : cb P ρ' R.tys
 lin : aR ρ' (gO l R)
 row : (ρ l).l[(i.v ρ).toNat]? = some (ak ρ' R.cells)
 pf : bQ I ρ' [.row l i R.cells]
theorem xX {P : Program} {I : Pr} {σ : DSt} {l : Nat} {i : Lin} {e : TypeId} {R : ij} {ρ : Ro} (hs : σ.sc) (hok : σ.ok P I ρ) (hl : lk σ.tys l = some e) (hi : Sc σ.nx i.vars)
  (hR : eM (cks P e) σ.nx = some R) (h0 : 0 ≤ i.v ρ) (h1 : i.v ρ < ((ρ l).l.length : Int)) : ∃ ρ',Pa P I σ l i R ρ ρ' := by
 have hlt : (i.v ρ).toNat < (ρ l).l.length := by omega
 have hty := c7 hok.tys hl
 have hmem : (ρ l).l[(i.v ρ).toNat] ∈ (ρ l).l := List.getElem_mem hlt
 obtain ⟨ρ',hr⟩ := nX (P := P) (cks P e) σ.nx R _ ρ hR (hty.2 _ hmem) hok.g
 have hget : (ρ l).l[(i.v ρ).toNat]? = some (ak ρ' R.cells) := by rw [hr.cells]; simp [hlt]
 have hl' : ρ' l = ρ l := hr.ag l (gN hs hl)
 refine ⟨ρ',hr.ag,hr.g,hr.tys,⟨?_,hr.lin⟩,hget,⟨?_,?_⟩,trivial⟩
 ·have h2 := AY hmem
  rw [Lin.aB,Lin.aZ,Lin.aW,c9,hl',hr.rz]; omega
 ·rw [Lin.ag hr.ag hi]; exact h0
 ·rw [Lin.ag hr.ag hi,hl']; exact hget
theorem xY {σ : DSt} {R : ij} (h : Af σ.nx R) : σ.nx + (R.nx - σ.nx) = R.nx := by have := h.le; omega
theorem rQ {σ : DSt} {l : Nat} {R : ij} (hs : Af σ.nx R) (hl : l < σ.nx) : ∀ e ∈ gO l R,Sc R.nx e.vars := by
 intro e he
 simp only [gO,List.mem_cons] at he
 rcases he with rfl | he
 ·have := hs.le; exact Lin.aX (Lin.aw hs.rz (Lin.aS (by omega)))
 ·exact hs.lin e he
theorem vX {σ : DSt} {l : Nat} {i : Lin} {R : ij} (hs : Af σ.nx R) (hl : l < σ.nx) (hi : Sc σ.nx i.vars) : fT (σ.nx + (R.nx - σ.nx)) R.tys (gO l R) [.row l i R.cells] := by
 rw [xY hs]
 have hle := hs.le
 refine ⟨hs.tys,rQ hs hl,?_⟩
 intro f hf
 simp only [List.mem_singleton] at hf; subst hf
 simp only [PF.vars,Sc.cons,Sc.app]
 exact ⟨Nat.lt_of_lt_of_le hl hle,hi.mono hle,hs.cells⟩
def FL (P : Program) (σ : DSt) (o : Oper) (t : TypeId) (x : Operand) : DR :=
 match dev σ x with
 | .ptr k off => match lk σ.tab k with
  | some (.box _ cells) => match eE P t off cells with
   | some v => some (σ.put o.dst v,[])
   | none => none
  | _ => none
 | .pd row off fr => match eE P t off (fJ fr row) with
  | some v => some (σ.put o.dst v,[])
  | none => none
 | .vptr k sz i off => match lk σ.tab k,o.dst with
  | some (.vec _ sz' (some l) fr),some _ => match lk σ.tys l,Nat.beq sz sz' with
   | some e,true => match eM (cks P e) σ.nx with
    | some R => match eE P t off (fJ fr R.cells) with
     | some v => some ((σ.grow (R.nx - σ.nx) R.tys (gO l R) [.row l i R.cells]).put o.dst v,inR i l)
     | none => none
    | none => none
   | _,_ => none
  | _,_ => none
 | _ => none
theorem uO {P : Program} {H : Hint} {s : St} {o : Oper} {t : TypeId} {x : Operand} (ho : o.op = .load t x) :
  aop P H s o = match ev s x with | .vptr _ _ _ _ => nt (fL P H s o t x) | _ => tr (fL P H s o t x) := by
 unfold aop
 simp only [ho]
 cases ev s x <;> rfl
theorem da {ρ : Ro} {σ : DSt} {k : Nat} {x : DO} (h : lk σ.tab k = some x) : lk (σ.v ρ).tab k = some (x.v ρ) := by
 simp [DSt.v,cO,h]
theorem FM {P : Program} {I : Pr} {σ σ' : DSt} {o : Oper} {t : TypeId} {x : Operand} {gs : List G} (ho : o.op = .load t x) (h : FL P σ o t x = some (σ',gs)) : Good P I σ o σ' gs := by
 unfold FL at h
 split at h
 ·rename_i k off he
  split at h
  ·rename_i bt cells hk
   split at h
   ·rename_i v hv
    simp only [Option.some.injEq,Prod.mk.injEq] at h; obtain ⟨rfl,rfl⟩ := h
    refine a6 (fun hs => gL (by have := hs.tab k _ hk; simpa [DO.vars] using this) hv) fun ρ hs hok _ => ⟨⟨[],[]⟩,[],?_,trivial⟩
    have e1 : ev (σ.v ρ) x = .ptr k off := by rw [aA,he]; simp [DV.v]
    rw [uO ho,e1]
    simp [fL,e1,da hk,DO.v,gv,hv,tr]
   ·cases h
  ·cases h
 ·rename_i row off fr he
  split at h
  ·rename_i v hv
   simp only [Option.some.injEq,Prod.mk.injEq] at h; obtain ⟨rfl,rfl⟩ := h
   refine a6 (fun hs => gL (pM (by have := hs.dev x; rw [he] at this; simpa [DV.vars] using this)) hv) fun ρ hs hok _ => ⟨⟨[],[]⟩,[],?_,trivial⟩
   have e1 : ev (σ.v ρ) x = .pd (ak ρ row) off fr := by rw [aA,he]; simp [DV.v]
   rw [uO ho,e1]
   simp [fL,e1,sT,gv,hv,tr]
  ·cases h
 ·rename_i k sz i off he
  split at h
  ·rename_i e' sz' l fr d hk hd
   split at h
   ·rename_i e hl hsz
    split at h
    ·rename_i R hR
     split at h
     ·rename_i v hv
      simp only [Option.some.injEq,Prod.mk.injEq] at h; obtain ⟨rfl,rfl⟩ := h
      have hRs := lp _ _ _ hR
      have hisc : σ.sc → Sc σ.nx i.vars := fun hs => by have := hs.dev x; rw [he] at this; simpa [DV.vars] using this
      refine jl (fun hs => by rw [xY hRs]; exact gL (pM hRs.cells) hv) (fun hs => vX hRs (gN hs hl) (hisc hs)) ?_
      intro ρ hs hok hg
      obtain ⟨g0,g1⟩ := Ah hg
      obtain ⟨ρ',hn⟩ := xX hs hok hl (hisc hs) hR g0 g1
      refine ⟨ρ',hn.ag,hn.g,hn.tys,hn.lin,hn.pf,⟨[(d,ak ρ' R.cells)],[]⟩,[(ρ l).l[(i.v ρ).toNat]? = some (ak ρ' R.cells)],?_,⟨hn.row,trivial⟩⟩
      have e1 : ev (σ.v ρ) x = .vptr k sz (i.v ρ).toNat off := by rw [aA,he]; simp [DV.v]
      rw [uO ho,e1]
      simp [fL,e1,da hk,DO.v,lvV,hd,lk,sT,gv,hv,hsz,nt]
     ·cases h
    ·cases h
   ·cases h
  ·cases h
 ·cases h
def j0 (i : Lin) : G := .le (Lin.scale (-1) i)
def fW (l : Nat) (i : Lin) : List PF → Option (List DP)
 | [] => none
 | .row l' i' cells :: r => match Nat.beq l l',i.beq i' with
  | true,true => some cells
  | _,_ => fW l i r
 | _ :: r => fW l i r
theorem uP {I : Pr} {ρ : Ro} {l : Nat} {i : Lin} {cells : List DP} : ∀ {fs : List PF},bQ I ρ fs → fW l i fs = some cells → 0 ≤ i.v ρ ∧ (ρ l).l[(i.v ρ).toNat]? = some (ak ρ cells)
 | [],_,h => by simp [fW] at h
 | f :: r,hp,h => by
  cases f with
  | row l' i' c =>
   simp only [fW] at h
   split at h
   ·rename_i h1 h2
    simp only [Option.some.injEq] at h; subst h
    rw [Nat.eq_of_beq_eq_true h1,Lin.beq_eq h2]
    exact hp.1
   ·exact uP hp.2 h
  | _ => simp only [fW] at h; exact uP hp.2 h
theorem rR {n l : Nat} {i : Lin} {cells : List DP} : ∀ {fs : List PF},(∀ f ∈ fs,Sc n f.vars) → fW l i fs = some cells → Sc n (bf cells)
 | [],_,h => by simp [fW] at h
 | f :: r,hp,h => by
  have hr : ∀ f ∈ r,Sc n f.vars := fun f hf => hp f (List.mem_cons_of_mem _ hf)
  cases f with
  | row l' i' c =>
   simp only [fW] at h
   split at h
   ·simp only [Option.some.injEq] at h; subst h
    have := hp _ (List.mem_cons_self ..)
    simp only [PF.vars,Sc.cons,Sc.app] at this
    exact this.2.2
   ·exact rR hr h
  | _ => simp only [fW] at h; exact rR hr h
def eN : DV → Option (IntKind × Lin)
 | .p (.int k e) _ => some (k,e)
 | _ => none
theorem dA {ρ : Ro} {x : DV} {k : IntKind} {e : Lin} (h : eN x = some (k,e)) : isInt (x.v ρ) = some (k,e.v ρ) ∧ intOf (x.v ρ) = some (e.v ρ) := by
 unfold eN at h
 split at h
 ·simp only [Option.some.injEq,Prod.mk.injEq] at h; obtain ⟨rfl,rfl⟩ := h
  simp [DV.v,DP.v,isInt,intOf]
 ·cases h
theorem dt {n : Nat} {x : DV} {k : IntKind} {e : Lin} (h : eN x = some (k,e)) (hx : Sc n x.vars) : Sc n e.vars := by
 unfold eN at h
 split at h
 ·simp only [Option.some.injEq,Prod.mk.injEq] at h; obtain ⟨rfl,rfl⟩ := h
  simpa [DV.vars,DP.vars] using hx
 ·cases h
def pO (P : Program) (σ : DSt) (o : Oper) (t : TypeId) (x ix : Operand) : DR :=
 match eN (dev σ ix),o.dst with
 | some (_,n),some _ => match dev σ x,P.underlying t with
  | .p (.sl (some l)) fr,some (.slice e) => match lk σ.tys l,P.info? e with
   | some e',some i => match Nat.beq e e' with
    | true => match fW l n σ.prs with
     | some cells => match Nat.beq cells.length i.size with
      | true => some (σ.put o.dst (.pd cells 0 fr),[])
      | false => none
     | none => match eM (cks P e) σ.nx with
      | some R => match Nat.beq R.cells.length i.size with
       | true => some ((σ.grow (R.nx - σ.nx) R.tys (gO l R) [.row l n R.cells]).put o.dst (.pd R.cells 0 fr),inR n l)
       | false => none
      | none => none
    | false => none
   | _,_ => none
  | .vec k,some (.slice e) => match lk σ.tab k,P.info? e with
   | some (.vec _ sz (some l) _),some i => match Nat.beq sz i.size with
    | true => some (σ.put o.dst (.vptr k sz n 0),inR n l)
    | false => none
   | _,_ => none
  | .ptr k off,some (.array len e) => match P.info? e,n.t,n.c with
   | some i,[],.ofNat m => match Nat.ble (m + 1) len with
    | true => some (σ.put o.dst (.ptr k (off + m * i.size)),[])
    | false => none
   | _,_,_ => none
  | _,_ => none
 | _,_ => none
theorem mO {P : Program} {H : Hint} {s : St} {o : Oper} {t : TypeId} {x ix : Operand} (ho : o.op = .indexAddr t x ix) :
  aop P H s o = match ev s x with | .ptr _ _ => tr (cA P H s o t x ix) | _ => nt (cA P H s o t x ix) := by
 unfold aop
 simp only [ho]
 cases ev s x <;> rfl
theorem vY {P : Program} {I : Pr} {σ σ' : DSt} {o : Oper} {t : TypeId} {x ix : Operand} {gs : List G} (ho : o.op = .indexAddr t x ix) (h : pO P σ o t x ix = some (σ',gs)) : Good P I σ o σ' gs := by
 unfold pO at h
 split at h
 ·rename_i kk n d hn hd
  have hnsc : σ.sc → Sc σ.nx n.vars := fun hs => dt hn (hs.dev ix)
  have hiv : ∀ ρ,intOf (ev (σ.v ρ) ix) = some (n.v ρ) := fun ρ => by rw [aA]; exact (dA hn).2
  split at h
  ·rename_i l fr e he hu
   have e1 : ∀ ρ,ev (σ.v ρ) x = .p (.sl (ρ l).l) fr := fun ρ => by rw [aA,he]; simp [DV.v,DP.v,lvV]
   split at h
   ·rename_i e' i hl hi
    split at h
    ·rename_i hee
     have := Nat.eq_of_beq_eq_true hee; subst this
     split at h
     ·rename_i cells hold
      split at h
      ·rename_i hlen
       simp only [Option.some.injEq,Prod.mk.injEq] at h; obtain ⟨rfl,rfl⟩ := h
       refine a6 (fun hs => by simpa [DV.vars] using rR hs.prs hold) fun ρ hs hok _ => ?_
       obtain ⟨h0,h1⟩ := uP hok.prs hold
       refine ⟨⟨[(d,ak ρ cells)],[]⟩,[0 ≤ n.v ρ ∧ (ρ l).l[(n.v ρ).toNat]? = some (ak ρ cells)],?_,⟨⟨h0,h1⟩,trivial⟩⟩
       rw [mO ho,e1]
       simp [cA,hiv,hd,e1,hu,lk,hi,dh,hlen,nt,DV.v]
      ·cases h
     ·split at h
      ·rename_i R hR
       split at h
       ·rename_i hlen
        simp only [Option.some.injEq,Prod.mk.injEq] at h; obtain ⟨rfl,rfl⟩ := h
        have hRs := lp _ _ _ hR
        refine jl (fun hs => by rw [xY hRs]; simpa [DV.vars] using hRs.cells) (fun hs => vX hRs (gN hs hl) (hnsc hs)) ?_
        intro ρ hs hok hg
        obtain ⟨g0,g1⟩ := Ah hg
        obtain ⟨ρ',hw⟩ := xX hs hok hl (hnsc hs) hR g0 g1
        refine ⟨ρ',hw.ag,hw.g,hw.tys,hw.lin,hw.pf,⟨[(d,ak ρ' R.cells)],[]⟩,[0 ≤ n.v ρ ∧ (ρ l).l[(n.v ρ).toNat]? = some (ak ρ' R.cells)],?_,⟨⟨g0,hw.row⟩,trivial⟩⟩
        rw [mO ho,e1]
        simp [cA,hiv,hd,e1,hu,lk,hi,dh,hlen,nt,DV.v]
       ·cases h
      ·cases h
    ·cases h
   ·cases h
  ·rename_i k e he hu
   have e1 : ∀ ρ,ev (σ.v ρ) x = .vec k := fun ρ => by rw [aA,he]; simp [DV.v]
   split at h
   ·rename_i et sz l fr i hk hi
    split at h
    ·rename_i hsz
     simp only [Option.some.injEq,Prod.mk.injEq] at h; obtain ⟨rfl,rfl⟩ := h
     refine a6 (fun hs => by simpa [DV.vars] using hnsc hs) fun ρ hs hok hg => ?_
     obtain ⟨g0,g1⟩ := Ah hg
     refine ⟨⟨[],[]⟩,[0 ≤ n.v ρ ∧ n.v ρ < ((ρ l).l.length : Int)],?_,⟨⟨g0,g1⟩,trivial⟩⟩
     rw [mO ho,e1]
     simp [cA,hiv,hd,e1,hu,da hk,DO.v,lvV,hi,hsz,nt,DV.v]
    ·cases h
   ·cases h
  ·rename_i k off len e he hu
   have e1 : ∀ ρ,ev (σ.v ρ) x = .ptr k off := fun ρ => by rw [aA,he]; simp [DV.v]
   split at h
   ·rename_i i m hi ht hc
    split at h
    ·rename_i hm
     simp only [Option.some.injEq,Prod.mk.injEq] at h; obtain ⟨rfl,rfl⟩ := h
     refine a6 (fun hs => by simp [DV.vars,Sc.nil]) fun ρ hs hok hg => ⟨⟨[],[]⟩,[],?_,trivial⟩
     have hv : n.v ρ = Int.ofNat m := by unfold Lin.v; rw [ht,hc]; simp [bO]
     rw [mO ho,e1]
     simp [cA,hiv,hv,hd,e1,hu,hi,nC,hm,tr,DV.v]
    ·cases h
   ·cases h
  ·cases h
 ·cases h
end Go.TL
