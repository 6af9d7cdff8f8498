/- What is left to prove; a state taken for an instance of another. -/
import Derived.Test.YtaaimmmofkldbaaWl18
namespace Go.TL
structure Seq where
  tys : List (Nat × TypeId)
  lin : List Lin
  prs : List PF
  goal : G
def Seq.valid (P : Program) (I : Pr) (s : Seq) : Prop := ∀ ρ, Gok ρ → tysV P ρ s.tys → linsV ρ s.lin → prsV I ρ s.prs → s.goal.v I ρ
def Valid (P : Program) (I : Pr) (l : List Seq) : Prop := ∀ s ∈ l, s.valid P I
theorem Valid.app {P : Program} {I : Pr} {a b : List Seq} : Valid P I (a ++ b) ↔ Valid P I a ∧ Valid P I b := by
  unfold Valid; simp only [List.mem_append]
  exact ⟨fun h => ⟨fun s hs => h s (.inl hs), fun s hs => h s (.inr hs)⟩, fun h s hs => hs.elim (h.1 s) (h.2 s)⟩
theorem Valid.nil {P : Program} {I : Pr} : Valid P I [] := by intro s hs; simp at hs
def pfEq : PF → PF → Bool
  | .pr id a, .pr id' a' => Nat.beq id id' && leDO.natsEq a a'
  | .tru f, .tru g => f.beq g
  | .sub s a lo hi, .sub s' a' lo' hi' => (Nat.beq s s' && Nat.beq a a') && (lo.beq lo' && hi.beq hi')
  | .row l i c, .row l' i' c' => (Nat.beq l l' && i.beq i') && rowEq c c'
  | .app l a b, .app l' a' b' => Nat.beq l l' && (lvEq a a' && lvEq b b')
  | _, _ => false
theorem pfEq_eq {a b : PF} (h : pfEq a b = true) : a = b := by
  unfold pfEq at h
  split at h
  · simp only [Bool.and_eq_true] at h; rw [Nat.eq_of_beq_eq_true h.1, natsEq_eq h.2]
  · rw [BF.beq_eq h]
  · simp only [Bool.and_eq_true] at h; rw [Nat.eq_of_beq_eq_true h.1.1, Nat.eq_of_beq_eq_true h.1.2, Lin.beq_eq h.2.1, Lin.beq_eq h.2.2]
  · simp only [Bool.and_eq_true] at h; rw [Nat.eq_of_beq_eq_true h.1.1, Lin.beq_eq h.1.2, rowEq_eq h.2]
  · simp only [Bool.and_eq_true] at h; rw [Nat.eq_of_beq_eq_true h.1, lvEq_eq h.2.1, lvEq_eq h.2.2]
  · cases h
def pfMem (f : PF) : List PF → Bool
  | [] => false
  | g :: r => match pfEq f g with | true => true | false => pfMem f r
theorem pfMem_v {I : Pr} {ρ : Ro} {f : PF} : ∀ {l : List PF}, pfMem f l = true → prsV I ρ l → f.v I ρ
  | g :: r, h, hv => by
    simp only [pfMem] at h
    split at h
    · rename_i h1; rw [pfEq_eq h1]; exact hv.1
    · exact pfMem_v h hv.2
def negLin (e : Lin) : Lin := (Lin.scale (-1) e).addc 1
def decB (σ : DSt) : BF → Option Bool
  | .lit b => some b
  | .le e => match provesLe σ e with
    | true => some true
    | false => match provesLe σ (negLin e) with | true => some false | false => none
  | .not f => match decB σ f with | some b => some (!b) | none => none
  | .eq e => match provesLe σ e, provesLe σ (Lin.scale (-1) e) with
    | true, true => some true
    | true, false => match provesLe σ (e.addc 1) with
      | true => some false
      | false => match pfMem (.tru (.not (.eq e))) σ.prs with | true => some false | false => none
    | false, true => match provesLe σ (negLin e) with
      | true => some false
      | false => match pfMem (.tru (.not (.eq e))) σ.prs with | true => some false | false => none
    | false, false => match pfMem (.tru (.eq e)) σ.prs with
      | true => some true
      | false => match pfMem (.tru (.not (.eq e))) σ.prs with | true => some false | false => none
  | f => match pfMem (.tru f) σ.prs with
    | true => some true
    | false => match pfMem (.tru (.not f)) σ.prs with | true => some false | false => none
theorem decB_v {P : Program} {I : Pr} {σ : DSt} {ρ : Ro} (hok : σ.ok P I ρ) : ∀ {f : BF} {b : Bool}, decB σ f = some b → f.v ρ = b
  | .lit c, b, h => by simp only [decB, Option.some.injEq] at h; subst h; rfl
  | .le e, b, h => by
    simp only [decB] at h
    split at h
    · rename_i hp
      simp only [Option.some.injEq] at h; subst h
      have := provesLe_v hok hp; simp [BF.v, this]
    · split at h
      · rename_i hp
        simp only [Option.some.injEq] at h; subst h
        have := provesLe_v hok hp
        simp only [negLin, Lin.addc_v, Lin.scale_v] at this
        simp only [BF.v, decide_eq_false_iff_not]; omega
      · cases h
  | .not f, b, h => by
    simp only [decB] at h
    split at h
    · rename_i c hc
      simp only [Option.some.injEq] at h; subst h
      simp only [BF.v, decB_v hok hc]
    · cases h
  | .var k, b, h => by
    simp only [decB] at h
    split at h
    · rename_i hp
      simp only [Option.some.injEq] at h; subst h
      exact pfMem_v hp hok.prs
    · split at h
      · rename_i hp
        simp only [Option.some.injEq] at h; subst h
        have := pfMem_v hp hok.prs
        simpa [PF.v, BF.v] using this
      · cases h
  | .eq e, b, h => by
    have neg : ∀ c, (match pfMem (.tru (.not (.eq e))) σ.prs with | true => some false | false => none) = some c → (BF.eq e).v ρ = c := by
      intro c h
      split at h
      · rename_i hp
        simp only [Option.some.injEq] at h; subst h
        have := pfMem_v hp hok.prs
        simpa [PF.v, BF.v] using this
      · cases h
    simp only [decB] at h
    split at h
    · rename_i h1 h2
      simp only [Option.some.injEq] at h; subst h
      have a1 := provesLe_v hok h1
      have a2 := provesLe_v hok h2
      rw [Lin.scale_v] at a2
      simp only [BF.v, decide_eq_true_eq]; omega
    · split at h
      · rename_i h1
        simp only [Option.some.injEq] at h; subst h
        have a1 := provesLe_v hok h1
        rw [Lin.addc_v] at a1
        simp only [BF.v, decide_eq_false_iff_not]; omega
      · exact neg b h
    · split at h
      · rename_i h1
        simp only [Option.some.injEq] at h; subst h
        have a1 := provesLe_v hok h1
        simp only [negLin, Lin.addc_v, Lin.scale_v] at a1
        simp only [BF.v, decide_eq_false_iff_not]; omega
      · exact neg b h
    · split at h
      · rename_i hp
        simp only [Option.some.injEq] at h; subst h
        exact pfMem_v hp hok.prs
      · exact neg b h
  | .and f g, b, h => by
    simp only [decB] at h
    split at h
    · rename_i hp
      simp only [Option.some.injEq] at h; subst h
      exact pfMem_v hp hok.prs
    · split at h
      · rename_i hp
        simp only [Option.some.injEq] at h; subst h
        have := pfMem_v hp hok.prs
        simp only [PF.v, BF.v] at this ⊢
        exact (Bool.not_eq_true' _).mp this
      · cases h
  | .or f g, b, h => by
    simp only [decB] at h
    split at h
    · rename_i hp
      simp only [Option.some.injEq] at h; subst h
      exact pfMem_v hp hok.prs
    · split at h
      · rename_i hp
        simp only [Option.some.injEq] at h; subst h
        have := pfMem_v hp hok.prs
        simp only [PF.v, BF.v] at this ⊢
        exact (Bool.not_eq_true' _).mp this
      · cases h
def truG (σ : DSt) : PF → Bool
  | .tru f => match decB σ f with | some true => true | _ => false
  | _ => false
theorem truG_v {P : Program} {I : Pr} {σ : DSt} {ρ : Ro} (hok : σ.ok P I ρ) {f : PF} (h : truG σ f = true) : f.v I ρ := by
  unfold truG at h
  split at h
  · split at h
    · rename_i hd; exact decB_v hok hd
    · cases h
  · cases h
def solveG (σ : DSt) : G → Bool
  | .le e => provesLe σ e
  | .pf f => match pfMem f σ.prs with | true => true | false => truG σ f
def todo (σ : DSt) : List G → List Seq
  | [] => []
  | g :: r => match solveG σ g with
    | true => todo σ r
    | false => ⟨σ.tys, σ.lin, σ.prs, g⟩ :: todo σ r
theorem todo_v {P : Program} {I : Pr} {σ : DSt} {ρ : Ro} (hok : σ.ok P I ρ) : ∀ {gs : List G}, Valid P I (todo σ gs) → gsV I ρ gs
  | [], _ => trivial
  | g :: r, h => by
    simp only [todo] at h
    split at h
    · rename_i hs
      refine ⟨?_, todo_v hok h⟩
      cases g with
      | le e => exact provesLe_v hok hs
      | pf f =>
        simp only [solveG] at hs
        split at hs
        · rename_i hm; exact pfMem_v hm hok.prs
        · exact truG_v hok hs
    · exact ⟨h _ (List.mem_cons_self ..) ρ hok.g hok.tys hok.lin hok.prs, todo_v hok fun s hs => h s (List.mem_cons_of_mem _ hs)⟩
mutual
theorem rn_id : ∀ x : SV, SV.rn (fun k => k) x = x
  | .vec _ => by simp [SV.rn]
  | .ptr _ _ => by simp [SV.rn]
  | .vptr _ _ _ _ => by simp [SV.rn]
  | .ref _ => by simp [SV.rn]
  | .agg xs => by simp only [SV.rn, rns_id xs]
  | .tup xs => by simp only [SV.rn, rns_id xs]
  | .fn f first caps => by simp only [SV.rn, rns_id first, rns_id caps]
  | .ifc t x => by simp only [SV.rn, rn_id x]
  | .u => by simp [SV.rn]
  | .p _ _ => by simp [SV.rn]
  | .pd _ _ _ => by simp [SV.rn]
  | .pc _ _ => by simp [SV.rn]
theorem rns_id : ∀ x : List SV, rns (fun k => k) x = x
  | [] => by simp [rns]
  | x :: xs => by simp only [rns, rn_id x, rns_id xs]
end
theorem orn_id (o : OV) : OV.rn (fun k => k) o = o := by cases o <;> simp [OV.rn, rns_id]
theorem rnTab_id : ∀ T : Tab, rnTab (fun k => k) T = T
  | [] => rfl
  | (k, x) :: r => by simp only [rnTab, orn_id, rnTab_id r]
def slotsSi (θ : Th) : DSlots → DSlots
  | [] => []
  | (t, x) :: r => (t, x.inst θ (fun k => k)) :: slotsSi θ r
theorem lk_slotsSi (θ : Th) : ∀ (l : DSlots) (t : Nat), lk (slotsSi θ l) t = (lk l t).map fun x => x.inst θ (fun k => k)
  | [], _ => rfl
  | (j, x) :: r, t => by simp only [slotsSi, lk]; cases Nat.beq j t <;> simp [lk_slotsSi θ r t]
theorem lk_tabInst {θ : Th} : ∀ {l T : DTab}, tabInst θ (fun k => k) l = some T → ∀ k, (∀ x, lk l k = some x → ∃ y, lk T k = some y ∧ x.inst θ (fun k => k) = some y) ∧ (lk l k = none → lk T k = none)
  | [], T, h, k => by simp only [tabInst, Option.some.injEq] at h; subst h; exact ⟨by simp [lk], fun _ => rfl⟩
  | (j, z) :: r, T, h, k => by
    simp only [tabInst] at h
    split at h
    · rename_i y r' h1 h2
      simp only [Option.some.injEq] at h; subst h
      simp only [lk]
      cases Nat.beq j k with
      | true => exact ⟨fun x hx => by simp only [Option.some.injEq] at hx; subst hx; exact ⟨y, rfl, h1⟩, by simp⟩
      | false => exact lk_tabInst h2 k
    · cases h
def thGe (n : Nat) : Th → Bool
  | [] => true
  | (k, _) :: r => match Nat.ble n k with | true => thGe n r | false => false
theorem thGe_ag {n : Nat} {ρ : Ro} : ∀ {θ : Th}, thGe n θ = true → Agree n ρ (ap ρ θ) := by
  intro θ h k hk
  have : lk θ k = none := by
    induction θ with
    | nil => rfl
    | cons p r ih =>
      obtain ⟨j, t⟩ := p
      simp only [thGe] at h
      split at h
      · rename_i hj
        have := Nat.le_of_ble_eq_true hj
        simp only [lk]
        cases hb : Nat.beq j k with
        | true => have := Nat.eq_of_beq_eq_true hb; omega
        | false => exact ih h
      · cases h
  simp only [ap, this]
def linGs (θ : Th) : List Lin → List G
  | [] => []
  | e :: r => .le (e.si θ) :: linGs θ r
def prGs (θ : Th) : List PF → Option (List G)
  | [] => some []
  | f :: r => match f.inst θ, prGs θ r with
    | some g, some gs => some (.pf g :: gs)
    | _, _ => none
theorem linGs_v {I : Pr} {ρ : Ro} {θ : Th} : ∀ {l : List Lin}, gsV I ρ (linGs θ l) → linsV (ap ρ θ) l
  | [], _ => trivial
  | e :: r, h => ⟨by have := h.1; simp only [G.v, Lin.si_v] at this; exact this, linGs_v h.2⟩
theorem prGs_v {I : Pr} {ρ : Ro} {θ : Th} : ∀ {l : List PF} {gs : List G}, prGs θ l = some gs → gsV I ρ gs → prsV I (ap ρ θ) l
  | [], _, _, _ => trivial
  | f :: r, gs, h, hv => by
    simp only [prGs] at h
    split at h
    · rename_i g gs' h1 h2
      simp only [Option.some.injEq] at h; subst h
      exact ⟨(PF.inst_v I ρ θ h1).1 hv.1, prGs_v h2 hv.2⟩
    · cases h
def keysOf {α : Type} : List (Nat × α) → List Nat
  | [] => []
  | (k, _) :: r => k :: keysOf r
theorem mem_keysOf {α : Type} : ∀ {l : List (Nat × α)} {k : Nat}, k ∈ keysOf l → lk l k ≠ none
  | (j, x) :: r, k, h => by
    simp only [lk]
    cases hb : Nat.beq j k with
    | true => simp
    | false =>
      simp only [keysOf, List.mem_cons] at h
      rcases h with rfl | h
      · simp [Nat.beq_refl] at hb
      · exact mem_keysOf h
theorem pick_mem {α : Type} (l : List (Nat × α)) : ∀ (ks : List Nat) (t : Nat), lk (pick l ks) t ≠ none → t ∈ ks
  | [], t, h => by simp [pick, lk] at h
  | k :: ks, t, h => by
    simp only [pick] at h
    split at h
    · simp only [lk] at h
      cases hb : Nat.beq k t with
      | true => rw [Nat.eq_of_beq_eq_true hb]; exact List.mem_cons_self ..
      | false => simp only [hb] at h; exact List.mem_cons_of_mem _ (pick_mem l ks t h)
    · exact List.mem_cons_of_mem _ (pick_mem l ks t h)
def core (n0 : Nat) (σ T : DSt) (θ : Th) : Option (List G) :=
  match thGe n0 θ, thOk θ, tysInst θ σ.tys T.tys, prGs θ T.prs with
  | true, some g1, true, some g2 => match leSlots σ.slots (slotsSi θ T.slots), tabInst θ (fun k => k) T.tab with
    | true, some tb => match leTab σ.tab tb with
      | true => some (g1 ++ (linGs θ T.lin ++ g2))
      | false => none
    | _, _ => none
  | _, _, _, _ => none
structure CoreOk (P : Program) (I : Pr) (J : Ex) (n n0 : Nat) (σ T : DSt) (ρ ρ' : Ro) : Prop where
  ag : Agree n0 ρ ρ'
  g : Gok ρ'
  tys : tysV P ρ' T.tys
  lin : linsV ρ' T.lin
  prs : prsV I ρ' T.prs
  imp : Imp P n (σ.v J ρ) (T.v J ρ')
theorem core_ok {P : Program} {I : Pr} {J : Ex} {n n0 : Nat} {σ T : DSt} {θ : Th} {gs : List G} {ρ : Ro} (h : core n0 σ T θ = some gs) (hkeys : ∀ k, lk σ.tab k ≠ none → lk T.tab k ≠ none) (hok : σ.ok P I ρ) (hv : gsV I ρ gs) :
    CoreOk P I J n n0 σ T ρ (ap ρ θ) := by
  unfold core at h
  split at h
  · rename_i g1 g2 h1 h2 h3 h4
    split at h
    · rename_i tb h5 h6
      split at h
      · rename_i h7
        simp only [Option.some.injEq] at h; subst h
        rw [gsV_app, gsV_app] at hv
        refine ⟨thGe_ag h1, ap_gok hok.g h2 hv.1, tysInst_v hok.tys h3, linGs_v hv.2.1, prGs_v h4 hv.2.2, ?_⟩
        refine imp_less ?_ ?_ ?_
        · intro t b hl
          simp only [DSt.v, lk_slotsV] at hl ⊢
          cases hq : lk T.slots t with
          | none => simp [hq] at hl
          | some y =>
            simp only [hq, Option.map_some, Option.some.injEq] at hl; subst hl
            obtain ⟨x, hx, hle⟩ := leSlots_lk h5 t (y.inst θ (fun k => k)) (by rw [lk_slotsSi, hq]; rfl)
            refine ⟨x.v ρ, by rw [hx]; rfl, fun w E lo v hr => ?_⟩
            have := leDV_v (ρ := ρ) hle hr
            rw [inst_v, rn_id] at this; exact this
        · intro k b hl
          simp only [DSt.v, lk_tabV] at hl ⊢
          cases hq : lk T.tab k with
          | none => simp [hq] at hl
          | some y =>
            simp only [hq, Option.map_some, Option.some.injEq] at hl; subst hl
            obtain ⟨y', hy1, hy2⟩ := (lk_tabInst h6 k).1 y hq
            obtain ⟨x, hx, hle⟩ := leTab_lk h7 k y' hy1
            refine ⟨x.v J ρ, by rw [hx]; rfl, fun w E lo hr => ?_⟩
            have := leDO_v (J := J) (ρ := ρ) hle hr
            rw [DO.inst_v J ρ θ _ hy2, orn_id] at this; exact this
        · intro k hk
          simp only [DSt.v, lk_tabV] at hk ⊢
          have : lk σ.tab k ≠ none := by intro e; rw [e] at hk; simp at hk
          have := hkeys k this
          cases hq : lk T.tab k with
          | none => exact absurd hq this
          | some y => simp
      · cases h
    · cases h
  · cases h
def isVar (e : Lin) : Option Nat :=
  match isZ e.c, e.t with
  | true, [(a, c)] => match isOne c, Nat.beq (a % 4) 0 with | true, true => some (a / 4) | _, _ => none
  | _, _ => none
def mkTm (e : Lin) : Tm := match isVar e with | some j => .v j | none => .i e
def bindT (n0 k : Nat) (tm : Tm) (θ : Th) : Th :=
  match Nat.ble n0 k with
  | true => match lk θ k with | some _ => θ | none => (k, tm) :: θ
  | false => θ
def colDP (n0 : Nat) : DP → DP → Th → Th
  | .int _ e, .int _ e', θ => match isVar e with | some k => bindT n0 k (mkTm e') θ | none => θ
  | .bl (.var k), .bl f, θ => bindT n0 k (match f with | .var j => .v j | f => .b f) θ
  | .st (.var k), .st e, θ => bindT n0 k (match e with | .var j => .v j | e => .s e) θ
  | .sl (some k), .sl l, θ => bindT n0 k (match l with | some j => .v j | none => .l none) θ
  | .sl (some k), .nl, θ => bindT n0 k (.l none) θ
  | .raw k, .raw j, θ => bindT n0 k (.v j) θ
  | _, _, θ => θ
def colRow (n0 : Nat) : List DP → List DP → Th → Th
  | x :: xs, y :: ys, θ => colRow n0 xs ys (colDP n0 x y θ)
  | _, _, θ => θ
def colLV (n0 : Nat) : LV → LV → Th → Th
  | some k, some j, θ => bindT n0 k (.v j) θ
  | some k, none, θ => bindT n0 k (.l none) θ
  | none, _, θ => θ
mutual
def colDV (n0 : Nat) : DV → DV → Th → Th
  | .p x _, y, θ => match y with
    | .p y _ => colDP n0 x y θ
    | .pc l _ => match x with | .sl k => colLV n0 k l θ | _ => θ
    | _ => θ
  | .vptr _ _ i _, y, θ => match y with
    | .vptr _ _ i' _ => (match isVar i with | some k => bindT n0 k (mkTm i') θ | none => θ)
    | _ => θ
  | .pd r _ _, y, θ => match y with | .pd r' _ _ => colRow n0 r r' θ | _ => θ
  | .pc l _, y, θ => match y with | .pc l' _ => colLV n0 l l' θ | _ => θ
  | .agg xs, y, θ => match y with | .agg ys => colDVs n0 xs ys θ | _ => θ
  | .tup xs, y, θ => match y with | .tup ys => colDVs n0 xs ys θ | _ => θ
  | .fn _ a b, y, θ => match y with | .fn _ c d => colDVs n0 b d (colDVs n0 a c θ) | _ => θ
  | .ifc _ x, y, θ => match y with | .ifc _ y => colDV n0 x y θ | _ => θ
  | .rp k _, y, θ => match y with | .rp j _ => bindT n0 k (.v j) θ | _ => θ
  | .u, _, θ => θ
  | .ptr _ _, _, θ => θ
  | .vec _, _, θ => θ
  | .ref _, _, θ => θ
def colDVs (n0 : Nat) : List DV → List DV → Th → Th
  | x :: xs, ys, θ => match ys with | y :: ys => colDVs n0 xs ys (colDV n0 x y θ) | [] => θ
  | [], _, θ => θ
end
def colNats (n0 : Nat) : List Nat → List Nat → Th → Th
  | k :: r, j :: s, θ => colNats n0 r s (bindT n0 k (.v j) θ)
  | _, _, θ => θ
def colDO (n0 : Nat) : DO → DO → Th → Th
  | .box _ xs, .box _ ys, θ => colDVs n0 xs ys θ
  | .vec _ _ l _, .vec _ _ l' _, θ => colLV n0 l l' θ
  | .ex _ a, .ex _ b, θ => colNats n0 a b θ
  | _, _, θ => θ
def colSlots (n0 : Nat) (S : DSlots) : DSlots → Th → Th
  | [], θ => θ
  | (t, x) :: r, θ => match lk S t with
    | some y => colSlots n0 S r (colDV n0 x y θ)
    | none => colSlots n0 S r θ
def colTab (n0 : Nat) (S : DTab) : DTab → Th → Th
  | [], θ => θ
  | (t, x) :: r, θ => match lk S t with
    | some y => colTab n0 S r (colDO n0 x y θ)
    | none => colTab n0 S r θ
def findEnd (a : Nat) (lo hi : Lin) : List PF → Option Nat
  | [] => none
  | .sub s a' lo' hi' :: r => match Nat.beq a a', lo.beq lo', hi.beq hi' with
    | true, true, true => some s
    | _, _, _ => findEnd a lo hi r
  | _ :: r => findEnd a lo hi r
def colPrs (n0 : Nat) (S : List PF) : List PF → Th → Th
  | [], θ => θ
  | .sub s a lo hi :: r, θ => match vidx θ a with
    | some a' => match findEnd a' (lo.si θ) (hi.si θ) S with
      | some s' => colPrs n0 S r (bindT n0 s (.v s') θ)
      | none => colPrs n0 S r θ
    | none => colPrs n0 S r θ
  | _ :: r, θ => colPrs n0 S r θ
def coIn (c : Co) : List Co → Bool
  | [] => false
  | d :: r => match c, d with
    | .fz k, .fz k' => Nat.beq k k' || coIn c r
    | .rn k _, .rn k' _ => Nat.beq k k' || coIn c r
    | .nil t _ _ _, .nil t' _ _ _ => Nat.beq t t' || coIn c r
    | .cell k j _ _ _, .cell k' j' _ _ _ => (Nat.beq k k' && Nat.beq j j') || coIn c r
    | _, _ => coIn c r
def coAdd (c : Co) (l : List Co) : List Co := match coIn c l with | true => l | false => l ++ [c]
def coBox (S : DTab) (k : Nat) : List DV → List Co → List Co
  | [], l => coAdd (.fz k) l
  | .vec j :: r, l => coBox S k r (coAdd (.fz j) l)
  | _ :: r, l => coBox S k r l
mutual
def coDV (H S : DTab) (t : Option Nat) : DV → DV → List Co → List Co
  | .p x _, y, l => match x, y with
    | .sl _, .vec k => coAdd (.fz k) l
    | _, _ => l
  | .pc _ _, y, l => match y with | .vec k => coAdd (.fz k) l | _ => l
  | .pd _ _ _, y, l => match y with
    | .ptr k _ => (match lk S k with | some (.box _ cells) => coBox S k cells l | _ => l)
    | _ => l
  | .vec K, y, l => match y with
    | .p .nl _ => (match t, lk H K with | some t, some (.vec e sz _ _) => coAdd (.nil t K e sz) l | _, _ => l)
    | .vec k => (match Nat.beq k K with | true => l | false => coAdd (.rn k K) l)
    | _ => l
  | .ptr K _, y, l => match y with
    | .ptr k _ => (match Nat.beq k K with | true => l | false => coAdd (.rn k K) l)
    | _ => l
  | .agg xs, y, l => match y with | .agg ys => coDVs H S xs ys l | _ => l
  | .tup xs, y, l => match y with | .tup ys => coDVs H S xs ys l | _ => l
  | .fn _ _ b, y, l => match y with | .fn _ _ d => coDVs H S b d l | _ => l
  | .ifc _ x, y, l => match y with | .ifc _ y => coDV H S none x y l | _ => l
  | .u, _, l => l
  | .vptr _ _ _ _, _, l => l
  | .ref _, _, l => l
  | .rp _ _, _, l => l
def coDVs (H S : DTab) : List DV → List DV → List Co → List Co
  | x :: xs, ys, l => match ys with | y :: ys => coDVs H S xs ys (coDV H S none x y l) | [] => l
  | [], _, l => l
end
def coSlots (H S : DTab) (Sl : DSlots) : DSlots → List Co → List Co
  | [], l => l
  | (t, x) :: r, l => match lk Sl t with
    | some y => coSlots H S Sl r (coDV H S (some t) x y l)
    | none => coSlots H S Sl r l
def coCells (H S : DTab) (k : Nat) : Nat → List DV → List DV → List Co → List Co
  | j, x :: xs, y :: ys, l => coCells H S k (j + 1) xs ys (match x, y with
    | .vec K, .p .nl _ => (match lk H K with | some (.vec e sz _ _) => coAdd (.cell k j K e sz) l | _ => l)
    | x, y => coDV H S none x y l)
  | _, _, _, l => l
def coTab (H S : DTab) : DTab → List Co → List Co
  | [], l => l
  | (k, x) :: r, l => match x, lk S k with
    | .box _ xs, some (.box _ ys) => coTab H S r (coCells H S k 0 xs ys l)
    | _, _ => coTab H S r l
def intoK (n0 : Nat) (σ2 T : DSt) (θ : Th) (ex : Th → List G) : Option (List Seq) :=
  match core n0 σ2 T θ with
  | some gs => some (todo σ2 (gs ++ ex θ))
  | none => none
def intoX (n n0 : Nat) (σ T : DSt) (ex : Th → List G) : Option (List Seq) :=
  match σ.cos n (coTab T.tab σ.tab T.tab (coSlots T.tab σ.tab σ.slots T.slots [])) with
  | none => none
  | some σ1 => match σ1.keep (keysOf T.slots) (keysOf T.tab) with
    | σ2 => intoK n0 σ2 T (colPrs n0 σ2.prs T.prs (colTab n0 σ2.tab T.tab (colSlots n0 σ2.slots T.slots []))) ex
def into (n : Nat) (σ0 σ T : DSt) : Option (List Seq) := intoX n σ0.nx σ T fun _ => []
theorem intoX_ok {P : Program} {I : Pr} {J : Ex} {n n0 : Nat} {σ T : DSt} {ex : Th → List G} {seqs : List Seq} (h : intoX n n0 σ T ex = some seqs) (hV : Valid P I seqs) :
    ∀ ρ, σ.ok P I ρ → ∃ θ, CoreOk P I J n n0 σ T ρ (ap ρ θ) ∧ gsV I ρ (ex θ) := by
  unfold intoX at h
  split at h
  · cases h
  · rename_i σ1 h1
    simp only at h
    generalize colPrs n0 _ _ _ = θ at h
    unfold intoK at h
    split at h
    · rename_i gs hc
      simp only [Option.some.injEq] at h; subst h
      intro ρ hok
      have c1 := cos_co (P := P) (J := J) h1
      have c2 := keep_co (P := P) (J := J) (n := n) (keysOf T.slots) (keysOf T.tab) σ1
      have hok2 := c2.ok (c1.ok hok)
      have hk : ∀ k, lk (σ1.keep (keysOf T.slots) (keysOf T.tab)).tab k ≠ none → lk T.tab k ≠ none := fun k hk => mem_keysOf (pick_mem _ _ _ hk)
      have hg := gsV_app.1 (todo_v hok2 hV)
      have r := core_ok (J := J) (n := n) hc hk hok2 hg.1
      exact ⟨_, ⟨r.ag, r.g, r.tys, r.lin, r.prs, ((c1.imp ρ).trans (c2.imp ρ)).trans r.imp⟩, hg.2⟩
    · cases h
theorem into_ok {P : Program} {I : Pr} {J : Ex} {n : Nat} {σ0 σ T : DSt} {seqs : List Seq} (h : into n σ0 σ T = some seqs) (hV : Valid P I seqs) :
    ∀ ρ, σ.ok P I ρ → ∃ ρ', CoreOk P I J n σ0.nx σ T ρ ρ' := fun ρ hok => by
  obtain ⟨θ, h1, _⟩ := intoX_ok (J := J) h hV ρ hok
  exact ⟨_, h1⟩
end Go.TL
namespace Go.TL
structure GOk (P : Program) (I : Pr) (J : Ex) (σ σ' : DSt) : Prop where
  sc : σ.sc → σ'.sc
  nx : σ.nx ≤ σ'.nx
  run : σ.sc → ∀ ρ, σ.ok P I ρ → ∃ ρ', Agree σ.nx ρ ρ' ∧ σ'.ok P I ρ' ∧ Same (σ.v J ρ) (σ'.v J ρ')
theorem GOk.refl {P : Program} {I : Pr} {J : Ex} {σ : DSt} : GOk P I J σ σ := ⟨id, Nat.le_refl _, fun _ ρ hok => ⟨ρ, Agree.refl _ _, hok, Same.refl _⟩⟩
theorem Same.trans {s s' s'' : St} (h : Same s s') (k : Same s' s'') : Same s s'' := ⟨fun t => (h.slots t).trans (k.slots t), fun t => (h.tab t).trans (k.tab t)⟩
theorem GOk.trans {P : Program} {I : Pr} {J : Ex} {σ σ1 σ2 : DSt} (h : GOk P I J σ σ1) (k : GOk P I J σ1 σ2) : GOk P I J σ σ2 := by
  refine ⟨fun hs => k.sc (h.sc hs), Nat.le_trans h.nx k.nx, ?_⟩
  intro hs ρ hok
  obtain ⟨ρ1, a1, o1, s1⟩ := h.run hs ρ hok
  obtain ⟨ρ2, a2, o2, s2⟩ := k.run (h.sc hs) ρ1 o1
  exact ⟨ρ2, a1.trans a2 h.nx, o2, s1.trans s2⟩
theorem grow1_ok {P : Program} {I : Pr} {J : Ex} {σ : DSt} {e : TypeId} {lin : List Lin} {prs : List PF} (hg : σ.sc → GrowSc (σ.nx + 1) [(σ.nx, e)] lin prs)
    (h : σ.sc → ∀ ρ, σ.ok P I ρ → ∃ l : List (List PV), TyRows P e l ∧ ∀ ρ', Agree σ.nx ρ ρ' → (ρ' σ.nx).l = l → linsV ρ' lin ∧ prsV I ρ' prs) : GOk P I J σ (σ.grow 1 [(σ.nx, e)] lin prs) := by
  refine ⟨fun hs => hs.grow (hg hs), Nat.le_succ _, ?_⟩
  intro hs ρ hok
  obtain ⟨l, hl, hr⟩ := h hs ρ hok
  let ρ' : Ro := fun k => if k = σ.nx then vaL l else ρ k
  have ha : Agree σ.nx ρ ρ' := fun k hk => by simp only [ρ']; rw [if_neg (by omega)]
  have hvl : (ρ' σ.nx).l = l := by simp only [ρ', if_true]; rfl
  have hgk : Gok ρ' := by
    have key : ∀ k, VaOk (ρ' k) := by
      intro k
      simp only [ρ']
      split
      · exact vaL_ok hl.1
      · exact ⟨hok.g.lo k, hok.g.hi k, hok.g.st k, hok.g.ln k, hok.g.on k⟩
    exact ⟨fun k => (key k).lo, fun k => (key k).hi, fun k => (key k).st, fun k => (key k).ln, fun k => (key k).on⟩
  obtain ⟨h1, h2⟩ := hr ρ' ha hvl
  exact ⟨ρ', ha, hok.grow hs ha hgk ⟨by rw [hvl]; exact hl, trivial⟩ h1 h2, DSt.same_ag hs ha⟩
def gopen (σ : DSt) (l : Nat) : DSt :=
  match lk σ.tys l, Nat.ble (l + 1) σ.nx with
  | some e, true => σ.grow 1 [(σ.nx, e)] [(Lin.at (4 * σ.nx + 1)).ax (-1) (Lin.at (4 * l + 1)), (Lin.at (4 * l + 1)).ax (-1) (Lin.at (4 * σ.nx + 1)), (Lin.at (4 * σ.nx + 2)).ax (-1) (Lin.at (4 * l + 2)), (Lin.at (4 * l + 2)).ax (-1) (Lin.at (4 * σ.nx + 2))]
      [.sub σ.nx l (Lin.lit 0) (Lin.at (4 * l + 1))]
  | _, _ => σ
theorem gopen_ok {P : Program} {I : Pr} {J : Ex} {σ : DSt} {l : Nat} : GOk P I J σ (gopen σ l) := by
  unfold gopen
  split
  · rename_i e he hl
    have hl' := Nat.le_of_ble_eq_true hl
    have q : ∀ t, t < 4 → (4 * l + t) / 4 < σ.nx + 1 := fun t ht => by omega
    have q' : ∀ t, t < 4 → (4 * σ.nx + t) / 4 < σ.nx + 1 := fun t ht => by omega
    refine grow1_ok ?_ ?_
    · intro hs
      refine ⟨by simp, ?_, ?_⟩
      · intro x hx
        simp only [List.mem_cons, List.mem_nil_iff, or_false] at hx
        rcases hx with rfl | rfl | rfl | rfl
        · exact Lin.ax_sc (Lin.at_sc (q' 1 (by omega))) (Lin.at_sc (q 1 (by omega)))
        · exact Lin.ax_sc (Lin.at_sc (q 1 (by omega))) (Lin.at_sc (q' 1 (by omega)))
        · exact Lin.ax_sc (Lin.at_sc (q' 2 (by omega))) (Lin.at_sc (q 2 (by omega)))
        · exact Lin.ax_sc (Lin.at_sc (q 2 (by omega))) (Lin.at_sc (q' 2 (by omega)))
      · intro x hx
        simp only [List.mem_singleton] at hx; subst hx
        simp only [PF.vars, Sc.cons, Sc.app]
        exact ⟨by omega, by omega, Lin.lit_sc, Lin.at_sc (q 1 (by omega))⟩
    · intro hs ρ hok
      refine ⟨(ρ l).l, tysV_lk hok.tys he, ?_⟩
      intro ρ' ha hl2
      have hll : (ρ' l).l = (ρ l).l := by rw [ha l hl']
      simp only [linsV, Lin.ax_v, Lin.at_v, atomV1, atomV2, hl2, hll, prsV, PF.v, Lin.lit_v]
      refine ⟨⟨by omega, by omega, by omega, by omega, trivial⟩, ?_, trivial⟩
      simp
  · exact GOk.refl
def plainRow : List DP → Bool
  | [] => true
  | .cst _ :: _ => false
  | .raw _ :: _ => false
  | _ :: r => plainRow r
theorem drz_plain {ρ : Ro} (hg : Gok ρ) : ∀ {xs : List DP}, plainRow xs = true → (drz xs).v ρ = (rz (rowV ρ xs) : Int)
  | [], _ => by simp [drz, rowV, rz, Lin.lit_v]
  | x :: xs, h => by
    have hr : plainRow xs = true := by cases x <;> first | exact h | (simp [plainRow] at h)
    have hx : (∀ v, x = .cst v → ∀ s, v ≠ .string s) ∧ ∀ k, x ≠ .raw k := by cases x <;> first | (simp [plainRow] at h; done) | simp
    simp only [drz, rowV, rz_cons, Lin.ax_v, Lin.add_v, dpz_v hg x hx.1 hx.2, drz_plain hg hr]
    omega
def findSub (l : Nat) (i : Lin) : List PF → Option (Nat × Lin)
  | [] => none
  | .sub s a lo hi :: r => match Nat.beq a l, lo.beq i with
    | true, true => some (s, hi)
    | _, _ => findSub l i r
  | _ :: r => findSub l i r
theorem findSub_v {I : Pr} {ρ : Ro} {l : Nat} {i : Lin} {s : Nat} {hi : Lin} : ∀ {r : List PF}, findSub l i r = some (s, hi) → prsV I ρ r → (PF.sub s l i hi).v I ρ ∧ PF.sub s l i hi ∈ r
  | .sub s' a lo hi' :: r, h, hv => by
    simp only [findSub] at h
    split at h
    · rename_i h1 h2
      simp only [Option.some.injEq, Prod.mk.injEq] at h; obtain ⟨rfl, rfl⟩ := h
      have := Nat.eq_of_beq_eq_true h1; subst this
      have := Lin.beq_eq h2; subst this
      exact ⟨hv.1, List.mem_cons_self ..⟩
    · have := findSub_v h hv.2; exact ⟨this.1, List.mem_cons_of_mem _ this.2⟩
  | .row _ _ _ :: r, h, hv => by have := findSub_v (r := r) h hv.2; exact ⟨this.1, List.mem_cons_of_mem _ this.2⟩
  | .app _ _ _ :: r, h, hv => by have := findSub_v (r := r) h hv.2; exact ⟨this.1, List.mem_cons_of_mem _ this.2⟩
  | .lit _ _ :: r, h, hv => by have := findSub_v (r := r) h hv.2; exact ⟨this.1, List.mem_cons_of_mem _ this.2⟩
  | .set _ _ _ _ :: r, h, hv => by have := findSub_v (r := r) h hv.2; exact ⟨this.1, List.mem_cons_of_mem _ this.2⟩
  | .tru _ :: r, h, hv => by have := findSub_v (r := r) h hv.2; exact ⟨this.1, List.mem_cons_of_mem _ this.2⟩
  | .cat _ _ _ :: r, h, hv => by have := findSub_v (r := r) h hv.2; exact ⟨this.1, List.mem_cons_of_mem _ this.2⟩
  | .pr _ _ :: r, h, hv => by have := findSub_v (r := r) h hv.2; exact ⟨this.1, List.mem_cons_of_mem _ this.2⟩
def gstep (σ : DSt) : DSt :=
  match σ.prs with
  | .row l i cells :: rest => match findSub l i rest, findSub l (i.addc 1) rest with
    | some (s, hi), none => match lk σ.tys l, provesLe σ ((i.ax (-1) hi).addc 1), plainRow cells with
      | some e, true, true => σ.grow 1 [(σ.nx, e)]
          [(((Lin.at (4 * s + 2)).ax (-1) (Lin.at (4 * σ.nx + 2))).ax (-1) (drz cells)).addc (-1), ((((Lin.at (4 * σ.nx + 2)).ax 1 (drz cells)).ax (-1) (Lin.at (4 * s + 2))).addc 1),
           ((Lin.at (4 * s + 1)).ax (-1) (Lin.at (4 * σ.nx + 1))).addc (-1), (((Lin.at (4 * σ.nx + 1)).ax (-1) (Lin.at (4 * s + 1))).addc 1)]
          [.sub σ.nx l (i.addc 1) hi]
      | _, _, _ => σ
    | _, _ => σ
  | _ => σ
theorem gstep_ok {P : Program} {I : Pr} {J : Ex} {σ : DSt} : GOk P I J σ (gstep σ) := by
  unfold gstep
  split
  · rename_i l i cells rest hp
    split
    · rename_i s hi hf _
      split
      · rename_i e he hlt hpl
        have q' : ∀ t, t < 4 → (4 * σ.nx + t) / 4 < σ.nx + 1 := fun t ht => by omega
        refine grow1_ok ?_ ?_
        · intro hs
          have h1 := hs.prs (.row l i cells) (by rw [hp]; simp)
          have h2 : PF.sub s l i hi ∈ rest := by
            have : ∀ r : List PF, findSub l i r = some (s, hi) → PF.sub s l i hi ∈ r := by
              intro r
              induction r with
              | nil => intro h; simp [findSub] at h
              | cons f r ih =>
                intro h
                cases f with
                | sub s' a lo hi' =>
                  simp only [findSub] at h
                  split at h
                  · rename_i g1 g2
                    simp only [Option.some.injEq, Prod.mk.injEq] at h; obtain ⟨rfl, rfl⟩ := h
                    rw [Nat.eq_of_beq_eq_true g1, Lin.beq_eq g2]; exact List.mem_cons_self ..
                  · exact List.mem_cons_of_mem _ (ih h)
                | _ => exact List.mem_cons_of_mem _ (ih h)
            exact this rest hf
          have h3 := hs.prs _ (by rw [hp]; exact List.mem_cons_of_mem _ h2)
          simp only [PF.vars, Sc.cons, Sc.app] at h1 h3
          have q : ∀ t, t < 4 → (4 * s + t) / 4 < σ.nx + 1 := fun t ht => by omega
          have hz := (drz_sc h1.2.2).mono (Nat.le_succ σ.nx)
          refine ⟨by simp, ?_, ?_⟩
          · intro x hx
            simp only [List.mem_cons, List.mem_nil_iff, or_false] at hx
            rcases hx with rfl | rfl | rfl | rfl
            · exact Lin.addc_sc (Lin.ax_sc (Lin.ax_sc (Lin.at_sc (q 2 (by omega))) (Lin.at_sc (q' 2 (by omega)))) hz)
            · exact Lin.addc_sc (Lin.ax_sc (Lin.ax_sc (Lin.at_sc (q' 2 (by omega))) hz) (Lin.at_sc (q 2 (by omega))))
            · exact Lin.addc_sc (Lin.ax_sc (Lin.at_sc (q 1 (by omega))) (Lin.at_sc (q' 1 (by omega))))
            · exact Lin.addc_sc (Lin.ax_sc (Lin.at_sc (q' 1 (by omega))) (Lin.at_sc (q 1 (by omega))))
          · intro x hx
            simp only [List.mem_singleton] at hx; subst hx
            simp only [PF.vars, Sc.cons, Sc.app]
            exact ⟨by omega, by omega, Lin.addc_sc (h1.2.1.mono (Nat.le_succ _)), h3.2.2.2.mono (Nat.le_succ _)⟩
        · intro hs ρ hok
          have hpv := hok.prs
          rw [hp] at hpv
          obtain ⟨hrow, hrest⟩ := hpv
          obtain ⟨hsub, hmem⟩ := findSub_v hf hrest
          have h1 := hs.prs (.row l i cells) (by rw [hp]; simp)
          have h3 := hs.prs _ (by rw [hp]; exact List.mem_cons_of_mem _ hmem)
          simp only [PF.vars, Sc.cons, Sc.app] at h1 h3
          simp only [PF.v] at hrow hsub
          have hlt' := provesLe_v hok hlt
          simp only [Lin.addc_v, Lin.ax_v] at hlt'
          refine ⟨((ρ l).l.take (hi.v ρ).toNat).drop ((i.v ρ).toNat + 1), (tysV_lk hok.tys he).sub _ _, ?_⟩
          intro ρ' ha hl2
          have hi1 : i.v ρ' = i.v ρ := Lin.ag ha h1.2.1
          have hi2 : hi.v ρ' = hi.v ρ := Lin.ag ha h3.2.2.2
          have hl1 : (ρ' l).l = (ρ l).l := by rw [ha l h1.1]
          have hs1 : (ρ' s).l = (ρ s).l := by rw [ha s h3.1]
          have hz1 : (drz cells).v ρ' = (rz (rowV ρ cells) : Int) := by rw [Lin.ag ha (drz_sc h1.2.2)]; exact drz_plain hok.g hpl
          have hcons : (ρ s).l = rowV ρ cells :: ((ρ l).l.take (hi.v ρ).toNat).drop ((i.v ρ).toNat + 1) := by
            rw [hsub]
            have hget : ((ρ l).l.take (hi.v ρ).toNat)[(i.v ρ).toNat]? = some (rowV ρ cells) := by
              rw [List.getElem?_take, if_pos (by omega)]; exact hrow.2
            obtain ⟨hlt2, heq⟩ := List.getElem?_eq_some_iff.1 hget
            rw [List.drop_eq_getElem_cons hlt2, heq]
          have hn : (i.v ρ + 1).toNat = (i.v ρ).toNat + 1 := by omega
          simp only [linsV, Lin.ax_v, Lin.addc_v, Lin.at_v, atomV1, atomV2, hl2, hl1, hs1, hz1, prsV, PF.v, hi1, hi2, hn, hcons, rsz_cons, List.length_cons]
          refine ⟨⟨by omega, by omega, by omega, by omega, trivial⟩, ?_, trivial⟩
          trivial
      · exact GOk.refl
    · exact GOk.refl
  · exact GOk.refl
end Go.TL
