/- What functions do, told by states; calls. -/
import Derived.Test.YtaaimmmofkldbaaWl21
import Derived.Laws.Small
namespace Go.TL
structure Post where
  nw : Nat
  tys : List (Nat × TypeId)
  lin : List Lin
  prs : List PF
  tab : DTab
  res : List DV
structure Spec where
  fn : Nat
  nv : Nat
  args : List DV
  tab : DTab
  tys : List (Nat × TypeId)
  lin : List Lin
  prs : List PF
  meas : Lin
  posts : List Post
def dslotsFrom : Nat → List DV → DSlots
  | _, [] => []
  | k, x :: xs => (k, x) :: dslotsFrom (k + 1) xs
theorem dslotsFrom_v (ρ : Ro) : ∀ (k : Nat) (l : List DV), slotsV ρ (dslotsFrom k l) = slotsFrom k (dvs ρ l)
  | _, [] => by simp [dslotsFrom, slotsV, dvs, slotsFrom]
  | k, x :: xs => by simp only [dslotsFrom, slotsV, dvs, slotsFrom, dslotsFrom_v ρ (k + 1) xs]
def Spec.pre (s : Spec) : DSt := ⟨dslotsFrom 0 s.args, s.tab, s.tys, s.lin, s.prs, s.nv, []⟩
def Post.st (p : Post) (nv : Nat) : DSt := ⟨dslotsFrom 0 p.res, p.tab, p.tys, p.lin, p.prs, nv + p.nw, []⟩
def dmk : List DV → DV
  | [x] => x
  | xs => .tup xs
def mk : List SV → SV
  | [x] => x
  | xs => .tup xs
theorem dmk_v (ρ : Ro) : ∀ l : List DV, (dmk l).v ρ = mk (dvs ρ l)
  | [] => by simp [dmk, mk, DV.v, dvs]
  | [x] => by simp [dmk, mk, dvs]
  | x :: y :: r => by simp [dmk, mk, DV.v, dvs]
def PostR (P : Program) (I : Pr) (J : Ex) (s : Spec) (ρ : Ro) : SV → Tab → Prop := fun r T' =>
  ∃ p ∈ s.posts, ∃ ρ', Agree s.nv ρ ρ' ∧ (p.st s.nv).ok P I ρ' ∧ r = (dmk p.res).v ρ' ∧ T' = tabV J ρ' p.tab
def SpecOkN (P : Program) (I : Pr) (J : Ex) (N : Nat) (s : Spec) : Prop := ∀ ρ, s.pre.ok P I ρ → (s.meas.v ρ).toNat < N → FnS P s.fn (dvs ρ s.args) (tabV J ρ s.tab) (PostR P I J s ρ)
def SpecOk (P : Program) (I : Pr) (J : Ex) (s : Spec) : Prop := ∀ ρ, s.pre.ok P I ρ → FnS P s.fn (dvs ρ s.args) (tabV J ρ s.tab) (PostR P I J s ρ)
def permL : List (Nat × Nat) → Nat → Nat
  | [], k => k
  | (a, b) :: r, k => permL r (sw a b k)
mutual
theorem rn_rn (π π' : Nat → Nat) : ∀ x : SV, SV.rn π' (SV.rn π x) = SV.rn (fun k => π' (π k)) x
  | .vec _ => by simp [SV.rn]
  | .ptr _ _ => by simp [SV.rn]
  | .vptr _ _ _ _ => by simp [SV.rn]
  | .ref _ => by simp [SV.rn]
  | .agg xs => by simp only [SV.rn, rns_rn π π' xs]
  | .tup xs => by simp only [SV.rn, rns_rn π π' xs]
  | .fn f first caps => by simp only [SV.rn, rns_rn π π' first, rns_rn π π' caps]
  | .ifc t x => by simp only [SV.rn, rn_rn π π' x]
  | .u => by simp [SV.rn]
  | .p _ _ => by simp [SV.rn]
  | .pd _ _ _ => by simp [SV.rn]
  | .pc _ _ => by simp [SV.rn]
theorem rns_rn (π π' : Nat → Nat) : ∀ x : List SV, rns π' (rns π x) = rns (fun k => π' (π k)) x
  | [] => by simp [rns]
  | x :: xs => by simp only [rns, rn_rn π π' x, rns_rn π π' xs]
end
theorem orn_rn (π π' : Nat → Nat) (o : OV) : OV.rn π' (OV.rn π o) = OV.rn (fun k => π' (π k)) o := by cases o <;> simp [OV.rn, rns_rn]
theorem rnTab_rn (π π' : Nat → Nat) : ∀ T : Tab, rnTab π' (rnTab π T) = rnTab (fun k => π' (π k)) T
  | [] => rfl
  | (k, x) :: r => by simp only [rnTab, orn_rn, rnTab_rn π π' r]
theorem FnS.sws {P : Program} {f : FuncId} : ∀ (l : List (Nat × Nat)) {args : List SV} {T : Tab} {R : SV → Tab → Prop}, FnS P f args T R →
    FnS P f (rns (permL l) args) (rnTab (permL l) T) fun r T' => ∃ r0 T0, R r0 T0 ∧ r = SV.rn (permL l) r0 ∧ T' = rnTab (permL l) T0
  | [], args, T, R, h => by
    have e : permL [] = fun k => k := rfl
    rw [e, rns_id, rnTab_id]
    exact h.mono fun r T' hR => ⟨r, T', hR, (rn_id r).symm, (rnTab_id T').symm⟩
  | (a, b) :: l, args, T, R, h => by
    have h1 := FnS.sws l (h.sw a b)
    rw [rns_rn, rnTab_rn] at h1
    refine h1.mono ?_
    rintro r T' ⟨r0, T0, ⟨r1, T1, hR, rfl, rfl⟩, rfl, rfl⟩
    exact ⟨r1, T1, hR, by rw [rn_rn]; rfl, by rw [rnTab_rn]; rfl⟩
theorem FnS.pre {P : Program} {g : FuncId} {T T2 : Tab} {R : SV → Tab → Prop} {args args2 : List SV} (hT : ∀ k b, lk T k = some b → ∃ a, lk T2 k = some a ∧ ∀ w E lo, OR w E lo k a → OR w E lo k b)
    (hk : ∀ k, lk T2 k ≠ none → lk T k ≠ none) (ha : ∀ w E lo vs, VRs w E lo args2 vs → VRs w E lo args vs) (h : FnS P g args T R) : FnS P g args2 T2 R := by
  intro lo w E vals hlo ht hv
  refine h lo w E vals hlo ⟨?_, ?_, ?_, ht.ext⟩ (ha _ _ _ _ hv)
  · intro k b hl
    obtain ⟨a, h1, h2⟩ := hT k b hl
    exact h2 _ _ _ (ht.obj k a h1)
  · intro k hn
    refine ht.dead k ?_
    cases hq : lk T2 k with
    | none => rfl
    | some x => exact absurd hn (hk k (by rw [hq]; simp))
  · intro b k hb
    obtain ⟨h1, h2, h3⟩ := ht.own b k hb
    exact ⟨h1, h2, hk k h3⟩
structure NilA where
  K : Nat
  e : TypeId
  sz : Nat
def nilTab : List NilA → DTab → DTab
  | [], T => T
  | a :: r, T => nilTab r ((a.K, .vec a.e a.sz none true) :: T)
def dnilAt (K : Nat) : List DV → List DV
  | [] => []
  | x :: xs => (match x with | .vec j => (match Nat.beq j K with | true => .p .nl true | false => .vec j) | x => x) :: dnilAt K xs
def dnilsAt : List NilA → List DV → List DV
  | [], l => l
  | a :: r, l => dnilAt a.K (dnilsAt r l)
def nilsB : List NilA → DTab → Bool
  | [], _ => true
  | a :: r, T => match (lk T a.K).isSome, Nat.ble 1 a.sz with
    | false, true => nilsB r ((a.K, .vec a.e a.sz none true) :: T)
    | _, _ => false
theorem dnilAt_v (ρ : Ro) (K : Nat) : ∀ l : List DV, dvs ρ (dnilAt K l) = nilAt K (dvs ρ l)
  | [] => by simp [dnilAt, dvs, nilAt]
  | x :: xs => by
    simp only [dnilAt, dvs, nilAt, dnilAt_v ρ K xs]
    congr 1
    cases x with
    | vec j => simp only [DV.v]; cases Nat.beq j K <;> simp [DV.v, DP.v]
    | _ => simp only [DV.v]
theorem FnS.nils {P : Program} {J : Ex} {ρ : Ro} {g : FuncId} {R : SV → Tab → Prop} : ∀ {l : List NilA} {T : DTab} {args : List DV}, nilsB l T = true → FnS P g (dvs ρ args) (tabV J ρ (nilTab l T)) R → FnS P g (dvs ρ (dnilsAt l args)) (tabV J ρ T) R
  | [], T, args, _, h => h
  | a :: r, T, args, hb, h => by
    simp only [nilsB] at hb
    split at hb
    · rename_i h1 h2
      have h3 := FnS.nils (l := r) hb h
      refine FnS.nilArg a.K a.e a.sz (dvs ρ (dnilsAt r args)) ?_ ?_ h2 h3
      · simp only [dnilsAt]; exact (dnilAt_v ρ a.K _).symm
      · rw [lk_tabV]; cases hq : lk T a.K with
        | none => rfl
        | some x => rw [hq] at h1; simp at h1
    · cases hb
def dcalleeOf (P : Program) (σ : DSt) (o : Oper) : Option (Nat × List DV) :=
  match o.op with
  | .call c => match c.callee with
    | .value f => match dev σ f with
      | .fn (.func g) first caps => some (g, apps first (apps (devs σ c.args.toList) caps))
      | _ => none
    | .invoke r m => match dev σ r with
      | .ifc t x => match methodOf P t m with
        | some g => some (g, x :: devs σ c.args.toList)
        | none => none
      | _ => none
    | _ => none
  | _ => none
theorem dvs_apps (ρ : Ro) : ∀ a b : List DV, dvs ρ (apps a b) = apps (dvs ρ a) (dvs ρ b)
  | [], b => by simp [apps, dvs]
  | x :: a, b => by simp only [apps, dvs, dvs_apps ρ a b]
theorem dcalleeOf_v {P : Program} {J : Ex} (ρ : Ro) {σ : DSt} {o : Oper} {g : Nat} {xs : List DV} (h : dcalleeOf P σ o = some (g, xs)) : calleeOf P (σ.v J ρ) o = some (g, dvs ρ xs) := by
  unfold dcalleeOf at h
  unfold calleeOf
  split at h
  · rename_i c hop
    split at h
    · rename_i f hcv
      split at h
      · rename_i g' first caps hf
        simp only [Option.some.injEq, Prod.mk.injEq] at h; obtain ⟨rfl, rfl⟩ := h
        simp only [hop, hcv, dev_v, hf, DV.v, dvs_apps, devs_v]
      · cases h
    · rename_i r m hcv
      split at h
      · rename_i t x hf
        split at h
        · rename_i g' hm
          simp only [Option.some.injEq, Prod.mk.injEq] at h; obtain ⟨rfl, rfl⟩ := h
          simp only [hop, hcv, dev_v, hf, DV.v, hm, dvs, devs_v]
        · cases h
      · cases h
    · cases h
  · cases h
mutual
def DV.inB (T : DTab) : DV → Bool
  | .vec j => (lk T j).isSome
  | .ptr j _ => (lk T j).isSome
  | .vptr j _ _ _ => (lk T j).isSome
  | .ref j => (lk T j).isSome
  | .agg xs => dinsB T xs
  | .tup xs => dinsB T xs
  | .fn _ first caps => match dinsB T first with | true => dinsB T caps | false => false
  | .ifc _ x => DV.inB T x
  | .u => true
  | .p _ _ => true
  | .pd _ _ _ => true
  | .pc _ _ => true
  | .rp _ _ => true
def dinsB (T : DTab) : List DV → Bool
  | [] => true
  | x :: xs => match DV.inB T x with | true => dinsB T xs | false => false
end
theorem lk_tab_some {J : Ex} {ρ : Ro} {T : DTab} {k : Nat} : (lk (tabV J ρ T) k).isSome = (lk T k).isSome := by rw [lk_tabV]; cases lk T k <;> rfl
mutual
theorem inB_v {J : Ex} {ρ : Ro} {T : DTab} : ∀ x : DV, (x.v ρ).inB (tabV J ρ T) = x.inB T
  | .vec j => by simp only [DV.v, SV.inB, DV.inB, lk_tab_some]
  | .ptr j _ => by simp only [DV.v, SV.inB, DV.inB, lk_tab_some]
  | .vptr j _ _ _ => by simp only [DV.v, SV.inB, DV.inB, lk_tab_some]
  | .ref j => by simp only [DV.v, SV.inB, DV.inB, lk_tab_some]
  | .agg xs => by simp only [DV.v, SV.inB, DV.inB, insB_v xs]
  | .tup xs => by simp only [DV.v, SV.inB, DV.inB, insB_v xs]
  | .fn _ first caps => by simp only [DV.v, SV.inB, DV.inB, insB_v first, insB_v caps]; rfl
  | .ifc _ x => by simp only [DV.v, SV.inB, DV.inB, inB_v x]
  | .u => by simp only [DV.v, SV.inB, DV.inB]
  | .p _ _ => by simp only [DV.v, SV.inB, DV.inB]
  | .pd _ _ _ => by simp only [DV.v, SV.inB, DV.inB]
  | .pc _ _ => by simp only [DV.v, SV.inB, DV.inB]
  | .rp _ _ => by simp only [DV.v, SV.inB, DV.inB]
theorem insB_v {J : Ex} {ρ : Ro} {T : DTab} : ∀ xs : List DV, insB (tabV J ρ T) (dvs ρ xs) = dinsB T xs
  | [] => by simp only [dvs, insB, dinsB]
  | x :: xs => by simp only [dvs, insB, dinsB, inB_v x, insB_v xs]; rfl
end
def dsubB (T0 : DTab) : DTab → Bool
  | [] => true
  | (_, .box _ cells) :: r => match dinsB T0 cells with | true => dsubB T0 r | false => false
  | _ :: r => dsubB T0 r
theorem subB_v {J : Ex} {ρ : Ro} {T0 : DTab} : ∀ r : DTab, subB (tabV J ρ T0) (tabV J ρ r) = dsubB T0 r
  | [] => rfl
  | (k, x) :: r => by cases x <;> simp only [tabV, DO.v, subB, dsubB, insB_v, subB_v r] <;> rfl
def dnewB (n : Nat) (T0 T : DTab) : DTab → Bool
  | [] => true
  | (k, _) :: r => match (lk T0 k).isSome, (lk T k).isSome, Nat.ble (k + 1) n with
    | true, _, _ => dnewB n T0 T r
    | false, false, true => dnewB n T0 T r
    | _, _, _ => false
theorem newB_v {J : Ex} {ρ ρ' : Ro} {n : Nat} {T0 T : DTab} : ∀ r : DTab, newB n (tabV J ρ T0) (tabV J ρ T) (tabV J ρ' r) = dnewB n T0 T r
  | [] => rfl
  | (k, x) :: r => by
    simp only [tabV, newB, dnewB, lk_tab_some, newB_v r]; rfl
def dgone (T' : DTab) : List Nat → List Nat
  | [] => []
  | k :: ks => match (lk T' k).isSome with | true => dgone T' ks | false => k :: dgone T' ks
theorem gone_v {J : Ex} {ρ : Ro} {T' : DTab} : ∀ ks : List Nat, gone (tabV J ρ T') ks = dgone T' ks
  | [] => rfl
  | k :: ks => by simp only [gone, dgone, lk_tab_some, gone_v ks]; rfl
theorem keys_v {J : Ex} {ρ : Ro} : ∀ T : DTab, keys (tabV J ρ T) = keysOf T
  | [] => rfl
  | (k, x) :: r => by simp only [tabV, keys, keysOf, keys_v r]
def dfzSlotsK : List Nat → DSlots → DSlots
  | [], l => l
  | k :: ks, l => dfzSlotsK ks (dfzSlots k .u (fun _ => .u) l)
def dfzTabK : List Nat → DTab → DTab
  | [], T => T
  | k :: ks, T => dfzTabK ks (dfzTab k .u (fun _ => .u) T)
theorem fzSlotsK_v (ρ : Ro) : ∀ (ks : List Nat) (l : DSlots), slotsV ρ (dfzSlotsK ks l) = fzSlotsK ks (slotsV ρ l)
  | [], l => rfl
  | k :: ks, l => by simp only [dfzSlotsK, fzSlotsK, fzSlotsK_v ρ ks, fzSlots_v, dVU]
theorem fzTabK_v (J : Ex) (ρ : Ro) : ∀ (ks : List Nat) (l : DTab), tabV J ρ (dfzTabK ks l) = fzTabK ks (tabV J ρ l)
  | [], l => rfl
  | k :: ks, l => by simp only [dfzTabK, fzTabK, fzTabK_v J ρ ks, fzTab_v, dVU]
theorem rmK_v (J : Ex) (ρ : Ro) : ∀ (ks : List Nat) (l : DTab), tabV J ρ (rmK ks l) = rmK ks (tabV J ρ l)
  | [], l => rfl
  | k :: ks, l => by simp only [rmK, rmK_v J ρ ks, rm_tabV]
theorem app_v (J : Ex) (ρ : Ro) : ∀ (a b : DTab), tabV J ρ (app a b) = app (tabV J ρ a) (tabV J ρ b)
  | [], b => rfl
  | (k, x) :: a, b => by simp only [app, tabV, app_v J ρ a b]
def daftS (T0 T' : DTab) (S : DSlots) : DSlots := dfzSlotsK (dgone T' (keysOf T0)) S
def daftT (T0 T' : DTab) (T : DTab) : DTab := app T' (dfzTabK (dgone T' (keysOf T0)) (rmK (keysOf T0) T))
theorem lk_fzSlotsK_same : ∀ (ks : List Nat) {a b : List (Nat × SV)}, (∀ t, lk a t = lk b t) → ∀ t, lk (fzSlotsK ks a) t = lk (fzSlotsK ks b) t
  | [], _, _, h => h
  | k :: ks, a, b, h => lk_fzSlotsK_same ks fun t => by rw [lk_fzSlots', lk_fzSlots', h t]
theorem lk_fzTabK_same : ∀ (ks : List Nat) {a b : Tab}, (∀ t, lk a t = lk b t) → ∀ t, lk (fzTabK ks a) t = lk (fzTabK ks b) t
  | [], _, _, h => h
  | k :: ks, a, b, h => lk_fzTabK_same ks fun t => by rw [lk_fzTab', lk_fzTab', h t]
theorem lk_rmK_same {α : Type} : ∀ (ks : List Nat) {a b : List (Nat × α)}, (∀ t, lk a t = lk b t) → ∀ t, lk (rmK ks a) t = lk (rmK ks b) t
  | [], _, _, h => h
  | k :: ks, a, b, h => lk_rmK_same ks fun t => by rw [lk_rm, lk_rm, h t]
theorem daftS_sc {n : Nat} : ∀ (ks : List Nat) {S : DSlots}, (∀ t v, lk S t = some v → Sc n v.vars) → ∀ t v, lk (dfzSlotsK ks S) t = some v → Sc n v.vars
  | [], _, h => h
  | k :: ks, S, h => daftS_sc ks fun t v hl => by
    rw [lk_dfzSlots] at hl
    cases hq : lk S t with
    | none => simp [hq] at hl
    | some x => simp only [hq, Option.map_some, Option.some.injEq] at hl; subst hl; exact Go.TL.fz_sc (by simp [DV.vars, Sc.nil]) (fun _ => by simp [DV.vars, Sc.nil]) (h t x hq)
theorem dfzTabK_sc {n : Nat} : ∀ (ks : List Nat) {S : DTab}, (∀ t v, lk S t = some v → Sc n v.vars) → ∀ t v, lk (dfzTabK ks S) t = some v → Sc n v.vars
  | [], _, h => h
  | k :: ks, S, h => dfzTabK_sc ks fun t v hl => by
    rw [lk_dfzTab] at hl
    cases hq : lk S t with
    | none => simp [hq] at hl
    | some x => simp only [hq, Option.map_some, Option.some.injEq] at hl; subst hl; exact DO.fz_sc (by simp [DV.vars, Sc.nil]) (fun _ => by simp [DV.vars, Sc.nil]) (h t x hq)
def Tm.vars : Tm → List Nat
  | .v k => [k]
  | .i e => e.vars
  | .b f => f.vars
  | .s e => e.vars
  | .l x => lvVars x
def tmsB (n : Nat) : Th → Bool
  | [] => true
  | (_, t) :: r => match scB n t.vars with | true => tmsB n r | false => false
theorem tmsB_lk {n : Nat} : ∀ {θ : Th}, tmsB n θ = true → ∀ k t, lk θ k = some t → Sc n t.vars
  | (j, t0) :: r, h, k, t, hl => by
    simp only [tmsB] at h
    split at h
    · rename_i h1
      simp only [lk] at hl
      cases hb : Nat.beq j k with
      | true => simp only [hb, Option.some.injEq] at hl; subst hl; exact scB_sc h1
      | false => simp only [hb] at hl; exact tmsB_lk h k t hl
    · cases h
def thAll (θ : Th) : Nat → Bool
  | 0 => true
  | n + 1 => match lk θ n with | some _ => thAll θ n | none => false
theorem thAll_lk {θ : Th} : ∀ {n : Nat}, thAll θ n = true → ∀ k, k < n → ∃ t, lk θ k = some t
  | n + 1, h, k, hk => by
    simp only [thAll] at h
    split at h
    · rename_i t ht
      by_cases e : k = n
      · subst e; exact ⟨t, ht⟩
      · exact thAll_lk h k (by omega)
    · cases h
theorem ap_ag {n : Nat} {ρ ρ2 : Ro} {θ : Th} (ha : Agree n ρ ρ2) (hs : tmsB n θ = true) {k : Nat} {t : Tm} (hl : lk θ k = some t) : ap ρ2 θ k = ap ρ θ k := by
  have h := tmsB_lk hs k t hl
  simp only [ap, hl]
  cases t <;> simp only [Tm.vars] at h
  case v j => exact ha j (Sc.cons.1 h).1
  case i e => simp only [Lin.ag ha h]
  case b f => simp only [BF.ag ha h]
  case s e => simp only [SE.ag ha h]
  case l l => simp only [lv_ag ha h]
def postTh (nv nx : Nat) : Nat → Th
  | 0 => []
  | w + 1 => (nv + w, .v (nx + w)) :: postTh nv nx w
theorem postTh_lk (nv nx : Nat) : ∀ (w k : Nat), lk (postTh nv nx w) k = if nv ≤ k ∧ k < nv + w then some (.v (nx + (k - nv))) else none
  | 0, k => by rw [if_neg (by omega)]; rfl
  | w + 1, k => by
    simp only [postTh, lk_cons, postTh_lk nv nx w k]
    by_cases e : k = nv + w
    · subst e; rw [if_pos rfl, if_pos ⟨by omega, by omega⟩]; congr 3; omega
    · rw [if_neg e]
      by_cases h : nv ≤ k ∧ k < nv + w
      · rw [if_pos h, if_pos ⟨h.1, by omega⟩]
      · rw [if_neg h, if_neg (by omega)]
theorem lk_append {α : Type} : ∀ (a b : List (Nat × α)) (k : Nat), lk (a ++ b) k = match lk a k with | some x => some x | none => lk b k
  | [], b, k => rfl
  | (j, x) :: a, b, k => by
    simp only [List.cons_append, lk]
    cases Nat.beq j k with
    | true => rfl
    | false => exact lk_append a b k
def backRo (nv nx w : Nat) (ρ ρ' : Ro) : Ro := fun k => if nx ≤ k ∧ k < nx + w then ρ' (nv + (k - nx)) else ρ k
theorem backRo_ag (nv nx w : Nat) (ρ ρ' : Ro) : Agree nx ρ (backRo nv nx w ρ ρ') := fun k hk => by unfold backRo; rw [if_neg (by omega)]
theorem backRo_ap {nv nx w : Nat} {ρ ρ' : Ro} {θ : Th} (ha : thAll θ nv = true) (hs : tmsB nx θ = true) (hag : Agree nv (ap ρ θ) ρ') : Agree (nv + w) (ap (backRo nv nx w ρ ρ') (postTh nv nx w ++ θ)) ρ' := by
  intro k hk
  by_cases h : k < nv
  · obtain ⟨t, ht⟩ := thAll_lk ha k h
    have e1 : lk (postTh nv nx w ++ θ) k = some t := by rw [lk_append, postTh_lk, if_neg (by omega)]; exact ht
    have e2 : ap (backRo nv nx w ρ ρ') (postTh nv nx w ++ θ) k = ap (backRo nv nx w ρ ρ') θ k := by simp only [ap, e1, ht]
    rw [e2, ap_ag (backRo_ag nv nx w ρ ρ') hs ht]; exact hag k h
  · have e1 : lk (postTh nv nx w ++ θ) k = some (.v (nx + (k - nv))) := by rw [lk_append, postTh_lk, if_pos (by omega)]
    simp only [ap, e1, backRo]
    rw [if_pos (by omega)]; congr 1; omega
theorem backRo_g {nv nx w : Nat} {ρ ρ' : Ro} (h : Gok ρ) (h' : Gok ρ') : Gok (backRo nv nx w ρ ρ') := by
  have key : ∀ k, backRo nv nx w ρ ρ' k = ρ' (nv + (k - nx)) ∨ backRo nv nx w ρ ρ' k = ρ k := fun k => by unfold backRo; split <;> simp
  constructor <;> intro k <;> rcases key k with e | e <;> rw [e]
  · exact h'.lo _
  · exact h.lo _
  · exact h'.hi _
  · exact h.hi _
  · exact h'.st _
  · exact h.st _
  · exact h'.ln _
  · exact h.ln _
  · exact h'.on _
  · exact h.on _
def tysPost (θ : Th) : List (Nat × TypeId) → List (Nat × TypeId)
  | [] => []
  | (k, e) :: r => match lvSi θ (some k) with
    | some j => (j, e) :: tysPost θ r
    | none => tysPost θ r
theorem tysPost_v {P : Program} {ρ : Ro} {θ : Th} : ∀ {l : List (Nat × TypeId)}, tysV P (ap ρ θ) l → tysV P ρ (tysPost θ l)
  | [], _ => trivial
  | (k, e) :: r, h => by
    simp only [tysPost]
    have hlv := lvSi_v ρ θ (some k)
    simp only [lvV] at hlv
    split
    · rename_i j hj
      rw [hj] at hlv
      exact ⟨by have := h.1; rw [← hlv] at this; exact this, tysPost_v h.2⟩
    · exact tysPost_v h.2
def linsPost (θ : Th) : List Lin → List Lin
  | [] => []
  | e :: r => e.si θ :: linsPost θ r
theorem linsPost_v {ρ : Ro} {θ : Th} : ∀ {l : List Lin}, linsV (ap ρ θ) l → linsV ρ (linsPost θ l)
  | [], _ => trivial
  | e :: r, h => ⟨by rw [Lin.si_v]; exact h.1, linsPost_v h.2⟩
def prsPost (θ : Th) : List PF → List PF
  | [] => []
  | f :: r => match f.inst θ with
    | some g => g :: prsPost θ r
    | none => prsPost θ r
theorem prsPost_v {I : Pr} {ρ : Ro} {θ : Th} : ∀ {l : List PF}, prsV I (ap ρ θ) l → prsV I ρ (prsPost θ l)
  | [], _ => trivial
  | f :: r, h => by
    simp only [prsPost]
    split
    · rename_i g hg; exact ⟨(PF.inst_v I ρ θ hg).2 h.1, prsPost_v h.2⟩
    · exact prsPost_v h.2
def Post.vars (p : Post) : List Nat := dvsVars p.res ++ (tabVars p.tab ++ (tysVars p.tys ++ (linsVars p.lin ++ prsVars p.prs)))
def callPost (n : Nat) (σ1 : DSt) (o : Oper) (T0 : DTab) (θ : Th) (π : Nat → Nat) (nv : Nat) (p : Post) : Option DSt :=
  let θp := postTh nv σ1.nx p.nw ++ θ
  let nx := σ1.nx + p.nw
  match tabInst θp π p.tab with
  | some T' =>
    let res := (dmk p.res).inst θp π
    let tys := tysPost θp p.tys
    let lin := linsPost θp p.lin
    let prs := prsPost θp p.prs
    match dnewB n T0 σ1.tab T', scB nx (res.vars ++ (tabVars T' ++ (tysVars tys ++ (linsVars lin ++ prsVars prs)))), scB (nv + p.nw) p.vars with
    | true, true, true => some (DSt.put ⟨daftS T0 T' σ1.slots, daftT T0 T' σ1.tab, tys ++ σ1.tys, lin ++ σ1.lin, prs ++ σ1.prs, nx, σ1.hc⟩ o.dst res)
    | _, _, _ => none
  | none => none
theorem tabV_ag {J : Ex} {n : Nat} {ρ ρ' : Ro} (h : Agree n ρ ρ') : ∀ {l : DTab}, Sc n (tabVars l) → tabV J ρ' l = tabV J ρ l
  | [], _ => rfl
  | (k, x) :: r, hs => by simp only [tabVars, Sc.app] at hs; simp only [tabV, DO.ag h hs.1, tabV_ag h hs.2]
theorem tysV_agl {P : Program} {n : Nat} {ρ ρ' : Ro} (h : Agree n ρ ρ') : ∀ {l : List (Nat × TypeId)}, Sc n (tysVars l) → tysV P ρ l → tysV P ρ' l
  | [], _, _ => trivial
  | (k, e) :: r, hs, hv => by
    simp only [tysVars, Sc.cons] at hs
    exact ⟨by rw [h k hs.1]; exact hv.1, tysV_agl h hs.2 hv.2⟩
theorem linsV_agl {n : Nat} {ρ ρ' : Ro} (h : Agree n ρ ρ') : ∀ {l : List Lin}, Sc n (linsVars l) → linsV ρ l → linsV ρ' l
  | [], _, _ => trivial
  | e :: r, hs, hv => by
    simp only [linsVars, Sc.app] at hs
    exact ⟨by rw [Lin.ag h hs.1]; exact hv.1, linsV_agl h hs.2 hv.2⟩
theorem prsV_agl {I : Pr} {n : Nat} {ρ ρ' : Ro} (h : Agree n ρ ρ') : ∀ {l : List PF}, Sc n (prsVars l) → prsV I ρ l → prsV I ρ' l
  | [], _, _ => trivial
  | e :: r, hs, hv => by
    simp only [prsVars, Sc.app] at hs
    exact ⟨by rw [PF.ag h hs.1]; exact hv.1, prsV_agl h hs.2 hv.2⟩
theorem dmk_vars (l : List DV) : (dmk l).vars = dvsVars l := by
  unfold dmk; split
  · simp [dvsVars]
  · simp [DV.vars]
theorem Agree.symm {n : Nat} {ρ ρ' : Ro} (h : Agree n ρ ρ') : Agree n ρ' ρ := fun k hk => (h k hk).symm
theorem callPost_ok {P : Program} {I : Pr} {J : Ex} {n nv : Nat} {σ1 σ' : DSt} {o : Oper} {T0 : DTab} {θ : Th} {π : Nat → Nat} {p : Post} (h : callPost n σ1 o T0 θ π nv p = some σ') (hs : σ1.sc) (hall : thAll θ nv = true) (htm : tmsB σ1.nx θ = true) :
    σ'.sc ∧ σ1.nx ≤ σ'.nx ∧ ∀ ρ ρ', σ1.ok P I ρ → Agree nv (ap ρ θ) ρ' → (p.st nv).ok P I ρ' →
      newB n (tabV J ρ T0) (σ1.v J ρ).tab (rnTab π (tabV J ρ' p.tab)) = true ∧
      ∃ ρ2, Agree σ1.nx ρ ρ2 ∧ σ'.ok P I ρ2 ∧ Same ((St.after (σ1.v J ρ) (tabV J ρ T0) (rnTab π (tabV J ρ' p.tab))).put o.dst (SV.rn π ((dmk p.res).v ρ'))) (σ'.v J ρ2) := by
  unfold callPost at h
  simp only at h
  split at h
  · rename_i T' hT'
    split at h
    · rename_i h1 h2 h3
      simp only [Option.some.injEq] at h; subst h
      have h2 := scB_sc h2
      have h3 := scB_sc h3
      simp only [Post.vars, Sc.app] at h2 h3
      have hnx : σ1.nx ≤ σ1.nx + p.nw := Nat.le_add_right _ _
      refine ⟨?_, by rw [dput_nx]; exact hnx, ?_⟩
      · refine DSt.sc.put ⟨?_, ?_, ?_, ?_, ?_⟩ o.dst h2.1
        · exact daftS_sc _ fun t v hl => (hs.slots t v hl).mono hnx
        · intro k v hl
          simp only [daftT] at hl
          rw [lk_app] at hl
          split at hl
          · rename_i x hx
            simp only [Option.some.injEq] at hl; subst hl
            exact tab_mem_sc h2.2.1 k x hx
          · exact dfzTabK_sc _ (fun t v hl => (hs.tab t v (lk_rmK _ _ _ _ hl).1).mono hnx) k v hl
        · intro k e he
          rcases List.mem_append.1 he with he | he
          · exact tys_mem_sc h2.2.2.1 k e he
          · exact Nat.lt_of_lt_of_le (hs.tys k e he) hnx
        · intro e he
          rcases List.mem_append.1 he with he | he
          · exact lins_mem_sc h2.2.2.2.1 e he
          · exact (hs.lin e he).mono hnx
        · intro e he
          rcases List.mem_append.1 he with he | he
          · exact prs_mem_sc h2.2.2.2.2 e he
          · exact (hs.prs e he).mono hnx
      · intro ρ ρ' hok hag hp
        have ha2 := backRo_ag nv σ1.nx p.nw ρ ρ'
        have hap := backRo_ap (w := p.nw) hall htm hag
        have hap' := hap.symm
        have hT2 : tabV J (backRo nv σ1.nx p.nw ρ ρ') T' = rnTab π (tabV J ρ' p.tab) := by
          rw [tabInst_v J _ _ π hT', tabV_ag hap' h3.2.1]
        refine ⟨?_, backRo nv σ1.nx p.nw ρ ρ', ha2, ?_, ?_⟩
        · rw [← hT2]
          show newB n (tabV J ρ T0) (tabV J ρ σ1.tab) _ = true
          rw [newB_v]; exact h1
        · have hk := hok.ag hs ha2 (backRo_g hok.g hp.g)
          exact DSt.ok.put ⟨hk.g, tysV_append.2 ⟨tysPost_v (tysV_agl hap' h3.2.2.1 hp.tys), hk.tys⟩, linsV_append (linsPost_v (linsV_agl hap' h3.2.2.2.1 hp.lin)) hk.lin, prsV_app.2 ⟨prsPost_v (prsV_agl hap' h3.2.2.2.2 hp.prs), hk.prs⟩⟩ o.dst _
        · rw [dput_v]
          have hr : ((dmk p.res).inst (postTh nv σ1.nx p.nw ++ θ) π).v (backRo nv σ1.nx p.nw ρ ρ') = SV.rn π ((dmk p.res).v ρ') := by
            rw [inst_v, DV.ag hap' (by rw [dmk_vars]; exact h3.1)]
          rw [hr]
          refine Same.put ?_ o.dst _
          have hsame : Same (σ1.v J (backRo nv σ1.nx p.nw ρ ρ')) (σ1.v J ρ) := (DSt.same_ag hs ha2).symm
          constructor
          · intro t
            simp only [St.after, DSt.v, daftS, fzSlotsK_v, keys_v]
            rw [← hT2, gone_v]
            exact lk_fzSlotsK_same _ (fun t => (hsame.slots t).symm) t
          · intro t
            simp only [St.after, DSt.v, daftT, app_v, fzTabK_v, rmK_v, keys_v]
            rw [← hT2, gone_v, lk_app, lk_app]
            split
            · rfl
            · exact lk_fzTabK_same _ (lk_rmK_same _ fun t => (hsame.tab t).symm) t
    · cases h
  · cases h
end Go.TL
namespace Go.TL
def callPosts (n : Nat) (σ1 : DSt) (o : Oper) (T0 : DTab) (θ : Th) (π : Nat → Nat) (nv : Nat) : List Post → Option (List DSt)
  | [] => some []
  | p :: r => match callPost n σ1 o T0 θ π nv p, callPosts n σ1 o T0 θ π nv r with
    | some σ', some l => some (σ' :: l)
    | _, _ => none
theorem callPosts_mem {n : Nat} {σ1 : DSt} {o : Oper} {T0 : DTab} {θ : Th} {π : Nat → Nat} {nv : Nat} : ∀ {ps : List Post} {l : List DSt}, callPosts n σ1 o T0 θ π nv ps = some l →
    (∀ p ∈ ps, ∃ σ' ∈ l, callPost n σ1 o T0 θ π nv p = some σ') ∧ ∀ σ' ∈ l, ∃ p ∈ ps, callPost n σ1 o T0 θ π nv p = some σ'
  | [], l, h => by simp only [callPosts, Option.some.injEq] at h; subst h; exact ⟨by simp, by simp⟩
  | p :: r, l, h => by
    simp only [callPosts] at h
    split at h
    · rename_i σ' l' h1 h2
      simp only [Option.some.injEq] at h; subst h
      obtain ⟨a, b⟩ := callPosts_mem h2
      refine ⟨?_, ?_⟩
      · intro q hq
        rcases List.mem_cons.1 hq with rfl | hq
        · exact ⟨σ', List.mem_cons_self .., h1⟩
        · obtain ⟨x, h3, h4⟩ := a q hq; exact ⟨x, List.mem_cons_of_mem _ h3, h4⟩
      · intro x hx
        rcases List.mem_cons.1 hx with rfl | hx
        · exact ⟨p, List.mem_cons_self .., h1⟩
        · obtain ⟨q, h3, h4⟩ := b x hx; exact ⟨q, List.mem_cons_of_mem _ h3, h4⟩
    · cases h
def keysIn (T : DTab) : List Nat → Bool
  | [] => true
  | k :: r => match (lk T k).isSome with | true => keysIn T r | false => false
theorem keysIn_mem {T : DTab} : ∀ {l : List Nat}, keysIn T l = true → ∀ k ∈ l, lk T k ≠ none
  | k :: r, h, j, hj => by
    simp only [keysIn] at h
    split at h
    · rename_i h1
      rcases List.mem_cons.1 hj with rfl | hj
      · intro e; rw [e] at h1; cases h1
      · exact keysIn_mem h j hj
    · cases h
theorem mem_keysOf' {α : Type} : ∀ {l : List (Nat × α)} {k : Nat}, lk l k ≠ none → k ∈ keysOf l
  | [], k, h => by simp [lk] at h
  | (j, x) :: r, k, h => by
    simp only [lk] at h
    simp only [keysOf, List.mem_cons]
    cases hb : Nat.beq j k with
    | true => exact .inl (Nat.eq_of_beq_eq_true hb).symm
    | false => simp only [hb] at h; exact .inr (mem_keysOf' h)
def measG (θ : Th) (e : Lin) : Option Nat → List G
  | none => []
  | some m => [.le (((e.si θ).addc 1).ax (-1) (Lin.at (4 * m + 2))), .le (Lin.scale (-1) (e.si θ)), .pf (.pr 0 [m])]
def callGo (P : Program) (n : Nat) (s : Spec) (mx : Option Nat) (σ1 : DSt) (o : Oper) (g : Nat) (args1 : List DV) (π : Nat → Nat) (nils : List NilA) (T0 : DTab) (θ : Th) : Outs :=
  match Nat.beq g s.fn, calleeOk P s.fn, thAll θ s.nv, tmsB σ1.nx θ, tysInst θ σ1.tys s.tys with
  | true, true, true, true, true => match thOk θ, prGs θ s.prs, tabInst θ π s.tab, callPosts n σ1 o T0 θ π s.nv s.posts with
    | some g1, some g2, some T, some outs => match leTab (nilTab nils T0) T, keysIn T (keysOf (nilTab nils T0)), nilsB nils T0, leDVs args1 (dnilsAt nils (dvsInst θ π s.args)) with
      | true, true, true, true => match dsubB T0 T0, dinsB T0 args1 with
        | true, true => some (outs, todo σ1 (g1 ++ (linGs θ s.lin ++ (g2 ++ measG θ s.meas mx))))
        | _, _ => none
      | _, _, _, _ => none
    | _, _, _, _ => none
  | _, _, _, _, _ => none
def SpecIn (P : Program) (I : Pr) (J : Ex) (s : Spec) : Option Nat → Prop
  | none => SpecOk P I J s
  | some _ => ∃ N : Nat, (∀ va : Va, I 0 [va] → rsz va.l ≤ N) ∧ SpecOkN P I J N s
theorem callGo_good {P : Program} {I : Pr} {J : Ex} {n : Nat} {s : Spec} {mx : Option Nat} {σ1 : DSt} {o : Oper} {g : Nat} {args1 : List DV} {l : List (Nat × Nat)} {nils : List NilA} {ks : List Nat} {θ : Th} {outs : List DSt} {q : List Seq}
    (h : callGo P n s mx σ1 o g args1 (permL l) nils (pick σ1.tab ks) θ = some (outs, q)) (hspec : SpecIn P I J s mx) (hc : dcalleeOf P σ1 o = some (g, args1)) (hV : Valid P I q) : StepGood P I J n o σ1 outs := by
  unfold callGo at h
  split at h
  · rename_i e1 e2 e3 e4 e5
    split at h
    · rename_i g1 g2 T outs' f1 f2 f3 f4
      split at h
      · rename_i k1 k2 k3 k4
        split at h
        · rename_i k5 k6
          simp only [Option.some.injEq, Prod.mk.injEq] at h; obtain ⟨rfl, rfl⟩ := h
          have := Nat.eq_of_beq_eq_true e1; subst this
          intro hs
          obtain ⟨m1, m2⟩ := callPosts_mem f4
          refine ⟨?_, ?_⟩
          · intro σ' hσ'
            obtain ⟨p, hp, hcp⟩ := m2 σ' hσ'
            have := callPost_ok (P := P) (I := I) (J := J) hcp hs e3 e4
            exact ⟨this.1, this.2.1⟩
          · intro ρ hok K Q lo w0 E0 hK a w hh hd
            have hv := todo_v hok hV
            rw [gsV_app, gsV_app, gsV_app] at hv
            have hpre : s.pre.ok P I (ap ρ θ) := ⟨ap_gok hok.g f1 hv.1, tysInst_v hok.tys e5, linGs_v hv.2.1, prGs_v f2 hv.2.2.1⟩
            have hF : FnS P s.fn (dvs (ap ρ θ) s.args) (tabV J (ap ρ θ) s.tab) (PostR P I J s (ap ρ θ)) := by
              cases mx with
              | none => exact hspec _ hpre
              | some m =>
                obtain ⟨N, hN, hF⟩ := hspec
                refine hF _ hpre ?_
                have h4 := hv.2.2.2
                simp only [measG, gsV, G.v, Lin.ax_v, Lin.scale_v, Lin.addc_v, Lin.si_v, Lin.at_v, PF.v, List.map_cons, List.map_nil, and_true] at h4
                have h5 := hN _ h4.2.2
                have h6 : atomV ρ (4 * m + 2) = (rsz (ρ m).l : Int) := by
                  unfold atomV
                  have q1 : (4 * m + 2) % 4 = 2 := by omega
                  have q2 : (4 * m + 2) / 4 = m := by omega
                  simp only [q1, q2]
                have h7 := h4.1
                have h8 := h4.2.1
                rw [h6] at h7
                show (s.meas.v (ap ρ θ)).toNat < N
                omega
            have hF1 := hF.sws l
            rw [← dvsInst_v ρ θ (permL l) s.args, ← tabInst_v J ρ θ (permL l) f3] at hF1
            have hT1 : ∀ k b, lk (tabV J ρ T) k = some b → ∃ a, lk (tabV J ρ (nilTab nils (pick σ1.tab ks))) k = some a ∧ ∀ w E lo, OR w E lo k a → OR w E lo k b := by
              intro k b hl
              simp only [lk_tabV] at hl ⊢
              cases hq : lk T k with
              | none => simp [hq] at hl
              | some y =>
                simp only [hq, Option.map_some, Option.some.injEq] at hl; subst hl
                obtain ⟨x, hx, hle⟩ := leTab_lk k1 k y hq
                exact ⟨x.v J ρ, by rw [hx]; rfl, fun w E lo hr => leDO_v (J := J) (ρ := ρ) hle hr⟩
            have hT3 : ∀ k, lk (tabV J ρ (nilTab nils (pick σ1.tab ks))) k ≠ none → lk (tabV J ρ T) k ≠ none := by
              intro k hk
              simp only [lk_tabV] at hk ⊢
              have h1 : lk (nilTab nils (pick σ1.tab ks)) k ≠ none := by intro e; rw [e] at hk; simp at hk
              have h2 := keysIn_mem k2 k (mem_keysOf' h1)
              cases hq : lk T k with
              | none => exact absurd hq h2
              | some x => simp
            have hF2 := FnS.pre hT1 hT3 (fun _ _ _ _ h => h) hF1
            have hF3 := FnS.nils k3 hF2
            have hF4 := FnS.pre (fun k b hl => ⟨b, hl, fun _ _ _ h => h⟩) (fun _ h => h) (fun w E lo vs hv => leDVs_v (ρ := ρ) k4 hv) hF3
            refine call_wp (tabV J ρ (pick σ1.tab ks)) hd (dcalleeOf_v (J := J) ρ hc) e2 ?_ ?_ ?_ hF4 hh ?_
            · intro k ov hl
              rw [pick_tab] at hl
              exact lk_pick _ _ _ _ hl
            · rw [subB_v]; exact k5
            · rw [insB_v]; exact k6
            · rintro r T' ⟨r0, T1, ⟨p, hp, ρ', hag, hpo, rfl, rfl⟩, rfl, rfl⟩
              obtain ⟨σ', hσ', hcp⟩ := m1 p hp
              obtain ⟨_, _, hgo⟩ := callPost_ok (P := P) (I := I) (J := J) hcp hs e3 e4
              obtain ⟨hnew, ρ2, ha2, hok2, hsame⟩ := hgo ρ ρ' hok hag hpo
              exact ⟨hnew, fun a' w' hh' => hK σ' hσ' ρ2 ha2 hok2 a' w' (hsame.holds hh')⟩
        · cases h
      · cases h
    · cases h
  · cases h
theorem StepGood.co {P : Program} {I : Pr} {J : Ex} {n : Nat} {o : Oper} {σ σ1 : DSt} {outs : List DSt} (c : Co1 P J n σ σ1) (h : StepGood P I J n o σ1 outs) : StepGood P I J n o σ outs := by
  intro hs
  obtain ⟨h1, h2⟩ := h (c.sc hs)
  refine ⟨fun σ' hσ' => ⟨(h1 σ' hσ').1, c.nx ▸ (h1 σ' hσ').2⟩, ?_⟩
  intro ρ hok K Q lo w0 E0 hK a w hh hd
  exact h2 ρ (c.ok hok) K Q lo w0 E0 (fun σ' hσ' ρ' ha => hK σ' hσ' ρ' (c.nx ▸ ha)) a w (c.imp ρ lo w0 E0 a w hh) hd
abbrev Nm := List (Nat × Nat)
def obj1 (K k : Nat) (m : Nm) : Nm := match lk m K with | some _ => m | none => (K, k) :: m
mutual
def objDV : DV → DV → Nm → Nm
  | .vec K, y, m => match y with | .vec k => obj1 K k m | _ => m
  | .ptr K _, y, m => match y with | .ptr k _ => obj1 K k m | _ => m
  | .vptr K _ _ _, y, m => match y with | .vptr k _ _ _ => obj1 K k m | _ => m
  | .ref K, y, m => match y with | .ref k => obj1 K k m | _ => m
  | .agg xs, y, m => match y with | .agg ys => objDVs xs ys m | _ => m
  | .tup xs, y, m => match y with | .tup ys => objDVs xs ys m | _ => m
  | .fn _ a b, y, m => match y with | .fn _ c d => objDVs b d (objDVs a c m) | _ => m
  | .ifc _ x, y, m => match y with | .ifc _ y => objDV x y m | _ => m
  | .u, _, m => m
  | .p _ _, _, m => m
  | .pd _ _ _, _, m => m
  | .pc _ _, _, m => m
  | .rp _ _, _, m => m
def objDVs : List DV → List DV → Nm → Nm
  | x :: xs, ys, m => match ys with | y :: ys => objDVs xs ys (objDV x y m) | [] => m
  | [], _, m => m
end
def objBoxes (H S : DTab) : Nm → Nm → Nm
  | [], m => m
  | (K, k) :: r, m => match lk H K, lk S k with
    | some (.box _ xs), some (.box _ ys) => objBoxes H S r (objDVs xs ys m)
    | _, _ => objBoxes H S r m
mutual
def fzDV (S : DTab) : DV → DV → List Co → List Co
  | .p x _, y, l => match x, y with
    | .sl _, .vec k => coAdd (.fz k) l
    | _, _ => l
  | .pc _ _, y, l => match y with | .vec k => coAdd (.fz k) l | _ => l
  | .pd _ _ _, y, l => match y with
    | .ptr k _ => (match lk S k with | some (.box _ cells) => coBox S k cells l | _ => l)
    | _ => l
  | .agg xs, y, l => match y with | .agg ys => fzDVs S xs ys l | _ => l
  | .tup xs, y, l => match y with | .tup ys => fzDVs S xs ys l | _ => l
  | .fn _ _ b, y, l => match y with | .fn _ _ d => fzDVs S b d l | _ => l
  | .ifc _ x, y, l => match y with | .ifc _ y => fzDV S x y l | _ => l
  | .vec _, _, l => l
  | .ptr _ _, _, l => l
  | .u, _, l => l
  | .vptr _ _ _ _, _, l => l
  | .ref _, _, l => l
  | .rp _ _, _, l => l
def fzDVs (S : DTab) : List DV → List DV → List Co → List Co
  | x :: xs, ys, l => match ys with | y :: ys => fzDVs S xs ys (fzDV S x y l) | [] => l
  | [], _, l => l
end
def fzBoxes (H S : DTab) : Nm → List Co → List Co
  | [], l => l
  | (K, k) :: r, l => match lk H K, lk S k with
    | some (.box _ xs), some (.box _ ys) => fzBoxes H S r (fzDVs S xs ys l)
    | _, _ => fzBoxes H S r l
def usedN : Nm → Nat → Bool
  | [], _ => false
  | (_, a) :: r, k => match Nat.beq a k with | true => true | false => usedN r k
def freeNm (T : DTab) (m : Nm) : Nat → Nat
  | 0 => 0
  | k + 1 => match (lk T (k + 1)).isSome, usedN m (k + 1) with
    | false, false => k + 1
    | _, _ => freeNm T m k
def nameAll (T : DTab) (d : Nat) : List Nat → Nm → Nm
  | [], m => m
  | K :: r, m => match lk m K with
    | some _ => nameAll T d r m
    | none => nameAll T d r ((K, freeNm T m d) :: m)
def nilKs : List DV → List DV → List Nat
  | .vec K :: xs, .p .nl _ :: ys => K :: nilKs xs ys
  | _ :: xs, _ :: ys => nilKs xs ys
  | _, _ => []
def cellKs (k : Nat) : Nat → List DV → List DV → List (Nat × Nat × Nat)
  | j, .vec K :: xs, .p .nl _ :: ys => (k, j, K) :: cellKs k (j + 1) xs ys
  | j, _ :: xs, _ :: ys => cellKs k (j + 1) xs ys
  | _, _, _ => []
def boxKs (H S : DTab) : Nm → List (Nat × Nat × Nat)
  | [] => []
  | (K, k) :: r => match lk H K, lk S k with
    | some (.box _ xs), some (.box _ ys) => cellKs k 0 xs ys ++ boxKs H S r
    | _, _ => boxKs H S r
def cellCos (H : DTab) (m : Nm) : List (Nat × Nat × Nat) → List Co
  | [] => []
  | (k, j, K) :: r => match lk H K, lk m K with
    | some (.vec e sz _ _), some K' => .cell k j K' e sz :: cellCos H m r
    | _, _ => cellCos H m r
def thirds : List (Nat × Nat × Nat) → List Nat
  | [] => []
  | (_, _, K) :: r => K :: thirds r
def nilsOf (H : DTab) (m : Nm) : List Nat → List NilA
  | [] => []
  | K :: r => match lk H K, lk m K with
    | some (.vec e sz _ _), some K' => ⟨K', e, sz⟩ :: nilsOf H m r
    | _, _ => nilsOf H m r
def postKeys : List Post → List Nat
  | [] => []
  | p :: r => keysOf p.tab ++ postKeys r
def swapsOf (acc : Nm) : Nm → Nm
  | [] => acc
  | (K, a) :: r => match permL acc K with
    | c => match Nat.beq c a with
      | true => swapsOf acc r
      | false => swapsOf (acc ++ [(c, a)]) r
def imgs (π : Nat → Nat) : List Nat → List Nat
  | [] => []
  | k :: r => π k :: imgs π r
def lessN (l : List NilA) : List Nat → List Nat
  | [] => []
  | k :: r => match l.any (fun a => Nat.beq a.K k) with | true => lessN l r | false => k :: lessN l r
def callFin (P : Program) (n : Nat) (s : Spec) (mx : Option Nat) (σ1 : DSt) (o : Oper) (l : Nm) (nils : List NilA) (ks : List Nat) : Outs :=
  match dcalleeOf P σ1 o with
  | some (g, args1) => callGo P n s mx σ1 o g args1 (permL l) nils (pick σ1.tab ks) (colTab 0 (nilTab nils (pick σ1.tab ks)) (tabRn (permL l) s.tab) (colDVs 0 (drns (permL l) s.args) args1 []))
  | none => none
def callMid (P : Program) (n : Nat) (s : Spec) (mx : Option Nat) (σa : DSt) (o : Oper) (nk : List Nat) (ck : List (Nat × Nat × Nat)) (m : Nm) : Outs :=
  match σa.cos n (cellCos s.tab m ck) with
  | some σ1 => match swapsOf [] m, nilsOf s.tab m nk with
    | l, nils => callFin P n s mx σ1 o l nils (lessN nils (imgs (permL l) (keysOf s.tab)))
  | none => none
def callS (P : Program) (n : Nat) (s : Spec) (mx : Option Nat) (σ : DSt) (o : Oper) (args : List DV) : Outs :=
  match objBoxes s.tab σ.tab (objDVs s.args args []) (objDVs s.args args []) with
  | m0 => match σ.cos n (fzBoxes s.tab σ.tab m0 (fzDVs σ.tab s.args args [])) with
    | some σa => match nilKs s.args args, boxKs s.tab σa.tab m0 with
      | nk, ck => callMid P n s mx σa o nk ck (nameAll σa.tab (match o.dst with | some d => d | none => n - 1) (nk ++ (thirds ck ++ postKeys s.posts)) m0)
    | none => none
theorem callS_good {P : Program} {I : Pr} {J : Ex} {n : Nat} {s : Spec} {mx : Option Nat} {σ : DSt} {o : Oper} {args : List DV} {outs : List DSt} {q : List Seq} (h : callS P n s mx σ o args = some (outs, q)) (hspec : SpecIn P I J s mx) (hV : Valid P I q) :
    StepGood P I J n o σ outs := by
  unfold callS at h
  simp only at h
  split at h
  · rename_i σa ha
    refine StepGood.co (cos_co ha) ?_
    unfold callMid at h
    split at h
    · rename_i σ1 h1
      refine StepGood.co (cos_co h1) ?_
      simp only at h
      unfold callFin at h
      split at h
      · rename_i g args1 hc
        exact callGo_good h hspec hc hV
      · cases h
    · cases h
  · cases h
def callTry (P : Program) (n : Nat) (σ : DSt) (o : Oper) (g : Nat) (args : List DV) : List (Spec × Option Nat) → Outs
  | [] => none
  | (s, mx) :: r => match Nat.beq s.fn g with
    | true => match callS P n s mx σ o args with
      | some x => some x
      | none => callTry P n σ o g args r
    | false => callTry P n σ o g args r
def dcall (P : Program) (n : Nat) (SS : List (Spec × Option Nat)) (σ : DSt) (o : Oper) : Outs :=
  match dcalleeOf P σ o with
  | some (g, args) => callTry P n σ o g args SS
  | none => none
theorem dcall_good {P : Program} {I : Pr} {J : Ex} {n : Nat} {SS : List (Spec × Option Nat)} (hS : ∀ p ∈ SS, SpecIn P I J p.1 p.2) : Handler P I J n (dcall P n SS) := by
  intro σ o outs q h hV
  unfold dcall at h
  split at h
  · rename_i g args hc
    have key : ∀ L : List (Spec × Option Nat), (∀ p ∈ L, SpecIn P I J p.1 p.2) → callTry P n σ o g args L = some (outs, q) → StepGood P I J n o σ outs := by
      intro L
      induction L with
      | nil => intro _ h; simp [callTry] at h
      | cons p r ih =>
        obtain ⟨s, mx⟩ := p
        intro hL h
        simp only [callTry] at h
        split at h
        · split at h
          · rename_i x hx
            simp only [Option.some.injEq] at h; subst h
            exact callS_good hx (hL _ (List.mem_cons_self ..)) hV
          · exact ih (fun p hp => hL p (List.mem_cons_of_mem _ hp)) h
        · exact ih (fun p hp => hL p (List.mem_cons_of_mem _ hp)) h
    exact key SS hS h
  · cases h
end Go.TL
namespace Go.TL
def hOr (h1 h2 : DSt → Oper → Outs) (σ : DSt) (o : Oper) : Outs :=
  match h1 σ o with
  | some r => some r
  | none => h2 σ o
theorem hOr_good {P : Program} {I : Pr} {J : Ex} {n : Nat} {h1 h2 : DSt → Oper → Outs} (k1 : Handler P I J n h1) (k2 : Handler P I J n h2) : Handler P I J n (hOr h1 h2) := by
  intro σ o outs q h hV
  unfold hOr at h
  split at h
  · rename_i r hr
    simp only [Option.some.injEq] at h; subst h
    exact k1 σ o outs q hr hV
  · exact k2 σ o outs q h hV
def atNum (σ : DSt) (t : Nat) (k : IntKind) (e : Lin) (fr : Bool) (j : Nat) : DSt :=
  { σ with slots := (t, .p (.int k (Lin.lit j)) fr) :: σ.slots, lin := e.addc (-j) :: (Lin.scale (-1) e).addc j :: σ.lin }
def splitGo (P : Program) (σ : DSt) (o : Oper) (t : Nat) (k : IntKind) (e : Lin) (fr : Bool) : Nat → Outs
  | 0 => some ([], [])
  | j + 1 => match dop P (atNum σ t k e fr j) o, splitGo P σ o t k e fr j with
    | some (σ', gs), some (l, q) => some (σ' :: l, todo (atNum σ t k e fr j) gs ++ q)
    | _, _ => none
def dsplit (P : Program) (σ : DSt) (o : Oper) : Outs :=
  match o.op with
  | .index xt x (.tmp t) => match lk σ.slots t, dev σ x, P.underlying xt with
    | some (.p (.int k e) fr), .agg _, some (.array len _) => match Nat.ble len 100 with
      | true => match splitGo P σ o t k e fr len with
        | some (l, q) => some (l, q ++ todo σ [.le (Lin.scale (-1) e), .le ((e.addc 1).addc (-len))])
        | none => none
      | false => none
    | _, _, _ => none
  | _ => none
theorem atNum_sc {σ : DSt} (hs : σ.sc) {t : Nat} {k : IntKind} {e : Lin} {fr : Bool} (hl : lk σ.slots t = some (.p (.int k e) fr)) (j : Nat) : (atNum σ t k e fr j).sc := by
  have he : Sc σ.nx e.vars := by have := hs.slots t _ hl; simpa [DV.vars, DP.vars] using this
  refine ⟨?_, hs.tab, hs.tys, ?_, hs.prs⟩
  · intro t' v h
    simp only [atNum, lk_cons] at h
    split at h
    · simp only [Option.some.injEq] at h; subst h; simp [DV.vars, DP.vars, Lin.lit, Lin.vars, sumVars, Sc.nil]
    · exact hs.slots t' v h
  · intro x hx
    simp only [atNum, List.mem_cons] at hx
    rcases hx with rfl | rfl | hx
    · exact Lin.addc_sc he
    · exact Lin.addc_sc (Lin.scale_sc he)
    · exact hs.lin x hx
theorem atNum_ok {P : Program} {I : Pr} {σ : DSt} {ρ : Ro} (hok : σ.ok P I ρ) {t : Nat} {k : IntKind} {e : Lin} {fr : Bool} {j : Nat} (he : e.v ρ = j) : (atNum σ t k e fr j).ok P I ρ := by
  refine ⟨hok.g, hok.tys, ⟨?_, ?_, hok.lin⟩, hok.prs⟩
  · rw [Lin.addc_v]; omega
  · rw [Lin.addc_v, Lin.scale_v]; omega
theorem atNum_same {J : Ex} {σ : DSt} {ρ : Ro} {t : Nat} {k : IntKind} {e : Lin} {fr : Bool} {j : Nat} (hl : lk σ.slots t = some (.p (.int k e) fr)) (he : e.v ρ = j) : Same (σ.v J ρ) ((atNum σ t k e fr j).v J ρ) := by
  refine ⟨fun t' => ?_, fun _ => rfl⟩
  simp only [atNum, DSt.v, slotsV, lk_cons]
  split
  · rename_i h; subst h
    simp only [lk_slotsV, hl, Option.map_some, DV.v, DP.v, he, Lin.lit_v]
  · rfl
theorem splitGo_good {P : Program} {I : Pr} {J : Ex} {n : Nat} {σ : DSt} {o : Oper} {t : Nat} {k : IntKind} {e : Lin} {fr : Bool} (hl : lk σ.slots t = some (.p (.int k e) fr)) : ∀ (m : Nat) (l : List DSt) (q : List Seq), splitGo P σ o t k e fr m = some (l, q) → Valid P I q →
    σ.sc → (∀ σ' ∈ l, σ'.sc ∧ σ.nx ≤ σ'.nx) ∧ ∀ ρ, σ.ok P I ρ → 0 ≤ e.v ρ → e.v ρ < m → ∀ (K : Act → World → Prop) (Q : Exit → Act → World → Prop) (lo : Nat) (w0 : World) (E0 : Env),
      (∀ σ' ∈ l, ∀ ρ', Agree σ.nx ρ ρ' → σ'.ok P I ρ' → ∀ a' w', Holds (mkC P n lo w0 E0) (σ'.v J ρ') a' w' → K a' w') →
      ∀ a w, Holds (mkC P n lo w0 E0) (σ.v J ρ) a w → (∀ d, o.dst = some d → d < n) → o.wp P a w K Q := by
  intro m
  induction m with
  | zero =>
    intro l q h hV hs
    simp only [splitGo, Option.some.injEq, Prod.mk.injEq] at h; obtain ⟨rfl, rfl⟩ := h
    refine ⟨by simp, ?_⟩
    intro ρ hok h0 h1
    exact absurd h1 (by have : ((0 : Nat) : Int) = 0 := rfl; omega)
  | succ m ih =>
    intro l q h hV hs
    simp only [splitGo] at h
    split at h
    · rename_i σ1 gs l1 q1 h1 h2
      simp only [Option.some.injEq, Prod.mk.injEq] at h; obtain ⟨rfl, rfl⟩ := h
      have V1 : Valid P I (todo (atNum σ t k e fr m) gs) := fun s hs => hV s (List.mem_append.2 (.inl hs))
      have V2 : Valid P I q1 := fun s hs => hV s (List.mem_append.2 (.inr hs))
      obtain ⟨i1, i2⟩ := ih l1 q1 h2 V2 hs
      obtain ⟨d1, d2⟩ := dop_step (J := J) (n := n) h1 V1 (atNum_sc hs hl m)
      refine ⟨?_, ?_⟩
      · intro σ' hσ'
        rcases List.mem_cons.1 hσ' with rfl | hσ'
        · exact d1 _ (by simp)
        · exact i1 σ' hσ'
      · intro ρ hok h0 hlt K Q lo w0 E0 hK a w hh hd
        by_cases he : e.v ρ = m
        · refine d2 ρ (atNum_ok hok he) K Q lo w0 E0 ?_ a w ((atNum_same hl he).holds hh) hd
          intro σ' hσ' ρ' ha hok' a' w' hh'
          simp only [List.mem_singleton] at hσ'; subst hσ'
          exact hK _ (List.mem_cons_self ..) ρ' ha hok' a' w' hh'
        · exact i2 ρ hok h0 (by omega) K Q lo w0 E0 (fun σ' hσ' => hK σ' (List.mem_cons_of_mem _ hσ')) a w hh hd
    · cases h
theorem dsplit_good {P : Program} {I : Pr} {J : Ex} {n : Nat} : Handler P I J n (dsplit P) := by
  intro σ o outs q h hV
  unfold dsplit at h
  split at h
  · rename_i xt x t hop
    split at h
    · rename_i k e fr xs len et hl hx hu
      split at h
      · split at h
        · rename_i l q1 hg
          simp only [Option.some.injEq, Prod.mk.injEq] at h; obtain ⟨rfl, rfl⟩ := h
          have V1 : Valid P I q1 := fun s hs => hV s (List.mem_append.2 (.inl hs))
          have V2 : Valid P I (todo σ [.le (Lin.scale (-1) e), .le ((e.addc 1).addc (-len))]) := fun s hs => hV s (List.mem_append.2 (.inr hs))
          intro hs
          obtain ⟨h1, h2⟩ := splitGo_good (J := J) (n := n) hl len l q1 hg V1 hs
          refine ⟨h1, ?_⟩
          intro ρ hok
          have hv := todo_v hok V2
          simp only [gsV, G.v, Lin.scale_v, Lin.addc_v, and_true] at hv
          exact h2 ρ hok (by omega) (by omega)
        · cases h
      · cases h
    · cases h
  · cases h
end Go.TL
namespace Go.TL
inductive Ds where
  | yes
def stdB (_ : Program) (_ : FuncId → Ds) (_ : Int → ByteArray) : Pr := fun id vs =>
  match id % 16, vs with
  | 15, l => match id / 16, l with
    | 4, [l] => ∀ row ∈ l.l, ∃ (k : Int) (r : List PV), row = .v (.int .i64 k) :: r ∧ (k = 1 ∨ k = 3)
    | 5, [b, k, s] => b.b = ((k.n == 8) && (s.s.toList == (⟨#[125]⟩ : ByteArray).toList))
    | _, _ => True
  | _, _ => True
def stdJ : Ex := fun _ _ _ _ _ => False
structure StdI (P : Program) (D : FuncId → Ds) (ms : Int → ByteArray) (I : Pr) : Prop where
  eq : ∀ id vs, id ≠ 0 → I id vs = stdB P D ms id vs
end Go.TL
namespace Go.TL
theorem bool_neq {C : Ctx} {E : Env} {σ : St} {a : Act} {w : World} {o : Oper} {tx ty : TypeId} {x y : Operand} {b c : Bool} (ho : o.op = .binOp .neq tx x y ty) (hu : C.P.underlying tx = some .bool) (ex : a.eval x = .bool b) (ey : a.eval y = .bool c) (h : HoldsE C E σ a w) (hd : DstOk C o) :
    OpOut C o (σ.put o.dst (.p (.v (.bool (b != c))) true)) a w := by
  refine out_pure h hd (v := .bool (b != c)) ?_ (VR_v true rfl)
  refine exec_bin ho (by rw [ex]; simp [eqGuard]) ?_
  rw [ex, ey]
  simp only [binOp, Sem.run_bind, run_equal_bool w tx b c hu, Result.andThen_ok, Sem.run_pure]
  cases b <;> cases c <;> rfl
theorem bool_eql {C : Ctx} {E : Env} {σ : St} {a : Act} {w : World} {o : Oper} {tx ty : TypeId} {x y : Operand} {b c : Bool} (ho : o.op = .binOp .eql tx x y ty) (hu : C.P.underlying tx = some .bool) (ex : a.eval x = .bool b) (ey : a.eval y = .bool c) (h : HoldsE C E σ a w) (hd : DstOk C o) :
    OpOut C o (σ.put o.dst (.p (.v (.bool (b == c))) true)) a w := by
  refine out_pure h hd (v := .bool (b == c)) ?_ (VR_v true rfl)
  refine exec_bin ho (by rw [ex]; simp [eqGuard]) ?_
  rw [ex, ey]
  simp only [binOp, Sem.run_bind, run_equal_bool w tx b c hu, Result.andThen_ok, Sem.run_pure]
def sameB (f g : BF) : BF := .or (.and f g) (.and (.not f) (.not g))
theorem sameB_v (ρ : Ro) (f g : BF) : (sameB f g).v ρ = (f.v ρ == g.v ρ) := by simp only [sameB, BF.v]; cases f.v ρ <;> cases g.v ρ <;> rfl
def isBoolT (P : Program) (t : TypeId) : Bool := match P.underlying t with | some .bool => true | _ => false
theorem isBoolT_eq {P : Program} {t : TypeId} (h : isBoolT P t = true) : P.underlying t = some .bool := by
  unfold isBoolT at h; split at h
  · assumption
  · cases h
def dcmpB (P : Program) (σ : DSt) (o : Oper) : Outs :=
  match o.op with
  | .binOp op tx x y _ => match isBoolT P tx, dbool σ x, dbool σ y with
    | true, some f, some g => match op with
      | .eql => some ([σ.put o.dst (.p (.bl (sameB f g)) true)], [])
      | .neq => some ([σ.put o.dst (.p (.bl (.not (sameB f g))) true)], [])
      | _ => none
    | _, _, _ => none
  | _ => none
theorem dcmpB_good {P : Program} {I : Pr} {J : Ex} {n : Nat} : Handler P I J n (dcmpB P) := by
  intro σ o outs q h hV hs
  unfold dcmpB at h
  split at h
  · rename_i op tx x y ty ho
    split at h
    · rename_i f g hb hf hg
      have hu := isBoolT_eq hb
      have sf := dbool_sc hs hf
      have sg := dbool_sc hs hg
      have ssc : Sc σ.nx (sameB f g).vars := by simp only [sameB, BF.vars, Sc.app]; exact ⟨⟨sf, sg⟩, sf, sg⟩
      have step : ∀ (r : BF) (hr : Sc σ.nx r.vars), (∀ ρ, ∀ C : Ctx, C.P = P → ∀ E a w, HoldsE C E (σ.v J ρ) a w → DstOk C o → OpOut C o ((σ.v J ρ).put o.dst (.p (.v (.bool (r.v ρ))) true)) a w) →
          (∀ σ' ∈ [σ.put o.dst (.p (.bl r) true)], σ'.sc ∧ σ.nx ≤ σ'.nx) ∧ ∀ ρ, σ.ok P I ρ → ∀ (K : Act → World → Prop) (Q : Exit → Act → World → Prop) (lo : Nat) (w0 : World) (E0 : Env),
            (∀ σ' ∈ [σ.put o.dst (.p (.bl r) true)], ∀ ρ', Agree σ.nx ρ ρ' → σ'.ok P I ρ' → ∀ a' w', Holds (mkC P n lo w0 E0) (σ'.v J ρ') a' w' → K a' w') →
            ∀ a w, Holds (mkC P n lo w0 E0) (σ.v J ρ) a w → (∀ d, o.dst = some d → d < n) → o.wp P a w K Q := by
        intro r hr hrun
        refine ⟨?_, ?_⟩
        · intro σ' hσ'
          simp only [List.mem_singleton] at hσ'; subst hσ'
          exact ⟨hs.put o.dst (by simpa [DV.vars, DP.vars] using hr), by rw [dput_nx]; exact Nat.le_refl _⟩
        · intro ρ hok K Q lo w0 E0 hK a w ⟨E, hh⟩ hd
          obtain ⟨v, w', hx, hH⟩ := hrun ρ (mkC P n lo w0 E0) rfl E a w hh hd
          unfold Oper.wp
          have hH' : Holds (mkC P n lo w0 E0) ((σ.put o.dst (.p (.bl r) true)).v J ρ) (a.put o.dst v) w' := by rw [dput_v]; exact hH
          rcases hx with hx | ⟨hx, rfl⟩
          · change Sem.run P _ _ = _ at hx
            rw [hx]; exact hK _ (by simp) ρ (Agree.refl _ _) (hok.put _ _) _ _ hH'
          · change Sem.run P _ _ = _ at hx
            rw [hx]; exact hK _ (by simp) ρ (Agree.refl _ _) (hok.put _ _) _ _ hH'
      split at h
      · simp only [Option.some.injEq, Prod.mk.injEq] at h; obtain ⟨rfl, rfl⟩ := h
        refine step _ ssc fun ρ C hC E a w hh hd => ?_
        have := bool_eql ho (by rw [hC]; exact hu) (boolOp_ev ⟨E, hh⟩ (dbool_v ρ hf)) (boolOp_ev ⟨E, hh⟩ (dbool_v ρ hg)) hh hd
        rw [sameB_v]; exact this
      · simp only [Option.some.injEq, Prod.mk.injEq] at h; obtain ⟨rfl, rfl⟩ := h
        refine step _ ssc fun ρ C hC E a w hh hd => ?_
        have := bool_neq ho (by rw [hC]; exact hu) (boolOp_ev ⟨E, hh⟩ (dbool_v ρ hf)) (boolOp_ev ⟨E, hh⟩ (dbool_v ρ hg)) hh hd
        simp only [BF.v, sameB_v]; exact this
      · cases h
    · cases h
  · cases h
end Go.TL
namespace Go.TL
def dmore (P : Program) : DSt → Oper → Outs := hOr (dsplit P) (dcmpB P)
theorem dmore_good {P : Program} {T : FuncId → Ds} {ms : Int → ByteArray} {I : Pr} {J : Ex} {n : Nat} (_hI : StdI P T ms I) (_hJ : J = stdJ) : Handler P I J n (dmore P) := hOr_good dsplit_good dcmpB_good
def dall (P : Program) (n : Nat) (SS : List (Spec × Option Nat)) : DSt → Oper → Outs := hOr (dcall P n SS) (dmore P)
theorem dall_good {P : Program} {T : FuncId → Ds} {ms : Int → ByteArray} {I : Pr} {J : Ex} {n : Nat} {SS : List (Spec × Option Nat)} (hI : StdI P T ms I) (hJ : J = stdJ) (hS : ∀ p ∈ SS, SpecIn P I J p.1 p.2) : Handler P I J n (dall P n SS) := hOr_good (dcall_good hS) (dmore_good hI hJ)
end Go.TL
