/- Code: branches, joins, loops. -/
import Derived.Test.YtaaimmmofkldbaaWl20
namespace Go.TL
structure Ann where
  keep : Nat → Option (List Nat)
  loop : Nat → DSt → Option (DSt × Lin)
  join : Bool → Nat → DSt → List DSt → Option DSt
  opens : Nat → DSt → List Nat
  hc : List Cert
  unroll : Nat → Option Nat
structure Res where
  nor : List DSt
  base : DSt
  oth : List (Exit × DSt)
  q : List Seq
def scB (n : Nat) : List Nat → Bool
  | [] => true
  | k :: r => match Nat.ble (k + 1) n with | true => scB n r | false => false
theorem scB_sc {n : Nat} : ∀ {l : List Nat}, scB n l = true → Sc n l
  | [], _ => Sc.nil
  | k :: r, h => by
    simp only [scB] at h
    split at h
    · rename_i h1; exact Sc.cons.2 ⟨Nat.le_of_ble_eq_true h1, scB_sc h⟩
    · cases h
def linsVars : List Lin → List Nat
  | [] => []
  | e :: r => e.vars ++ linsVars r
def prsVars : List PF → List Nat
  | [] => []
  | e :: r => e.vars ++ prsVars r
def tysVars : List (Nat × TypeId) → List Nat
  | [] => []
  | (k, _) :: r => k :: tysVars r
def tmplB (n0 : Nat) (T : DSt) : Bool :=
  match Nat.ble n0 T.nx with
  | true => scB T.nx (slotsVars T.slots ++ (tabVars T.tab ++ (tysVars T.tys ++ (linsVars T.lin ++ prsVars T.prs))))
  | false => false
theorem slots_mem_sc {n : Nat} : ∀ {l : DSlots}, Sc n (slotsVars l) → ∀ t v, lk l t = some v → Sc n v.vars
  | [], _, t, v, h => by simp [lk] at h
  | (j, x) :: r, hs, t, v, h => by
    simp only [slotsVars, Sc.app] at hs
    simp only [lk] at h
    cases hb : Nat.beq j t with
    | true => simp only [hb, Option.some.injEq] at h; subst h; exact hs.1
    | false => simp only [hb] at h; exact slots_mem_sc hs.2 t v h
theorem tab_mem_sc {n : Nat} : ∀ {l : DTab}, Sc n (tabVars l) → ∀ t v, lk l t = some v → Sc n v.vars
  | [], _, t, v, h => by simp [lk] at h
  | (j, x) :: r, hs, t, v, h => by
    simp only [tabVars, Sc.app] at hs
    simp only [lk] at h
    cases hb : Nat.beq j t with
    | true => simp only [hb, Option.some.injEq] at h; subst h; exact hs.1
    | false => simp only [hb] at h; exact tab_mem_sc hs.2 t v h
theorem lins_mem_sc {n : Nat} : ∀ {l : List Lin}, Sc n (linsVars l) → ∀ e ∈ l, Sc n e.vars
  | [], _, e, h => by simp at h
  | x :: r, hs, e, h => by
    simp only [linsVars, Sc.app] at hs
    rcases List.mem_cons.1 h with rfl | h
    · exact hs.1
    · exact lins_mem_sc hs.2 e h
theorem prs_mem_sc {n : Nat} : ∀ {l : List PF}, Sc n (prsVars l) → ∀ e ∈ l, Sc n e.vars
  | [], _, e, h => by simp at h
  | x :: r, hs, e, h => by
    simp only [prsVars, Sc.app] at hs
    rcases List.mem_cons.1 h with rfl | h
    · exact hs.1
    · exact prs_mem_sc hs.2 e h
theorem tys_mem_sc {n : Nat} : ∀ {l : List (Nat × TypeId)}, Sc n (tysVars l) → ∀ k e, (k, e) ∈ l → k < n
  | [], _, k, e, h => by simp at h
  | (j, x) :: r, hs, k, e, h => by
    simp only [tysVars, Sc.cons] at hs
    rcases List.mem_cons.1 h with h | h
    · simp only [Prod.mk.injEq] at h; rw [h.1]; exact hs.1
    · exact tys_mem_sc hs.2 k e h
theorem tmplB_ok {n0 : Nat} {T : DSt} (h : tmplB n0 T = true) : n0 ≤ T.nx ∧ T.sc := by
  unfold tmplB at h
  split at h
  · rename_i h1
    have hs := scB_sc h
    simp only [Sc.app] at hs
    exact ⟨Nat.le_of_ble_eq_true h1, slots_mem_sc hs.1, tab_mem_sc hs.2.1, tys_mem_sc hs.2.2.1, lins_mem_sc hs.2.2.2.1, prs_mem_sc hs.2.2.2.2⟩
  · cases h
def DSt.over (T σ0 : DSt) : DSt := { T with tys := T.tys ++ σ0.tys, lin := T.lin ++ σ0.lin, prs := T.prs ++ σ0.prs, hc := σ0.hc }
theorem over_sc {T σ0 : DSt} (hT : tmplB σ0.nx T = true) (hs : σ0.sc) : (T.over σ0).sc ∧ σ0.nx ≤ (T.over σ0).nx := by
  obtain ⟨h1, h2⟩ := tmplB_ok hT
  refine ⟨⟨h2.slots, h2.tab, ?_, ?_, ?_⟩, h1⟩
  · intro k e he; exact (List.mem_append.1 he).elim (h2.tys k e) fun h => Nat.lt_of_lt_of_le (hs.tys k e h) h1
  · intro e he; exact (List.mem_append.1 he).elim (h2.lin e) fun h => (hs.lin e h).mono h1
  · intro e he; exact (List.mem_append.1 he).elim (h2.prs e) fun h => (hs.prs e h).mono h1
theorem over_ok {P : Program} {I : Pr} {J : Ex} {n : Nat} {T σ0 σ : DSt} {ρ ρ' : Ro} (c : CoreOk P I J n σ0.nx σ T ρ ρ') (hs : σ0.sc) (h0 : σ0.ok P I ρ) : (T.over σ0).ok P I ρ' := by
  have h1 := h0.ag hs c.ag c.g
  exact ⟨c.g, tysV_append.2 ⟨c.tys, h1.tys⟩, linsV_append c.lin h1.lin, prsV_app.2 ⟨c.prs, h1.prs⟩⟩
def intos (n : Nat) (σ0 T : DSt) : List DSt → Option (List Seq)
  | [] => some []
  | σ :: r => match into n σ0 σ T, intos n σ0 T r with
    | some a, some b => some (a ++ b)
    | _, _ => none
theorem intos_mem {n : Nat} {σ0 T : DSt} : ∀ {S : List DSt} {q : List Seq}, intos n σ0 T S = some q → ∀ σ ∈ S, ∃ p, into n σ0 σ T = some p ∧ ∀ s ∈ p, s ∈ q
  | [], q, h, σ, hσ => by simp at hσ
  | σ0' :: r, q, h, σ, hσ => by
    simp only [intos] at h
    split at h
    · rename_i a b h1 h2
      simp only [Option.some.injEq] at h; subst h
      rcases List.mem_cons.1 hσ with rfl | hσ
      · exact ⟨a, h1, fun s hs => List.mem_append.2 (.inl hs)⟩
      · obtain ⟨p, e1, e2⟩ := intos_mem h2 σ hσ
        exact ⟨p, e1, fun s hs => List.mem_append.2 (.inr (e2 s hs))⟩
    · cases h
def joinS (n : Nat) (A : Ann) (must : Bool) (at' : Nat) (σ0 : DSt) (S : List DSt) : Outs :=
  match S with
  | [] => some ([], [])
  | [σ] => some ([σ], [])
  | S => match A.join must at' σ0 S with
    | some T => match tmplB σ0.nx T, intos n σ0 T S with
      | true, some q => some ([T.over σ0], q)
      | _, _ => none
    | none => match must with
      | true => none
      | false => some (S, [])
structure JoinOk (P : Program) (I : Pr) (J : Ex) (n : Nat) (σ0 : DSt) (S S' : List DSt) : Prop where
  sc : ∀ σ' ∈ S', σ'.sc ∧ σ0.nx ≤ σ'.nx
  to : ∀ σ ∈ S, ∀ ρ, σ.ok P I ρ → σ0.ok P I ρ → ∃ σ' ∈ S', ∃ ρ', Agree σ0.nx ρ ρ' ∧ σ'.ok P I ρ' ∧ Imp P n (σ.v J ρ) (σ'.v J ρ')
theorem joinS_ok {P : Program} {I : Pr} {J : Ex} {n : Nat} {A : Ann} {must : Bool} {at' : Nat} {σ0 : DSt} {S S' : List DSt} {q : List Seq} (h : joinS n A must at' σ0 S = some (S', q)) (hV : Valid P I q) (h0 : σ0.sc) (hS : ∀ σ ∈ S, σ.sc ∧ σ0.nx ≤ σ.nx) :
    JoinOk P I J n σ0 S S' := by
  unfold joinS at h
  split at h
  · simp only [Option.some.injEq, Prod.mk.injEq] at h; obtain ⟨rfl, rfl⟩ := h
    exact ⟨by simp, by simp⟩
  · rename_i σ
    simp only [Option.some.injEq, Prod.mk.injEq] at h; obtain ⟨rfl, rfl⟩ := h
    refine ⟨hS, ?_⟩
    intro τ hτ ρ hok _
    exact ⟨τ, hτ, ρ, Agree.refl _ _, hok, Imp.refl⟩
  · split at h
    · rename_i T hT
      split at h
      · rename_i q' hb hi
        simp only [Option.some.injEq, Prod.mk.injEq] at h; obtain ⟨rfl, rfl⟩ := h
        refine ⟨by simpa using over_sc hb h0, ?_⟩
        intro σ hσ ρ hok hok0
        obtain ⟨p, e1, e2⟩ := intos_mem hi σ hσ
        obtain ⟨ρ', c⟩ := into_ok (J := J) e1 (fun s hs => hV s (e2 s hs)) ρ hok
        exact ⟨T.over σ0, by simp, ρ', c.ag, over_ok c h0 hok0, c.imp⟩
      · cases h
    · split at h
      · cases h
      · simp only [Option.some.injEq, Prod.mk.injEq] at h; obtain ⟨rfl, rfl⟩ := h
        refine ⟨hS, ?_⟩
        intro τ hτ ρ hok _
        exact ⟨τ, hτ, ρ, Agree.refl _ _, hok, Imp.refl⟩
def dbool (σ : DSt) (c : Operand) : Option BF :=
  match dev σ c with
  | .p (.bl f) _ => some f
  | _ => none
theorem dbool_v {J : Ex} {σ : DSt} {c : Operand} {f : BF} (ρ : Ro) (h : dbool σ c = some f) : boolOp (σ.v J ρ) c = some (f.v ρ) := by
  unfold dbool at h
  split at h
  · rename_i g fr he
    simp only [Option.some.injEq] at h; subst h
    simp only [boolOp, dev_v, he, DV.v, DP.v]
  · cases h
theorem dbool_sc {σ : DSt} (hs : σ.sc) {c : Operand} {f : BF} (h : dbool σ c = some f) : Sc σ.nx f.vars := by
  unfold dbool at h
  split at h
  · rename_i g fr he
    simp only [Option.some.injEq] at h; subst h
    have := hs.dev c; rw [he] at this; simpa [DV.vars, DP.vars] using this
  · cases h
def parts (c : Operand) : List DSt → Option (List DSt × List DSt)
  | [] => some ([], [])
  | σ :: r => match dbool σ c, parts c r with
    | some f, some (a, b) => match decB σ f with
      | some true => some (σ.asm none true f :: a, b)
      | some false => some (a, σ.asm none false f :: b)
      | none => some (σ.asm none true f :: a, σ.asm none false f :: b)
    | _, _ => none
theorem parts_ok {P : Program} {I : Pr} {J : Ex} {c : Operand} : ∀ {S a b : List DSt}, parts c S = some (a, b) → (∀ σ ∈ S, σ.sc) →
    (∀ σ' ∈ a ++ b, ∃ σ ∈ S, σ'.sc ∧ σ'.nx = σ.nx) ∧ ∀ σ ∈ S, ∃ f, dbool σ c = some f ∧ ∀ ρ, σ.ok P I ρ → (f.v ρ = true → ∃ σ' ∈ a, σ'.nx = σ.nx ∧ σ'.ok P I ρ ∧ Same (σ.v J ρ) (σ'.v J ρ)) ∧ (f.v ρ = false → ∃ σ' ∈ b, σ'.nx = σ.nx ∧ σ'.ok P I ρ ∧ Same (σ.v J ρ) (σ'.v J ρ))
  | [], a, b, h, _ => by
    simp only [parts, Option.some.injEq, Prod.mk.injEq] at h; obtain ⟨rfl, rfl⟩ := h
    exact ⟨by simp, by simp⟩
  | σ :: r, a, b, h, hs => by
    simp only [parts] at h
    split at h
    · rename_i f a' b' hf hr
      obtain ⟨r1, r2⟩ := parts_ok (P := P) (I := I) (J := J) hr fun σ hσ => hs σ (List.mem_cons_of_mem _ hσ)
      have hσs := hs σ (List.mem_cons_self ..)
      have hfs := dbool_sc hσs hf
      have s1 : ∀ x, (σ.asm none x f).sc ∧ (σ.asm none x f).nx = σ.nx := fun x => ⟨asm_sc hσs none x hfs, rfl⟩
      have s2 : ∀ x ρ, f.v ρ = x → σ.ok P I ρ → (σ.asm none x f).nx = σ.nx ∧ (σ.asm none x f).ok P I ρ ∧ Same (σ.v J ρ) ((σ.asm none x f).v J ρ) := fun x ρ hx hok => ⟨rfl, asm_ok hok none hx, Same.refl _⟩
      split at h
      · rename_i hd
        simp only [Option.some.injEq, Prod.mk.injEq] at h; obtain ⟨rfl, rfl⟩ := h
        refine ⟨?_, ?_⟩
        · intro σ' hσ'
          rcases List.mem_append.1 hσ' with hσ' | hσ'
          · rcases List.mem_cons.1 hσ' with rfl | hσ'
            · exact ⟨σ, List.mem_cons_self .., s1 true⟩
            · obtain ⟨τ, h1, h2⟩ := r1 σ' (List.mem_append.2 (.inl hσ')); exact ⟨τ, List.mem_cons_of_mem _ h1, h2⟩
          · obtain ⟨τ, h1, h2⟩ := r1 σ' (List.mem_append.2 (.inr hσ')); exact ⟨τ, List.mem_cons_of_mem _ h1, h2⟩
        · intro τ hτ
          rcases List.mem_cons.1 hτ with rfl | hτ
          · refine ⟨f, hf, fun ρ hok => ⟨fun hx => ⟨_, List.mem_cons_self .., s2 true ρ hx hok⟩, fun hx => ?_⟩⟩
            rw [decB_v hok hd] at hx; cases hx
          · obtain ⟨g, h1, h2⟩ := r2 τ hτ
            refine ⟨g, h1, fun ρ hok => ⟨fun hx => ?_, fun hx => (h2 ρ hok).2 hx⟩⟩
            obtain ⟨y, q1, q2⟩ := (h2 ρ hok).1 hx; exact ⟨y, List.mem_cons_of_mem _ q1, q2⟩
      · rename_i hd
        simp only [Option.some.injEq, Prod.mk.injEq] at h; obtain ⟨rfl, rfl⟩ := h
        refine ⟨?_, ?_⟩
        · intro σ' hσ'
          rcases List.mem_append.1 hσ' with hσ' | hσ'
          · obtain ⟨τ, h1, h2⟩ := r1 σ' (List.mem_append.2 (.inl hσ')); exact ⟨τ, List.mem_cons_of_mem _ h1, h2⟩
          · rcases List.mem_cons.1 hσ' with rfl | hσ'
            · exact ⟨σ, List.mem_cons_self .., s1 false⟩
            · obtain ⟨τ, h1, h2⟩ := r1 σ' (List.mem_append.2 (.inr hσ')); exact ⟨τ, List.mem_cons_of_mem _ h1, h2⟩
        · intro τ hτ
          rcases List.mem_cons.1 hτ with rfl | hτ
          · refine ⟨f, hf, fun ρ hok => ⟨fun hx => ?_, fun hx => ⟨_, List.mem_cons_self .., s2 false ρ hx hok⟩⟩⟩
            rw [decB_v hok hd] at hx; cases hx
          · obtain ⟨g, h1, h2⟩ := r2 τ hτ
            refine ⟨g, h1, fun ρ hok => ⟨fun hx => (h2 ρ hok).1 hx, fun hx => ?_⟩⟩
            obtain ⟨y, q1, q2⟩ := (h2 ρ hok).2 hx; exact ⟨y, List.mem_cons_of_mem _ q1, q2⟩
      · simp only [Option.some.injEq, Prod.mk.injEq] at h; obtain ⟨rfl, rfl⟩ := h
        refine ⟨?_, ?_⟩
        · intro σ' hσ'
          rcases List.mem_append.1 hσ' with hσ' | hσ'
          · rcases List.mem_cons.1 hσ' with rfl | hσ'
            · exact ⟨σ, List.mem_cons_self .., s1 true⟩
            · obtain ⟨τ, h1, h2⟩ := r1 σ' (List.mem_append.2 (.inl hσ')); exact ⟨τ, List.mem_cons_of_mem _ h1, h2⟩
          · rcases List.mem_cons.1 hσ' with rfl | hσ'
            · exact ⟨σ, List.mem_cons_self .., s1 false⟩
            · obtain ⟨τ, h1, h2⟩ := r1 σ' (List.mem_append.2 (.inr hσ')); exact ⟨τ, List.mem_cons_of_mem _ h1, h2⟩
        · intro τ hτ
          rcases List.mem_cons.1 hτ with rfl | hτ
          · exact ⟨f, hf, fun ρ hok => ⟨fun hx => ⟨_, List.mem_cons_self .., s2 true ρ hx hok⟩, fun hx => ⟨_, List.mem_cons_self .., s2 false ρ hx hok⟩⟩⟩
          · obtain ⟨g, h1, h2⟩ := r2 τ hτ
            refine ⟨g, h1, fun ρ hok => ⟨fun hx => ?_, fun hx => ?_⟩⟩
            · obtain ⟨y, q1, q2⟩ := (h2 ρ hok).1 hx; exact ⟨y, List.mem_cons_of_mem _ q1, q2⟩
            · obtain ⟨y, q1, q2⟩ := (h2 ρ hok).2 hx; exact ⟨y, List.mem_cons_of_mem _ q1, q2⟩
    · cases h
def reb (σ0 : DSt) : List DSt → DSt
  | [σ] => σ
  | _ => σ0
def keepS (A : Ann) (id : Nat) (σ : DSt) : DSt :=
  match A.keep id with
  | some L => { σ with slots := pick σ.slots L }
  | none => σ
theorem keepS_sc {A : Ann} {id : Nat} {σ : DSt} (hs : σ.sc) : (keepS A id σ).sc ∧ (keepS A id σ).nx = σ.nx := by
  unfold keepS
  split
  · exact ⟨⟨fun t v hl => hs.slots t v (lk_pick _ _ _ _ hl), hs.tab, hs.tys, hs.lin, hs.prs⟩, rfl⟩
  · exact ⟨hs, rfl⟩
theorem keepS_ok {P : Program} {I : Pr} {A : Ann} {id : Nat} {σ : DSt} {ρ : Ro} (h : σ.ok P I ρ) : (keepS A id σ).ok P I ρ := by
  unfold keepS
  split
  · exact ⟨h.g, h.tys, h.lin, h.prs⟩
  · exact h
theorem keepS_imp {P : Program} {J : Ex} {n : Nat} {A : Ann} {id : Nat} {σ : DSt} {ρ : Ro} : Imp P n (σ.v J ρ) ((keepS A id σ).v J ρ) := by
  unfold keepS
  split
  · refine imp_less ?_ (fun k b hl => ⟨b, hl, fun _ _ _ h => h⟩) (fun k hk => hk)
    intro t b hl
    simp only [DSt.v, pick_slots] at hl ⊢
    exact ⟨b, lk_pick _ _ _ _ hl, fun _ _ _ _ h => h⟩
  · exact Imp.refl
def keepAll (A : Ann) (id : Nat) : List DSt → List DSt
  | [] => []
  | σ :: r => keepS A id σ :: keepAll A id r
theorem keepAll_mem {A : Ann} {id : Nat} : ∀ {l : List DSt} {x : DSt}, x ∈ keepAll A id l → ∃ σ ∈ l, x = keepS A id σ
  | σ :: r, x, h => by
    simp only [keepAll, List.mem_cons] at h
    rcases h with rfl | h
    · exact ⟨σ, List.mem_cons_self .., rfl⟩
    · obtain ⟨τ, h1, h2⟩ := keepAll_mem h; exact ⟨τ, List.mem_cons_of_mem _ h1, h2⟩
theorem keepAll_of {A : Ann} {id : Nat} : ∀ {l : List DSt} {σ : DSt}, σ ∈ l → keepS A id σ ∈ keepAll A id l
  | τ :: r, σ, h => by
    simp only [keepAll]
    rcases List.mem_cons.1 h with rfl | h
    · exact List.mem_cons_self ..
    · exact List.mem_cons_of_mem _ (keepAll_of h)
def dregion (P : Program) (n : Nat) (CL : DSt → Oper → Outs) (ops : Array Oper) (draw : Bool) (σ : DSt) : Outs :=
  match dstsB n ops.toList with
  | true => match draw with
    | false => dregs P n CL ops.toList (List.range ops.size) σ
    | true => match P.follows .mixedOrders, Region.noSelect ops with
      | true, true => ddraw P CL ops ops.size (Array.replicate ops.size false) σ
      | _, _ => none
  | false => none
theorem dregion_good {P : Program} {I : Pr} {J : Ex} {n id : Nat} {CL : DSt → Oper → Outs} (hC : Handler P I J n CL) {ops : Array Oper} {draw : Bool} {σ : DSt} {outs : List DSt} {q : List Seq} (h : dregion P n CL ops draw σ = some (outs, q)) (hV : Valid P I q) (hs : σ.sc)
    {Q : Exit → St → Prop} (hQ : ∀ c s, Q (.panic c) s → False) : RunGood P I J (fun s => AWP P n (.region id ops draw) s Q) (fun s => Q .normal s) σ outs := by
  unfold dregion at h
  split at h
  · rename_i hds
    split at h
    · have g := dregs_good hC (Q := Q) hds _ σ outs q h hV hs
      exact ⟨g.sc, fun ρ hok hB => awp_region (g.run ρ hok hB)⟩
    · split at h
      · rename_i hm hsel
        have g := ddraw_good hC hds hsel hQ _ _ σ outs q h hV hs
        exact ⟨g.sc, fun ρ hok hB => awp_drawn _ _ hm rfl rfl (g.run ρ hok hB)⟩
      · cases h
  · cases h
def tagAll (e : Exit) : List DSt → List (Exit × DSt)
  | [] => []
  | σ :: r => (e, σ) :: tagAll e r
theorem tagAll_mem {e : Exit} : ∀ {l : List DSt} {p : Exit × DSt}, p ∈ tagAll e l → p.1 = e ∧ p.2 ∈ l
  | σ :: r, p, h => by
    simp only [tagAll, List.mem_cons] at h
    rcases h with rfl | h
    · exact ⟨rfl, List.mem_cons_self ..⟩
    · obtain ⟨h1, h2⟩ := tagAll_mem h; exact ⟨h1, List.mem_cons_of_mem _ h2⟩
theorem tagAll_of {e : Exit} : ∀ {l : List DSt} {σ : DSt}, σ ∈ l → (e, σ) ∈ tagAll e l
  | τ :: r, σ, h => by
    simp only [tagAll]
    rcases List.mem_cons.1 h with rfl | h
    · exact List.mem_cons_self ..
    · exact List.mem_cons_of_mem _ (tagAll_of h)
def outOf (id : Nat) : List (Exit × DSt) → List DSt × List (Exit × DSt)
  | [] => ([], [])
  | (.exit j, σ) :: r => match outOf id r with
    | (a, b) => match Nat.beq j id with
      | true => (σ :: a, b)
      | false => (a, (.exit j, σ) :: b)
  | p :: r => match outOf id r with
    | (a, b) => (a, p :: b)
theorem outOf_a {id : Nat} : ∀ {l : List (Exit × DSt)} {σ : DSt}, σ ∈ (outOf id l).1 → (.exit id, σ) ∈ l
  | [], σ, h => by simp [outOf] at h
  | (e, τ) :: r, σ, h => by
    cases e with
    | exit j =>
      simp only [outOf] at h
      cases hb : Nat.beq j id with
      | true =>
        simp only [hb, List.mem_cons] at h
        rcases h with rfl | h
        · rw [Nat.eq_of_beq_eq_true hb]; exact List.mem_cons_self ..
        · exact List.mem_cons_of_mem _ (outOf_a h)
      | false => simp only [hb] at h; exact List.mem_cons_of_mem _ (outOf_a h)
    | _ => simp only [outOf] at h; exact List.mem_cons_of_mem _ (outOf_a h)
theorem outOf_b {id : Nat} : ∀ {l : List (Exit × DSt)} {p : Exit × DSt}, p ∈ (outOf id l).2 → p ∈ l
  | [], p, h => by simp [outOf] at h
  | (e, τ) :: r, p, h => by
    cases e with
    | exit j =>
      simp only [outOf] at h
      cases hb : Nat.beq j id with
      | true => simp only [hb] at h; exact List.mem_cons_of_mem _ (outOf_b h)
      | false =>
        simp only [hb, List.mem_cons] at h
        rcases h with rfl | h
        · exact List.mem_cons_self ..
        · exact List.mem_cons_of_mem _ (outOf_b h)
    | _ =>
      simp only [outOf, List.mem_cons] at h
      rcases h with rfl | h
      · exact List.mem_cons_self ..
      · exact List.mem_cons_of_mem _ (outOf_b h)
theorem outOf_in {id : Nat} : ∀ {l : List (Exit × DSt)} {e : Exit} {σ : DSt}, (e, σ) ∈ l → (e = .exit id ∧ σ ∈ (outOf id l).1) ∨ (e ≠ .exit id ∧ (e, σ) ∈ (outOf id l).2)
  | [], e, σ, h => by simp at h
  | (e0, τ) :: r, e, σ, h => by
    rcases List.mem_cons.1 h with h | h
    · simp only [Prod.mk.injEq] at h; obtain ⟨rfl, rfl⟩ := h
      cases e with
      | exit j =>
        simp only [outOf]
        cases hb : Nat.beq j id with
        | true => exact .inl ⟨by rw [Nat.eq_of_beq_eq_true hb], List.mem_cons_self ..⟩
        | false => exact .inr ⟨fun e => by cases e; simp [Nat.beq_refl] at hb, List.mem_cons_self ..⟩
      | _ => simp only [outOf]; exact .inr ⟨by simp, List.mem_cons_self ..⟩
    · have ih := outOf_in (id := id) h
      cases e0 with
      | exit j =>
        simp only [outOf]
        cases hb : Nat.beq j id with
        | true => exact ih.imp (fun ⟨a, b⟩ => ⟨a, List.mem_cons_of_mem _ b⟩) (fun x => x)
        | false => exact ih.imp (fun x => x) fun ⟨a, b⟩ => ⟨a, List.mem_cons_of_mem _ b⟩
      | _ => simp only [outOf]; exact ih.imp (fun x => x) fun ⟨a, b⟩ => ⟨a, List.mem_cons_of_mem _ b⟩
def down (m : Lin) (θ : Th) : List G := [.le (((m.si θ).ax (-1) m).addc 1), .le ((Lin.scale (-1) m).addc 1)]
def backs (n n0 : Nat) (T : DSt) (m : Lin) : List DSt → Option (List Seq)
  | [] => some []
  | σ :: r => match intoX n n0 σ T (down m), backs n n0 T m r with
    | some a, some b => some (a ++ b)
    | _, _ => none
theorem backs_mem {n n0 : Nat} {T : DSt} {m : Lin} : ∀ {S : List DSt} {q : List Seq}, backs n n0 T m S = some q → ∀ σ ∈ S, ∃ p, intoX n n0 σ T (down m) = some p ∧ ∀ s ∈ p, s ∈ q
  | [], q, h, σ, hσ => by simp at hσ
  | σ0' :: r, q, h, σ, hσ => by
    simp only [backs] at h
    split at h
    · rename_i a b h1 h2
      simp only [Option.some.injEq] at h; subst h
      rcases List.mem_cons.1 hσ with rfl | hσ
      · exact ⟨a, h1, fun s hs => List.mem_append.2 (.inl hs)⟩
      · obtain ⟨p, e1, e2⟩ := backs_mem h2 σ hσ
        exact ⟨p, e1, fun s hs => List.mem_append.2 (.inr (e2 s hs))⟩
    · cases h
def gopens (σ : DSt) : List Nat → DSt
  | [] => σ
  | l :: r => gopens (gopen σ l) r
theorem gopens_ok {P : Program} {I : Pr} {J : Ex} : ∀ {ls : List Nat} {σ : DSt}, GOk P I J σ (gopens σ ls)
  | [], _ => GOk.refl
  | l :: r, σ => GOk.trans gopen_ok (gopens_ok (ls := r))
def unrollGo (ex : List DSt → Option Res) : Nat → List DSt → Option (List (Exit × DSt) × List Seq)
  | _, [] => some ([], [])
  | 0, _ :: _ => none
  | k + 1, σ :: r => match ex (σ :: r) with
    | some R => match unrollGo ex k R.nor with
      | some (o, q) => some (R.oth ++ o, R.q ++ q)
      | none => none
    | none => none
def exec (P : Program) (n : Nat) (CL : DSt → Oper → Outs) (A : Ann) : Code → Nat → DSt → List DSt → Option Res
  | .skip, _, σ0, S => some ⟨S, σ0, [], []⟩
  | .ret, _, σ0, S => some ⟨[], σ0, tagAll .ret S, []⟩
  | .exit id, _, σ0, S => some ⟨[], σ0, tagAll (.exit id) S, []⟩
  | .region id ops draw, _, σ0, S => match joinS n A false id σ0 S with
    | some (S', q0) => match outsMap (dregion P n CL ops draw) S' with
      | some (outs, q) => some ⟨keepAll A id outs, reb σ0 S', [], q0 ++ q⟩
      | none => none
    | none => none
  | .seq a b, bid, σ0, S => match exec P n CL A a bid σ0 S with
    | some R => match exec P n CL A b bid (reb R.base R.nor) R.nor with
      | some R' => some ⟨R'.nor, R'.base, R.oth ++ R'.oth, R.q ++ R'.q⟩
      | none => none
    | none => none
  | .cond c x y, bid, σ0, S => match parts c S with
    | some (T, F) => match exec P n CL A x bid (reb σ0 T) T, exec P n CL A y bid (reb σ0 F) F with
      | some R, some R' => some ⟨R.nor ++ R'.nor, σ0, R.oth ++ R'.oth, R.q ++ R'.q⟩
      | _, _ => none
    | none => none
  | .block id c, _, σ0, S => match exec P n CL A c id σ0 S with
    | some R => match outOf id R.oth with
      | ([], o) => some ⟨R.nor, R.base, o, R.q⟩
      | (e, o) => some ⟨R.nor ++ e, σ0, o, R.q⟩
    | none => none
  | .loop c, bid, σ0, S => match A.unroll bid with
    | some m => match unrollGo (fun S => exec P n CL A c bid σ0 S) m S with
      | some (o, q) => some ⟨[], σ0, o, q⟩
      | none => none
    | none => match joinS n A true (100000 + bid) σ0 S with
      | some ([σa], q0) => match gopens σa (A.opens bid σa) with
        | σ => match A.loop bid σ with
          | some (T, m) => match tmplB σ.nx T, scB T.nx m.vars, into n σ σ T with
            | true, true, some q1 => match exec P n CL A c bid (T.over σ) [T.over σ] with
              | some R => match backs n σ.nx T m R.nor with
                | some q2 => some ⟨[], σ0, R.oth, q0 ++ (q1 ++ (R.q ++ q2))⟩
                | none => none
              | none => none
            | _, _, _ => none
          | none => none
      | some ([], q0) => some ⟨[], σ0, [], q0⟩
      | _ => none
  | _, _, _, _ => none
structure ExecOk (P : Program) (I : Pr) (J : Ex) (n : Nat) (c : Code) (σ0 : DSt) (S : List DSt) (R : Res) : Prop where
  base : R.base.sc ∧ σ0.nx ≤ R.base.nx
  nor : ∀ σ' ∈ R.nor, σ'.sc ∧ R.base.nx ≤ σ'.nx
  oth : ∀ p ∈ R.oth, p.2.sc ∧ σ0.nx ≤ p.2.nx
  ne : ∀ p ∈ R.oth, p.1 ≠ .normal
  run : ∀ σ ∈ S, ∀ ρ, σ.ok P I ρ → σ0.ok P I ρ → ∀ Q : Exit → St → Prop, (∀ c s, Q (.panic c) s → False) →
    (∀ σ' ∈ R.nor, ∀ ρ', Agree σ0.nx ρ ρ' → σ'.ok P I ρ' → R.base.ok P I ρ' → ∀ s, Imp P n s (σ'.v J ρ') → Q .normal s) →
    (∀ e σ', (e, σ') ∈ R.oth → ∀ ρ', Agree σ0.nx ρ ρ' → σ'.ok P I ρ' → ∀ s, Imp P n s (σ'.v J ρ') → Q e s) → AWP P n c (σ.v J ρ) Q
theorem reb_ok {P : Program} {I : Pr} {σ0 : DSt} {S : List DSt} (h0 : σ0.sc) (hS : ∀ σ ∈ S, σ.sc ∧ σ0.nx ≤ σ.nx) :
    (reb σ0 S).sc ∧ σ0.nx ≤ (reb σ0 S).nx ∧ (∀ σ ∈ S, (reb σ0 S).nx ≤ σ.nx) ∧ ∀ σ ∈ S, ∀ ρ, σ.ok P I ρ → σ0.ok P I ρ → (reb σ0 S).ok P I ρ := by
  unfold reb
  split
  · rename_i σ
    have := hS σ (by simp)
    exact ⟨this.1, this.2, by simp, fun τ hτ ρ h _ => by simp at hτ; subst hτ; exact h⟩
  · exact ⟨h0, Nat.le_refl _, fun σ hσ => (hS σ hσ).2, fun _ _ _ _ h => h⟩
theorem AWP.of_same {P : Program} {n : Nat} {c : Code} {s s' : St} {Q : Exit → St → Prop} (h : Same s s') (k : AWP P n c s' Q) : AWP P n c s Q :=
  fun lo w0 E0 a w hh => k lo w0 E0 a w (h.holds hh)
theorem unroll_ok {P : Program} {I : Pr} {J : Ex} {n : Nat} {c : Code} {σ0 : DSt} (h0 : σ0.sc) {ex : List DSt → Option Res}
    (hex : ∀ S R, ex S = some R → Valid P I R.q → (∀ σ ∈ S, σ.sc ∧ σ0.nx ≤ σ.nx) → ExecOk P I J n c σ0 S R) {m : Nat} {S : List DSt} {o : List (Exit × DSt)} {q : List Seq} (hu : unrollGo ex m S = some (o, q)) (hV : Valid P I q) (hS : ∀ σ ∈ S, σ.sc ∧ σ0.nx ≤ σ.nx) :
    (∀ p ∈ o, p.2.sc ∧ σ0.nx ≤ p.2.nx) ∧ (∀ p ∈ o, p.1 ≠ .normal) ∧ ∀ σ ∈ S, ∀ ρ, σ.ok P I ρ → σ0.ok P I ρ → ∀ Q : Exit → St → Prop, (∀ c s, Q (.panic c) s → False) →
      (∀ e σ', (e, σ') ∈ o → ∀ ρ', Agree σ0.nx ρ ρ' → σ'.ok P I ρ' → ∀ s, Imp P n s (σ'.v J ρ') → Q e s) → AWP P n (.loop c) (σ.v J ρ) Q := by
  have base : ∀ (m : Nat) (S : List DSt) (o : List (Exit × DSt)) (q : List Seq), unrollGo ex m S = some (o, q) → Valid P I q → (∀ σ ∈ S, σ.sc ∧ σ0.nx ≤ σ.nx) → (∀ p ∈ o, p.2.sc ∧ σ0.nx ≤ p.2.nx) ∧ ∀ p ∈ o, p.1 ≠ .normal := by
    intro m
    induction m with
    | zero =>
      intro S o q hu hV hS
      cases S with
      | nil => simp only [unrollGo, Option.some.injEq, Prod.mk.injEq] at hu; rw [← hu.1]; simp
      | cons σ r => simp [unrollGo] at hu
    | succ m ih =>
      intro S o q hu hV hS
      cases S with
      | nil => simp only [unrollGo, Option.some.injEq, Prod.mk.injEq] at hu; rw [← hu.1]; simp
      | cons σ r =>
        simp only [unrollGo] at hu
        split at hu
        · rename_i R hR
          split at hu
          · rename_i o' q' hu'
            simp only [Option.some.injEq, Prod.mk.injEq] at hu; obtain ⟨rfl, rfl⟩ := hu
            rw [Valid.app] at hV
            have x := hex _ R hR hV.1 hS
            have y := ih R.nor o' q' hu' hV.2 fun σ hσ => ⟨(x.nor σ hσ).1, Nat.le_trans x.base.2 (x.nor σ hσ).2⟩
            exact ⟨fun p hp => (List.mem_append.1 hp).elim (x.oth p) (y.1 p), fun p hp => (List.mem_append.1 hp).elim (x.ne p) (y.2 p)⟩
          · cases hu
        · cases hu
  obtain ⟨b1, b2⟩ := base m S o q hu hV hS
  refine ⟨b1, b2, ?_⟩
  intro σ hσ ρ hok hok0 Q hQ ho
  refine awp_loop (α := Nat × DSt × Ro) (fun x => x.2.1.v J x.2.2) (fun x => ∃ S o' q', x.2.1 ∈ S ∧ unrollGo ex x.1 S = some (o', q') ∧ (∀ p ∈ o', p ∈ o) ∧ Valid P I q' ∧ (∀ σ ∈ S, σ.sc ∧ σ0.nx ≤ σ.nx) ∧ x.2.1.ok P I x.2.2 ∧ σ0.ok P I x.2.2 ∧ Agree σ0.nx ρ x.2.2)
    (fun x => x.1) (m, σ, ρ) Imp.refl ⟨S, o, q, hσ, hu, fun _ h => h, hV, hS, hok, hok0, Agree.refl _ _⟩ ?_
  rintro ⟨k, τ, r⟩ ⟨S1, o1, q1, hτ, hu1, hsub, hV1, hS1, okτ, ok0, ag⟩
  cases S1 with
  | nil => simp at hτ
  | cons s1 r1 =>
    cases k with
    | zero => simp [unrollGo] at hu1
    | succ k =>
      simp only [unrollGo] at hu1
      split at hu1
      · rename_i R hR
        split at hu1
        · rename_i o' q' hu'
          simp only [Option.some.injEq, Prod.mk.injEq] at hu1; obtain ⟨rfl, rfl⟩ := hu1
          rw [Valid.app] at hV1
          have x := hex _ R hR hV1.1 hS1
          refine x.run τ hτ r okτ ok0 _ ?_ ?_ ?_
          · intro c s hc; exact hQ c s hc
          · intro y hy r2 ag2 ok2 okb2 s im2
            exact ⟨(k, y, r2), ⟨R.nor, o', q', hy, hu', fun p hp => hsub p (List.mem_append.2 (.inr hp)), hV1.2, fun σ hσ => ⟨(x.nor σ hσ).1, Nat.le_trans x.base.2 (x.nor σ hσ).2⟩, ok2, ok0.ag h0 ag2 ok2.g, ag.trans ag2 (Nat.le_refl _)⟩, Nat.lt_succ_self k, im2⟩
          · intro e y hy r2 ag2 ok2 s im2
            have := ho e y (hsub _ (List.mem_append.2 (.inl hy))) r2 (ag.trans ag2 (Nat.le_refl _)) ok2 s im2
            cases e with
            | normal => exact absurd rfl (x.ne _ hy)
            | _ => exact this
        · cases hu1
      · cases hu1
theorem exec_ok {P : Program} {I : Pr} {J : Ex} {n : Nat} {CL : DSt → Oper → Outs} (hC : Handler P I J n CL) (A : Ann) : ∀ (c : Code) (bid : Nat) (σ0 : DSt) (S : List DSt) (R : Res),
    exec P n CL A c bid σ0 S = some R → Valid P I R.q → σ0.sc → (∀ σ ∈ S, σ.sc ∧ σ0.nx ≤ σ.nx) → ExecOk P I J n c σ0 S R := by
  intro c
  induction c with
  | skip =>
    intro bid σ0 S R h hV h0 hS
    simp only [exec, Option.some.injEq] at h; subst h
    exact ⟨⟨h0, Nat.le_refl _⟩, hS, by simp, by simp, fun σ hσ ρ hok hok0 Q _ hn _ => awp_skip (hn σ hσ ρ (Agree.refl _ _) hok hok0 _ Imp.refl)⟩
  | ret =>
    intro bid σ0 S R h hV h0 hS
    simp only [exec, Option.some.injEq] at h; subst h
    refine ⟨⟨h0, Nat.le_refl _⟩, by simp, ?_, fun p hp => by rw [(tagAll_mem hp).1]; simp, fun σ hσ ρ hok hok0 Q _ _ ho => awp_ret (ho .ret σ (tagAll_of hσ) ρ (Agree.refl _ _) hok _ Imp.refl)⟩
    intro p hp; obtain ⟨_, h2⟩ := tagAll_mem hp; exact hS _ h2
  | exit id =>
    intro bid σ0 S R h hV h0 hS
    simp only [exec, Option.some.injEq] at h; subst h
    refine ⟨⟨h0, Nat.le_refl _⟩, by simp, ?_, fun p hp => by rw [(tagAll_mem hp).1]; simp, fun σ hσ ρ hok hok0 Q _ _ ho => awp_exit (ho (.exit id) σ (tagAll_of hσ) ρ (Agree.refl _ _) hok _ Imp.refl)⟩
    intro p hp; obtain ⟨_, h2⟩ := tagAll_mem hp; exact hS _ h2
  | region id ops draw =>
    intro bid σ0 S R h hV h0 hS
    simp only [exec] at h
    split at h
    · rename_i S' q0 hj
      split at h
      · rename_i outs q hm
        simp only [Option.some.injEq] at h; subst h
        have hj' := joinS_ok (J := J) hj (fun s hs => hV s (List.mem_append.2 (.inl hs))) h0 hS
        have hVq : Valid P I q := fun s hs => hV s (List.mem_append.2 (.inr hs))
        have hrb := reb_ok (P := P) (I := I) h0 hj'.sc
        have good : ∀ τ ∈ S', ∀ {Q : Exit → St → Prop}, (∀ c s, Q (.panic c) s → False) → ∃ a, (∀ x ∈ a, x ∈ outs) ∧ RunGood P I J (fun s => AWP P n (.region id ops draw) s Q) (fun s => Q .normal s) τ a := by
          intro τ hτ Q hQ
          obtain ⟨a, p, e1, e2, e3⟩ := outsMap_mem hm τ hτ
          exact ⟨a, e2, dregion_good hC e1 (fun s hs => hVq s (e3 s hs)) (hj'.sc τ hτ).1 hQ⟩
        refine ⟨⟨hrb.1, hrb.2.1⟩, ?_, by simp, by simp, ?_⟩
        · intro x hx
          obtain ⟨y, hy, rfl⟩ := keepAll_mem hx
          obtain ⟨τ, hτ, a, p, e1, e2⟩ := outsMap_back hm y hy
          obtain ⟨a', p', e1', _, e3'⟩ := outsMap_mem hm τ hτ
          rw [e1] at e1'; simp only [Option.some.injEq, Prod.mk.injEq] at e1'; obtain ⟨rfl, rfl⟩ := e1'
          have g := (dregion_good (id := id) hC (Q := fun e _ => e = .normal) e1 (fun s hs => hVq s (e3' s hs)) (hj'.sc τ hτ).1 (fun c s h => by cases h)).sc y e2
          have k := keepS_sc (A := A) (id := id) g.1
          exact ⟨k.1, Nat.le_trans (hrb.2.2.1 τ hτ) (k.2 ▸ g.2)⟩
        · intro σ hσ ρ hok hok0 Q hQ hn ho
          obtain ⟨τ, hτ, ρ1, ag1, ok1, im1⟩ := hj'.to σ hσ ρ hok hok0
          obtain ⟨a, ha, g⟩ := good τ hτ hQ
          refine AWP.imp im1 (g.run ρ1 ok1 ?_)
          intro y hy ρ2 ag2 ok2
          have hτs := hj'.sc τ hτ
          refine hn (keepS A id y) (keepAll_of (ha y hy)) ρ2 (ag1.trans ag2 hτs.2) (keepS_ok ok2) ?_ _ keepS_imp
          have hb := hrb.2.2.2 τ hτ ρ1 ok1 (hok0.ag h0 ag1 ok1.g)
          exact hb.ag hrb.1 (ag2.le (hrb.2.2.1 τ hτ)) ok2.g
      · cases h
    · cases h
  | seq a b iha ihb =>
    intro bid σ0 S R h hV h0 hS
    simp only [exec] at h
    split at h
    · rename_i R1 h1
      split at h
      · rename_i R2 h2
        simp only [Option.some.injEq] at h; subst h
        have x1 := iha bid σ0 S R1 h1 (fun s hs => hV s (List.mem_append.2 (.inl hs))) h0 hS
        have hrb := reb_ok (P := P) (I := I) x1.base.1 x1.nor
        have x2 := ihb bid _ _ R2 h2 (fun s hs => hV s (List.mem_append.2 (.inr hs))) hrb.1 (fun σ hσ => ⟨(x1.nor σ hσ).1, hrb.2.2.1 σ hσ⟩)
        have l1 : σ0.nx ≤ (reb R1.base R1.nor).nx := Nat.le_trans x1.base.2 hrb.2.1
        refine ⟨⟨x2.base.1, Nat.le_trans l1 x2.base.2⟩, x2.nor, ?_, fun p hp => (List.mem_append.1 hp).elim (x1.ne p) (x2.ne p), ?_⟩
        · intro p hp
          rcases List.mem_append.1 hp with hp | hp
          · exact x1.oth p hp
          · exact ⟨(x2.oth p hp).1, Nat.le_trans l1 (x2.oth p hp).2⟩
        · intro σ hσ ρ hok hok0 Q hQ hn ho
          refine awp_seq (x1.run σ hσ ρ hok hok0 _ ?_ ?_ ?_)
          · intro c s hc; exact hQ c s hc
          · intro τ hτ ρ1 ag1 ok1 okb s im
            refine AWP.imp im (x2.run τ hτ ρ1 ok1 (hrb.2.2.2 τ hτ ρ1 ok1 okb) Q hQ ?_ ?_)
            · intro y hy ρ2 ag2 ok2 okb2 s im2
              exact hn y hy ρ2 (ag1.trans ag2 l1) ok2 okb2 s im2
            · intro e y hy ρ2 ag2 ok2 s im2
              exact ho e y (List.mem_append.2 (.inr hy)) ρ2 (ag1.trans ag2 l1) ok2 s im2
          · intro e τ hτ ρ1 ag1 ok1 s im
            have := ho e τ (List.mem_append.2 (.inl hτ)) ρ1 ag1 ok1 s im
            cases e with
            | normal => exact absurd rfl (x1.ne _ hτ)
            | _ => exact this
      · cases h
    · cases h
  | cond c x y ihx ihy =>
    intro bid σ0 S R h hV h0 hS
    simp only [exec] at h
    split at h
    · rename_i T F hp
      split at h
      · rename_i R1 R2 h1 h2
        simp only [Option.some.injEq] at h; subst h
        obtain ⟨p1, p2⟩ := parts_ok (P := P) (I := I) (J := J) hp fun σ hσ => (hS σ hσ).1
        have hT : ∀ σ ∈ T, σ.sc ∧ σ0.nx ≤ σ.nx := fun σ hσ => by
          obtain ⟨τ, h1, h2, h3⟩ := p1 σ (List.mem_append.2 (.inl hσ)); exact ⟨h2, h3 ▸ (hS τ h1).2⟩
        have hF : ∀ σ ∈ F, σ.sc ∧ σ0.nx ≤ σ.nx := fun σ hσ => by
          obtain ⟨τ, h1, h2, h3⟩ := p1 σ (List.mem_append.2 (.inr hσ)); exact ⟨h2, h3 ▸ (hS τ h1).2⟩
        have rT := reb_ok (P := P) (I := I) h0 hT
        have rF := reb_ok (P := P) (I := I) h0 hF
        have x1 := ihx bid _ T R1 h1 (fun s hs => hV s (List.mem_append.2 (.inl hs))) rT.1 (fun σ hσ => ⟨(hT σ hσ).1, rT.2.2.1 σ hσ⟩)
        have x2 := ihy bid _ F R2 h2 (fun s hs => hV s (List.mem_append.2 (.inr hs))) rF.1 (fun σ hσ => ⟨(hF σ hσ).1, rF.2.2.1 σ hσ⟩)
        refine ⟨⟨h0, Nat.le_refl _⟩, ?_, ?_, fun p hp => (List.mem_append.1 hp).elim (x1.ne p) (x2.ne p), ?_⟩
        · intro σ hσ
          rcases List.mem_append.1 hσ with hσ | hσ
          · exact ⟨(x1.nor σ hσ).1, Nat.le_trans rT.2.1 (Nat.le_trans x1.base.2 (x1.nor σ hσ).2)⟩
          · exact ⟨(x2.nor σ hσ).1, Nat.le_trans rF.2.1 (Nat.le_trans x2.base.2 (x2.nor σ hσ).2)⟩
        · intro p hp
          rcases List.mem_append.1 hp with hp | hp
          · exact ⟨(x1.oth p hp).1, Nat.le_trans rT.2.1 (x1.oth p hp).2⟩
          · exact ⟨(x2.oth p hp).1, Nat.le_trans rF.2.1 (x2.oth p hp).2⟩
        · intro σ hσ ρ hok hok0 Q hQ hn ho
          obtain ⟨f, hf, hsp⟩ := p2 σ hσ
          refine awp_cond (f.v ρ) (dbool_v ρ hf) ?_ ?_
          · intro hb
            obtain ⟨τ, hτ, hnx, okτ, sm⟩ := (hsp ρ hok).1 hb
            refine AWP.of_same sm (x1.run τ hτ ρ okτ (rT.2.2.2 τ hτ ρ okτ hok0) Q hQ ?_ ?_)
            · intro y hy ρ2 ag2 ok2 okb2 s im2
              exact hn y (List.mem_append.2 (.inl hy)) ρ2 (ag2.le rT.2.1) ok2 (hok0.ag h0 (ag2.le rT.2.1) ok2.g) s im2
            · intro e y hy ρ2 ag2 ok2 s im2
              exact ho e y (List.mem_append.2 (.inl hy)) ρ2 (ag2.le rT.2.1) ok2 s im2
          · intro hb
            obtain ⟨τ, hτ, hnx, okτ, sm⟩ := (hsp ρ hok).2 hb
            refine AWP.of_same sm (x2.run τ hτ ρ okτ (rF.2.2.2 τ hτ ρ okτ hok0) Q hQ ?_ ?_)
            · intro y hy ρ2 ag2 ok2 okb2 s im2
              exact hn y (List.mem_append.2 (.inr hy)) ρ2 (ag2.le rF.2.1) ok2 (hok0.ag h0 (ag2.le rF.2.1) ok2.g) s im2
            · intro e y hy ρ2 ag2 ok2 s im2
              exact ho e y (List.mem_append.2 (.inr hy)) ρ2 (ag2.le rF.2.1) ok2 s im2
      · cases h
    · cases h
  | block id c ih =>
    intro bid σ0 S R h hV h0 hS
    simp only [exec] at h
    split at h
    · rename_i R1 h1
      have hV1 : Valid P I R1.q := by
        split at h <;> (simp only [Option.some.injEq] at h; subst h; exact hV)
      have x1 := ih id σ0 S R1 h1 hV1 h0 hS
      have hO : ∀ p ∈ (outOf id R1.oth).2, p ∈ R1.oth := fun p hp => outOf_b hp
      have hE : ∀ σ ∈ (outOf id R1.oth).1, (Exit.exit id, σ) ∈ R1.oth := fun σ hσ => outOf_a hσ
      have body : ∀ σ ∈ S, ∀ ρ, σ.ok P I ρ → σ0.ok P I ρ → ∀ Q : Exit → St → Prop, (∀ c s, Q (.panic c) s → False) →
          (∀ σ' ∈ R1.nor, ∀ ρ', Agree σ0.nx ρ ρ' → σ'.ok P I ρ' → R1.base.ok P I ρ' → ∀ s, Imp P n s (σ'.v J ρ') → Q .normal s) →
          (∀ σ' ∈ (outOf id R1.oth).1, ∀ ρ', Agree σ0.nx ρ ρ' → σ'.ok P I ρ' → ∀ s, Imp P n s (σ'.v J ρ') → Q .normal s) →
          (∀ e σ', (e, σ') ∈ (outOf id R1.oth).2 → ∀ ρ', Agree σ0.nx ρ ρ' → σ'.ok P I ρ' → ∀ s, Imp P n s (σ'.v J ρ') → Q e s) → AWP P n (.block id c) (σ.v J ρ) Q := by
        intro σ hσ ρ hok hok0 Q hQ hn he ho
        refine awp_block (x1.run σ hσ ρ hok hok0 _ ?_ ?_ ?_)
        · intro c s hc; exact hQ c s hc
        · intro y hy ρ2 ag2 ok2 okb2 s im2; exact hn y hy ρ2 ag2 ok2 okb2 s im2
        · intro e y hy ρ2 ag2 ok2 s im2
          rcases outOf_in (id := id) hy with ⟨rfl, h⟩ | ⟨h, h'⟩
          · simp only [Nat.beq_refl]; exact he y h ρ2 ag2 ok2 s im2
          · have := ho e y h' ρ2 ag2 ok2 s im2
            cases e with
            | exit j =>
              simp only
              cases hb : Nat.beq j id with
              | true => exact absurd (by rw [Nat.eq_of_beq_eq_true hb]) h
              | false => exact this
            | _ => exact this
      split at h
      · rename_i o ho
        simp only [Option.some.injEq] at h; subst h
        rw [ho] at hO hE body
        exact ⟨x1.base, x1.nor, fun p hp => x1.oth p (hO p hp), fun p hp => x1.ne p (hO p hp), fun σ hσ ρ hok hok0 Q hQ hn hoo =>
          body σ hσ ρ hok hok0 Q hQ hn (by simp) hoo⟩
      · rename_i e o ho
        simp only [Option.some.injEq] at h; subst h
        rw [ho] at hO hE body
        refine ⟨⟨h0, Nat.le_refl _⟩, ?_, fun p hp => x1.oth p (hO p hp), fun p hp => x1.ne p (hO p hp), fun σ hσ ρ hok hok0 Q hQ hn hoo =>
          body σ hσ ρ hok hok0 Q hQ ?_ ?_ hoo⟩
        · intro y hy
          rcases List.mem_append.1 hy with hy | hy
          · exact ⟨(x1.nor y hy).1, Nat.le_trans x1.base.2 (x1.nor y hy).2⟩
          · exact x1.oth _ (hE y hy)
        · intro y hy ρ2 ag2 ok2 okb2 s im2
          exact hn y (List.mem_append.2 (.inl hy)) ρ2 ag2 ok2 (hok0.ag h0 ag2 ok2.g) s im2
        · intro y hy ρ2 ag2 ok2 s im2
          exact hn y (List.mem_append.2 (.inr hy)) ρ2 ag2 ok2 (hok0.ag h0 ag2 ok2.g) s im2
    · cases h
  | loop c ih =>
    intro bid σ0 S R h hV h0 hS
    simp only [exec] at h
    split at h
    · rename_i m _
      split at h
      · rename_i o q hu
        simp only [Option.some.injEq] at h; subst h
        have good := unroll_ok (P := P) (I := I) (J := J) (n := n) (c := c) (σ0 := σ0) h0 (ex := fun S => exec P n CL A c bid σ0 S) (fun S R h hv hS => ih bid σ0 S R h hv h0 hS) hu hV hS
        exact ⟨⟨h0, Nat.le_refl _⟩, by simp, good.1, good.2.1, fun σ hσ ρ hok hok0 Q hQ _ ho => good.2.2 σ hσ ρ hok hok0 Q hQ ho⟩
      · cases h
    · split at h
      · rename_i σa q0 hj
        have hgo := gopens_ok (P := P) (I := I) (J := J) (ls := A.opens bid σa) (σ := σa)
        generalize gopens σa (A.opens bid σa) = σ at h hgo
        split at h
        · rename_i T m hT
          split at h
          · rename_i q1 hb hm hi
            split at h
            · rename_i R1 h1
              split at h
              · rename_i q2 hk
                simp only [Option.some.injEq] at h; subst h
                have V0 : Valid P I q0 := fun s hs => hV s (List.mem_append.2 (.inl hs))
                have V1 : Valid P I q1 := fun s hs => hV s (List.mem_append.2 (.inr (List.mem_append.2 (.inl hs))))
                have V2 : Valid P I R1.q := fun s hs => hV s (List.mem_append.2 (.inr (List.mem_append.2 (.inr (List.mem_append.2 (.inl hs))))))
                have V3 : Valid P I q2 := fun s hs => hV s (List.mem_append.2 (.inr (List.mem_append.2 (.inr (List.mem_append.2 (.inr hs))))))
                have j := joinS_ok (J := J) hj V0 h0 hS
                have hσa := j.sc σa (by simp)
                have hσ : σ.sc ∧ σ0.nx ≤ σ.nx := ⟨hgo.sc hσa.1, Nat.le_trans hσa.2 hgo.nx⟩
                have hTs := over_sc hb hσ.1
                have x1 := ih bid _ [T.over σ] R1 h1 V2 hTs.1 (by simpa using hTs.1)
                have l0 : σ0.nx ≤ (T.over σ).nx := Nat.le_trans hσ.2 hTs.2
                refine ⟨⟨h0, Nat.le_refl _⟩, by simp, fun p hp => ⟨(x1.oth p hp).1, Nat.le_trans l0 (x1.oth p hp).2⟩, x1.ne, ?_⟩
                intro τ hτ ρ hok hok0 Q hQ hn ho
                obtain ⟨σ', hσ', ρa, aga, oka, ima⟩ := j.to τ hτ ρ hok hok0
                simp only [List.mem_singleton] at hσ'; subst hσ'
                obtain ⟨ρ1, agb, ok1, sm1⟩ := hgo.run hσa.1 ρa oka
                have ag1 : Agree σ0.nx ρ ρ1 := aga.trans agb hσa.2
                have im1 : Imp P n (τ.v J ρ) (σ.v J ρ1) := ima.trans fun lo w0 E0 a w hh => sm1.holds hh
                obtain ⟨ρ2, c2⟩ := into_ok (J := J) hi V1 ρ1 ok1
                refine AWP.imp im1 (awp_loop (α := Ro) (fun r => (T.over σ).v J r) (fun r => Agree σ.nx ρ1 r ∧ (T.over σ).ok P I r) (fun r => (m.v r).toNat) ρ2 c2.imp ⟨c2.ag, over_ok c2 hσ.1 ok1⟩ ?_)
                rintro r ⟨agr, okr⟩
                refine x1.run _ (List.mem_singleton.2 rfl) r okr okr _ ?_ ?_ ?_
                · intro c s hc; exact hQ c s hc
                · intro y hy r2 ag2 ok2 okb2 s im2
                  obtain ⟨p, e1, e2⟩ := backs_mem hk y hy
                  obtain ⟨θ, c3, hd⟩ := intoX_ok (J := J) e1 (fun s hs => V3 s (e2 s hs)) r2 ok2
                  have agr2 : Agree σ.nx ρ1 r2 := agr.trans ag2 hTs.2
                  refine ⟨ap r2 θ, ⟨agr2.trans c3.ag (Nat.le_refl _), over_ok c3 hσ.1 (ok1.ag hσ.1 agr2 ok2.g)⟩, ?_, im2.trans c3.imp⟩
                  simp only [down, gsV, G.v, Lin.addc_v, Lin.ax_v, Lin.scale_v, Lin.si_v] at hd
                  have hmv : m.v r2 = m.v r := Lin.ag ag2 (scB_sc hm)
                  rw [hmv] at hd
                  show (m.v (ap r2 θ)).toNat < (m.v r).toNat
                  omega
                · intro e y hy r2 ag2 ok2 s im2
                  have := ho e y hy r2 (ag1.trans (agr.trans ag2 hTs.2) hσ.2) ok2 s im2
                  cases e with
                  | normal => exact absurd rfl (x1.ne _ hy)
                  | _ => exact this
              · cases h
            · cases h
          · cases h
        · cases h
      · rename_i q0 hj
        simp only [Option.some.injEq] at h; subst h
        have j := joinS_ok (J := J) hj hV h0 hS
        refine ⟨⟨h0, Nat.le_refl _⟩, by simp, by simp, by simp, ?_⟩
        intro τ hτ ρ hok hok0 Q hQ hn ho
        obtain ⟨σ', hσ', _⟩ := j.to τ hτ ρ hok hok0
        simp at hσ'
      · cases h
  | _ => intro bid σ0 S R h; simp [exec] at h
end Go.TL
