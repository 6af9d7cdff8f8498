/- Runs of operations; code. -/
import Derived.Test.YtaaimmmofkldbaaWl19
namespace Go.TL
def StepGood (P : Program) (I : Pr) (J : Ex) (n : Nat) (o : Oper) (σ : DSt) (outs : List DSt) : Prop :=
  σ.sc → (∀ σ' ∈ outs, σ'.sc ∧ σ.nx ≤ σ'.nx) ∧ ∀ ρ, σ.ok P I ρ → ∀ (K : Act → World → Prop) (Q : Exit → Act → World → Prop) (lo : Nat) (w0 : World) (E0 : Env),
    (∀ σ' ∈ outs, ∀ ρ', Agree σ.nx ρ ρ' → σ'.ok P I ρ' → ∀ a' w', Holds (mkC P n lo w0 E0) (σ'.v J ρ') a' w' → K a' w') →
    ∀ a w, Holds (mkC P n lo w0 E0) (σ.v J ρ) a w → (∀ d, o.dst = some d → d < n) → o.wp P a w K Q
abbrev Outs := Option (List DSt × List Seq)
def Handler (P : Program) (I : Pr) (J : Ex) (n : Nat) (CL : DSt → Oper → Outs) : Prop :=
  ∀ σ o outs q, CL σ o = some (outs, q) → Valid P I q → StepGood P I J n o σ outs
def dstep (P : Program) (CL : DSt → Oper → Outs) (σ : DSt) (o : Oper) : Outs :=
  match dop P σ o with
  | some (σ', gs) => some ([gstep σ'], todo σ gs)
  | none => CL σ o
theorem dop_step {P : Program} {I : Pr} {J : Ex} {n : Nat} {σ σ' : DSt} {o : Oper} {gs : List G} (h : dop P σ o = some (σ', gs)) (hV : Valid P I (todo σ gs)) : StepGood P I J n o σ [σ'] := by
  intro hs
  obtain ⟨h1, h2, h3⟩ := dop_good (I := I) (J := J) h hs
  refine ⟨by simp [h1, h2], ?_⟩
  intro ρ hok K Q lo w0 E0 hK a w hh hd
  obtain ⟨ρ', ha, hok', H, s, ps, e1, e2, e3⟩ := h3 ρ hok (todo_v hok hV)
  obtain ⟨v, w', hrun, hs'⟩ := aop_sound (C := mkC P n lo w0 E0) e1 e2 hh hd
  unfold Oper.wp
  rcases hrun with hrun | ⟨hrun, rfl⟩
  · change Sem.run P _ _ = _ at hrun
    rw [hrun]; exact hK σ' (by simp) ρ' ha hok' _ _ (e3.holds hs')
  · change Sem.run P _ _ = _ at hrun
    rw [hrun]; exact hK σ' (by simp) ρ' ha hok' _ _ (e3.holds hs')
theorem dstep_good {P : Program} {I : Pr} {J : Ex} {n : Nat} {CL : DSt → Oper → Outs} (hC : Handler P I J n CL) {σ : DSt} {o : Oper} {outs : List DSt} {q : List Seq} (h : dstep P CL σ o = some (outs, q)) (hV : Valid P I q) : StepGood P I J n o σ outs := by
  unfold dstep at h
  split at h
  · rename_i σ' gs hd
    simp only [Option.some.injEq, Prod.mk.injEq] at h; obtain ⟨rfl, rfl⟩ := h
    have x := dop_step (J := J) (n := n) hd hV
    intro hs
    obtain ⟨h1, h2⟩ := x hs
    have g := gstep_ok (P := P) (I := I) (J := J) (σ := σ')
    have hσ := h1 σ' (by simp)
    refine ⟨by simpa using ⟨g.sc hσ.1, Nat.le_trans hσ.2 g.nx⟩, ?_⟩
    intro ρ hok K Q lo w0 E0 hK a w hh hd'
    refine h2 ρ hok K Q lo w0 E0 ?_ a w hh hd'
    intro y hy ρ' ha hok' a' w' hh'
    simp only [List.mem_singleton] at hy; subst hy
    obtain ⟨ρ2, a2, o2, s2⟩ := g.run hσ.1 ρ' hok'
    exact hK _ (by simp) ρ2 (ha.trans a2 hσ.2) o2 a' w' (s2.holds hh')
  · exact hC σ o outs q h hV
def asmF (σ : DSt) : Bool → BF → List Lin × List PF
  | true, .le e => ([e], [])
  | false, .le e => ([negLin e], [])
  | true, .eq e => ([e, Lin.scale (-1) e], [])
  | false, .eq e => match provesLe σ (Lin.scale (-1) e) with
    | true => ([negLin e], [])
    | false => match provesLe σ e with
      | true => ([e.addc 1], [])
      | false => ([], [.tru (.not (.eq e))])
  | b, .not f => asmF σ (!b) f
  | true, .and f g => ((asmF σ true f).1 ++ (asmF σ true g).1, (asmF σ true f).2 ++ (asmF σ true g).2)
  | false, .or f g => ((asmF σ false f).1 ++ (asmF σ false g).1, (asmF σ false f).2 ++ (asmF σ false g).2)
  | true, f => ([], [.tru f])
  | false, f => ([], [.tru (.not f)])
theorem asmF_v {P : Program} {I : Pr} {σ : DSt} {ρ : Ro} (hok : σ.ok P I ρ) : ∀ (f : BF) (b : Bool), f.v ρ = b → linsV ρ (asmF σ b f).1 ∧ prsV I ρ (asmF σ b f).2
  | .le e, true, h => by simp only [BF.v, decide_eq_true_eq] at h; exact ⟨⟨h, trivial⟩, trivial⟩
  | .le e, false, h => by
    simp only [BF.v, decide_eq_false_iff_not] at h
    exact ⟨⟨by simp only [negLin, Lin.addc_v, Lin.scale_v]; omega, trivial⟩, trivial⟩
  | .eq e, true, h => by
    simp only [BF.v, decide_eq_true_eq] at h
    exact ⟨⟨by omega, by rw [Lin.scale_v]; omega, trivial⟩, trivial⟩
  | .eq e, false, h => by
    have h' := h
    simp only [BF.v, decide_eq_false_iff_not] at h
    simp only [asmF]
    split
    · rename_i hp
      have := provesLe_v hok hp
      rw [Lin.scale_v] at this
      exact ⟨⟨by simp only [negLin, Lin.addc_v, Lin.scale_v]; omega, trivial⟩, trivial⟩
    · split
      · rename_i hp
        have := provesLe_v hok hp
        exact ⟨⟨by rw [Lin.addc_v]; omega, trivial⟩, trivial⟩
      · exact ⟨trivial, ⟨by simp only [PF.v, BF.v]; simp [h], trivial⟩⟩
  | .not f, true, h => by simp only [BF.v] at h; simp only [asmF]; exact asmF_v hok f false (by simpa using h)
  | .not f, false, h => by simp only [BF.v] at h; simp only [asmF]; exact asmF_v hok f true (by simpa using h)
  | .and f g, true, h => by
    simp only [BF.v, Bool.and_eq_true] at h
    have a := asmF_v hok f true h.1
    have b := asmF_v hok g true h.2
    exact ⟨linsV_append a.1 b.1, prsV_app.2 ⟨a.2, b.2⟩⟩
  | .and f g, false, h => ⟨trivial, ⟨by have : (BF.and f g).v ρ = false := h; simp only [PF.v, BF.v] at this ⊢; simp [this], trivial⟩⟩
  | .or f g, false, h => by
    simp only [BF.v, Bool.or_eq_false_iff] at h
    have a := asmF_v hok f false h.1
    have b := asmF_v hok g false h.2
    exact ⟨linsV_append a.1 b.1, prsV_app.2 ⟨a.2, b.2⟩⟩
  | .or f g, true, h => ⟨trivial, ⟨h, trivial⟩⟩
  | .lit c, true, h => ⟨trivial, ⟨h, trivial⟩⟩
  | .lit c, false, h => ⟨trivial, ⟨by have : (BF.lit c).v ρ = false := h; simp only [PF.v, BF.v] at this ⊢; simp [this], trivial⟩⟩
  | .var k, true, h => ⟨trivial, ⟨h, trivial⟩⟩
  | .var k, false, h => ⟨trivial, ⟨by have : (BF.var k).v ρ = false := h; simp only [PF.v, BF.v] at this ⊢; simp [this], trivial⟩⟩
theorem asmF_sc {σ : DSt} {n : Nat} : ∀ (f : BF) (b : Bool), Sc n f.vars → (∀ e ∈ (asmF σ b f).1, Sc n e.vars) ∧ ∀ p ∈ (asmF σ b f).2, Sc n p.vars
  | .le e, true, h => by simp only [asmF]; exact ⟨by intro x hx; simp only [List.mem_singleton] at hx; subst hx; exact h, by simp⟩
  | .le e, false, h => by simp only [asmF]; exact ⟨by intro x hx; simp only [List.mem_singleton] at hx; subst hx; exact Lin.addc_sc (Lin.scale_sc h), by simp⟩
  | .eq e, true, h => by
    simp only [asmF]
    refine ⟨?_, by simp⟩
    intro x hx
    simp only [List.mem_cons, List.mem_nil_iff, or_false] at hx
    rcases hx with rfl | rfl
    · exact h
    · exact Lin.scale_sc h
  | .eq e, false, h => by
    simp only [asmF]
    split
    · exact ⟨by intro x hx; simp only [List.mem_singleton] at hx; subst hx; exact Lin.addc_sc (Lin.scale_sc h), by simp⟩
    · split
      · exact ⟨by intro x hx; simp only [List.mem_singleton] at hx; subst hx; exact Lin.addc_sc h, by simp⟩
      · exact ⟨by simp, by intro x hx; simp only [List.mem_singleton] at hx; subst hx; exact h⟩
  | .not f, true, h => by simp only [asmF]; exact asmF_sc f false h
  | .not f, false, h => by simp only [asmF]; exact asmF_sc f true h
  | .and f g, true, h => by
    simp only [BF.vars, Sc.app] at h
    have a := asmF_sc (σ := σ) f true h.1
    have b := asmF_sc (σ := σ) g true h.2
    simp only [asmF]
    exact ⟨fun x hx => (List.mem_append.1 hx).elim (a.1 x) (b.1 x), fun x hx => (List.mem_append.1 hx).elim (a.2 x) (b.2 x)⟩
  | .and f g, false, h => by simp only [asmF]; exact ⟨by simp, by intro x hx; simp only [List.mem_singleton] at hx; subst hx; exact h⟩
  | .or f g, false, h => by
    simp only [BF.vars, Sc.app] at h
    have a := asmF_sc (σ := σ) f false h.1
    have b := asmF_sc (σ := σ) g false h.2
    simp only [asmF]
    exact ⟨fun x hx => (List.mem_append.1 hx).elim (a.1 x) (b.1 x), fun x hx => (List.mem_append.1 hx).elim (a.2 x) (b.2 x)⟩
  | .or f g, true, h => by simp only [asmF]; exact ⟨by simp, by intro x hx; simp only [List.mem_singleton] at hx; subst hx; exact h⟩
  | .lit c, true, h => by simp only [asmF]; exact ⟨by simp, by intro x hx; simp only [List.mem_singleton] at hx; subst hx; exact h⟩
  | .lit c, false, h => by simp only [asmF]; exact ⟨by simp, by intro x hx; simp only [List.mem_singleton] at hx; subst hx; exact h⟩
  | .var k, true, h => by simp only [asmF]; exact ⟨by simp, by intro x hx; simp only [List.mem_singleton] at hx; subst hx; exact h⟩
  | .var k, false, h => by simp only [asmF]; exact ⟨by simp, by intro x hx; simp only [List.mem_singleton] at hx; subst hx; exact h⟩
def DSt.asm (σ : DSt) (t : Option Nat) (b : Bool) (f : BF) : DSt :=
  let r := asmF σ b f
  { σ with slots := (match t with | some t => (t, .p (.bl (.lit b)) true) :: σ.slots | none => σ.slots), lin := r.1 ++ σ.lin, prs := r.2 ++ σ.prs }
theorem asm_sc {σ : DSt} (hs : σ.sc) (t : Option Nat) (b : Bool) {f : BF} (hf : Sc σ.nx f.vars) : (σ.asm t b f).sc := by
  have h := asmF_sc (σ := σ) f b hf
  refine ⟨?_, hs.tab, hs.tys, ?_, ?_⟩
  · intro j v hl
    cases t with
    | none => exact hs.slots j v hl
    | some t =>
      simp only [DSt.asm, lk_cons] at hl
      split at hl
      · simp only [Option.some.injEq] at hl; subst hl; simp [DV.vars, DP.vars, BF.vars, Sc.nil]
      · exact hs.slots j v hl
  · intro e he; exact (List.mem_append.1 he).elim (h.1 e) (hs.lin e)
  · intro e he; exact (List.mem_append.1 he).elim (h.2 e) (hs.prs e)
theorem asm_ok {P : Program} {I : Pr} {σ : DSt} {ρ : Ro} (hok : σ.ok P I ρ) (t : Option Nat) {b : Bool} {f : BF} (hf : f.v ρ = b) : (σ.asm t b f).ok P I ρ := by
  have h := asmF_v hok f b hf
  exact ⟨hok.g, hok.tys, linsV_append h.1 hok.lin, prsV_app.2 ⟨h.2, hok.prs⟩⟩
theorem asm_same {J : Ex} {σ : DSt} {ρ : Ro} (t : Option Nat) {b : Bool} {f : BF} (hf : f.v ρ = b) (ht : ∀ j, t = some j → ∃ fr, lk σ.slots j = some (.p (.bl f) fr)) {C : Ctx} {a : Act} {w : World} (h : Holds C (σ.v J ρ) a w) : Holds C ((σ.asm t b f).v J ρ) a w := by
  obtain ⟨E, e⟩ := h
  refine ⟨E, e.size, e.defers, ?_, e.tab, e.fr, e.lo, e.ids, e.pres⟩
  intro j sv hl
  cases t with
  | none => exact e.slots j sv hl
  | some t =>
    simp only [DSt.asm, DSt.v, slotsV, lk_cons] at hl
    split at hl
    · rename_i hj
      subst hj
      simp only [Option.some.injEq] at hl; subst hl
      obtain ⟨fr, h1⟩ := ht j rfl
      have := e.slots j (.p (.v (.bool b)) fr) (by simp only [DSt.v, lk_slotsV, h1, Option.map_some, DV.v, DP.v, hf])
      rw [VR_v_eq this]
      simp only [DV.v, DP.v, BF.v]
      exact VR_v true rfl
    · exact e.slots j sv hl
inductive Wd where
  | yes
  | no
  | split (t : Nat) (f : BF) (want : Bool)
  | bad
def dwant (σ : DSt) (ops : List Oper) (o : Oper) : Wd :=
  match o.guard with
  | none => .yes
  | some (j, want) => match ops[j]? with
    | some oj => match oj.dst with
      | some t => match lk σ.slots t with
        | some (.p (.bl f) _) => match f with
          | .lit b => match b, want with | true, true => .yes | false, false => .yes | _, _ => .no
          | f => .split t f want
        | _ => .bad
      | none => .bad
    | none => .bad
theorem dwant_v {J : Ex} {σ : DSt} {ops : List Oper} {o : Oper} (ρ : Ro) : match dwant σ ops o with
    | .yes => wantedS (σ.v J ρ) ops o = some true
    | .no => wantedS (σ.v J ρ) ops o = some false
    | .split t f want => (∃ fr, lk σ.slots t = some (.p (.bl f) fr)) ∧ wantedS (σ.v J ρ) ops o = some (f.v ρ == want)
    | .bad => True := by
  unfold dwant wantedS
  cases o.guard with
  | none => rfl
  | some g =>
    obtain ⟨j, want⟩ := g
    simp only
    cases ops[j]? with
    | none => trivial
    | some oj =>
      simp only
      cases oj.dst with
      | none => trivial
      | some t =>
        simp only [DSt.v, lk_slotsV]
        cases hl : lk σ.slots t with
        | none => trivial
        | some x =>
          cases x with
          | p y fr =>
            cases y with
            | bl f =>
              simp only [Option.map_some, DV.v, DP.v]
              cases f with
              | lit b => cases b <;> cases want <;> rfl
              | _ => exact ⟨⟨fr, hl⟩, rfl⟩
            | _ => trivial
          | _ => trivial
def outsMap (f : DSt → Outs) : List DSt → Outs
  | [] => some ([], [])
  | σ :: r => match f σ, outsMap f r with
    | some (a, q), some (b, q') => some (a ++ b, q ++ q')
    | _, _ => none
def outsApp : Outs → Outs → Outs
  | some (a, q), some (b, q') => some (a ++ b, q ++ q')
  | _, _ => none
def outsQ (q : List Seq) : Outs → Outs
  | some (a, q') => some (a, q ++ q')
  | none => none
theorem outsApp_eq {x y : Outs} {r : List DSt} {q : List Seq} (h : outsApp x y = some (r, q)) : ∃ a p b p', x = some (a, p) ∧ y = some (b, p') ∧ r = a ++ b ∧ q = p ++ p' := by
  unfold outsApp at h
  split at h
  · simp only [Option.some.injEq, Prod.mk.injEq] at h; exact ⟨_, _, _, _, rfl, rfl, h.1.symm, h.2.symm⟩
  · cases h
theorem outsQ_eq {x : Outs} {r : List DSt} {q q0 : List Seq} (h : outsQ q0 x = some (r, q)) : ∃ p, x = some (r, p) ∧ q = q0 ++ p := by
  unfold outsQ at h
  split at h
  · simp only [Option.some.injEq, Prod.mk.injEq] at h; obtain ⟨rfl, rfl⟩ := h; exact ⟨_, rfl, rfl⟩
  · cases h
theorem outsMap_mem {f : DSt → Outs} : ∀ {S : List DSt} {r : List DSt} {q : List Seq}, outsMap f S = some (r, q) → ∀ σ ∈ S, ∃ a p, f σ = some (a, p) ∧ (∀ x ∈ a, x ∈ r) ∧ ∀ s ∈ p, s ∈ q
  | [], r, q, h, σ, hσ => by simp at hσ
  | σ0 :: S, r, q, h, σ, hσ => by
    simp only [outsMap] at h
    split at h
    · rename_i a p b p' h1 h2
      simp only [Option.some.injEq, Prod.mk.injEq] at h; obtain ⟨rfl, rfl⟩ := h
      rcases List.mem_cons.1 hσ with rfl | hσ
      · exact ⟨a, p, h1, fun x hx => List.mem_append.2 (.inl hx), fun s hs => List.mem_append.2 (.inl hs)⟩
      · obtain ⟨a', q', e1, e2, e3⟩ := outsMap_mem h2 σ hσ
        exact ⟨a', q', e1, fun x hx => List.mem_append.2 (.inr (e2 x hx)), fun s hs => List.mem_append.2 (.inr (e3 s hs))⟩
    · cases h
theorem outsMap_back {f : DSt → Outs} : ∀ {S : List DSt} {r : List DSt} {q : List Seq}, outsMap f S = some (r, q) → ∀ x ∈ r, ∃ σ ∈ S, ∃ a p, f σ = some (a, p) ∧ x ∈ a
  | [], r, q, h, x, hx => by simp only [outsMap, Option.some.injEq, Prod.mk.injEq] at h; rw [← h.1] at hx; simp at hx
  | σ0 :: S, r, q, h, x, hx => by
    simp only [outsMap] at h
    split at h
    · rename_i a p b p' h1 h2
      simp only [Option.some.injEq, Prod.mk.injEq] at h; obtain ⟨rfl, rfl⟩ := h
      rcases List.mem_append.1 hx with hx | hx
      · exact ⟨σ0, List.mem_cons_self .., a, p, h1, hx⟩
      · obtain ⟨σ, hσ, r⟩ := outsMap_back h2 x hx
        exact ⟨σ, List.mem_cons_of_mem _ hσ, r⟩
    · cases h
def guardG (ops : List Oper) (o : Oper) (go next : DSt → Outs) (σ : DSt) : Outs :=
  match dwant σ ops o with
  | .yes => go σ
  | .no => next (σ.put o.dst .u)
  | .split t f want => match want with
    | true => outsApp (go (σ.asm (some t) true f)) (next ((σ.asm (some t) false f).put o.dst .u))
    | false => outsApp (next ((σ.asm (some t) true f).put o.dst .u)) (go (σ.asm (some t) false f))
  | .bad => none
def goOn (P : Program) (CL : DSt → Oper → Outs) (o : Oper) (next : DSt → Outs) (σ : DSt) : Outs :=
  match dstep P CL σ o with
  | some (outs, q) => outsQ q (outsMap next outs)
  | none => none
def goPure (P : Program) (o : Oper) (next : DSt → Outs) (σ : DSt) : Outs :=
  match dop P σ o with
  | some (σ', gs) => outsQ (todo σ gs) (next σ')
  | none => none
def dregs (P : Program) (n : Nat) (CL : DSt → Oper → Outs) (ops : List Oper) : List Nat → DSt → Outs
  | [], σ => some ([σ], [])
  | i :: is, σ => match ops[i]? with
    | none => none
    | some o => match dstB n o with
      | true => guardG ops o (goOn P CL o (dregs P n CL ops is)) (dregs P n CL ops is) σ
      | false => none
structure RunGood (P : Program) (I : Pr) (J : Ex) (A B : St → Prop) (σ : DSt) (outs : List DSt) : Prop where
  sc : ∀ σ' ∈ outs, σ'.sc ∧ σ.nx ≤ σ'.nx
  run : ∀ ρ, σ.ok P I ρ → (∀ σ' ∈ outs, ∀ ρ', Agree σ.nx ρ ρ' → σ'.ok P I ρ' → B (σ'.v J ρ')) → A (σ.v J ρ)
structure RunIf (P : Program) (I : Pr) (J : Ex) (ops : List Oper) (o : Oper) (b : Bool) (A B : St → Prop) (σ : DSt) (outs : List DSt) : Prop where
  sc : ∀ σ' ∈ outs, σ'.sc ∧ σ.nx ≤ σ'.nx
  run : ∀ ρ, σ.ok P I ρ → wantedS (σ.v J ρ) ops o = some b → (∀ σ' ∈ outs, ∀ ρ', Agree σ.nx ρ ρ' → σ'.ok P I ρ' → B (σ'.v J ρ')) → A (σ.v J ρ)
def Mono (P : Program) (n : Nat) (A : St → Prop) : Prop := ∀ s s', (∀ lo w0 E0 a w, Holds (mkC P n lo w0 E0) s a w → Holds (mkC P n lo w0 E0) s' a w) → A s' → A s
theorem awayU {σ : DSt} (hs : σ.sc) (dst : Option Nat) : (σ.put dst .u).sc ∧ σ.nx ≤ (σ.put dst .u).nx := ⟨hs.put dst (by simp [DV.vars, Sc.nil]), by rw [dput_nx]; exact Nat.le_refl _⟩
theorem asm_want {J : Ex} {σ : DSt} {ops : List Oper} {o : Oper} {t : Nat} {f : BF} {want : Bool} (hw : dwant σ ops o = .split t f want) (b : Bool) (ρ : Ro) : wantedS ((σ.asm (some t) b f).v J ρ) ops o = some (b == want) := by
  unfold wantedS
  unfold dwant at hw
  cases hg : o.guard with
  | none => simp [hg] at hw
  | some g =>
    obtain ⟨j, wt⟩ := g
    simp only [hg] at hw ⊢
    cases hoj : ops[j]? with
    | none => simp [hoj] at hw
    | some oj =>
      simp only [hoj] at hw ⊢
      cases hdst : oj.dst with
      | none => simp [hdst] at hw
      | some t' =>
        simp only [hdst] at hw ⊢
        have htt : t' = t ∧ wt = want := by
          cases hq : lk σ.slots t' with
          | none => simp [hq] at hw
          | some y =>
            rw [hq] at hw
            cases y with
            | p z fr' =>
              cases z with
              | bl g' =>
                simp only at hw
                cases g' with
                | lit c => cases c <;> cases wt <;> simp at hw
                | _ => simp only [Wd.split.injEq] at hw; exact ⟨hw.1, hw.2.2⟩
              | _ => simp at hw
            | _ => simp at hw
        obtain ⟨rfl, rfl⟩ := htt
        simp only [DSt.asm, DSt.v, slotsV, lk_cons_same, DV.v, DP.v, BF.v]
theorem guardG_good {P : Program} {I : Pr} {J : Ex} {n : Nat} {ops : List Oper} {o : Oper} {A B : St → Prop} {go next : DSt → Outs} (hA : Mono P n A)
    (hgo : ∀ σ outs q, go σ = some (outs, q) → Valid P I q → σ.sc → RunIf P I J ops o true A B σ outs)
    (hnext : ∀ σ outs q, next (σ.put o.dst .u) = some (outs, q) → Valid P I q → σ.sc → RunIf P I J ops o false A B σ outs)
    {σ : DSt} {outs : List DSt} {q : List Seq} (h : guardG ops o go next σ = some (outs, q)) (hV : Valid P I q) (hs : σ.sc) : RunGood P I J A B σ outs := by
  unfold guardG at h
  have hwv := fun ρ => dwant_v (J := J) (σ := σ) (ops := ops) (o := o) ρ
  cases hw : dwant σ ops o with
  | yes =>
    simp only [hw] at h hwv
    have g := hgo σ outs q h hV hs
    exact ⟨g.sc, fun ρ hok hB => g.run ρ hok (hwv ρ) hB⟩
  | no =>
    simp only [hw] at h hwv
    have g := hnext σ outs q h hV hs
    exact ⟨g.sc, fun ρ hok hB => g.run ρ hok (hwv ρ) hB⟩
  | bad => simp [hw] at h
  | split t f want =>
    simp only [hw] at h hwv
    obtain ⟨fr, hlk⟩ := (hwv (fun _ => default)).1
    have hfsc : Sc σ.nx f.vars := by have := hs.slots t _ hlk; simpa [DV.vars, DP.vars] using this
    have hsT := asm_sc hs (some t) true hfsc
    have hsF := asm_sc hs (some t) false hfsc
    have hlkj : ∀ j, some t = some j → ∃ fr, lk σ.slots j = some (.p (.bl f) fr) := fun j hj => by cases hj; exact ⟨fr, hlk⟩
    have fin : ∀ (oT oF : List DSt) (bT bF : Bool), bT = (true == want) → bF = (false == want) → RunIf P I J ops o bT A B (σ.asm (some t) true f) oT → RunIf P I J ops o bF A B (σ.asm (some t) false f) oF → RunGood P I J A B σ (oT ++ oF) := by
      intro oT oF bT bF hbT hbF hT hF
      refine ⟨fun σ' hσ' => (List.mem_append.1 hσ').elim (hT.sc σ') (hF.sc σ'), ?_⟩
      intro ρ hok hB
      cases hb : f.v ρ with
      | true =>
        refine hA _ _ (fun lo w0 E0 a w hh => asm_same _ hb hlkj hh) (hT.run ρ (asm_ok hok _ hb) (by rw [hbT]; exact asm_want hw true ρ) fun σ' hσ' => hB σ' (List.mem_append.2 (.inl hσ')))
      | false =>
        refine hA _ _ (fun lo w0 E0 a w hh => asm_same _ hb hlkj hh) (hF.run ρ (asm_ok hok _ hb) (by rw [hbF]; exact asm_want hw false ρ) fun σ' hσ' => hB σ' (List.mem_append.2 (.inr hσ')))
    cases want with
    | true =>
      simp only at h
      obtain ⟨a, p, b, p', e1, e2, rfl, rfl⟩ := outsApp_eq h
      rw [Valid.app] at hV
      exact fin a b true false rfl rfl (hgo _ a p e1 hV.1 hsT) (hnext _ b p' e2 hV.2 hsF)
    | false =>
      simp only at h
      obtain ⟨a, p, b, p', e1, e2, rfl, rfl⟩ := outsApp_eq h
      rw [Valid.app] at hV
      exact fin a b false true rfl rfl (hnext _ a p e1 hV.1 hsT) (hgo _ b p' e2 hV.2 hsF)
theorem goOn_good {P : Program} {I : Pr} {J : Ex} {n : Nat} {CL : DSt → Oper → Outs} (hC : Handler P I J n CL) {ops : List Oper} {o : Oper} (hdo : ∀ d, o.dst = some d → d < n) {Q : Exit → St → Prop} {B : St → Prop}
    (X K : Nat → World → Env → Act → World → Prop) (hX : ∀ s lo w0 E0 a w, Holds (mkC P n lo w0 E0) s a w → wantedS s ops o = some true → o.wp P a w (K lo w0 E0) (lift (mkC P n lo w0 E0) Q) → X lo w0 E0 a w)
    {next : DSt → Outs} (hnext : ∀ σ outs q, next σ = some (outs, q) → Valid P I q → σ.sc → RunGood P I J (fun s => ∀ lo w0 E0 a w, Holds (mkC P n lo w0 E0) s a w → K lo w0 E0 a w) B σ outs)
    (σ : DSt) (outs : List DSt) (q : List Seq) (h : goOn P CL o next σ = some (outs, q)) (hV : Valid P I q) (hs : σ.sc) :
    RunIf P I J ops o true (fun s => ∀ lo w0 E0 a w, Holds (mkC P n lo w0 E0) s a w → X lo w0 E0 a w) B σ outs := by
  unfold goOn at h
  split at h
  · rename_i o1 q1 h1
    obtain ⟨p, h2, rfl⟩ := outsQ_eq h
    rw [Valid.app] at hV
    obtain ⟨g1, g2⟩ := dstep_good hC h1 hV.1 hs
    refine ⟨?_, ?_⟩
    · intro σ' hσ'
      obtain ⟨σ1, hm, a, p', e1, e2⟩ := outsMap_back h2 σ' hσ'
      obtain ⟨a', p'', f1, f2, f3⟩ := outsMap_mem h2 σ1 hm
      rw [e1] at f1; simp only [Option.some.injEq, Prod.mk.injEq] at f1; obtain ⟨rfl, rfl⟩ := f1
      obtain ⟨s1, l1⟩ := g1 σ1 hm
      have := (hnext σ1 a p' e1 (fun s hs => hV.2 s (f3 s hs)) s1).sc σ' e2
      exact ⟨this.1, Nat.le_trans l1 this.2⟩
    · intro ρ hok hw hB lo w0 E0 a w hh
      refine hX _ lo w0 E0 a w hh hw ?_
      refine g2 ρ hok _ _ lo w0 E0 ?_ a w hh hdo
      intro σ1 hm ρ1 ha1 hok1 a' w' hh'
      obtain ⟨a', p'', f1, f2, f3⟩ := outsMap_mem h2 σ1 hm
      obtain ⟨s1, l1⟩ := g1 σ1 hm
      refine (hnext σ1 a' p'' f1 (fun s hs => hV.2 s (f3 s hs)) s1).run ρ1 hok1 ?_ lo w0 E0 _ _ hh'
      intro σ' hσ' ρ' ha' hok'
      exact hB σ' (f2 σ' hσ') ρ' (ha1.trans ha' l1) hok'
  · cases h
theorem skip_good {P : Program} {I : Pr} {J : Ex} {n : Nat} {ops : List Oper} {o : Oper} (hdo : ∀ d, o.dst = some d → d < n) {B : St → Prop}
    (X K : Nat → World → Env → Act → World → Prop) (hX : ∀ s lo w0 E0 a w, Holds (mkC P n lo w0 E0) s a w → wantedS s ops o = some false → K lo w0 E0 (a.put o.dst undef) w → X lo w0 E0 a w)
    {next : DSt → Outs} (hnext : ∀ σ outs q, next σ = some (outs, q) → Valid P I q → σ.sc → RunGood P I J (fun s => ∀ lo w0 E0 a w, Holds (mkC P n lo w0 E0) s a w → K lo w0 E0 a w) B σ outs)
    (σ : DSt) (outs : List DSt) (q : List Seq) (h : next (σ.put o.dst .u) = some (outs, q)) (hV : Valid P I q) (hs : σ.sc) :
    RunIf P I J ops o false (fun s => ∀ lo w0 E0 a w, Holds (mkC P n lo w0 E0) s a w → X lo w0 E0 a w) B σ outs := by
  have g := hnext _ outs q h hV (awayU hs o.dst).1
  refine ⟨fun σ' hσ' => by have := g.sc σ' hσ'; rw [dput_nx] at this; exact this, ?_⟩
  intro ρ hok hw hB lo w0 E0 a w hh
  refine hX _ lo w0 E0 a w hh hw ?_
  have := g.run ρ (hok.put _ _) (fun σ' hσ' ρ' ha hok' => hB σ' hσ' ρ' (by rw [dput_nx] at ha; exact ha) hok') lo w0 E0
  rw [dput_v, dVU] at this
  exact this _ _ (holds_u hh hdo)
theorem mono_X {P : Program} {n : Nat} (X : Nat → World → Env → Act → World → Prop) : Mono P n (fun s => ∀ lo w0 E0 a w, Holds (mkC P n lo w0 E0) s a w → X lo w0 E0 a w) :=
  fun _ _ h k lo w0 E0 a w hh => k lo w0 E0 a w (h lo w0 E0 a w hh)
theorem dregs_good {P : Program} {I : Pr} {J : Ex} {n : Nat} {CL : DSt → Oper → Outs} (hC : Handler P I J n CL) {ops : Array Oper} (hds : dstsB n ops.toList = true) {Q : Exit → St → Prop} :
    ∀ (is : List Nat) (σ : DSt) (outs : List DSt) (q : List Seq), dregs P n CL ops.toList is σ = some (outs, q) → Valid P I q → σ.sc → RunGood P I J (fun s => AOps P n ops is s Q) (fun s => Q .normal s) σ outs
  | [], σ, outs, q, h, hV, hs => by
    simp only [dregs, Option.some.injEq, Prod.mk.injEq] at h; obtain ⟨rfl, rfl⟩ := h
    exact ⟨by simp [hs], fun ρ hok hB => aops_nil (hB σ (by simp) ρ (Agree.refl _ _) hok)⟩
  | i :: is, σ, outs, q, h, hV, hs => by
    simp only [dregs] at h
    split at h
    · cases h
    · rename_i o ho
      split at h
      · have ho' : ops[i]? = some o := by simpa using ho
        have hdo : ∀ d, o.dst = some d → d < n := fun d hd => dstsB_ok hds o (List.mem_of_getElem? ho) d hd
        have hnx := fun σ outs q h hV hs => dregs_good hC hds (Q := Q) is σ outs q h hV hs
        refine guardG_good (mono_X fun lo w0 E0 a w => wpOps P ops (lift (mkC P n lo w0 E0) Q) (i :: is) a w)
          (goOn_good hC hdo (Q := Q) _ (fun lo w0 E0 a w => wpOps P ops (lift (mkC P n lo w0 E0) Q) is a w) (fun s lo w0 E0 a w hh hw hwp => wpOps_step ho' (wantedS_eq hh (dstsB_ok hds) hw) hwp) hnx)
          (skip_good hdo _ (fun lo w0 E0 a w => wpOps P ops (lift (mkC P n lo w0 E0) Q) is a w) (fun s lo w0 E0 a w hh hw hk => wpOps_skip ho' (wantedS_eq hh (dstsB_ok hds) hw) hk) hnx) h hV hs
      · cases h
def findFree (ops : Array Oper) (listed : Array Bool) (σ : DSt) : List Nat → Option Nat
  | [] => none
  | i :: r => match ops.toList[i]? with
    | none => none
    | some o => match pureOp o && Region.free .any ops listed i with
      | true => some i
      | false => findFree ops listed σ r
def dallF (P : Program) (CL : DSt → Oper → Outs) (ops : Array Oper) (rec : Array Bool → DSt → Outs) (listed : Array Bool) (σ : DSt) : List Nat → Outs
  | [] => some ([], [])
  | i :: r => match ops.toList[i]? with
    | some o => outsApp (guardG ops.toList o (goOn P CL o (rec (listed.setIfInBounds i true))) (rec (listed.setIfInBounds i true)) σ) (dallF P CL ops rec listed σ r)
    | none => none
def ddraw (P : Program) (CL : DSt → Oper → Outs) (ops : Array Oper) : Nat → Array Bool → DSt → Outs
  | 0, listed, σ => match (Region.ready .any ops listed).isEmpty with
    | true => some ([σ], [])
    | false => none
  | k + 1, listed, σ => match (Region.ready .any ops listed).isEmpty with
    | true => some ([σ], [])
    | false => match findFree ops listed σ (Region.ready .any ops listed) with
      | some i => match ops.toList[i]? with
        | some o => match pureOp o, Region.free .any ops listed i, (Region.ready .any ops listed).contains i with
          | true, true, true => guardG ops.toList o (goPure P o (ddraw P CL ops k (listed.setIfInBounds i true))) (ddraw P CL ops k (listed.setIfInBounds i true)) σ
          | _, _, _ => none
        | none => none
      | none => dallF P CL ops (ddraw P CL ops k) listed σ (Region.ready .any ops listed)
theorem goPure_good {P : Program} {I : Pr} {J : Ex} {n : Nat} {ops : Array Oper} {fuel i : Nat} {listed : Array Bool} {o : Oper} {Q : Exit → St → Prop} {B : St → Prop} (ho : ops.toList[i]? = some o) (hds : dstsB n ops.toList = true)
    (hpure : pureOp o = true) (hsel : Region.noSelect ops = true) (hfree : Region.free .any ops listed i = true) (hr : (Region.ready .any ops listed).contains i = true) (hQ : ∀ c s, Q (.panic c) s → False)
    {next : DSt → Outs} (hnext : ∀ σ outs q, next σ = some (outs, q) → Valid P I q → σ.sc → RunGood P I J (fun s => AAny P n ops fuel (listed.setIfInBounds i true) s Q) B σ outs)
    (σ : DSt) (outs : List DSt) (q : List Seq) (h : goPure P o next σ = some (outs, q)) (hV : Valid P I q) (hs : σ.sc) :
    RunIf P I J ops.toList o true (fun s => AAny P n ops (fuel + 1) listed s Q) B σ outs := by
  unfold goPure at h
  split at h
  · rename_i σ' gs h1
    obtain ⟨p, h2, rfl⟩ := outsQ_eq h
    rw [Valid.app] at hV
    obtain ⟨g1, g2, g3⟩ := dop_good (I := I) (J := J) h1 hs
    have g := hnext σ' outs p h2 hV.2 g1
    refine ⟨fun x hx => ⟨(g.sc x hx).1, Nat.le_trans g2 (g.sc x hx).2⟩, ?_⟩
    intro ρ hok hw hB
    obtain ⟨ρ', ha, hok', H, s, ps, e1, e2, e3⟩ := g3 ρ hok (todo_v hok hV.1)
    refine aany_take i ho hds hpure hw hsel hfree hr hQ e1 e2 rfl ?_
    refine aany_imp (fun lo w0 E0 a w hh => e3.holds hh) ?_
    exact g.run ρ' hok' fun x hx ρ2 ha2 hok2 => hB x hx ρ2 (ha.trans ha2 g2) hok2
  · cases h
theorem dallF_good {P : Program} {I : Pr} {J : Ex} {n : Nat} {CL : DSt → Oper → Outs} (hC : Handler P I J n CL) {ops : Array Oper} {fuel : Nat} {listed : Array Bool} {Q : Exit → St → Prop} {B : St → Prop} (hds : dstsB n ops.toList = true)
    {rec : Array Bool → DSt → Outs} (hrec : ∀ l σ outs q, rec l σ = some (outs, q) → Valid P I q → σ.sc → RunGood P I J (fun s => AAny P n ops fuel l s Q) B σ outs) {σ : DSt} (hs : σ.sc) :
    ∀ (rs : List Nat) (outs : List DSt) (q : List Seq), dallF P CL ops rec listed σ rs = some (outs, q) → Valid P I q → RunGood P I J (fun s => AllR P n ops fuel listed s Q rs) B σ outs
  | [], outs, q, h, _ => by
    simp only [dallF, Option.some.injEq, Prod.mk.injEq] at h; obtain ⟨rfl, rfl⟩ := h
    exact ⟨by simp, fun _ _ _ => trivial⟩
  | i :: r, outs, q, h, hV => by
    simp only [dallF] at h
    split at h
    · rename_i o ho
      obtain ⟨a, p, b, p', e1, e2, rfl, rfl⟩ := outsApp_eq h
      rw [Valid.app] at hV
      have ho' : ops[i]? = some o := by simpa using ho
      have hdo : ∀ d, o.dst = some d → d < n := fun d hd => dstsB_ok hds o (List.mem_of_getElem? ho) d hd
      have hnx := fun σ outs q h hV hs => hrec (listed.setIfInBounds i true) σ outs q h hV hs
      have g1 := guardG_good (mono_X fun lo w0 E0 a w => wpOp P ops (lift (mkC P n lo w0 E0) Q) i (wpAny P .any ops (lift (mkC P n lo w0 E0) Q) fuel (listed.setIfInBounds i true)) a w)
          (goOn_good hC hdo (Q := Q) _ (fun lo w0 E0 a w => wpAny P .any ops (lift (mkC P n lo w0 E0) Q) fuel (listed.setIfInBounds i true) a w)
            (fun s lo w0 E0 a w hh hw hwp => by unfold wpOp; simp only [ho', wantedS_eq hh (dstsB_ok hds) hw, if_true]; exact .inl hwp) hnx)
          (skip_good hdo _ (fun lo w0 E0 a w => wpAny P .any ops (lift (mkC P n lo w0 E0) Q) fuel (listed.setIfInBounds i true) a w)
            (fun s lo w0 E0 a w hh hw hk => by unfold wpOp; simp only [ho', wantedS_eq hh (dstsB_ok hds) hw, Bool.false_eq_true, if_false]; exact hk) hnx) e1 hV.1 hs
      have g2 := dallF_good hC hds hrec hs r b p' e2 hV.2
      refine ⟨fun x hx => (List.mem_append.1 hx).elim (g1.sc x) (g2.sc x), ?_⟩
      intro ρ hok hB
      exact ⟨g1.run ρ hok fun x hx => hB x (List.mem_append.2 (.inl hx)), g2.run ρ hok fun x hx => hB x (List.mem_append.2 (.inr hx))⟩
    · cases h
theorem ddraw_good {P : Program} {I : Pr} {J : Ex} {n : Nat} {CL : DSt → Oper → Outs} (hC : Handler P I J n CL) {ops : Array Oper} (hds : dstsB n ops.toList = true) (hsel : Region.noSelect ops = true) {Q : Exit → St → Prop} (hQ : ∀ c s, Q (.panic c) s → False) :
    ∀ (k : Nat) (listed : Array Bool) (σ : DSt) (outs : List DSt) (q : List Seq), ddraw P CL ops k listed σ = some (outs, q) → Valid P I q → σ.sc → RunGood P I J (fun s => AAny P n ops k listed s Q) (fun s => Q .normal s) σ outs
  | 0, listed, σ, outs, q, h, hV, hs => by
    simp only [ddraw] at h
    split at h
    · rename_i he
      simp only [Option.some.injEq, Prod.mk.injEq] at h; obtain ⟨rfl, rfl⟩ := h
      exact ⟨by simp [hs], fun ρ hok hB => aany_done he (hB σ (by simp) ρ (Agree.refl _ _) hok)⟩
    · cases h
  | k + 1, listed, σ, outs, q, h, hV, hs => by
    simp only [ddraw] at h
    split at h
    · rename_i he
      simp only [Option.some.injEq, Prod.mk.injEq] at h; obtain ⟨rfl, rfl⟩ := h
      exact ⟨by simp [hs], fun ρ hok hB => aany_done he (hB σ (by simp) ρ (Agree.refl _ _) hok)⟩
    · rename_i he
      split at h
      · rename_i i hi
        split at h
        · rename_i o ho
          split at h
          · rename_i hpure hfree hr
            have hnx := fun σ outs q h hV hs => ddraw_good hC hds hsel hQ k (listed.setIfInBounds i true) σ outs q h hV hs
            refine guardG_good (n := n) (A := fun s => AAny P n ops (k + 1) listed s Q) ?_ (goPure_good ho hds hpure hsel hfree hr hQ hnx) ?_ h hV hs
            · exact mono_X fun lo w0 E0 a w => wpAny P .any ops (lift (mkC P n lo w0 E0) Q) (k + 1) listed a w
            · intro σ outs q h hV hs
              have g := hnx _ outs q h hV (awayU hs o.dst).1
              refine ⟨fun σ' hσ' => by have := g.sc σ' hσ'; rw [dput_nx] at this; exact this, ?_⟩
              intro ρ hok hw hB
              refine aany_takeSkip i ho hds hw hsel hfree hr hQ ?_
              have := g.run ρ (hok.put _ _) (fun σ' hσ' ρ' ha hok' => hB σ' hσ' ρ' (by rw [dput_nx] at ha; exact ha) hok')
              rw [dput_v, dVU] at this
              exact this
          · cases h
        · cases h
      · have g := dallF_good hC (n := n) (Q := Q) (B := fun s => Q .normal s) hds (fun l σ outs q h hV hs => ddraw_good hC hds hsel hQ k l σ outs q h hV hs) hs _ outs q h hV
        refine ⟨g.sc, fun ρ hok hB => aany_all _ rfl (by simpa using he) (g.run ρ hok hB)⟩
end Go.TL
