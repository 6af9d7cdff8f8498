/- Objects under other names. -/
import Derived.Test.YtaaimmmofkldbaaWl06
import Derived.Orders
namespace Go.TL
def sw (a b k : Nat) : Nat :=
  match Nat.beq k a with
  | true => b
  | false => match Nat.beq k b with
    | true => a
    | false => k
theorem sw_eq (a b k : Nat) : sw a b k = if k = a then b else if k = b then a else k := by
  unfold sw
  cases h : Nat.beq k a with
  | true => simp [Nat.eq_of_beq_eq_true h]
  | false =>
    have h1 := beq_false h
    cases h2 : Nat.beq k b with
    | true => have := Nat.eq_of_beq_eq_true h2; simp [h1, this]; intro e; exact absurd (this.trans e) h1
    | false => have h3 := beq_false h2; simp [h1, h3]
theorem sw_sw (a b k : Nat) : sw a b (sw a b k) = k := by
  simp only [sw_eq]; split <;> (try split) <;> (try split) <;> simp_all
mutual
def SV.rn (π : Nat → Nat) : SV → SV
  | .vec j => .vec (π j)
  | .ptr j off => .ptr (π j) off
  | .vptr j sz i off => .vptr (π j) sz i off
  | .ref j => .ref (π j)
  | .agg xs => .agg (rns π xs)
  | .tup xs => .tup (rns π xs)
  | .fn f first caps => .fn f (rns π first) (rns π caps)
  | .ifc t x => .ifc t (SV.rn π x)
  | .u => .u
  | .p x fr => .p x fr
  | .pd row off fr => .pd row off fr
  | .pc rows fr => .pc rows fr
def rns (π : Nat → Nat) : List SV → List SV
  | [] => []
  | x :: xs => SV.rn π x :: rns π xs
end
def OV.rn (π : Nat → Nat) : OV → OV
  | .box t cells => .box t (rns π cells)
  | o => o
def rnTab (π : Nat → Nat) : Tab → Tab
  | [] => []
  | (k, x) :: r => (π k, OV.rn π x) :: rnTab π r
def rnSlots (π : Nat → Nat) : List (Nat × SV) → List (Nat × SV)
  | [] => []
  | (t, x) :: r => (t, SV.rn π x) :: rnSlots π r
theorem lk_rnSlots (π : Nat → Nat) (l : List (Nat × SV)) (t : Nat) : lk (rnSlots π l) t = (lk l t).map (SV.rn π) := by
  induction l with
  | nil => rfl
  | cons h r ih => obtain ⟨j, x⟩ := h; simp only [rnSlots, lk]; cases Nat.beq j t <;> simp [ih]
theorem lk_rnTab (a b : Nat) (l : Tab) (k : Nat) : lk (rnTab (sw a b) l) k = (lk l (sw a b k)).map (OV.rn (sw a b)) := by
  induction l with
  | nil => rfl
  | cons h r ih =>
    obtain ⟨j, x⟩ := h
    simp only [rnTab, lk]
    have : Nat.beq (sw a b j) k = Nat.beq j (sw a b k) := by
      cases h1 : Nat.beq (sw a b j) k with
      | true => have := Nat.eq_of_beq_eq_true h1; rw [← this, sw_sw]; exact (Nat.beq_refl j).symm
      | false =>
        cases h2 : Nat.beq j (sw a b k) with
        | false => rfl
        | true => have := Nat.eq_of_beq_eq_true h2; subst this; rw [sw_sw, Nat.beq_refl] at h1; cases h1
    rw [this]
    cases Nat.beq j (sw a b k) <;> simp [ih]
def Env.sw (E : Env) (a b : Nat) : Env := ⟨fun k => E.val (Go.TL.sw a b k), fun c => (E.own c).map (Go.TL.sw a b), E.ext⟩
theorem Env.sw_bad (E : Env) (a b : Nat) : (E.sw a b).bad = E.bad := by
  funext c; apply propext; simp [Env.bad, Env.sw]
theorem Env.sw_own (E : Env) (a b c k : Nat) : (E.sw a b).own c = some k ↔ E.own c = some (Go.TL.sw a b k) := by
  simp only [Env.sw]
  cases hc : E.own c with
  | none => simp
  | some j =>
    simp only [Option.map_some, Option.some.injEq]
    constructor
    · intro e; rw [← e, sw_sw]
    · intro e; rw [e, sw_sw]
theorem Env.sw_sw (E : Env) (a b : Nat) : (E.sw a b).sw a b = E := by
  cases E with
  | mk v o x =>
    simp only [Env.sw, Go.TL.sw_sw, Option.map_map]
    congr 1
    funext c
    cases o c with
    | none => rfl
    | some j => simp [Go.TL.sw_sw]
mutual
theorem VR.sw {w : World} {E : Env} {lo a b : Nat} : ∀ (sv : SV) (v : Value), VR w E lo sv v → VR w (E.sw a b) lo (SV.rn (Go.TL.sw a b) sv) v
  | .u, _, _ => by simp [SV.rn, VR]
  | .p x fr, v, h => by simp only [SV.rn, VR] at h ⊢; rw [Env.sw_bad]; exact h
  | .ptr k off, v, h => by simp only [SV.rn, VR] at h ⊢; obtain ⟨c, h1, h2⟩ := h; exact ⟨c, by simp [Env.sw, Go.TL.sw_sw, h1], h2⟩
  | .vec k, v, h => by simp only [SV.rn, VR] at h ⊢; exact ⟨by simp [Env.sw, Go.TL.sw_sw, h.1], h.2⟩
  | .vptr k sz i off, v, h => by simp only [SV.rn, VR] at h ⊢; obtain ⟨c, n, m, h1, h2⟩ := h; exact ⟨c, n, m, by simp [Env.sw, Go.TL.sw_sw, h1], h2⟩
  | .pd row off fr, v, h => by simp only [SV.rn, VR] at h ⊢; rw [Env.sw_bad]; exact h
  | .pc rows fr, v, h => by simp only [SV.rn, VR] at h ⊢; rw [Env.sw_bad]; exact h
  | .agg xs, v, h => by simp only [SV.rn, VR] at h ⊢; obtain ⟨vs, h1, h2⟩ := h; exact ⟨vs, h1, VRs.sw xs vs h2⟩
  | .tup xs, v, h => by simp only [SV.rn, VR] at h ⊢; obtain ⟨vs, h1, h2⟩ := h; exact ⟨vs, h1, VRs.sw xs vs h2⟩
  | .ref k, v, h => by simp only [SV.rn, VR] at h ⊢; exact ⟨by simp [Env.sw, Go.TL.sw_sw, h.1], h.2⟩
  | .fn f first caps, v, h => by simp only [SV.rn, VR] at h ⊢; obtain ⟨vs, ws, h1, h2, h3⟩ := h; exact ⟨vs, ws, h1, VRs.sw first vs h2, VRs.sw caps ws h3⟩
  | .ifc t x, v, h => by simp only [SV.rn, VR] at h ⊢; obtain ⟨y, h1, h2⟩ := h; exact ⟨y, h1, VR.sw x y h2⟩
theorem VRs.sw {w : World} {E : Env} {lo a b : Nat} : ∀ (xs : List SV) (vs : List Value), VRs w E lo xs vs → VRs w (E.sw a b) lo (rns (Go.TL.sw a b) xs) vs
  | [], [], _ => by simp [rns, VRs]
  | x :: xs, v :: vs, h => by simp only [rns]; exact VRs_cons (VR.sw x v (VRs_cons_iff.1 h).1) (VRs.sw xs vs (VRs_cons_iff.1 h).2)
  | [], _ :: _, h => by simp [VRs] at h
  | _ :: _, [], h => by simp [VRs] at h
end
theorem OR.sw {w : World} {E : Env} {lo a b k : Nat} {ov : OV} (h : OR w E lo k ov) : OR w (E.sw a b) lo (Go.TL.sw a b k) (OV.rn (Go.TL.sw a b) ov) := by
  have hv : (E.sw a b).val (Go.TL.sw a b k) = E.val k := by simp [Env.sw, Go.TL.sw_sw]
  have ho : ∀ c, (E.sw a b).own c = some (Go.TL.sw a b k) ↔ E.own c = some k := fun c => by rw [Env.sw_own, Go.TL.sw_sw]
  cases ov with
  | box t cells => obtain ⟨c, vs, h1, h2, h3, h4⟩ := h; exact ⟨c, vs, hv.trans h1, (ho c).2 h2, h3, VRs.sw cells vs h4⟩
  | vec t sz rows fr => obtain ⟨v, xs, h1, h2, h3, h4, h5⟩ := h; exact ⟨v, xs, hv.trans h1, h2, h3, fun g hg => (ho g).2 (h4 g hg), by rw [Env.sw_bad]; exact h5⟩
  | ext φ =>
    obtain ⟨x, h1, h2, h3, h4⟩ := h
    have e : (fun c => (E.sw a b).own c = some (Go.TL.sw a b k)) = (fun c => E.own c = some k) := funext fun c => propext (ho c)
    exact ⟨x, hv.trans h1, h2, by rw [e]; exact h3, by rw [e]; intro w' hw; exact h4 w' fun c hc => hw c ((ho c).2 hc)⟩
  | arr t sz rows len m => obtain ⟨c, cs, h1, h2, h3, h4, h5, h6, h7⟩ := h; exact ⟨c, cs, hv.trans h1, (ho c).2 h2, h3, h4, h5, h6, by rw [Env.sw_bad]; exact h7⟩
theorem TabOK.sw {w : World} {E : Env} {lo a b : Nat} {T : Tab} (h : TabOK w E lo T) : TabOK w (E.sw a b) lo (rnTab (Go.TL.sw a b) T) := by
  refine ⟨?_, ?_, ?_, ?_⟩
  · intro k ov hl
    rw [lk_rnTab] at hl
    cases hq : lk T (Go.TL.sw a b k) with
    | none => simp [hq] at hl
    | some o =>
      simp [hq] at hl; subst hl
      have := OR.sw (a := a) (b := b) (h.obj _ _ hq)
      rwa [Go.TL.sw_sw] at this
  · intro k hl
    rw [lk_rnTab] at hl
    exact h.dead _ (by simpa using hl)
  · intro c k ho
    have := h.own c _ ((Env.sw_own E a b c k).1 ho)
    refine ⟨this.1, this.2.1, ?_⟩
    rw [lk_rnTab]; simpa using this.2.2
  · intro c hx
    have := h.ext c hx
    exact ⟨this.1, by simp [Env.sw, this.2]⟩
theorem Fr.sw {w w' : World} {E E' : Env} {a b : Nat} (h : Fr w E w' E') : Fr w (E.sw a b) w' (E'.sw a b) :=
  ⟨h.os, h.tape, h.output, h.size, fun c hc hn => by
    have hn' : E.own c = none := by simpa [Env.sw] using hn
    have := h.keep c hc hn'
    exact ⟨this.1, by simp [Env.sw, this.2]⟩, h.ext⟩
theorem rns_rns (a b : Nat) : ∀ xs : List SV, rns (sw a b) (rns (sw a b) xs) = xs := by
  have key : ∀ n, ∀ x : SV, SizeOf.sizeOf x < n → SV.rn (sw a b) (SV.rn (sw a b) x) = x := by
    intro n
    induction n with
    | zero => intro x h; omega
    | succ n ih =>
      have ihs : ∀ xs : List SV, SizeOf.sizeOf xs ≤ n → rns (sw a b) (rns (sw a b) xs) = xs := by
        intro xs
        induction xs with
        | nil => intro _; rfl
        | cons x xs ihx =>
          intro h
          simp at h
          simp only [rns]
          rw [ih x (by omega), ihx (by omega)]
      intro x h
      cases x <;> simp only [SV.rn, sw_sw] <;> simp at h
      · rw [ihs _ (by omega)]
      · rw [ihs _ (by omega)]
      · rw [ihs _ (by omega), ihs _ (by omega)]
      · rw [ih _ (by omega)]
  intro xs
  induction xs with
  | nil => rfl
  | cons x xs ih => simp only [rns]; rw [key _ x (Nat.lt_succ_self _), ih]
theorem FnS.sw {P : Program} {f : FuncId} {args : List SV} {T : Tab} {R : SV → Tab → Prop} (a b : Nat) (h : FnS P f args T R) :
    FnS P f (rns (Go.TL.sw a b) args) (rnTab (Go.TL.sw a b) T) fun r T' => ∃ r0 T0, R r0 T0 ∧ r = SV.rn (Go.TL.sw a b) r0 ∧ T' = rnTab (Go.TL.sw a b) T0 := by
  intro lo w E vals hlo ht hv
  have ht' := TabOK.sw (a := a) (b := b) ht
  have hv' := VRs.sw (a := a) (b := b) _ _ hv
  rw [rns_rns] at hv'
  have hT : rnTab (Go.TL.sw a b) (rnTab (Go.TL.sw a b) T) = T := by
    clear ht ht' h
    induction T with
    | nil => rfl
    | cons x T ih =>
      obtain ⟨k, ov⟩ := x
      simp only [rnTab, sw_sw, ih]
      congr 1
      congr 1
      cases ov <;> simp [OV.rn, rns_rns]
  rw [hT] at ht'
  refine (h lo w (E.sw a b) vals hlo ht' hv').mono ?_
  rintro e w' ⟨r, v, T', E', rfl, hR, hfr, htt, hr, hp⟩
  refine ⟨_, v, _, E'.sw a b, rfl, ⟨r, T', hR, rfl, rfl⟩, ?_, TabOK.sw htt, VR.sw r v hr, ?_⟩
  · have := Fr.sw (a := a) (b := b) hfr
    rwa [Env.sw_sw] at this
  · intro k x hk
    have := hp (Go.TL.sw a b k) x (by simpa [Env.sw, Go.TL.sw_sw] using hk)
    simpa [Env.sw] using this
def St.rn (σ : St) (k k' : Nat) : St := ⟨rnSlots (sw k k') σ.slots, rnTab (sw k k') σ.tab⟩
theorem rn_holds {P : Program} {n lo : Nat} {w0 : World} {E0 : Env} {σ : St} {a : Act} {w : World} {k k' : Nat} (h : Holds (mkC P n lo w0 E0) σ a w) (hf : lk σ.tab k' = none) (hi : Nat.ble (k' + 1) n = true) : Holds (mkC P n lo w0 E0) (σ.rn k k') a w := by
  obtain ⟨E, h⟩ := h
  have hk' : k' < n := Nat.le_of_ble_eq_true hi
  refine ⟨E.sw k k', h.size, h.defers, ?_, TabOK.sw h.tab, ?_, h.lo, h.ids, ?_⟩
  · intro t s hl
    simp only [St.rn, lk_rnSlots] at hl
    cases hq : lk σ.slots t with
    | none => simp [hq] at hl
    | some s0 => simp [hq] at hl; subst hl; exact VR.sw s0 _ (h.slots t s0 hq)
  · exact ⟨h.fr.os, h.fr.tape, h.fr.output, h.fr.size, fun c hc hn => by
      have := h.fr.keep c hc hn
      exact ⟨this.1, by simp [Env.sw, this.2]⟩, h.fr.ext⟩
  · intro j x hj
    have hid : n ≤ j := h.ids j (by rw [hj]; simp)
    simp only [Env.sw]
    rw [sw_eq]
    by_cases h1 : j = k
    · rw [if_pos h1]; exact .inr (h.tab.dead k' hf)
    · rw [if_neg h1, if_neg (by omega)]; exact h.pres j x hj
theorem imp_rn {P : Program} {n : Nat} {σ σ' : St} (k k' : Nat) (hf : (lk σ.tab k').isSome = false) (hi : Nat.ble (k' + 1) n = true) (h : σ.rn k k' = σ') : Imp P n σ σ' :=
  fun _ _ _ _ _ hh => h ▸ rn_holds hh (by simpa using hf) hi
def St.nilVec (t K : Nat) (e : TypeId) (sz : Nat) (σ : St) : St := ⟨(t, .vec K) :: rm σ.slots t, (K, .vec e sz [] true) :: σ.tab⟩
def isNl (σ : St) (t : Nat) : Bool :=
  match lk σ.slots t with
  | some (.p (.v (.slice none 0 0)) _) => true
  | _ => false
theorem imp_nilvec {P : Program} {n : Nat} {σ σ' : St} (t K : Nat) (e : TypeId) (sz : Nat) (ht : isNl σ t = true) (hf : (lk σ.tab K).isSome = false) (hi : Nat.ble (K + 1) n = true) (hz : Nat.ble 1 sz = true) (h : σ.nilVec t K e sz = σ') : Imp P n σ σ' := by
  subst h
  rintro lo w0 E0 a w ⟨E, h⟩
  have hK : K < n := Nat.le_of_ble_eq_true hi
  have hf' : lk σ.tab K = none := by simpa using hf
  have hval : a.tmps.getD t undef = .slice none 0 0 := by
    unfold isNl at ht
    split at ht
    · rename_i hl; exact VR_v_eq (h.slots t _ hl)
    · cases ht
  let E' : Env := ⟨fun k => if k = K then some (.slice none 0 0) else E.val k, E.own, E.ext⟩
  have hk : Keeps w E w E' := ⟨fun _ _ h => ⟨rfl, h⟩, rfl⟩
  have hv : ∀ k x, E.val k = some x → E'.val k = some x := by
    intro k x hx
    have : k ≠ K := fun e => by subst e; rw [h.tab.dead k hf'] at hx; cases hx
    simp [E', this, hx]
  refine ⟨E', h.size, h.defers, ?_, ⟨?_, ?_, ?_, ?_⟩, ⟨h.fr.os, h.fr.tape, h.fr.output, h.fr.size, h.fr.keep, h.fr.ext⟩, h.lo, h.ids, ?_⟩
  · intro t' s hl
    simp only [St.nilVec] at hl
    by_cases he : t' = t
    · subst he
      rw [lk_cons_same] at hl; cases hl
      simp only [VR]
      exact ⟨by simp [E', hval], _, _, _, hval⟩
    · rw [lk_cons_ne _ _ _ _ he, lk_rm_ne _ _ _ he] at hl
      exact VR.mono hk hv s _ (h.slots t' s hl)
  · intro k ov hl
    simp only [St.nilVec] at hl
    by_cases he : k = K
    · subst he
      rw [lk_cons_same] at hl; cases hl
      exact ⟨.slice none 0 0, [], by simp [E'], Nat.le_of_ble_eq_true hz, World.ownsRow_nil w 0 e sz, by simp [Value.ownBlock], fun _ _ => undef, by simp, by simp, by simp⟩
    · rw [lk_cons_ne _ _ _ _ he] at hl
      exact OR.mono hk hv (fun _ => Iff.rfl) (fun _ _ => rfl) (h.tab.obj k ov hl)
  · intro k hl
    have he : k ≠ K := fun e => by subst e; simp only [St.nilVec] at hl; rw [lk_cons_same] at hl; cases hl
    simp only [St.nilVec] at hl
    rw [lk_cons_ne _ _ _ _ he] at hl
    simp [E', he, h.tab.dead k hl]
  · intro c k ho
    have := h.tab.own c k ho
    refine ⟨this.1, this.2.1, ?_⟩
    simp only [St.nilVec]
    by_cases he : k = K
    · subst he; rw [lk_cons_same]; simp
    · rw [lk_cons_ne _ _ _ _ he]; exact this.2.2
  · exact h.tab.ext
  · intro j x hj
    have hid : n ≤ j := h.ids j (by rw [hj]; simp)
    have : j ≠ K := by omega
    simpa [E', this] using h.pres j x hj
def nilAt (K : Nat) : List SV → List SV
  | [] => []
  | x :: xs => (match x with | .vec j => (match Nat.beq j K with | true => .p (.v (.slice none 0 0)) true | false => .vec j) | x => x) :: nilAt K xs
theorem VRs_nilAt {w : World} {E E' : Env} {lo K : Nat} (hk : Keeps w E w E') (hv : ∀ k x, E.val k = some x → E'.val k = some x) (hK : E'.val K = some (.slice none 0 0)) :
    ∀ (xs : List SV) (vs : List Value), VRs w E lo (nilAt K xs) vs → VRs w E' lo xs vs
  | [], [], _ => by simp [VRs]
  | x :: xs, v :: vs, h => by
    simp only [nilAt] at h
    have h2 := VRs_nilAt hk hv hK xs vs (VRs_cons_iff.1 h).2
    refine VRs_cons ?_ h2
    have h1 := (VRs_cons_iff.1 h).1
    cases x with
    | vec j =>
      simp only at h1
      cases hj : Nat.beq j K with
      | true =>
        have := Nat.eq_of_beq_eq_true hj; subst this
        simp only [hj] at h1
        have := VR_v_eq h1; subst this
        simp only [VR]
        exact ⟨hK, _, _, _, rfl⟩
      | false => simp only [hj] at h1; exact VR.mono hk hv _ _ h1
    | _ => exact VR.mono hk hv _ _ h1
  | [], _ :: _, h => by simp [nilAt, VRs] at h
  | _ :: _, [], h => by simp [nilAt, VRs] at h
theorem FnS.nilArg {P : Program} {g : FuncId} {T : Tab} {R : SV → Tab → Prop} (K : Nat) (e : TypeId) (sz : Nat) (svs : List SV) {svs' : List SV} (hsv : nilAt K svs = svs') (hf : (lk T K).isSome = false) (hz : Nat.ble 1 sz = true)
    (h : FnS P g svs ((K, .vec e sz [] true) :: T) R) : FnS P g svs' T R := by
  subst hsv
  intro lo w E vals hlo ht hv
  have hf' : lk T K = none := by simpa using hf
  let E' : Env := ⟨fun k => if k = K then some (.slice none 0 0) else E.val k, E.own, E.ext⟩
  have hk : Keeps w E w E' := ⟨fun _ _ h => ⟨rfl, h⟩, rfl⟩
  have hvE : ∀ k x, E.val k = some x → E'.val k = some x := by
    intro k x hx
    have : k ≠ K := fun e => by subst e; rw [ht.dead k hf'] at hx; cases hx
    simp [E', this, hx]
  have ht' : TabOK w E' lo ((K, .vec e sz [] true) :: T) := by
    refine ⟨?_, ?_, ?_, ht.ext⟩
    · intro k ov hl
      by_cases he : k = K
      · subst he
        rw [lk_cons_same] at hl; cases hl
        exact ⟨.slice none 0 0, [], by simp [E'], Nat.le_of_ble_eq_true hz, World.ownsRow_nil w 0 e sz, by simp [Value.ownBlock], fun _ _ => undef, by simp, by simp, by simp⟩
      · rw [lk_cons_ne _ _ _ _ he] at hl
        exact OR.mono hk hvE (fun _ => Iff.rfl) (fun _ _ => rfl) (ht.obj k ov hl)
    · intro k hl
      have he : k ≠ K := fun e => by subst e; rw [lk_cons_same] at hl; cases hl
      rw [lk_cons_ne _ _ _ _ he] at hl
      simp [E', he, ht.dead k hl]
    · intro c k ho
      have := ht.own c k ho
      refine ⟨this.1, this.2.1, ?_⟩
      by_cases he : k = K
      · subst he; rw [lk_cons_same]; simp
      · rw [lk_cons_ne _ _ _ _ he]; exact this.2.2
  refine (h lo w E' vals hlo ht' (VRs_nilAt hk hvE (by simp [E']) svs vals hv)).mono ?_
  rintro e' w' ⟨r, v, T', E'', rfl, hR, hfr, hto, hr, hp⟩
  refine ⟨r, v, T', E'', rfl, hR, ⟨hfr.os, hfr.tape, hfr.output, hfr.size, hfr.keep, hfr.ext⟩, hto, hr, ?_⟩
  intro k x hx
  exact hp k x (hvE k x hx)
end Go.TL
namespace Go.TL
mutual
def SV.dull : SV → SV
  | .p (.sl rows) _ => .p (.sl rows) false
  | .p (.rm len rows) _ => .p (.rm len rows) false
  | .pd row off _ => .pd row off false
  | .pc rows _ => .pc rows false
  | .agg xs => .agg (dulls xs)
  | .tup xs => .tup (dulls xs)
  | .p (.v x) fr => match isNilSl x with
    | true => .p (.sl []) false
    | false => .p (.v x) fr
  | .u => .u
  | .ptr k off => .ptr k off
  | .vec k => .vec k
  | .vptr k sz i off => .vptr k sz i off
  | .ref k => .ref k
  | .fn f first caps => .fn f first caps
  | .ifc t x => .ifc t (SV.dull x)
def dulls : List SV → List SV
  | [] => []
  | x :: xs => SV.dull x :: dulls xs
end
theorem Rep.weak {w : World} {bad : Nat → Prop} {lo : Nat} {x : PV} {v : Value} (h : Rep w bad lo x v) : Rep w bad 0 x v := h.mono (Nat.zero_le _) fun _ _ h k => ⟨h, k⟩
mutual
theorem VR.dull {w : World} {E : Env} {lo : Nat} : ∀ (sv : SV) (v : Value), VR w E lo sv v → VR w E lo sv.dull v
  | .p (.sl rows) fr, v, h => by simp only [SV.dull, VR, flo] at h ⊢; exact h.weak
  | .p (.rm len rows) fr, v, h => by simp only [SV.dull, VR, flo] at h ⊢; exact h.weak
  | .pd row off fr, v, h => by
    simp only [SV.dull, VR, flo] at h ⊢
    obtain ⟨b, o, h1, h2⟩ := h
    exact ⟨b, o, h1, h2.mono (Nat.zero_le _) fun _ _ h k => ⟨h, k⟩⟩
  | .pc rows fr, v, h => by
    simp only [SV.dull, VR, flo] at h ⊢
    obtain ⟨a, h1, h2⟩ := h
    exact ⟨a, h1, h2.weak⟩
  | .agg xs, v, h => by simp only [SV.dull, VR] at h ⊢; obtain ⟨vs, h1, h2⟩ := h; exact ⟨vs, h1, VRs.dull xs vs h2⟩
  | .tup xs, v, h => by simp only [SV.dull, VR] at h ⊢; obtain ⟨vs, h1, h2⟩ := h; exact ⟨vs, h1, VRs.dull xs vs h2⟩
  | .p (.v x) fr, v, h => by
    simp only [SV.dull]
    cases hx : isNilSl x with
    | true =>
      have := isNilSl_eq hx; subst this
      rw [VR_v_eq h]
      simp only [VR]
      exact .nil none 0
    | false => exact h
  | .u, _, h => by simpa only [SV.dull] using h
  | .ptr k off, _, h => by simpa only [SV.dull] using h
  | .vec k, _, h => by simpa only [SV.dull] using h
  | .vptr k sz i off, _, h => by simpa only [SV.dull] using h
  | .ref k, _, h => by simpa only [SV.dull] using h
  | .fn f first caps, _, h => by simpa only [SV.dull] using h
  | .ifc t x, v, h => by simp only [SV.dull, VR] at h ⊢; obtain ⟨y, h1, h2⟩ := h; exact ⟨y, h1, VR.dull x y h2⟩
theorem VRs.dull {w : World} {E : Env} {lo : Nat} : ∀ (xs : List SV) (vs : List Value), VRs w E lo xs vs → VRs w E lo (dulls xs) vs
  | [], [], _ => by simp [dulls, VRs]
  | x :: xs, v :: vs, h => by simp only [dulls]; exact VRs_cons (VR.dull x v (VRs_cons_iff.1 h).1) (VRs.dull xs vs (VRs_cons_iff.1 h).2)
  | [], _ :: _, h => by simp [VRs] at h
  | _ :: _, [], h => by simp [VRs] at h
end
def dullM : List Bool → List SV → List SV
  | true :: m, x :: xs => x.dull :: dullM m xs
  | false :: m, x :: xs => x :: dullM m xs
  | _, xs => xs
theorem VRs.dullM {w : World} {E : Env} {lo : Nat} : ∀ (m : List Bool) (xs : List SV) (vs : List Value), VRs w E lo xs vs → VRs w E lo (Go.TL.dullM m xs) vs
  | [], xs, vs, h => by simpa only [Go.TL.dullM] using h
  | b :: m, [], vs, h => by cases b <;> simpa only [Go.TL.dullM] using h
  | true :: m, x :: xs, v :: vs, h => by simp only [Go.TL.dullM]; exact VRs_cons (VR.dull x v (VRs_cons_iff.1 h).1) (VRs.dullM m xs vs (VRs_cons_iff.1 h).2)
  | false :: m, x :: xs, v :: vs, h => by simp only [Go.TL.dullM]; exact VRs_cons (VRs_cons_iff.1 h).1 (VRs.dullM m xs vs (VRs_cons_iff.1 h).2)
  | true :: m, x :: xs, [], h => by simp [VRs] at h
  | false :: m, x :: xs, [], h => by simp [VRs] at h
theorem FnS.dull {P : Program} {g : FuncId} {T : Tab} {R : SV → Tab → Prop} (m : List Bool) (svs : List SV) {svs' : List SV} (e : dullM m svs = svs') (h : FnS P g svs' T R) : FnS P g svs T R := by
  subst e
  intro lo w E vals hlo ht hv
  exact h lo w E vals hlo ht (VRs.dullM m svs vals hv)
def St.nl (t : Nat) (fr : Bool) (σ : St) : St := ⟨(t, .p (.sl []) fr) :: rm σ.slots t, σ.tab⟩
mutual
def SV.nlf : SV → SV
  | .p (.v x) fr => match isNilSl x with
    | true => .p (.sl []) true
    | false => .p (.v x) fr
  | .agg xs => .agg (nlfs xs)
  | .tup xs => .tup (nlfs xs)
  | .p (.sl rows) fr => .p (.sl rows) fr
  | .p (.rm len rows) fr => .p (.rm len rows) fr
  | .pd row off fr => .pd row off fr
  | .pc rows fr => .pc rows fr
  | .u => .u
  | .ptr k off => .ptr k off
  | .vec k => .vec k
  | .vptr k sz i off => .vptr k sz i off
  | .ref k => .ref k
  | .fn f first caps => .fn f first caps
  | .ifc t x => .ifc t x
def nlfs : List SV → List SV
  | [] => []
  | x :: xs => SV.nlf x :: nlfs xs
end
mutual
theorem VR.nlf {w : World} {E : Env} {lo : Nat} : ∀ (sv : SV) (v : Value), VR w E lo sv v → VR w E lo sv.nlf v
  | .p (.v x) fr, v, h => by
    simp only [SV.nlf]
    cases hx : isNilSl x with
    | true =>
      have := isNilSl_eq hx; subst this
      rw [VR_v_eq h]
      simp only [VR]
      exact .nil none 0
    | false => exact h
  | .agg xs, v, h => by simp only [SV.nlf, VR] at h ⊢; obtain ⟨vs, h1, h2⟩ := h; exact ⟨vs, h1, VRs.nlf xs vs h2⟩
  | .tup xs, v, h => by simp only [SV.nlf, VR] at h ⊢; obtain ⟨vs, h1, h2⟩ := h; exact ⟨vs, h1, VRs.nlf xs vs h2⟩
  | .p (.sl rows) fr, v, h => by simpa only [SV.nlf] using h
  | .p (.rm len rows) fr, v, h => by simpa only [SV.nlf] using h
  | .pd row off fr, v, h => by simpa only [SV.nlf] using h
  | .pc rows fr, v, h => by simpa only [SV.nlf] using h
  | .u, _, h => by simpa only [SV.nlf] using h
  | .ptr k off, _, h => by simpa only [SV.nlf] using h
  | .vec k, _, h => by simpa only [SV.nlf] using h
  | .vptr k sz i off, _, h => by simpa only [SV.nlf] using h
  | .ref k, _, h => by simpa only [SV.nlf] using h
  | .fn f first caps, _, h => by simpa only [SV.nlf] using h
  | .ifc t x, v, h => by simpa only [SV.nlf] using h
theorem VRs.nlf {w : World} {E : Env} {lo : Nat} : ∀ (xs : List SV) (vs : List Value), VRs w E lo xs vs → VRs w E lo (nlfs xs) vs
  | [], [], _ => by simp [nlfs, VRs]
  | x :: xs, v :: vs, h => by simp only [nlfs]; exact VRs_cons (VR.nlf x v (VRs_cons_iff.1 h).1) (VRs.nlf xs vs (VRs_cons_iff.1 h).2)
  | [], _ :: _, h => by simp [VRs] at h
  | _ :: _, [], h => by simp [VRs] at h
end
def nlfM : List Bool → List SV → List SV
  | true :: m, x :: xs => x.nlf :: nlfM m xs
  | false :: m, x :: xs => x :: nlfM m xs
  | _, xs => xs
theorem VRs.nlfM {w : World} {E : Env} {lo : Nat} : ∀ (m : List Bool) (xs : List SV) (vs : List Value), VRs w E lo xs vs → VRs w E lo (Go.TL.nlfM m xs) vs
  | [], xs, vs, h => by simpa only [Go.TL.nlfM] using h
  | b :: m, [], vs, h => by cases b <;> simpa only [Go.TL.nlfM] using h
  | true :: m, x :: xs, v :: vs, h => by simp only [Go.TL.nlfM]; exact VRs_cons (VR.nlf x v (VRs_cons_iff.1 h).1) (VRs.nlfM m xs vs (VRs_cons_iff.1 h).2)
  | false :: m, x :: xs, v :: vs, h => by simp only [Go.TL.nlfM]; exact VRs_cons (VRs_cons_iff.1 h).1 (VRs.nlfM m xs vs (VRs_cons_iff.1 h).2)
  | true :: m, x :: xs, [], h => by simp [VRs] at h
  | false :: m, x :: xs, [], h => by simp [VRs] at h
theorem FnS.nlf {P : Program} {g : FuncId} {T : Tab} {R : SV → Tab → Prop} (m : List Bool) (svs : List SV) {svs' : List SV} (e : nlfM m svs = svs') (h : FnS P g svs' T R) : FnS P g svs T R := by
  subst e
  intro lo w E vals hlo ht hv
  exact h lo w E vals hlo ht (VRs.nlfM m svs vals hv)
end Go.TL
namespace Go.TL
def OpPure (C : Ctx) (o : Oper) (σ' : St) (a : Act) (w : World) : Prop :=
  ∃ v, (∀ w2, (execOp a.eval o).run C.P w2 = .ok (.value v) w2) ∧ Holds C σ' (a.put o.dst v) w
theorem out_pp {C : Ctx} {E : Env} {σ : St} {a : Act} {w : World} {o : Oper} {sv : SV} {v : Value} (h : HoldsE C E σ a w) (hd : DstOk C o)
    (hrun : ∀ w2, (execOp a.eval o).run C.P w2 = .ok (.value v) w2) (hsv : VR w E C.lo sv v) : OpPure C o (σ.put o.dst sv) a w :=
  ⟨v, hrun, E, h.upd (Fr.refl w E) (fun _ _ h => h) (fun _ _ h => h) h.tab o.dst hd fun _ _ => hsv⟩
theorem opMove_pure {C : Ctx} {E : Env} {σ σ' : St} {a : Act} {w : World} {o : Oper} {x : Operand} {vc : Prop} (ho : o.op = .move x ∨ o.op = .assign x)
    (hf : opMove σ o x = some (σ', vc)) (h : HoldsE C E σ a w) (hd : DstOk C o) : OpPure C o σ' a w := by
  simp only [opMove, Option.some.injEq, Prod.mk.injEq] at hf; obtain ⟨rfl, _⟩ := hf
  refine out_pp h hd (v := a.eval x) ?_ (ev_rep h x)
  rcases ho with ho | ho <;> simp [execOp, ho]
theorem opPick_pure {C : Ctx} {E : Env} {σ σ' : St} {a : Act} {w : World} {o : Oper} {c x y : Operand} {vc : Prop} (ho : o.op = .pick c x y)
    (hf : opPick σ o c x y = some (σ', vc)) (h : HoldsE C E σ a w) (hd : DstOk C o) : OpPure C o σ' a w := by
  unfold opPick at hf
  split at hf
  · rename_i he
    simp only [Option.some.injEq, Prod.mk.injEq] at hf; obtain ⟨rfl, _⟩ := hf
    exact out_pp h hd (v := a.eval x) (by simp [execOp, ho, ev_v h he, asBool]) (ev_rep h x)
  · rename_i he
    simp only [Option.some.injEq, Prod.mk.injEq] at hf; obtain ⟨rfl, _⟩ := hf
    exact out_pp h hd (v := a.eval y) (by simp [execOp, ho, ev_v h he, asBool]) (ev_rep h y)
  · cases hf
theorem opNilCheck_pure {C : Ctx} {E : Env} {σ σ' : St} {a : Act} {w : World} {o : Oper} {x : Operand} {vc : Prop} (ho : o.op = .nilCheck x)
    (hf : opNilCheck σ o x = some (σ', vc)) (h : HoldsE C E σ a w) (hd : DstOk C o) : OpPure C o σ' a w := by
  have hev := ev_rep h x
  unfold opNilCheck at hf
  split at hf <;> (try (cases hf; done)) <;> rename_i he <;> simp only [Option.some.injEq, Prod.mk.injEq] at hf <;> obtain ⟨rfl, _⟩ := hf <;> rw [he] at hev <;>
    refine out_pp h hd (v := a.eval x) ?_ hev <;> simp only [VR] at hev
  · obtain ⟨b, _, hx⟩ := hev; simp [execOp, ho, hx]
  · obtain ⟨b, o', hx, _⟩ := hev; simp [execOp, ho, hx]
  · obtain ⟨b, n, c, _, hx⟩ := hev; simp [execOp, ho, hx]
  · obtain ⟨y', hx, _⟩ := hev; simp [execOp, ho, hx]
  · obtain ⟨vs, ws, hx, _⟩ := hev; simp [execOp, ho, hx]
theorem opFieldAddr_pure {C : Ctx} {E : Env} {σ σ' : St} {a : Act} {w : World} {o : Oper} {s : TypeId} {x : Operand} {f : Nat} {vc : Prop} (ho : o.op = .fieldAddr s x f)
    (hf : opFieldAddr C.P σ o s x f = some (σ', vc)) (h : HoldsE C E σ a w) (hd : DstOk C o) : OpPure C o σ' a w := by
  unfold opFieldAddr at hf
  split at hf
  · rename_i n m hn
    split at hf
    · rename_i sv hsv
      simp only [Option.some.injEq, Prod.mk.injEq] at hf; obtain ⟨rfl, _⟩ := hf
      obtain ⟨b, o', hx, hv⟩ := shift_rep hsv (ev_rep h x)
      unfold fieldOff at hn
      split at hn
      · rename_i fields hu
        split at hn
        · rename_i fd hfd
          split at hn
          · rename_i i hi
            split at hn
            · cases hn
            · rename_i hz
              simp only [Option.some.injEq, Prod.mk.injEq] at hn; obtain ⟨rfl, rfl⟩ := hn
              have hz' : i.size ≠ 0 := fun e => by rw [e] at hz; simp at hz
              have hfd' : fields[f]? = some fd := by simpa using hfd
              refine out_pp h hd (v := .pointer (some ⟨b, o' + fd.offset, none⟩)) ?_ hv
              simp [execOp, ho, hx, Instr.fieldAt, run_underlying hu, hfd', Instr.sureAddr, fieldPlace, sizeOf, typeInfo, hi, hz', Addr.add_lit]
          · cases hn
        · cases hn
      · cases hn
    · cases hf
  · cases hf
theorem opExtract_pure {C : Ctx} {E : Env} {σ σ' : St} {a : Act} {w : World} {o : Oper} {x : Operand} {n : Nat} {vc : Prop} (ho : o.op = .extract x n)
    (hf : opExtract σ o x n = some (σ', vc)) (h : HoldsE C E σ a w) (hd : DstOk C o) : OpPure C o σ' a w := by
  have hev := ev_rep h x
  unfold opExtract at hf
  split at hf
  · rename_i xs he
    split at hf
    · rename_i sv hsv
      simp only [Option.some.injEq, Prod.mk.injEq] at hf; obtain ⟨rfl, _⟩ := hf
      rw [he] at hev; simp only [VR] at hev
      obtain ⟨vs, hx, hvs⟩ := hev
      obtain ⟨v, hv1, hv⟩ := VRs_get hvs hsv
      refine out_pp h hd (v := v) ?_ hv
      simp [execOp, ho, hx, Instr.extract, hv1]
    · cases hf
  · cases hf
theorem opIndexAddr_pure {C : Ctx} {H : Hint} {E : Env} {σ σ' : St} {a : Act} {w : World} {o : Oper} {t : TypeId} {x ix : Operand} {vc : Prop} (ho : o.op = .indexAddr t x ix)
    (hf : opIndexAddr C.P H σ o t x ix = some (σ', vc)) (hvc : vc) (h : HoldsE C E σ a w) (hd : DstOk C o) : OpPure C o σ' a w := by
  have hev := ev_rep h x
  unfold opIndexAddr at hf
  split at hf
  · rename_i n d hn hdst
    obtain ⟨kk, hix⟩ := intOf_ev h hn
    split at hf
    · rename_i rows fr e he hu
      split at hf
      · rename_i row i hrow hi
        split at hf
        · rename_i hlen
          have hlen' := Nat.eq_of_beq_eq_true hlen
          simp only [Option.some.injEq, Prod.mk.injEq] at hf; obtain ⟨rfl, rfl⟩ := hf
          obtain ⟨h0, hr⟩ := hvc
          rw [he] at hev; simp only [VR] at hev
          have hlt : n.toNat < rows.length := (List.getElem?_eq_some_iff.1 hr).1
          generalize hv : a.eval x = v at hev
          cases hev with
          | nil b c => simp at hlt
          | sl _ b off cap cs t' fz sz f hcap hb hbad hlo hfz hl hc hrr =>
            have hsz : sz = i.size := by rw [← hlen', hl _ _ hr]
            subst hsz
            refine out_pp h hd (v := .pointer (some ⟨b, off + n.toNat * i.size, none⟩)) ?_ ?_
            · simp [execOp, ho, hv, hix, run_indexAt_slice (P := C.P) (k := kk) hu hi h0 (show n < (rows.length : Int) by omega), Addr.add_lit]
            · simp only [VR]
              exact ⟨b, off + n.toNat * i.size, rfl, cs, t', fz, f n.toNat, hb, hbad, hlo, fun j y hj => hc _ _ _ _ hr hj, fun j y hj => hrr _ _ _ _ hr hj⟩
        · cases hf
      · cases hf
    · rename_i k e he hu
      split at hf
      · rename_i t' sz rows fr i hl hi
        split at hf
        · rename_i hsz
          have hsz' := Nat.eq_of_beq_eq_true hsz
          simp only [Option.some.injEq, Prod.mk.injEq] at hf; obtain ⟨rfl, rfl⟩ := hf
          obtain ⟨h0, hlt⟩ := hvc
          rw [he] at hev; simp only [VR] at hev
          obtain ⟨v, xs, h1, h2, h3, h4, h5⟩ := h.tab.obj _ _ hl
          rw [hev.1] at h1; cases h1
          rcases h3.2 with ⟨_, hz⟩ | ⟨g, cap, cur, hv, _⟩
          · omega
          · refine out_pp h hd (v := .pointer (some ⟨g, n.toNat * sz, none⟩)) ?_ ?_
            · simp [execOp, ho, hv, hix, run_indexAt_slice (P := C.P) (k := kk) hu hi h0 hlt, Addr.add_lit, hsz']
            · simp only [VR]
              rw [hv] at hev
              exact ⟨g, _, _, hev.1, by simp⟩
        · cases hf
      · cases hf
    · rename_i k off len e he hu
      split at hf
      · rename_i i m hi hm
        split at hf
        · rename_i hle
          have hle' := Nat.le_of_ble_eq_true hle
          simp only [Option.some.injEq, Prod.mk.injEq] at hf; obtain ⟨rfl, _⟩ := hf
          rw [he] at hev; simp only [VR] at hev
          obtain ⟨b, hb, hx⟩ := hev
          have hnm : n = (m : Int) := by
            unfold intLit at hm; split at hm
            · simp only [Option.some.injEq] at hm; subst hm; rfl
            · cases hm
          subst hnm
          refine out_pp h hd (v := .pointer (some ⟨b, off + m * i.size, none⟩)) ?_ (by simp only [VR]; exact ⟨b, hb, rfl⟩)
          have h2 : (m : Int) < (len : Int) := by omega
          have hlt : m < len := hle'
          simp [execOp, ho, hx, hix, Instr.indexAt, asIntOf, run_underlying hu, Instr.sureAddr, hlt, sizeOf, typeInfo, hi, Addr.add_lit]
        · cases hf
      · cases hf
    · cases hf
  · cases hf
theorem opLen_pure {C : Ctx} {E : Env} {σ σ' : St} {a : Act} {w : World} {o : Oper} {x : Operand} {t : TypeId} {vc : Prop} (ho : o.op = .call { callee := .builtin .len, args := #[x], argTypes := #[t] })
    (hf : opLen C.P σ o x t = some (σ', vc)) (h : HoldsE C E σ a w) (hd : DstOk C o) : OpPure C o σ' a w := by
  unfold opLen at hf
  split at hf
  · rename_i n hn
    simp only [Option.some.injEq, Prod.mk.injEq] at hf; obtain ⟨rfl, _⟩ := hf
    have hev := ev_rep h x
    refine out_pp h hd (v := .int .i64 (n : Int)) ?_ (VR_v true rfl)
    intro w2
    rw [exec_builtin ho]
    unfold lenOf at hn
    split at hn
    · rename_i k he
      split at hn
      · rename_i t' sz rows fr d hl hu
        simp only [Option.some.injEq] at hn; subst hn
        rw [he] at hev; simp only [VR] at hev
        obtain ⟨v, xs, h1, h2, h3, h4, h5⟩ := h.tab.obj _ _ hl
        rw [hev.1] at h1; cases h1
        have hv : ∃ p c, a.eval x = .slice p rows.length c := by
          rcases h3.2 with ⟨e, hz⟩ | ⟨g, cap, cur, e, _⟩
          · exact ⟨none, 0, by rw [e, hz]⟩
          · exact ⟨_, cap, e⟩
        obtain ⟨p, c, hv⟩ := hv
        simp [builtin, Builtin.len_, run_underlying hu, hv, goInt]
      · cases hn
    · rename_i rows fr he
      split at hn
      · rename_i d hu
        simp only [Option.some.injEq] at hn; subst hn
        rw [he] at hev; simp only [VR] at hev
        obtain ⟨p, c, hv⟩ := rep_sl_shape hev
        simp [builtin, Builtin.len_, run_underlying hu, hv, goInt]
      · cases hn
    · rename_i rows fr he
      split at hn
      · rename_i d hu
        simp only [Option.some.injEq] at hn; subst hn
        rw [he] at hev; simp only [VR] at hev
        obtain ⟨p, hv, _⟩ := hev
        simp [builtin, Builtin.len_, run_underlying hu, hv, goInt]
      · cases hn
    · rename_i fr he
      split at hn
      · rename_i d hu
        simp only [Option.some.injEq] at hn; subst hn
        simp [builtin, Builtin.len_, run_underlying hu, ev_v h he, goInt]
      · cases hn
    · rename_i s fr he
      split at hn
      · rename_i hu
        simp only [Option.some.injEq] at hn; subst hn
        simp [builtin, Builtin.len_, run_underlying hu, ev_v h he, goInt]
      · cases hn
    · cases hn
  · cases hf
theorem opBin_pure {C : Ctx} {E : Env} {σ σ' : St} {a : Act} {w : World} {o : Oper} {op : BinOp} {tx ty : TypeId} {x y : Operand} {vc : Prop} (ho : o.op = .binOp op tx x y ty)
    (hf : opBin σ o op x y = some (σ', vc)) (hvc : vc) (h : HoldsE C E σ a w) (hd : DstOk C o) : OpPure C o σ' a w := by
  unfold opBin at hf
  split at hf
  · rename_i k m k' n hx hy
    have ex := isInt_ev h hx
    have ey := isInt_ev h hy
    split at hf
    · rename_i hk
      have hk' := of_decide_eq_true hk; subst hk'
      split at hf
      · rename_i r hr
        simp only [Option.some.injEq, Prod.mk.injEq] at hf; obtain ⟨rfl, rfl⟩ := hf
        refine out_pp h hd (v := .int k r) ?_ (VR_v true rfl)
        cases op <;> simp only [arith, Option.some.injEq, reduceCtorEq] at hr <;> subst hr <;> exact fun w2 => exec_bin ho (by rw [ex]; exact eqGuard_at_int _ _ _ _ _ _ _) (by rw [ex, ey]; simp [binOp, Op.intArith, hvc])
      · split at hf
        · rename_i c hc
          simp only [Option.some.injEq, Prod.mk.injEq] at hf; obtain ⟨rfl, _⟩ := hf
          refine out_pp h hd (v := .bool c) ?_ (VR_v true rfl)
          cases op <;> simp only [icmp, Option.some.injEq, reduceCtorEq] at hc <;> subst hc <;> exact fun w2 => exec_bin ho (by rw [ex]; exact eqGuard_at_int _ _ _ _ _ _ _) (by rw [ex, ey]; simp [binOp, Op.intCmp])
        · split at hf
          · simp only [Option.some.injEq, Prod.mk.injEq] at hf; obtain ⟨rfl, rfl⟩ := hf
            refine out_pp h hd (v := .int k (m.tmod n)) ?_ (VR_v true rfl)
            exact fun w2 => exec_bin ho (by rw [ex]; exact eqGuard_at_int _ _ _ _ _ _ _) (by rw [ex, ey]; simp [binOp, Op.intDiv, hvc])
          · simp only [Option.some.injEq, Prod.mk.injEq] at hf; obtain ⟨rfl, rfl⟩ := hf
            refine out_pp h hd (v := .int k (m.tdiv n)) ?_ (VR_v true rfl)
            exact fun w2 => exec_bin ho (by rw [ex]; exact eqGuard_at_int _ _ _ _ _ _ _) (by rw [ex, ey]; simp [binOp, Op.intDiv, hvc.1, hvc.2])
          · cases hf
    · cases hf
  · split at hf
    · rename_i s r hx hy
      have ex := isStr_ev h hx
      have ey := isStr_ev h hy
      split at hf
      · rename_i c hc
        simp only [Option.some.injEq, Prod.mk.injEq] at hf; obtain ⟨rfl, _⟩ := hf
        refine out_pp h hd (v := .bool c) ?_ (VR_v true rfl)
        cases op <;> simp only [scmp, Option.some.injEq, reduceCtorEq] at hc <;> subst hc <;> exact fun w2 => exec_bin ho (by rw [ex]; exact eqGuard_at_string _ _ _ _ _ _) (by rw [ex, ey]; simp [binOp, Op.stringOp])
      · split at hf
        · simp only [Option.some.injEq, Prod.mk.injEq] at hf; obtain ⟨rfl, rfl⟩ := hf
          refine out_pp h hd (v := .string (s ++ r)) ?_ (VR_v true rfl)
          have : ¬ (9223372036854775807 < (s.size : Int) + (r.size : Int)) := by omega
          exact fun w2 => exec_bin ho (by rw [ex]; exact eqGuard_at_string _ _ _ _ _ _) (by rw [ex, ey]; simp [binOp, Op.stringOp, this])
        · cases hf
    · cases hf
theorem opBinW_pure {C : Ctx} {H : Hint} {E : Env} {σ σ' : St} {a : Act} {w : World} {o : Oper} {op : BinOp} {tx ty : TypeId} {x y : Operand} {vc : Prop} (ho : o.op = .binOp op tx x y ty)
    (hf : opBinW H σ o op x y = some (σ', vc)) (hvc : vc) (h : HoldsE C E σ a w) (hd : DstOk C o) : OpPure C o σ' a w := by
  unfold opBinW at hf
  split at hf
  · split at hf
    · rename_i k0 z k m k' n hl hx hy
      have ex := isInt_ev h hx
      have ey := isInt_ev h hy
      split at hf
      · rename_i hk
        obtain ⟨hk', hk0⟩ := of_decide_eq_true hk; subst hk'; subst hk0
        split at hf
        · rename_i r hr
          simp only [Option.some.injEq, Prod.mk.injEq] at hf; obtain ⟨rfl, rfl⟩ := hf
          refine out_pp h hd (v := .int k z) ?_ (VR_v true rfl)
          cases op <;> simp only [arith, Option.some.injEq, reduceCtorEq] at hr <;> subst hr <;> exact fun w2 => exec_bin ho (by rw [ex]; exact eqGuard_at_int _ _ _ _ _ _ _) (by rw [ex, ey]; simp [binOp, Op.intArith, hvc])
        · cases hf
      · cases hf
    · cases hf
  · cases hf
theorem opNil_pure {C : Ctx} {E : Env} {σ σ' : St} {a : Act} {w : World} {o : Oper} {op : BinOp} {tx ty : TypeId} {x y : Operand} {vc : Prop} (ho : o.op = .binOp op tx x y ty)
    (hf : opNil C.P σ o op tx x y = some (σ', vc)) (h : HoldsE C E σ a w) (hd : DstOk C o) : OpPure C o σ' a w := by
  unfold opNil at hf
  have key : ∀ w2 b, nilEq C.P σ tx x y = some b → (∀ op', eqGuard op' tx x y (a.eval x) (a.eval y) = pure ()) ∧
      (binOp .eql tx (a.eval x) (a.eval y)).run C.P w2 = .ok (.bool b) w2 ∧ (binOp .neq tx (a.eval x) (a.eval y)).run C.P w2 = .ok (.bool (!b)) w2 := by
    intro w2 b hb
    unfold nilEq at hb
    split at hb
    · rename_i e hu
      split at hb
      · rename_i p hx hy
        simp only [Option.some.injEq] at hb; subst hb
        obtain ⟨p1, e1, n1⟩ := nilP_ev h hx
        obtain ⟨p2, e2, n2⟩ := nilP_ev h hy
        have : p2 = none := by simpa using n2
        subst this
        rw [e1, e2]
        have hr := run_eq_ptr (P := C.P) (w := w2) hu p1 none (.inr rfl)
        rw [n1, Option.isNone_none, Bool.and_true] at hr
        exact ⟨fun op' => eqGuard_at_pointer _ _ _ _ _ _, run_eql hr (.inl ⟨⟨_, rfl⟩, ⟨_, rfl⟩⟩)⟩
      · rename_i q hne hx hy
        simp only [Option.some.injEq] at hb; subst hb
        obtain ⟨p1, e1, n1⟩ := nilP_ev h hx
        obtain ⟨p2, e2, n2⟩ := nilP_ev h hy
        have : p1 = none := by simpa using n1
        subst this
        rw [e1, e2]
        have hr := run_eq_ptr (P := C.P) (w := w2) hu none p2 (.inl rfl)
        rw [n2, Option.isNone_none, Bool.true_and] at hr
        exact ⟨fun op' => eqGuard_at_pointer _ _ _ _ _ _, run_eql hr (.inl ⟨⟨_, rfl⟩, ⟨_, rfl⟩⟩)⟩
      · cases hb
    · rename_i ps rs v hu
      split at hb
      · rename_i p hx hy
        simp only [Option.some.injEq] at hb; subst hb
        have e2 : a.eval y = .nilFunc := by
          rcases nilF_ev h hy with ⟨_, e⟩ | ⟨e, _⟩
          · exact e
          · cases e
        rcases nilF_ev h hx with ⟨rfl, e1⟩ | ⟨rfl, f, p, q, e1⟩ <;> rw [e1, e2]
        · exact ⟨fun op' => eqGuard_at_nilFunc _ _ _ _ _, run_eql (run_eq_fn hu).1 (.inr ⟨.inr rfl, .inr rfl⟩)⟩
        · exact ⟨fun op' => eqGuard_at_func _ _ _ _ _ _ _ _, run_eql ((run_eq_fn hu).2.1 f p q) (.inr ⟨.inl ⟨_, _, _, rfl⟩, .inr rfl⟩)⟩
      · rename_i q hne hx hy
        simp only [Option.some.injEq] at hb; subst hb
        have e1 : a.eval x = .nilFunc := by
          rcases nilF_ev h hx with ⟨_, e⟩ | ⟨e, _⟩
          · exact e
          · cases e
        rcases nilF_ev h hy with ⟨rfl, e2⟩ | ⟨rfl, f, p, q, e2⟩ <;> rw [e1, e2]
        · exact ⟨fun op' => eqGuard_at_nilFunc _ _ _ _ _, run_eql (run_eq_fn hu).1 (.inr ⟨.inr rfl, .inr rfl⟩)⟩
        · exact ⟨fun op' => eqGuard_at_nilFunc _ _ _ _ _, run_eql ((run_eq_fn hu).2.2 f p q) (.inr ⟨.inr rfl, .inl ⟨_, _, _, rfl⟩⟩)⟩
      · cases hb
    · cases hb
  split at hf
  · rename_i b hb
    simp only [Option.some.injEq, Prod.mk.injEq] at hf; obtain ⟨rfl, _⟩ := hf
    have := fun w2 => key w2 b hb
    exact out_pp h hd (v := .bool b) (fun w2 => exec_bin ho ((this w2).1 _) (this w2).2.1) (VR_v true rfl)
  · rename_i b hb
    simp only [Option.some.injEq, Prod.mk.injEq] at hf; obtain ⟨rfl, _⟩ := hf
    have := fun w2 => key w2 b hb
    exact out_pp h hd (v := .bool (!b)) (fun w2 => exec_bin ho ((this w2).1 _) (this w2).2.2) (VR_v true rfl)
  · cases hf
theorem opIndexArr_pure {C : Ctx} {E : Env} {σ σ' : St} {a : Act} {w : World} {o : Oper} {t : TypeId} {x ix : Operand} {vc : Prop} (ho : o.op = .indexAddr t x ix)
    (hf : opIndexArr C.P σ o t x ix = some (σ', vc)) (hvc : vc) (h : HoldsE C E σ a w) (hd : DstOk C o) : OpPure C o σ' a w := by
  have hev := ev_rep h x
  unfold opIndexArr at hf
  split at hf
  · rename_i k n e he hn hu
    obtain ⟨kk, hix⟩ := intOf_ev h hn
    split at hf
    · rename_i t' sz rows len m i hl hi
      split at hf
      · rename_i hsz
        have hsz' := Nat.eq_of_beq_eq_true hsz
        simp only [Option.some.injEq, Prod.mk.injEq] at hf; obtain ⟨rfl, rfl⟩ := hf
        obtain ⟨h0, hlt⟩ := hvc
        rw [he] at hev; simp only [VR] at hev
        obtain ⟨b, cs, h1, h2, h3, h4, h5, h6, h7⟩ := h.tab.obj _ _ hl
        have hs := hev.1
        rw [h1] at hs
        have hv : a.eval x = .slice (some ⟨b, 0, none⟩) len rows.length := (Option.some.inj hs).symm
        refine out_pp h hd (v := .pointer (some ⟨b, n.toNat * sz, none⟩)) ?_ ?_
        · simp [execOp, ho, hv, hix, run_indexAt_slice (P := C.P) (k := kk) hu hi h0 hlt, Addr.add_lit, hsz']
        · simp only [VR]
          exact ⟨b, _, _, h1, by simp⟩
      · cases hf
    · cases hf
  · cases hf
theorem opLenArr_pure {C : Ctx} {E : Env} {σ σ' : St} {a : Act} {w : World} {o : Oper} {x : Operand} {t : TypeId} {vc : Prop} (ho : o.op = .call { callee := .builtin .len, args := #[x], argTypes := #[t] })
    (hf : opLenArr C.P σ o x t = some (σ', vc)) (h : HoldsE C E σ a w) (hd : DstOk C o) : OpPure C o σ' a w := by
  have hev := ev_rep h x
  unfold opLenArr at hf
  split at hf
  · rename_i k e he hu
    split at hf
    · rename_i t' sz rows len m hl
      simp only [Option.some.injEq, Prod.mk.injEq] at hf; obtain ⟨rfl, _⟩ := hf
      rw [he] at hev; simp only [VR] at hev
      obtain ⟨b, cs, h1, h2, h3, h4, h5, h6, h7⟩ := h.tab.obj _ _ hl
      have hs := hev.1
      rw [h1] at hs
      have hv : a.eval x = .slice (some ⟨b, 0, none⟩) len rows.length := (Option.some.inj hs).symm
      refine out_pp h hd (v := .int .i64 (len : Int)) ?_ (VR_v true rfl)
      intro w2
      rw [exec_builtin ho]
      simp [builtin, Builtin.len_, run_underlying hu, hv, goInt]
    · cases hf
  · cases hf
theorem opRawNil_pure {C : Ctx} {E : Env} {σ σ' : St} {a : Act} {w : World} {o : Oper} {x : Operand} {vc : Prop} (ho : o.op = .nilCheck x)
    (hf : opRawNil σ o x = some (σ', vc)) (h : HoldsE C E σ a w) (hd : DstOk C o) : OpPure C o σ' a w := by
  unfold opRawNil at hf
  split at hf
  · rename_i b o' hr
    simp only [Option.some.injEq, Prod.mk.injEq] at hf; obtain ⟨rfl, _⟩ := hf
    have hx := rawP_ev h hr
    exact out_pp h hd (v := .pointer (some ⟨b, o', none⟩)) (by simp [execOp, ho, hx]) (VR_v true rfl)
  · cases hf
theorem opRawField_pure {C : Ctx} {E : Env} {σ σ' : St} {a : Act} {w : World} {o : Oper} {s : TypeId} {x : Operand} {f : Nat} {vc : Prop} (ho : o.op = .fieldAddr s x f)
    (hf : opRawField C.P σ o s x f = some (σ', vc)) (h : HoldsE C E σ a w) (hd : DstOk C o) : OpPure C o σ' a w := by
  unfold opRawField at hf
  split at hf
  · rename_i n m b o' hn hr
    simp only [Option.some.injEq, Prod.mk.injEq] at hf; obtain ⟨rfl, _⟩ := hf
    have hx := rawP_ev h hr
    unfold fieldOff at hn
    split at hn
    · rename_i fields hu
      split at hn
      · rename_i fd hfd
        split at hn
        · rename_i i hi
          split at hn
          · cases hn
          · rename_i hz
            simp only [Option.some.injEq, Prod.mk.injEq] at hn; obtain ⟨rfl, rfl⟩ := hn
            have hz' : i.size ≠ 0 := fun e => by rw [e] at hz; simp at hz
            have hfd' : fields[f]? = some fd := by simpa using hfd
            refine out_pp h hd (v := .pointer (some ⟨b, o' + fd.offset, none⟩)) ?_ (VR_v true rfl)
            simp [execOp, ho, hx, Instr.fieldAt, run_underlying hu, hfd', Instr.sureAddr, fieldPlace, sizeOf, typeInfo, hi, hz', Addr.add_lit]
        · cases hn
      · cases hn
    · cases hn
  · cases hf
theorem opRawIndex_pure {C : Ctx} {E : Env} {σ σ' : St} {a : Act} {w : World} {o : Oper} {t : TypeId} {x ix : Operand} {vc : Prop} (ho : o.op = .indexAddr t x ix)
    (hf : opRawIndex C.P σ o t x ix = some (σ', vc)) (hvc : vc) (h : HoldsE C E σ a w) (hd : DstOk C o) : OpPure C o σ' a w := by
  unfold opRawIndex at hf
  split at hf
  · rename_i b o' n c i e hr hn hu
    obtain ⟨kk, hix⟩ := intOf_ev h hn
    split at hf
    · rename_i inf hi
      simp only [Option.some.injEq, Prod.mk.injEq] at hf; obtain ⟨rfl, rfl⟩ := hf
      have hx := rawS_ev h hr
      refine out_pp h hd (v := .pointer (some ⟨b, o' + i.toNat * inf.size, none⟩)) ?_ (VR_v true rfl)
      simp [execOp, ho, hx, baseA, hix, run_indexAt_slice (P := C.P) (k := kk) hu hi hvc.1 hvc.2, Addr.add_lit]
    · cases hf
  · cases hf
theorem opRawLen_pure {C : Ctx} {E : Env} {σ σ' : St} {a : Act} {w : World} {o : Oper} {x : Operand} {t : TypeId} {vc : Prop} (ho : o.op = .call { callee := .builtin .len, args := #[x], argTypes := #[t] })
    (hf : opRawLen C.P σ o x t = some (σ', vc)) (h : HoldsE C E σ a w) (hd : DstOk C o) : OpPure C o σ' a w := by
  unfold opRawLen at hf
  split at hf
  · rename_i p n c e hr hu
    simp only [Option.some.injEq, Prod.mk.injEq] at hf; obtain ⟨rfl, _⟩ := hf
    have hx := rawS_ev h hr
    refine out_pp h hd (v := .int .i64 (n : Int)) ?_ (VR_v true rfl)
    intro w2
    rw [exec_builtin ho]
    simp [builtin, Builtin.len_, run_underlying hu, hx, goInt]
  · cases hf
def pureOp (o : Oper) : Bool :=
  match o.op with
  | .move _ => true
  | .assign _ => true
  | .pick _ _ _ => true
  | .nilCheck _ => true
  | .fieldAddr _ _ _ => true
  | .extract _ _ => true
  | .indexAddr _ _ _ => true
  | .binOp _ _ _ _ _ => true
  | .call c => match c.callee, c.args.toList, c.argTypes.toList with
    | .builtin .len, [_], [_] => true
    | _, _, _ => false
  | _ => false
theorem aop_pure {C : Ctx} {H : Hint} {σ σ' : St} {a : Act} {w : World} {o : Oper} {ps : List Prop} (hpure : pureOp o = true) (hf : aop C.P H σ o = some (σ', ps)) (hp : allP ps) (h : Holds C σ a w) (hd : DstOk C o) : OpPure C o σ' a w := by
  obtain ⟨E, h⟩ := h
  unfold pureOp at hpure
  unfold aop at hf
  split at hpure
  · rename_i ho; simp only [ho] at hf; obtain ⟨_, hq⟩ := tr_eq hf; exact opMove_pure (.inl ho) hq h hd
  · rename_i ho; simp only [ho] at hf; obtain ⟨_, hq⟩ := tr_eq hf; exact opMove_pure (.inr ho) hq h hd
  · rename_i ho; simp only [ho] at hf; obtain ⟨_, hq⟩ := tr_eq hf; exact opPick_pure ho hq h hd
  · rename_i ho; simp only [ho] at hf
    split at hf
    · rename_i r hr; obtain ⟨_, hq⟩ := tr_eq hf; rw [hq] at hr; exact opRawNil_pure ho hr h hd
    · obtain ⟨_, hq⟩ := tr_eq hf; exact opNilCheck_pure ho hq h hd
  · rename_i ho; simp only [ho] at hf
    split at hf
    · rename_i r hr; obtain ⟨_, hq⟩ := tr_eq hf; rw [hq] at hr; exact opRawField_pure ho hr h hd
    · obtain ⟨_, hq⟩ := tr_eq hf; exact opFieldAddr_pure ho hq h hd
  · rename_i ho; simp only [ho] at hf; obtain ⟨_, hq⟩ := tr_eq hf; exact opExtract_pure ho hq h hd
  · rename_i ho; simp only [ho] at hf
    split at hf
    · rename_i r hr; obtain ⟨_, hq, hv⟩ := nt_eq hf hp; rw [hq] at hr; exact opIndexArr_pure ho hr hv h hd
    split at hf
    · rename_i r hr; obtain ⟨_, hq, hv⟩ := nt_eq hf hp; rw [hq] at hr; exact opRawIndex_pure ho hr hv h hd
    split at hf
    · rename_i he; obtain ⟨_, hq⟩ := tr_eq hf; exact opIndexAddr_pure ho hq (opIndexAddr_triv he hq) h hd
    · obtain ⟨_, hq, hv⟩ := nt_eq hf hp; exact opIndexAddr_pure ho hq hv h hd
  · rename_i ho; simp only [ho] at hf
    split at hf
    · split at hf
      · rename_i r hr
        obtain ⟨_, hq, hv⟩ := nt_eq hf hp
        rw [hq] at hr
        exact opBinW_pure ho hr hv h hd
      · obtain ⟨_, hq, hv⟩ := nt_eq hf hp; exact opBin_pure ho hq hv h hd
    · rename_i hn
      split at hf
      · rename_i r hr
        obtain ⟨_, hq⟩ := tr_eq hf
        rw [hq] at hr
        exact opBin_pure ho hr (opBin_triv hn hr) h hd
      · obtain ⟨_, hq⟩ := tr_eq hf; exact opNil_pure ho hq h hd
  · rename_i c ho; simp only [ho] at hf
    split at hpure
    · rename_i x t hc ha ht
      simp only [hc, ha, ht] at hf
      have ho' : o.op = .call { callee := .builtin .len, args := #[x], argTypes := #[t] } := by
        rw [ho]; obtain ⟨cc, ca, ct⟩ := c; simp only at hc ha ht; subst hc; rw [toList_one ha, toList_one ht]
      split at hf
      · rename_i r hr; obtain ⟨_, hq⟩ := tr_eq hf; rw [hq] at hr; exact opLenArr_pure ho' hr h hd
      split at hf
      · rename_i r hr; obtain ⟨_, hq⟩ := tr_eq hf; rw [hq] at hr; exact opLen_pure ho' hr h hd
      · obtain ⟨_, hq⟩ := tr_eq hf; exact opRawLen_pure ho' hq h hd
    · cases hpure
  · cases hpure
end Go.TL
