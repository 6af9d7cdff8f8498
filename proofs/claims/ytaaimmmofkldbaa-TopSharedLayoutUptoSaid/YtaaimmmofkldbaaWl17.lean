/- Objects that are put away or frozen. -/
import Derived.Test.YtaaimmmofkldbaaWl16
namespace Go.TL
mutual
def DV.fz (k : Nat) (vc : DV) (pd : Nat → DV) : DV → DV
  | .vec j => match Nat.beq j k with | true => vc | false => .vec j
  | .ptr j off => match Nat.beq j k with | true => pd off | false => .ptr j off
  | .vptr j sz i off => match Nat.beq j k with | true => .u | false => .vptr j sz i off
  | .ref j => match Nat.beq j k with | true => .u | false => .ref j
  | .agg xs => .agg (dfzs k vc pd xs)
  | .tup xs => .tup (dfzs k vc pd xs)
  | .fn f first caps => .fn f (dfzs k vc pd first) (dfzs k vc pd caps)
  | .ifc t x => .ifc t (DV.fz k vc pd x)
  | .u => .u
  | .p x fr => .p x fr
  | .pd row off fr => .pd row off fr
  | .pc l fr => .pc l fr
  | .rp j off => .rp j off
def dfzs (k : Nat) (vc : DV) (pd : Nat → DV) : List DV → List DV
  | [] => []
  | x :: xs => DV.fz k vc pd x :: dfzs k vc pd xs
end
mutual
theorem fz_v (ρ : Ro) (k : Nat) (vc : DV) (pd : Nat → DV) : ∀ x : DV, (DV.fz k vc pd x).v ρ = SV.fz k (vc.v ρ) (fun n => (pd n).v ρ) (x.v ρ)
  | .vec j => by simp only [DV.fz, DV.v, SV.fz]; cases Nat.beq j k <;> simp [DV.v]
  | .ptr j off => by simp only [DV.fz, DV.v, SV.fz]; cases Nat.beq j k <;> simp [DV.v]
  | .vptr j sz i off => by simp only [DV.fz, DV.v, SV.fz]; cases Nat.beq j k <;> simp [DV.v]
  | .ref j => by simp only [DV.fz, DV.v, SV.fz]; cases Nat.beq j k <;> simp [DV.v]
  | .agg xs => by simp only [DV.fz, DV.v, SV.fz, fzs_v ρ k vc pd xs]
  | .tup xs => by simp only [DV.fz, DV.v, SV.fz, fzs_v ρ k vc pd xs]
  | .fn f first caps => by simp only [DV.fz, DV.v, SV.fz, fzs_v ρ k vc pd first, fzs_v ρ k vc pd caps]
  | .ifc t x => by simp only [DV.fz, DV.v, SV.fz, fz_v ρ k vc pd x]
  | .u => by simp [DV.fz, DV.v, SV.fz]
  | .p x fr => by simp [DV.fz, DV.v, SV.fz]
  | .pd row off fr => by simp [DV.fz, DV.v, SV.fz]
  | .pc l fr => by simp [DV.fz, DV.v, SV.fz]
  | .rp j off => by simp [DV.fz, DV.v, SV.fz]
theorem fzs_v (ρ : Ro) (k : Nat) (vc : DV) (pd : Nat → DV) : ∀ xs : List DV, dvs ρ (dfzs k vc pd xs) = fzs k (vc.v ρ) (fun n => (pd n).v ρ) (dvs ρ xs)
  | [] => by simp [dfzs, dvs, fzs]
  | x :: xs => by simp only [dfzs, dvs, fzs, fz_v ρ k vc pd x, fzs_v ρ k vc pd xs]
end
mutual
theorem fz_sc {n : Nat} {k : Nat} {vc : DV} {pd : Nat → DV} (hv : Sc n vc.vars) (hp : ∀ j, Sc n (pd j).vars) : ∀ {x : DV}, Sc n x.vars → Sc n (DV.fz k vc pd x).vars
  | .vec j, _ => by simp only [DV.fz]; cases Nat.beq j k with | true => exact hv | false => simp [DV.vars, Sc.nil]
  | .ptr j off, _ => by simp only [DV.fz]; cases Nat.beq j k with | true => exact hp off | false => simp [DV.vars, Sc.nil]
  | .vptr j sz i off, h => by simp only [DV.fz]; cases Nat.beq j k with | true => simp [DV.vars, Sc.nil] | false => exact h
  | .ref j, _ => by simp only [DV.fz]; cases Nat.beq j k <;> simp [DV.vars, Sc.nil]
  | .agg xs, h => by simp only [DV.fz, DV.vars] at h ⊢; exact fzs_sc hv hp h
  | .tup xs, h => by simp only [DV.fz, DV.vars] at h ⊢; exact fzs_sc hv hp h
  | .fn f first caps, h => by simp only [DV.fz, DV.vars, Sc.app] at h ⊢; exact ⟨fzs_sc hv hp h.1, fzs_sc hv hp h.2⟩
  | .ifc t x, h => by simp only [DV.fz, DV.vars] at h ⊢; exact fz_sc hv hp h
  | .u, _ => by simp [DV.fz, DV.vars, Sc.nil]
  | .p x fr, h => by simpa only [DV.fz] using h
  | .pd row off fr, h => by simpa only [DV.fz] using h
  | .pc l fr, h => by simpa only [DV.fz] using h
  | .rp j off, h => by simpa only [DV.fz] using h
theorem fzs_sc {n : Nat} {k : Nat} {vc : DV} {pd : Nat → DV} (hv : Sc n vc.vars) (hp : ∀ j, Sc n (pd j).vars) : ∀ {xs : List DV}, Sc n (dvsVars xs) → Sc n (dvsVars (dfzs k vc pd xs))
  | [], _ => by simp [dfzs, dvsVars, Sc.nil]
  | x :: xs, h => by simp only [dfzs, dvsVars, Sc.app] at h ⊢; exact ⟨fz_sc hv hp h.1, fzs_sc hv hp h.2⟩
end
def dfzSlots (k : Nat) (vc : DV) (pd : Nat → DV) : DSlots → DSlots
  | [] => []
  | (t, x) :: r => (t, DV.fz k vc pd x) :: dfzSlots k vc pd r
def DO.fz (k : Nat) (vc : DV) (pd : Nat → DV) : DO → DO
  | .box t cells => .box t (dfzs k vc pd cells)
  | o => o
def dfzTab (k : Nat) (vc : DV) (pd : Nat → DV) : DTab → DTab
  | [] => []
  | (t, x) :: r => (t, DO.fz k vc pd x) :: dfzTab k vc pd r
theorem fzSlots_v (ρ : Ro) (k : Nat) (vc : DV) (pd : Nat → DV) : ∀ l : DSlots, slotsV ρ (dfzSlots k vc pd l) = fzSlots k (vc.v ρ) (fun n => (pd n).v ρ) (slotsV ρ l)
  | [] => rfl
  | (t, x) :: r => by simp only [dfzSlots, slotsV, fzSlots, fz_v, fzSlots_v ρ k vc pd r]
theorem dofz_v (J : Ex) (ρ : Ro) (k : Nat) (vc : DV) (pd : Nat → DV) (o : DO) : (o.fz k vc pd).v J ρ = (o.v J ρ).fz k (vc.v ρ) (fun n => (pd n).v ρ) := by
  cases o <;> simp [DO.fz, DO.v, OV.fz, fzs_v]
theorem fzTab_v (J : Ex) (ρ : Ro) (k : Nat) (vc : DV) (pd : Nat → DV) : ∀ l : DTab, tabV J ρ (dfzTab k vc pd l) = fzTab k (vc.v ρ) (fun n => (pd n).v ρ) (tabV J ρ l)
  | [] => rfl
  | (t, x) :: r => by simp only [dfzTab, tabV, fzTab, dofz_v, fzTab_v J ρ k vc pd r]
theorem lk_dfzSlots (k : Nat) (vc : DV) (pd : Nat → DV) : ∀ (l : DSlots) (t : Nat), lk (dfzSlots k vc pd l) t = (lk l t).map (DV.fz k vc pd)
  | [], _ => rfl
  | (j, x) :: r, t => by simp only [dfzSlots, lk]; cases Nat.beq j t <;> simp [lk_dfzSlots k vc pd r t]
theorem lk_dfzTab (k : Nat) (vc : DV) (pd : Nat → DV) : ∀ (l : DTab) (t : Nat), lk (dfzTab k vc pd l) t = (lk l t).map (DO.fz k vc pd)
  | [], _ => rfl
  | (j, x) :: r, t => by simp only [dfzTab, lk]; cases Nat.beq j t <;> simp [lk_dfzTab k vc pd r t]
theorem lk_fzSlots' (k : Nat) (vc : SV) (pd : Nat → SV) : ∀ (l : List (Nat × SV)) (t : Nat), lk (fzSlots k vc pd l) t = (lk l t).map (SV.fz k vc pd)
  | [], _ => rfl
  | (j, x) :: r, t => by simp only [fzSlots, lk]; cases Nat.beq j t <;> simp [lk_fzSlots' k vc pd r t]
theorem lk_fzTab' (k : Nat) (vc : SV) (pd : Nat → SV) : ∀ (l : Tab) (t : Nat), lk (fzTab k vc pd l) t = (lk l t).map (OV.fz k vc pd)
  | [], _ => rfl
  | (j, x) :: r, t => by simp only [fzTab, lk]; cases Nat.beq j t <;> simp [lk_fzTab' k vc pd r t]
theorem lk_rm {α : Type} (l : List (Nat × α)) (n m : Nat) : lk (rm l n) m = if m = n then none else lk l m := by
  by_cases h : m = n
  · subst h; rw [lk_rm_same, if_pos rfl]
  · rw [lk_rm_ne _ _ _ h, if_neg h]
theorem lk_cons {α : Type} (l : List (Nat × α)) (n m : Nat) (x : α) : lk ((n, x) :: l) m = if m = n then some x else lk l m := by
  by_cases h : m = n
  · subst h; rw [lk_cons_same, if_pos rfl]
  · rw [lk_cons_ne _ _ _ _ h, if_neg h]
def DSt.re (σ : DSt) (k d : Nat) (ov : DO) : DSt :=
  { σ with slots := (d, .vec d) :: dfzSlots k .u (fun _ => .u) σ.slots, tab := (d, ov) :: dfzTab k .u (fun _ => .u) (rm σ.tab k) }
theorem re_v {J : Ex} (ρ : Ro) (σ : DSt) (k d : Nat) (ov : DO) : (σ.re k d ov).v J ρ = (σ.v J ρ).re k d (ov.v J ρ) := by
  simp only [DSt.re, DSt.v, St.re, slotsV, tabV, fzSlots_v, fzTab_v, rm_tabV, DV.v]
theorem Same.re {s s' : St} (h : Same s s') (k d : Nat) (ov : OV) : Same (s.re k d ov) (s'.re k d ov) := by
  constructor
  · intro t
    simp only [St.re, lk_cons, lk_fzSlots', h.slots t]
  · intro t
    simp only [St.re, lk_cons, lk_fzTab', lk_rm, h.tab t]
theorem DO.fz_sc {n k : Nat} {vc : DV} {pd : Nat → DV} (hv : Sc n vc.vars) (hp : ∀ j, Sc n (pd j).vars) {o : DO} (h : Sc n o.vars) : Sc n (o.fz k vc pd).vars := by
  cases o with
  | box t cells => simp only [DO.fz, DO.vars] at h ⊢; exact fzs_sc hv hp h
  | vec t sz l fr => exact h
  | ex id args => exact h
theorem DSt.sc.re {σ : DSt} (hs : σ.sc) (k d : Nat) {ov : DO} (ho : Sc σ.nx ov.vars) : (σ.re k d ov).sc := by
  have hu : Sc σ.nx DV.u.vars := by simp [DV.vars, Sc.nil]
  refine ⟨?_, ?_, hs.tys, hs.lin, hs.prs⟩
  · intro t v hl
    simp only [DSt.re, lk_cons] at hl
    split at hl
    · simp only [Option.some.injEq] at hl; subst hl; simp [DV.vars, Sc.nil]
    · rw [lk_dfzSlots] at hl
      cases hq : lk σ.slots t with
      | none => simp [hq] at hl
      | some x => simp only [hq, Option.map_some, Option.some.injEq] at hl; subst hl; exact Go.TL.fz_sc hu (fun _ => hu) (hs.slots t x hq)
  · intro t v hl
    simp only [DSt.re, lk_cons] at hl
    split at hl
    · simp only [Option.some.injEq] at hl; subst hl; exact ho
    · rw [lk_dfzTab] at hl
      cases hq : lk (rm σ.tab k) t with
      | none => simp [hq] at hl
      | some x =>
        simp only [hq, Option.map_some, Option.some.injEq] at hl; subst hl
        rw [lk_rm] at hq
        split at hq
        · cases hq
        · exact DO.fz_sc hu (fun _ => hu) (hs.tab t x hq)
theorem good_re {P : Program} {I : Pr} {J : Ex} {σ : DSt} {o : Oper} {gs : List G} {k d n : Nat} {ov : DO} {tys : List (Nat × TypeId)} {lin : List Lin} {prs : List PF} (hov : σ.sc → Sc (σ.nx + n) ov.vars)
    (hg : σ.sc → GrowSc (σ.nx + n) tys lin prs)
    (h : ∀ ρ, σ.sc → σ.ok P I ρ → gsV I ρ gs → ∃ ρ', Agree σ.nx ρ ρ' ∧ Gok ρ' ∧ tysV P ρ' tys ∧ linsV ρ' lin ∧ prsV I ρ' prs ∧
      ∃ (H : Hint) (ps : List Prop), aop P H (σ.v J ρ) o = some ((σ.v J ρ).re k d (ov.v J ρ'), ps) ∧ allP ps) : Good P I J σ o ((σ.grow n tys lin prs).re k d ov) gs := by
  intro hs
  have hs' := hs.grow (hg hs)
  refine ⟨hs'.re k d (hov hs), Nat.le_add_right _ _, ?_⟩
  intro ρ hok hgs
  obtain ⟨ρ', ha, hgk, h1, h2, h3, H, ps, h4, h5⟩ := h ρ hs hok hgs
  have hok' := hok.grow (n := n) hs ha hgk h1 h2 h3
  refine ⟨ρ', ha, ⟨hok'.g, hok'.tys, hok'.lin, hok'.prs⟩, H, _, ps, h4, h5, ?_⟩
  rw [re_v]
  exact Same.re (DSt.same_ag hs ha) _ _ _
end Go.TL
namespace Go.TL
def dbase (σ : DSt) (d : Nat) : DV → Option (LV × Bool × Nat × Option (TypeId × Nat))
  | .vec k => match lk σ.tab k with
    | some (.vec t sz l fr) => some (l, fr, k, some (t, sz))
    | _ => none
  | .p .nl _ => some (none, true, d, none)
  | _ => none
def dsrc (σ : DSt) : DV → Option (LV × Bool)
  | .vec k => match lk σ.tab k with
    | some (.vec _ _ l fr) => some (l, fr)
    | _ => none
  | .p (.sl l) fr => some (l, fr)
  | .p .nl _ => some (none, true)
  | .pc l fr => some (l, fr)
  | _ => none
theorem dbase_v {J : Ex} {σ : DSt} {d : Nat} {x : DV} {l : LV} {fr : Bool} {k : Nat} {ts : Option (TypeId × Nat)} (ρ : Ro) (h : dbase σ d x = some (l, fr, k, ts)) :
    baseOf (σ.v J ρ).tab d (x.v ρ) = some (lvV ρ l, fr, k, ts) := by
  unfold dbase at h
  split at h
  · split at h
    · rename_i hk
      simp only [Option.some.injEq, Prod.mk.injEq] at h; obtain ⟨rfl, rfl, rfl, rfl⟩ := h
      simp only [DV.v, baseOf, dtab_v hk, DO.v]
    · cases h
  · simp only [Option.some.injEq, Prod.mk.injEq] at h; obtain ⟨rfl, rfl, rfl, rfl⟩ := h
    simp [DV.v, DP.v, baseOf, lvV]
  · cases h
theorem dbase_pc {σ : DSt} {d : Nat} {x : DV} {l : LV} {fr : Bool} {k : Nat} {ts : Option (TypeId × Nat)} (ρ : Ro) (h : dbase σ d x = some (l, fr, k, ts)) : isPc (x.v ρ) = false := by
  unfold dbase at h
  split at h
  · rfl
  · rfl
  · cases h
theorem dsrc_v {J : Ex} {σ : DSt} {x : DV} {l : LV} {fr : Bool} (ρ : Ro) (h : dsrc σ x = some (l, fr)) : srcOf (σ.v J ρ).tab (x.v ρ) = some (lvV ρ l, fr) := by
  unfold dsrc at h
  split at h
  · split at h
    · rename_i hk
      simp only [Option.some.injEq, Prod.mk.injEq] at h; obtain ⟨rfl, rfl⟩ := h
      simp only [DV.v, srcOf, dtab_v hk, DO.v]
    · cases h
  · simp only [Option.some.injEq, Prod.mk.injEq] at h; obtain ⟨rfl, rfl⟩ := h
    simp [DV.v, DP.v, srcOf]
  · simp only [Option.some.injEq, Prod.mk.injEq] at h; obtain ⟨rfl, rfl⟩ := h
    simp [DV.v, DP.v, srcOf, lvV]
  · simp only [Option.some.injEq, Prod.mk.injEq] at h; obtain ⟨rfl, rfl⟩ := h
    simp [DV.v, srcOf]
  · cases h
theorem dbase_sc {σ : DSt} (hs : σ.sc) {d : Nat} {x : DV} {l : LV} {fr : Bool} {k : Nat} {ts : Option (TypeId × Nat)} (h : dbase σ d x = some (l, fr, k, ts)) : Sc σ.nx (lvVars l) := by
  unfold dbase at h
  split at h
  · split at h
    · rename_i hk
      simp only [Option.some.injEq, Prod.mk.injEq] at h; obtain ⟨rfl, rfl, rfl, rfl⟩ := h
      simpa [DO.vars] using hs.tab _ _ hk
    · cases h
  · simp only [Option.some.injEq, Prod.mk.injEq] at h; obtain ⟨rfl, rfl, rfl, rfl⟩ := h
    exact Sc.nil
  · cases h
theorem dsrc_sc {σ : DSt} (hs : σ.sc) {x : DV} (hx : Sc σ.nx x.vars) {l : LV} {fr : Bool} (h : dsrc σ x = some (l, fr)) : Sc σ.nx (lvVars l) := by
  unfold dsrc at h
  split at h
  · split at h
    · rename_i hk
      simp only [Option.some.injEq, Prod.mk.injEq] at h; obtain ⟨rfl, rfl⟩ := h
      simpa [DO.vars] using hs.tab _ _ hk
    · cases h
  · simp only [Option.some.injEq, Prod.mk.injEq] at h; obtain ⟨rfl, rfl⟩ := h
    simpa [DV.vars, DP.vars] using hx
  · simp only [Option.some.injEq, Prod.mk.injEq] at h; obtain ⟨rfl, rfl⟩ := h
    exact Sc.nil
  · simp only [Option.some.injEq, Prod.mk.injEq] at h; obtain ⟨rfl, rfl⟩ := h
    simpa [DV.vars] using hx
  · cases h
def appLin (n : Nat) (a b : LV) : List Lin :=
  [((Lin.at (4 * n + 1)).ax (-1) (lvLen a)).ax (-1) (lvLen b), ((lvLen a).ax 1 (lvLen b)).ax (-1) (Lin.at (4 * n + 1)),
   ((Lin.at (4 * n + 2)).ax (-1) (lvRsz a)).ax (-1) (lvRsz b), ((lvRsz a).ax 1 (lvRsz b)).ax (-1) (Lin.at (4 * n + 2))]
def tsOk (σ : DSt) (d : Nat) (e : TypeId) (i : TypeInfo) : Option (TypeId × Nat) → Bool
  | some (t', sz) => Nat.beq t' e && Nat.beq sz i.size
  | none => (lk σ.tab d).isNone
def dAppend (P : Program) (σ : DSt) (o : Oper) (s x : Operand) (t : TypeId) : DR :=
  match o.dst, sliceElem P t with
  | some d, some (e, i) => match dbase σ d (dev σ s), dsrc σ (dev σ x), i.zero with
    | some (a, fr, k, ts), some (b, fr2), some z => match lk (rm σ.tab k) d, Nat.beq z.cells.size i.size, Nat.beq i.size 0, tsOk σ d e i ts, (okElem P σ e i a && okElem P σ e i b) && Nat.ble (2097152 * max i.bytes 1) 140737488355328 with
      | none, true, false, true, true => some ((σ.grow 1 [(σ.nx, e)] (appLin σ.nx a b) [.app σ.nx a b]).re k d (.vec e i.size (some σ.nx) (fr && fr2)), [.le (((lvLen a).ax 1 (lvLen b)).addc (-2097152))])
      | _, _, _, _, _ => none
    | _, _, _ => none
  | _, _ => none
theorem rm_none {J : Ex} {σ : DSt} {ρ : Ro} {k d : Nat} (h : lk (rm σ.tab k) d = none) : lk (rm (σ.v J ρ).tab k) d = none := by
  simp only [DSt.v, rm_tabV, lk_tabV, h, Option.map_none]
theorem dAppend_good {P : Program} {I : Pr} {J : Ex} {σ σ' : DSt} {o : Oper} {s x : Operand} {t : TypeId} {gs : List G} (ho : o.op = .call { callee := .builtin .append, args := #[s, x], argTypes := #[t, t] })
    (h : dAppend P σ o s x t = some (σ', gs)) : Good P I J σ o σ' gs := by
  unfold dAppend at h
  split at h
  · rename_i d e i hd hse
    split at h
    · rename_i a fr k ts b fr2 z hb hsr hz
      split at h
      · rename_i hfree hzs hsz hts hall
        simp only [Bool.and_eq_true] at hall
        obtain ⟨⟨hoa, hob⟩, hroom⟩ := hall
        simp only [Option.some.injEq, Prod.mk.injEq] at h; obtain ⟨rfl, rfl⟩ := h
        have asc : σ.sc → Sc σ.nx (lvVars a) := fun hs => dbase_sc hs hb
        have bsc : σ.sc → Sc σ.nx (lvVars b) := fun hs => dsrc_sc hs (hs.dev x) hsr
        refine good_re (fun hs => by simp only [DO.vars, lvVars, Sc.cons]; exact ⟨Nat.lt_succ_self _, Sc.nil⟩) (fun hs => ⟨by simp, fun q hq => ?_, fun f hf => ?_⟩) ?_
        · have a1 := (lvLen_sc (asc hs)).mono (Nat.le_succ σ.nx)
          have a2 := (lvLen_sc (bsc hs)).mono (Nat.le_succ σ.nx)
          have a3 := (lvRsz_sc (asc hs)).mono (Nat.le_succ σ.nx)
          have a4 := (lvRsz_sc (bsc hs)).mono (Nat.le_succ σ.nx)
          have n1 : Sc (σ.nx + 1) (Lin.at (4 * σ.nx + 1)).vars := Lin.at_sc (by omega)
          have n2 : Sc (σ.nx + 1) (Lin.at (4 * σ.nx + 2)).vars := Lin.at_sc (by omega)
          simp only [appLin, List.mem_cons, List.mem_nil_iff, or_false] at hq
          rcases hq with rfl | rfl | rfl | rfl
          · exact Lin.ax_sc (Lin.ax_sc n1 a1) a2
          · exact Lin.ax_sc (Lin.ax_sc a1 a2) n1
          · exact Lin.ax_sc (Lin.ax_sc n2 a3) a4
          · exact Lin.ax_sc (Lin.ax_sc a3 a4) n2
        · simp only [List.mem_singleton] at hf; subst hf
          simp only [PF.vars, Sc.cons, Sc.app]
          exact ⟨Nat.lt_succ_self _, (asc hs).mono (Nat.le_succ _), (bsc hs).mono (Nat.le_succ _)⟩
        · intro ρ hs hok hg
          simp only [gsV, G.v, Lin.addc_v, Lin.ax_v, lvLen_v, and_true] at hg
          obtain ⟨ta, la⟩ := okElem_v hok hoa
          obtain ⟨tb, lb⟩ := okElem_v hok hob
          have hlen : (lvV ρ a ++ lvV ρ b).length ≤ mostLen := by rw [List.length_append]; unfold mostLen; omega
          have hroom' := Nat.le_of_ble_eq_true hroom
          refine ⟨up ρ σ.nx (vaL (lvV ρ a ++ lvV ρ b)), up_ag _ _ _ _ (Nat.le_refl _), hok.g.up _ (vaL_ok hlen), ?_, ?_, ?_, ⟨[], []⟩, [(∀ row ∈ lvV ρ b, row.length = i.size) ∧ ((lvV ρ a).length + (lvV ρ b).length) * max i.bytes 1 ≤ 140737488355328], ?_, ⟨⟨lb, ?_⟩, trivial⟩⟩
          · refine ⟨?_, trivial⟩
            rw [up_same]; exact ⟨hlen, ta.2.append tb.2⟩
          · have ha := up_ag ρ σ.nx σ.nx (vaL (lvV ρ a ++ lvV ρ b)) (Nat.le_refl _)
            have hn : ((up ρ σ.nx (vaL (lvV ρ a ++ lvV ρ b))) σ.nx).l = lvV ρ a ++ lvV ρ b := by rw [up_same]; rfl
            have e1 := lv_ag ha (asc hs)
            have e2 := lv_ag ha (bsc hs)
            refine ⟨?_, ?_, ?_, ?_, trivial⟩ <;> simp only [Lin.ax_v, Lin.at_v, atomV1, atomV2, hn, lvLen_v, lvRsz_v, e1, e2, List.length_append, rsz_append] <;> omega
          · have ha := up_ag ρ σ.nx σ.nx (vaL (lvV ρ a ++ lvV ρ b)) (Nat.le_refl _)
            have hn : ((up ρ σ.nx (vaL (lvV ρ a ++ lvV ρ b))) σ.nx).l = lvV ρ a ++ lvV ρ b := by rw [up_same]; rfl
            refine ⟨?_, trivial⟩
            simp only [PF.v, hn, lv_ag ha (asc hs), lv_ag ha (bsc hs)]
          · have hn : ((up ρ σ.nx (vaL (lvV ρ a ++ lvV ρ b))) σ.nx).l = lvV ρ a ++ lvV ρ b := by rw [up_same]; rfl
            have hn' : lvV (up ρ σ.nx (vaL (lvV ρ a ++ lvV ρ b))) (some σ.nx) = lvV ρ a ++ lvV ρ b := hn
            have h1 := dbase_v (J := J) ρ hb
            have h2 := dsrc_v (J := J) ρ hsr
            unfold aop
            simp only [ho, Nat.beq_refl, appendArr_none noArr, dbase_pc ρ hb, opAppend, hd, hse, dev_v, h1, h2, hz, rm_none hfree, hzs, hsz]
            cases ts with
            | some p => simp only [tsOk] at hts; simp only [hts, nt, DO.v, hn']
            | none =>
              have hts' : (lk (σ.v J ρ).tab d).isNone = true := by
                simp only [tsOk] at hts; simp only [DSt.v, lk_tabV]; cases hq : lk σ.tab d with
                | none => rfl
                | some _ => simp [hq] at hts
              simp only [hts', nt, DO.v, hn']
          · refine Nat.le_trans (Nat.mul_le_mul_right _ ?_) hroom'
            omega
      · cases h
    · cases h
  · cases h
def dAppendF (P : Program) (σ : DSt) (o : Oper) (s x : Operand) (t : TypeId) : DR :=
  match o.dst, sliceElem P t with
  | some d, some (e, i) => match dev σ s, dsrc σ (dev σ x), i.zero with
    | .pc a fr, some (b, fr2), some z => match lk σ.tab d, Nat.beq z.cells.size i.size, Nat.beq i.size 0, (okElem P σ e i a && okElem P σ e i b) && Nat.ble (2097152 * max i.bytes 1) 140737488355328 with
      | none, true, false, true => some ((σ.grow 1 [(σ.nx, e)] (appLin σ.nx a b) [.app σ.nx a b]).re d d (.vec e i.size (some σ.nx) (fr && fr2)), [.le (((lvLen a).ax 1 (lvLen b)).addc (-2097152)), .le ((Lin.scale (-1) (lvLen b)).addc 1)])
      | _, _, _, _ => none
    | _, _, _ => none
  | _, _ => none
theorem dAppendF_good {P : Program} {I : Pr} {J : Ex} {σ σ' : DSt} {o : Oper} {s x : Operand} {t : TypeId} {gs : List G} (ho : o.op = .call { callee := .builtin .append, args := #[s, x], argTypes := #[t, t] })
    (h : dAppendF P σ o s x t = some (σ', gs)) : Good P I J σ o σ' gs := by
  unfold dAppendF at h
  split at h
  · rename_i d e i hd hse
    split at h
    · rename_i a fr b fr2 z hb hsr hz
      split at h
      · rename_i hfree hzs hsz hall
        simp only [Bool.and_eq_true] at hall
        obtain ⟨⟨hoa, hob⟩, hroom⟩ := hall
        simp only [Option.some.injEq, Prod.mk.injEq] at h; obtain ⟨rfl, rfl⟩ := h
        have asc : σ.sc → Sc σ.nx (lvVars a) := fun hs => by
          have := hs.dev s
          rw [hb] at this; simpa only [DV.vars] using this
        have bsc : σ.sc → Sc σ.nx (lvVars b) := fun hs => dsrc_sc hs (hs.dev x) hsr
        refine good_re (fun hs => by simp only [DO.vars, lvVars, Sc.cons]; exact ⟨Nat.lt_succ_self _, Sc.nil⟩) (fun hs => ⟨by simp, fun q hq => ?_, fun f hf => ?_⟩) ?_
        · have a1 := (lvLen_sc (asc hs)).mono (Nat.le_succ σ.nx)
          have a2 := (lvLen_sc (bsc hs)).mono (Nat.le_succ σ.nx)
          have a3 := (lvRsz_sc (asc hs)).mono (Nat.le_succ σ.nx)
          have a4 := (lvRsz_sc (bsc hs)).mono (Nat.le_succ σ.nx)
          have n1 : Sc (σ.nx + 1) (Lin.at (4 * σ.nx + 1)).vars := Lin.at_sc (by omega)
          have n2 : Sc (σ.nx + 1) (Lin.at (4 * σ.nx + 2)).vars := Lin.at_sc (by omega)
          simp only [appLin, List.mem_cons, List.mem_nil_iff, or_false] at hq
          rcases hq with rfl | rfl | rfl | rfl
          · exact Lin.ax_sc (Lin.ax_sc n1 a1) a2
          · exact Lin.ax_sc (Lin.ax_sc a1 a2) n1
          · exact Lin.ax_sc (Lin.ax_sc n2 a3) a4
          · exact Lin.ax_sc (Lin.ax_sc a3 a4) n2
        · simp only [List.mem_singleton] at hf; subst hf
          simp only [PF.vars, Sc.cons, Sc.app]
          exact ⟨Nat.lt_succ_self _, (asc hs).mono (Nat.le_succ _), (bsc hs).mono (Nat.le_succ _)⟩
        · intro ρ hs hok hg
          simp only [gsV, G.v, Lin.addc_v, Lin.ax_v, Lin.scale_v, lvLen_v, and_true] at hg
          obtain ⟨hg, hg2⟩ := hg
          obtain ⟨ta, la⟩ := okElem_v hok hoa
          obtain ⟨tb, lb⟩ := okElem_v hok hob
          have hlen : (lvV ρ a ++ lvV ρ b).length ≤ mostLen := by rw [List.length_append]; unfold mostLen; omega
          have hroom' := Nat.le_of_ble_eq_true hroom
          refine ⟨up ρ σ.nx (vaL (lvV ρ a ++ lvV ρ b)), up_ag _ _ _ _ (Nat.le_refl _), hok.g.up _ (vaL_ok hlen), ?_, ?_, ?_, ⟨[], []⟩, [(∀ row ∈ lvV ρ a, row.length = i.size) ∧ (∀ row ∈ lvV ρ b, row.length = i.size) ∧ 0 < (lvV ρ b).length ∧ ((lvV ρ a).length + (lvV ρ b).length) * max i.bytes 1 ≤ 140737488355328], ?_, ⟨⟨la, lb, by omega, ?_⟩, trivial⟩⟩
          · refine ⟨?_, trivial⟩
            rw [up_same]; exact ⟨hlen, ta.2.append tb.2⟩
          · have ha := up_ag ρ σ.nx σ.nx (vaL (lvV ρ a ++ lvV ρ b)) (Nat.le_refl _)
            have hn : ((up ρ σ.nx (vaL (lvV ρ a ++ lvV ρ b))) σ.nx).l = lvV ρ a ++ lvV ρ b := by rw [up_same]; rfl
            have e1 := lv_ag ha (asc hs)
            have e2 := lv_ag ha (bsc hs)
            refine ⟨?_, ?_, ?_, ?_, trivial⟩ <;> simp only [Lin.ax_v, Lin.at_v, atomV1, atomV2, hn, lvLen_v, lvRsz_v, e1, e2, List.length_append, rsz_append] <;> omega
          · have ha := up_ag ρ σ.nx σ.nx (vaL (lvV ρ a ++ lvV ρ b)) (Nat.le_refl _)
            have hn : ((up ρ σ.nx (vaL (lvV ρ a ++ lvV ρ b))) σ.nx).l = lvV ρ a ++ lvV ρ b := by rw [up_same]; rfl
            refine ⟨?_, trivial⟩
            simp only [PF.v, hn, lv_ag ha (asc hs), lv_ag ha (bsc hs)]
          · have hn : ((up ρ σ.nx (vaL (lvV ρ a ++ lvV ρ b))) σ.nx).l = lvV ρ a ++ lvV ρ b := by rw [up_same]; rfl
            have hn' : lvV (up ρ σ.nx (vaL (lvV ρ a ++ lvV ρ b))) (some σ.nx) = lvV ρ a ++ lvV ρ b := hn
            have h1 : (dev σ s).v ρ = .pc (lvV ρ a) fr := by rw [hb]; rfl
            have h2 := dsrc_v (J := J) ρ hsr
            have h3 : lk (σ.v J ρ).tab d = none := by simp only [DSt.v, lk_tabV, hfree, Option.map_none]
            unfold aop
            simp only [ho, Nat.beq_refl, appendArr_none noArr, isPc, opAppendF, hd, hse, dev_v, h1, h2, hz, h3, hzs, hsz, nt, DO.v, hn']
          · refine Nat.le_trans (Nat.mul_le_mul_right _ ?_) hroom'
            omega
      · cases h
    · cases h
  · cases h
def dMinMax (σ : DSt) (o : Oper) (mx : Bool) (x y : Operand) : DR :=
  match dInt (dev σ x), dInt (dev σ y) with
  | some (k, a), some (k', b) => match decide (k = k') with
    | true => match provesLe σ (a.ax (-1) b), provesLe σ (b.ax (-1) a) with
      | true, _ => some (σ.put o.dst (.p (.int k (match mx with | true => b | false => a)) true), [])
      | _, true => some (σ.put o.dst (.p (.int k (match mx with | true => a | false => b)) true), [])
      | _, _ => match isU64 k with
        | true => none
        | false => match mx with
          | true => some ((σ.grow 1 [] (kLin k σ.nx ++ [a.ax (-1) (Lin.at (4 * σ.nx)), b.ax (-1) (Lin.at (4 * σ.nx))]) []).put o.dst (.p (.int k (Lin.at (4 * σ.nx))) true), [.le (a.addc (-k.max)), .le (b.addc (-k.max)), .le ((Lin.scale (-1) a).addc k.min), .le ((Lin.scale (-1) b).addc k.min)])
          | false => some ((σ.grow 1 [] (kLin k σ.nx ++ [(Lin.at (4 * σ.nx)).ax (-1) a, (Lin.at (4 * σ.nx)).ax (-1) b]) []).put o.dst (.p (.int k (Lin.at (4 * σ.nx))) true), [.le (a.addc (-k.max)), .le (b.addc (-k.max)), .le ((Lin.scale (-1) a).addc k.min), .le ((Lin.scale (-1) b).addc k.min)])
    | false => none
  | _, _ => none
theorem aop_mm {P : Program} {H : Hint} {s : St} {o : Oper} {x y : Operand} {ts : Array TypeId} {k : IntKind} {a b : Int} (mx : Bool) (ho : o.op = .call { callee := .builtin (match mx with | true => .max | false => .min), args := #[x, y], argTypes := ts })
    (hx : isInt (ev s x) = some (k, a)) (hy : isInt (ev s y) = some (k, b)) :
    aop P H s o = some (s.put o.dst (.p (.v (.int k (match mx with | true => (if b > a then b else a) | false => (if b < a then b else a)))) true), []) := by
  unfold aop
  cases mx <;> simp only [ho, opMinMax, hx, hy, tr]
theorem dMinMax_good {P : Program} {I : Pr} {J : Ex} {σ σ' : DSt} {o : Oper} {x y : Operand} {ts : Array TypeId} {gs : List G} (mx : Bool) (ho : o.op = .call { callee := .builtin (match mx with | true => .max | false => .min), args := #[x, y], argTypes := ts })
    (h : dMinMax σ o mx x y = some (σ', gs)) : Good P I J σ o σ' gs := by
  unfold dMinMax at h
  split at h
  · rename_i k a k' b hx hy
    split at h
    · rename_i hk
      have := of_decide_eq_true hk; subst this
      have ex : ∀ ρ, isInt (ev (σ.v J ρ) x) = some (k, a.v ρ) := fun ρ => by rw [dev_v]; exact (dInt_v hx).1
      have ey : ∀ ρ, isInt (ev (σ.v J ρ) y) = some (k, b.v ρ) := fun ρ => by rw [dev_v]; exact (dInt_v hy).1
      have asc : σ.sc → Sc σ.nx a.vars := fun hs => dInt_sc hx (hs.dev x)
      have bsc : σ.sc → Sc σ.nx b.vars := fun hs => dInt_sc hy (hs.dev y)
      split at h
      · rename_i hp
        simp only [Option.some.injEq, Prod.mk.injEq] at h; obtain ⟨rfl, rfl⟩ := h
        refine good_put (fun hs => by simp only [DV.vars, DP.vars]; cases mx; exact asc hs; exact bsc hs) fun ρ hs hok _ => ⟨⟨[], []⟩, [], ?_, trivial⟩
        have := provesLe_v hok hp
        rw [Lin.ax_v] at this
        rw [aop_mm mx ho (ex ρ) (ey ρ)]
        cases mx with
        | true =>
          have e : (if b.v ρ > a.v ρ then b.v ρ else a.v ρ) = b.v ρ := by split <;> omega
          simp [DV.v, DP.v, e]
        | false =>
          have e : (if b.v ρ < a.v ρ then b.v ρ else a.v ρ) = a.v ρ := by split <;> omega
          simp [DV.v, DP.v, e]
      · rename_i hp _
        simp only [Option.some.injEq, Prod.mk.injEq] at h; obtain ⟨rfl, rfl⟩ := h
        refine good_put (fun hs => by simp only [DV.vars, DP.vars]; cases mx; exact bsc hs; exact asc hs) fun ρ hs hok _ => ⟨⟨[], []⟩, [], ?_, trivial⟩
        have := provesLe_v hok hp
        rw [Lin.ax_v] at this
        rw [aop_mm mx ho (ex ρ) (ey ρ)]
        cases mx with
        | true =>
          have e : (if b.v ρ > a.v ρ then b.v ρ else a.v ρ) = a.v ρ := by split <;> omega
          simp [DV.v, DP.v, e]
        | false =>
          have e : (if b.v ρ < a.v ρ then b.v ρ else a.v ρ) = b.v ρ := by split <;> omega
          simp [DV.v, DP.v, e]
      · split at h
        · cases h
        · rename_i hk64
          have nsc : Sc (σ.nx + 1) (Lin.at (4 * σ.nx)).vars := at4_sc (Nat.lt_succ_self _)
          split at h
          · simp only [Option.some.injEq, Prod.mk.injEq] at h; obtain ⟨rfl, rfl⟩ := h
            refine good_int hk64 (fun hs e he => ?_) fun ρ hs hok hg => ?_
            · simp only [List.mem_cons, List.mem_nil_iff, or_false] at he
              rcases he with rfl | rfl
              · exact Lin.ax_sc ((asc hs).mono (Nat.le_succ _)) nsc
              · exact Lin.ax_sc ((bsc hs).mono (Nat.le_succ _)) nsc
            · simp only [gsV, G.v, Lin.addc_v, Lin.scale_v, and_true] at hg
              refine ⟨if b.v ρ > a.v ρ then b.v ρ else a.v ρ, by split <;> omega, by split <;> omega, ?_, ⟨[], []⟩, [], ?_, trivial⟩
              · rintro ρ' rfl
                have ha := up_ag ρ σ.nx σ.nx (vaN (if b.v ρ > a.v ρ then b.v ρ else a.v ρ)) (Nat.le_refl _)
                have hn : ((up ρ σ.nx (vaN (if b.v ρ > a.v ρ then b.v ρ else a.v ρ))) σ.nx).n = if b.v ρ > a.v ρ then b.v ρ else a.v ρ := by rw [up_same]; rfl
                refine ⟨?_, ?_, trivial⟩ <;> simp only [Lin.ax_v, Lin.at_v, atomV0, hn, Lin.ag ha (asc hs), Lin.ag ha (bsc hs)] <;> split <;> omega
              · rw [aop_mm true ho (ex ρ) (ey ρ)]
          · simp only [Option.some.injEq, Prod.mk.injEq] at h; obtain ⟨rfl, rfl⟩ := h
            refine good_int hk64 (fun hs e he => ?_) fun ρ hs hok hg => ?_
            · simp only [List.mem_cons, List.mem_nil_iff, or_false] at he
              rcases he with rfl | rfl
              · exact Lin.ax_sc nsc ((asc hs).mono (Nat.le_succ _))
              · exact Lin.ax_sc nsc ((bsc hs).mono (Nat.le_succ _))
            · simp only [gsV, G.v, Lin.addc_v, Lin.scale_v, and_true] at hg
              refine ⟨if b.v ρ < a.v ρ then b.v ρ else a.v ρ, by split <;> omega, by split <;> omega, ?_, ⟨[], []⟩, [], ?_, trivial⟩
              · rintro ρ' rfl
                have ha := up_ag ρ σ.nx σ.nx (vaN (if b.v ρ < a.v ρ then b.v ρ else a.v ρ)) (Nat.le_refl _)
                have hn : ((up ρ σ.nx (vaN (if b.v ρ < a.v ρ then b.v ρ else a.v ρ))) σ.nx).n = if b.v ρ < a.v ρ then b.v ρ else a.v ρ := by rw [up_same]; rfl
                refine ⟨?_, ?_, trivial⟩ <;> simp only [Lin.ax_v, Lin.at_v, atomV0, hn, Lin.ag ha (asc hs), Lin.ag ha (bsc hs)] <;> split <;> omega
              · rw [aop_mm false ho (ex ρ) (ey ρ)]
    · cases h
  · cases h
end Go.TL
namespace Go.TL
def dtoDP : DV → Option (DP × Bool)
  | .p .nl _ => some (.sl none, true)
  | .p (.sl l) fr => some (.sl l, fr)
  | .p x _ => some (x, true)
  | .pc l fr => some (.sl l, fr)
  | _ => none
def dtoDPs : List DV → Option (List DP × Bool)
  | [] => some ([], true)
  | x :: xs => match dtoDP x, dtoDPs xs with
    | some (y, f), some (ys, fs) => some (y :: ys, f && fs)
    | _, _ => none
def cstOk : DP → Bool
  | .cst (.slice none 0 0) => false
  | .raw _ => false
  | _ => true
def cstsOk : List DP → Bool
  | [] => true
  | x :: xs => match cstOk x with | true => cstsOk xs | false => false
theorem dtoDP_v {ρ : Ro} {x : DV} {y : DP} {fr : Bool} (h : dtoDP x = some (y, fr)) (hc : cstOk y = true) : toPV (x.v ρ) = some (y.v ρ, fr) := by
  unfold dtoDP at h
  split at h
  · simp only [Option.some.injEq, Prod.mk.injEq] at h; obtain ⟨rfl, rfl⟩ := h
    simp [DV.v, DP.v, toPV, lvV]
  · simp only [Option.some.injEq, Prod.mk.injEq] at h; obtain ⟨rfl, rfl⟩ := h
    simp [DV.v, DP.v, toPV]
  · rename_i z fr' h1 h2
    simp only [Option.some.injEq, Prod.mk.injEq] at h; obtain ⟨rfl, rfl⟩ := h
    cases z with
    | nl => exact absurd rfl h1
    | sl l => exact absurd rfl (h2 l)
    | int k e => simp [DV.v, DP.v, toPV]
    | bl f => simp [DV.v, DP.v, toPV]
    | st e => simp [DV.v, DP.v, toPV]
    | raw k => simp [cstOk] at hc
    | cst v =>
      simp only [DV.v, DP.v]
      unfold toPV
      split
      · rename_i e; simp only [SV.p.injEq, PV.v.injEq] at e; rw [e.1] at hc; simp [cstOk] at hc
      · rename_i e; simp only [SV.p.injEq, PV.v.injEq] at e; rw [e.1]
      · rename_i e; simp at e
      · rename_i e; simp at e
      · rename_i e; simp at e
      · rename_i _ h _ _ _; exact absurd rfl (h v fr')
  · simp only [Option.some.injEq, Prod.mk.injEq] at h; obtain ⟨rfl, rfl⟩ := h
    simp [DV.v, DP.v, toPV]
  · cases h
theorem dtoDPs_v {ρ : Ro} : ∀ {xs : List DV} {ys : List DP} {fr : Bool}, dtoDPs xs = some (ys, fr) → cstsOk ys = true → toPVs (dvs ρ xs) = some (rowV ρ ys, fr)
  | [], ys, fr, h, _ => by simp only [dtoDPs, Option.some.injEq, Prod.mk.injEq] at h; obtain ⟨rfl, rfl⟩ := h; simp [dvs, toPVs, rowV]
  | x :: xs, ys, fr, h, hc => by
    simp only [dtoDPs] at h
    split at h
    · rename_i y f ys' fs h1 h2
      simp only [Option.some.injEq, Prod.mk.injEq] at h; obtain ⟨rfl, rfl⟩ := h
      simp only [cstsOk] at hc
      split at hc
      · rename_i hc1
        simp only [dvs, toPVs, dtoDP_v h1 hc1, dtoDPs_v h2 hc, rowV]
      · cases hc
    · cases h
theorem dtoDP_sc {n : Nat} {x : DV} {y : DP} {fr : Bool} (h : dtoDP x = some (y, fr)) (hx : Sc n x.vars) : Sc n y.vars := by
  unfold dtoDP at h
  split at h
  · simp only [Option.some.injEq, Prod.mk.injEq] at h; obtain ⟨rfl, rfl⟩ := h; exact Sc.nil
  · simp only [Option.some.injEq, Prod.mk.injEq] at h; obtain ⟨rfl, rfl⟩ := h; simpa [DV.vars] using hx
  · simp only [Option.some.injEq, Prod.mk.injEq] at h; obtain ⟨rfl, rfl⟩ := h; simpa [DV.vars] using hx
  · simp only [Option.some.injEq, Prod.mk.injEq] at h; obtain ⟨rfl, rfl⟩ := h; simpa [DV.vars, DP.vars] using hx
  · cases h
theorem dtoDPs_sc {n : Nat} : ∀ {xs : List DV} {ys : List DP} {fr : Bool}, dtoDPs xs = some (ys, fr) → Sc n (dvsVars xs) → Sc n (rowVars ys)
  | [], ys, fr, h, _ => by simp only [dtoDPs, Option.some.injEq, Prod.mk.injEq] at h; obtain ⟨rfl, rfl⟩ := h; exact Sc.nil
  | x :: xs, ys, fr, h, hx => by
    simp only [dtoDPs] at h
    split at h
    · rename_i y f ys' fs h1 h2
      simp only [Option.some.injEq, Prod.mk.injEq] at h; obtain ⟨rfl, rfl⟩ := h
      simp only [dvsVars, Sc.app] at hx
      simp only [rowVars, Sc.app]
      exact ⟨dtoDP_sc h1 hx.1, dtoDPs_sc h2 hx.2⟩
    · cases h
def dchunk (sz : Nat) : Nat → List DP → List (List DP)
  | 0, _ => []
  | n + 1, xs => xs.take sz :: dchunk sz n (xs.drop sz)
theorem dchunk_v (ρ : Ro) (sz : Nat) : ∀ (n : Nat) (xs : List DP), rowsV ρ (dchunk sz n xs) = chunk sz n (rowV ρ xs)
  | 0, _ => rfl
  | n + 1, xs => by simp only [dchunk, rowsV, chunk, rowV_take, rowV_drop, dchunk_v ρ sz n]
theorem dchunk_len (sz : Nat) : ∀ (n : Nat) (xs : List DP), (dchunk sz n xs).length = n
  | 0, _ => rfl
  | n + 1, xs => by simp [dchunk, dchunk_len sz n]
theorem dchunk_sc {m : Nat} (sz : Nat) : ∀ (n : Nat) (xs : List DP), Sc m (rowVars xs) → Sc m (rowsVars (dchunk sz n xs))
  | 0, _, _ => Sc.nil
  | n + 1, xs, h => by
    simp only [dchunk, rowsVars, Sc.app]
    rw [row_sc] at h
    exact ⟨row_sc.2 fun x hx => h x (List.mem_of_mem_take hx), dchunk_sc sz n _ (row_sc.2 fun x hx => h x (List.mem_of_mem_drop hx))⟩
def dzeroFlat (zs : List DV) : Nat → List DV
  | 0 => []
  | n + 1 => zs ++ dzeroFlat zs n
theorem dzeroFlat_v (ρ : Ro) (zs : List DV) : ∀ n, dvs ρ (dzeroFlat zs n) = zeroFlat (dvs ρ zs) n
  | 0 => by simp [dzeroFlat, dvs, zeroFlat]
  | n + 1 => by simp only [dzeroFlat, zeroFlat, dvs_append, dzeroFlat_v ρ zs n]
theorem dvsVars_app {n : Nat} {a b : List DV} : Sc n (dvsVars (a ++ b)) ↔ Sc n (dvsVars a) ∧ Sc n (dvsVars b) := by
  simp only [dvs_sc, List.mem_append]
  exact ⟨fun h => ⟨fun x hx => h x (.inl hx), fun x hx => h x (.inr hx)⟩, fun h x hx => hx.elim (h.1 x) (h.2 x)⟩
theorem dzeroFlat_sc {m : Nat} {zs : List DV} (h : Sc m (dvsVars zs)) : ∀ n, Sc m (dvsVars (dzeroFlat zs n))
  | 0 => Sc.nil
  | n + 1 => by simp only [dzeroFlat]; exact dvsVars_app.2 ⟨h, dzeroFlat_sc h n⟩
def dtyRows (tys : List (Nat × TypeId)) (cs : List CK) : List (List DP) → Option (List G × Lin)
  | [] => some ([], Lin.lit 0)
  | r :: rs => match dty tys cs r, dtyRows tys cs rs with
    | some gs, some (hs, z) => some (gs ++ hs, ((drz r).ax 1 z).addc 1)
    | _, _ => none
theorem dtyRows_v {P : Program} {I : Pr} {ρ : Ro} {tys : List (Nat × TypeId)} (hg : Gok ρ) (ht : tysV P ρ tys) (e : TypeId) : ∀ (rs : List (List DP)) (gs : List G) (z : Lin), dtyRows tys (cks P e) rs = some (gs, z) → gsV I ρ gs →
    AllTy P e (rowsV ρ rs) ∧ z.v ρ = (rsz (rowsV ρ rs) : Int)
  | [], gs, z, h, _ => by
    simp only [dtyRows, Option.some.injEq, Prod.mk.injEq] at h; obtain ⟨rfl, rfl⟩ := h
    exact ⟨AllTy.nil, by simp [Lin.lit_v, rowsV, rsz]⟩
  | r :: rs, gs, z, h, hv => by
    simp only [dtyRows] at h
    split at h
    · rename_i g1 g2 z2 h1 h2
      simp only [Option.some.injEq, Prod.mk.injEq] at h; obtain ⟨rfl, rfl⟩ := h
      rw [gsV_app] at hv
      obtain ⟨a1, a2⟩ := dtyRows_v hg ht e rs g2 z2 h2 hv.2
      refine ⟨AllTy.cons (dty_ok hg ht _ _ _ h1 hv.1) a1, ?_⟩
      rw [Lin.addc_v, Lin.ax_v, drz_ty (P := P) (I := I) hg _ _ _ h1, a2]
      simp only [rowsV, rsz]; omega
    · cases h
theorem dtyRows_sc {n : Nat} {tys : List (Nat × TypeId)} {cs : List CK} : ∀ (rs : List (List DP)) (gs : List G) (z : Lin), dtyRows tys cs rs = some (gs, z) → Sc n (rowsVars rs) → Sc n z.vars
  | [], gs, z, h, _ => by
    simp only [dtyRows, Option.some.injEq, Prod.mk.injEq] at h; obtain ⟨rfl, rfl⟩ := h; exact Lin.lit_sc
  | r :: rs, gs, z, h, hx => by
    simp only [dtyRows] at h
    split at h
    · rename_i g1 g2 z2 h1 h2
      simp only [Option.some.injEq, Prod.mk.injEq] at h; obtain ⟨rfl, rfl⟩ := h
      simp only [rowsVars, Sc.app] at hx
      exact Lin.addc_sc (Lin.ax_sc (drz_sc hx.1) (dtyRows_sc rs g2 z2 h2 hx.2))
    · cases h
def litLin (n len : Nat) : List Lin := [(Lin.at (4 * n + 1)).addc (-(len : Int)), (Lin.scale (-1) (Lin.at (4 * n + 1))).addc (len : Int)]
def litRsz (n : Nat) (z : Lin) : List Lin := [(Lin.at (4 * n + 2)).ax (-1) z, z.ax (-1) (Lin.at (4 * n + 2))]
def DSt.addVec (σ : DSt) (d : Nat) (ov : DO) : DSt := { σ with slots := (d, .vec d) :: σ.slots, tab := (d, ov) :: σ.tab }
theorem addVec_v {J : Ex} (ρ : Ro) (σ : DSt) (d : Nat) (ov : DO) : (σ.addVec d ov).v J ρ = ⟨(d, .vec d) :: (σ.v J ρ).slots, (d, ov.v J ρ) :: (σ.v J ρ).tab⟩ := by
  simp [DSt.addVec, DSt.v, slotsV, tabV, DV.v]
theorem addVec_sc {σ : DSt} (hs : σ.sc) {d : Nat} {ov : DO} (ho : Sc σ.nx ov.vars) : (σ.addVec d ov).sc := by
  refine ⟨?_, ?_, hs.tys, hs.lin, hs.prs⟩
  · intro t v hl
    simp only [DSt.addVec, lk_cons] at hl
    split at hl
    · simp only [Option.some.injEq] at hl; subst hl; simp [DV.vars, Sc.nil]
    · exact hs.slots t v hl
  · intro t v hl
    simp only [DSt.addVec, lk_cons] at hl
    split at hl
    · simp only [Option.some.injEq] at hl; subst hl; exact ho
    · exact hs.tab t v hl
theorem Same.addVec {s s' : St} (h : Same s s') (d : Nat) (ov : OV) : Same ⟨(d, .vec d) :: s.slots, (d, ov) :: s.tab⟩ ⟨(d, .vec d) :: s'.slots, (d, ov) :: s'.tab⟩ := by
  constructor <;> intro t <;> simp only [lk_cons] <;> split <;> first | rfl | exact h.slots t | exact h.tab t
theorem good_vec {P : Program} {I : Pr} {J : Ex} {σ : DSt} {o : Oper} {gs : List G} {d n : Nat} {ov : DO} {tys : List (Nat × TypeId)} {lin : List Lin} {prs : List PF} (hov : σ.sc → Sc (σ.nx + n) ov.vars)
    (hg : σ.sc → GrowSc (σ.nx + n) tys lin prs)
    (h : ∀ ρ, σ.sc → σ.ok P I ρ → gsV I ρ gs → ∃ ρ', Agree σ.nx ρ ρ' ∧ Gok ρ' ∧ tysV P ρ' tys ∧ linsV ρ' lin ∧ prsV I ρ' prs ∧
      ∃ (H : Hint) (ps : List Prop), aop P H (σ.v J ρ) o = some (⟨(d, .vec d) :: (σ.v J ρ).slots, (d, ov.v J ρ') :: (σ.v J ρ).tab⟩, ps) ∧ allP ps) : Good P I J σ o ((σ.grow n tys lin prs).addVec d ov) gs := by
  intro hs
  have hs' := hs.grow (hg hs)
  refine ⟨addVec_sc hs' (hov hs), Nat.le_add_right _ _, ?_⟩
  intro ρ hok hgs
  obtain ⟨ρ', ha, hgk, h1, h2, h3, H, ps, h4, h5⟩ := h ρ hs hok hgs
  have hok' := hok.grow (n := n) hs ha hgk h1 h2 h3
  refine ⟨ρ', ha, ⟨hok'.g, hok'.tys, hok'.lin, hok'.prs⟩, H, _, ps, h4, h5, ?_⟩
  rw [addVec_v]
  exact Same.addVec (DSt.same_ag hs ha) _ _
def dBuildSlice (P : Program) (σ : DSt) (o : Oper) (t : TypeId) (len : Nat) (parts : Array (Nat × Operand)) : DR :=
  match o.dst, sliceElem P t with
  | some d, some (e, i) => match i.zero, lk σ.tab d with
    | some z, none => match dzeros z with
      | some zs => match Nat.beq zs.length i.size && Nat.ble len 2097152, Nat.beq i.size 0, Nat.ble (len * i.size) 16777216, dfill (fun n => some (n * i.size, i.size)) (dzeroFlat zs len) (dparts σ parts.toList) with
        | true, false, true, some cells => match dtoDPs cells with
          | some (xs, fr) => match cstsOk xs with
            | true => match dtyRows σ.tys (cks P e) (dchunk i.size len xs) with
              | some (gs, rz) => some ((σ.grow 1 [(σ.nx, e)] (litLin σ.nx len ++ litRsz σ.nx rz) [.lit σ.nx (dchunk i.size len xs)]).addVec d (.vec e i.size (some σ.nx) fr), gs)
              | none => some ((σ.grow 1 [] (litLin σ.nx len) [.lit σ.nx (dchunk i.size len xs)]).addVec d (.vec e i.size (some σ.nx) fr), [])
            | false => none
          | none => none
        | _, _, _, _ => none
      | none => none
    | _, _ => none
  | _, _ => none
theorem rowsV_len (ρ : Ro) (l : List (List DP)) : (rowsV ρ l).length = l.length := by simp [rowsV_map]
theorem dBuildSlice_good {P : Program} {I : Pr} {J : Ex} {σ σ' : DSt} {o : Oper} {t : TypeId} {len : Nat} {parts : Array (Nat × Operand)} {gs : List G} (ho : o.op = .buildSlice t len parts) (h : dBuildSlice P σ o t len parts = some (σ', gs)) : Good P I J σ o σ' gs := by
  unfold dBuildSlice at h
  split at h
  · rename_i d e i hd hse
    split at h
    · rename_i z hz hfree
      split at h
      · rename_i zs hzs
        split at h
        · rename_i cells hsz hi0 hle hfill
          simp only [Bool.and_eq_true] at hsz
          split at h
          · rename_i xs fr hxs
            split at h
            · rename_i hcs
              have hlen2 : len ≤ mostLen := Nat.le_of_ble_eq_true hsz.2
              have csc : σ.sc → Sc σ.nx (rowVars xs) := fun hs => dtoDPs_sc hxs (dfill_sc _ _ _ _ (dzeroFlat_sc (dzeros_sc hzs) _) (dparts_sc hs _) hfill)
              have lsc : σ.sc → Sc σ.nx (rowsVars (dchunk i.size len xs)) := fun hs => dchunk_sc _ _ _ (csc hs)
              have hop : ∀ ρ : Ro, aop P ⟨[], []⟩ (σ.v J ρ) o = some (⟨(d, .vec d) :: (σ.v J ρ).slots, (d, .vec e i.size (rowsV ρ (dchunk i.size len xs)) fr) :: (σ.v J ρ).tab⟩, []) := by
                intro ρ
                have f1 : fillS (fun n => some (n * i.size, i.size)) (zeroFlat (dvs ρ zs) len) (evParts (σ.v J ρ) parts.toList) = some (dvs ρ cells) := by
                  rw [dparts_v, ← dzeroFlat_v, dfill_v, hfill]; rfl
                unfold aop
                simp only [ho, opBuildSlice, hd, hse, hz, dlk_none hfree, dzeros_v ρ, hzs, Option.map_some, dvs_length, hsz.1, hi0, hle, f1, dtoDPs_v hxs hcs, tr, dchunk_v]
              have nsc1 : Sc (σ.nx + 1) (Lin.at (4 * σ.nx + 1)).vars := Lin.at_sc (by omega)
              have nsc2 : Sc (σ.nx + 1) (Lin.at (4 * σ.nx + 2)).vars := Lin.at_sc (by omega)
              have psc : σ.sc → ∀ f ∈ [PF.lit σ.nx (dchunk i.size len xs)], Sc (σ.nx + 1) f.vars := fun hs f hf => by
                simp only [List.mem_singleton] at hf; subst hf
                simp only [PF.vars, Sc.cons]; exact ⟨Nat.lt_succ_self _, (lsc hs).mono (Nat.le_succ _)⟩
              have l1sc : ∀ q ∈ litLin σ.nx len, Sc (σ.nx + 1) q.vars := fun q hq => by
                simp only [litLin, List.mem_cons, List.mem_nil_iff, or_false] at hq
                rcases hq with rfl | rfl
                · exact Lin.addc_sc nsc1
                · exact Lin.addc_sc (Lin.scale_sc nsc1)
              have osc : Sc (σ.nx + 1) (DO.vec e i.size (some σ.nx) fr).vars := by simp only [DO.vars, lvVars, Sc.cons]; exact ⟨Nat.lt_succ_self _, Sc.nil⟩
              have key : ∀ ρ, σ.sc → σ.ok P I ρ → ∃ ρ', Agree σ.nx ρ ρ' ∧ Gok ρ' ∧ (ρ' σ.nx).l = rowsV ρ (dchunk i.size len xs) ∧ linsV ρ' (litLin σ.nx len) ∧ prsV I ρ' [.lit σ.nx (dchunk i.size len xs)] ∧
                  aop P ⟨[], []⟩ (σ.v J ρ) o = some (⟨(d, .vec d) :: (σ.v J ρ).slots, (d, (DO.vec e i.size (some σ.nx) fr).v J ρ') :: (σ.v J ρ).tab⟩, []) := by
                intro ρ hs hok
                have hll : (rowsV ρ (dchunk i.size len xs)).length = len := by rw [rowsV_len, dchunk_len]
                have hn : ((up ρ σ.nx (vaL (rowsV ρ (dchunk i.size len xs)))) σ.nx).l = rowsV ρ (dchunk i.size len xs) := by rw [up_same]; rfl
                have ha := up_ag ρ σ.nx σ.nx (vaL (rowsV ρ (dchunk i.size len xs))) (Nat.le_refl _)
                refine ⟨up ρ σ.nx (vaL (rowsV ρ (dchunk i.size len xs))), ha, hok.g.up _ (vaL_ok (by rw [hll]; exact hlen2)), hn, ?_, ⟨?_, trivial⟩, ?_⟩
                · refine ⟨?_, ?_, trivial⟩ <;> simp only [Lin.addc_v, Lin.scale_v, Lin.at_v, atomV1, hn, hll] <;> omega
                · simp only [PF.v, hn, rows_ag ha (lsc hs)]
                · rw [hop ρ]
                  have hn' : lvV (up ρ σ.nx (vaL (rowsV ρ (dchunk i.size len xs)))) (some σ.nx) = rowsV ρ (dchunk i.size len xs) := hn
                  simp only [DO.v, hn']
              split at h
              · rename_i gs' rz hty
                simp only [Option.some.injEq, Prod.mk.injEq] at h; obtain ⟨rfl, rfl⟩ := h
                refine good_vec (fun _ => osc) (fun hs => ⟨by simp, fun q hq => ?_, psc hs⟩) ?_
                · rcases List.mem_append.1 hq with hq | hq
                  · exact l1sc q hq
                  · have zsc := (dtyRows_sc _ _ _ hty (lsc hs)).mono (Nat.le_succ σ.nx)
                    simp only [litRsz, List.mem_cons, List.mem_nil_iff, or_false] at hq
                    rcases hq with rfl | rfl
                    · exact Lin.ax_sc nsc2 zsc
                    · exact Lin.ax_sc zsc nsc2
                · intro ρ hs hok hg
                  obtain ⟨ρ', ha, hgk, hn, q1, q2, q3⟩ := key ρ hs hok
                  obtain ⟨t1, t2⟩ := dtyRows_v hok.g hok.tys e _ _ _ hty hg
                  refine ⟨ρ', ha, hgk, ⟨?_, trivial⟩, linsV_append q1 ?_, q2, ⟨[], []⟩, [], q3, trivial⟩
                  · rw [hn]; exact ⟨by rw [rowsV_len, dchunk_len]; exact hlen2, t1⟩
                  · have zv := Lin.ag ha (dtyRows_sc _ _ _ hty (lsc hs))
                    refine ⟨?_, ?_, trivial⟩ <;> simp only [Lin.ax_v, Lin.at_v, atomV2, hn, zv, t2] <;> omega
              · simp only [Option.some.injEq, Prod.mk.injEq] at h; obtain ⟨rfl, rfl⟩ := h
                refine good_vec (fun _ => osc) (fun hs => ⟨by simp, l1sc, psc hs⟩) ?_
                intro ρ hs hok hg
                obtain ⟨ρ', ha, hgk, hn, q1, q2, q3⟩ := key ρ hs hok
                exact ⟨ρ', ha, hgk, trivial, q1, q2, ⟨[], []⟩, [], q3, trivial⟩
            · cases h
          · cases h
        · cases h
      · cases h
    · cases h
  · cases h
def DSt.setObj (σ : DSt) (k : Nat) (ov : DO) : DSt := { σ with tab := (k, ov) :: rm σ.tab k }
theorem setObj_v {J : Ex} (ρ : Ro) (σ : DSt) (k : Nat) (ov : DO) : (σ.setObj k ov).v J ρ = ⟨(σ.v J ρ).slots, (k, ov.v J ρ) :: rm (σ.v J ρ).tab k⟩ := by
  simp only [DSt.setObj, DSt.v, tabV, rm_tabV]
theorem setObj_sc {σ : DSt} (hs : σ.sc) {k : Nat} {ov : DO} (ho : Sc σ.nx ov.vars) : (σ.setObj k ov).sc := by
  refine ⟨hs.slots, ?_, hs.tys, hs.lin, hs.prs⟩
  intro t v hl
  simp only [DSt.setObj, lk_cons] at hl
  split at hl
  · simp only [Option.some.injEq] at hl; subst hl; exact ho
  · rw [lk_rm] at hl
    split at hl
    · cases hl
    · exact hs.tab t v hl
def DV.one : DV → Bool
  | .u | .agg _ | .tup _ => false
  | _ => true
def dones : List DV → Bool
  | [] => true
  | x :: xs => match x.one with | true => dones xs | false => false
theorem done_v (ρ : Ro) (x : DV) : (x.v ρ).one = x.one := by cases x <;> simp [DV.v, SV.one, DV.one]
theorem dones_v (ρ : Ro) : ∀ xs : List DV, ones (dvs ρ xs) = dones xs
  | [] => by simp [dvs, ones, dones]
  | x :: xs => by simp only [dvs, ones, dones, done_v, dones_v ρ xs]; cases x.one <;> rfl
theorem WTs_spl {P : Program} : ∀ (cs : List CK) (row ys : List PV) (off : Nat), WTs P cs row → off + ys.length ≤ row.length → WTs P ((cs.drop off).take ys.length) ys → WTs P cs (spl row off ys) := by
  intro cs row ys off hr hl hy
  rw [WTs_iff] at hr hy ⊢
  obtain ⟨r1, r2⟩ := hr
  obtain ⟨y1, y2⟩ := hy
  refine ⟨by simp only [spl, List.length_append, List.length_take, List.length_drop]; omega, ?_⟩
  intro j ck x hc hx
  simp only [spl, List.getElem?_append, List.length_take, List.getElem?_take, List.getElem?_drop] at hx
  have hm : min off row.length = off := by omega
  rw [hm] at hx
  split at hx
  · exact r2 j ck x hc hx
  · rename_i h1
    split at hx
    · rename_i h2
      refine y2 (j - off) ck x ?_ hx
      rw [List.getElem?_take, if_pos h2, List.getElem?_drop]
      rw [show off + (j - off) = j by omega]; exact hc
    · refine r2 j ck x hc ?_
      rw [show off + ys.length + (j - off - ys.length) = j by omega] at hx
      exact hx
theorem Same.setObj {s s' : St} (h : Same s s') (k : Nat) (ov : OV) : Same ⟨s.slots, (k, ov) :: rm s.tab k⟩ ⟨s'.slots, (k, ov) :: rm s'.tab k⟩ := by
  refine ⟨h.slots, fun t => ?_⟩
  simp only [lk_cons, lk_rm, h.tab t]
theorem dVU {ρ : Ro} : DV.u.v ρ = SV.u := by simp [DV.v]
theorem spl_rowV (ρ : Ro) (cs : List DP) (off : Nat) (new : List DP) : rowV ρ (spl cs off new) = spl (rowV ρ cs) off (rowV ρ new) := by
  simp [spl, rowV_append, rowV_take, rowV_drop, rowV_length]
theorem splRow_sc {n : Nat} {cs new : List DP} {off : Nat} (h : Sc n (rowVars cs)) (h' : Sc n (rowVars new)) : Sc n (rowVars (spl cs off new)) := by
  rw [row_sc] at *
  intro x hx
  simp only [spl, List.mem_append] at hx
  rcases hx with hx | hx | hx
  · exact h x (List.mem_of_mem_take hx)
  · exact h' x hx
  · exact h x (List.mem_of_mem_drop hx)
def eqLen (n l : Nat) : List Lin := [(Lin.at (4 * n + 1)).ax (-1) (Lin.at (4 * l + 1)), (Lin.at (4 * l + 1)).ax (-1) (Lin.at (4 * n + 1))]
def dStore (P : Program) (σ : DSt) (o : Oper) (t : TypeId) (x y : Operand) : DR :=
  match dcells (dev σ y), P.info? t with
  | some xs, some i => match dones xs, Nat.beq xs.length i.size with
    | true, true => match dev σ x with
      | .ptr k off => match lk σ.tab k with
        | some (.box bt cells) => match Nat.ble (off + xs.length) cells.length with
          | true => some ((σ.setObj k (.box bt (spl cells off xs))).put o.dst .u, [])
          | false => none
        | _ => none
      | .vptr k sz n off => match lk σ.tab k, dtoDPs xs with
        | some (.vec bt sz' (some l) fr), some (ys, fr2) => match lk σ.tys l, Nat.beq sz sz' && cstsOk ys with
          | some e, true => match drow (cks P e) σ.nx with
            | some R => match Nat.ble (off + xs.length) R.cells.length && Nat.beq ys.length xs.length, dty σ.tys (((cks P e).drop off).take ys.length) ys with
              | true, some gs => some (((σ.grow (R.nx - σ.nx + 1) ((R.nx, e) :: R.tys) (eqLen R.nx l ++ rowLin l R) [.set R.nx l n (spl R.cells off ys), .row l n R.cells]).setObj k (.vec bt sz' (some R.nx) (fr && fr2))).put o.dst .u, inR n l ++ gs)
              | _, _ => none
            | none => none
          | _, _ => none
        | _, _ => none
      | _ => none
    | _, _ => none
  | _, _ => none
theorem aop_store {P : Program} {H : Hint} {s : St} {o : Oper} {t : TypeId} {x y : Operand} (ho : o.op = .store t x y) (hn : NoArr s) (hr : rawP (ev s x) = none) :
    aop P H s o = match ev s x with | .vptr _ _ _ _ => nt (opStore P H s o t x y) | _ => tr (opStore P H s o t x y) := by
  have h1 : opRawStore P H s o t x y = none := by
    unfold opRawStore; rw [hr]
  unfold aop
  simp only [ho, storeArr_none hn, h1]
  cases ev s x <;> rfl
theorem dStore_good {P : Program} {I : Pr} {J : Ex} {σ σ' : DSt} {o : Oper} {t : TypeId} {x y : Operand} {gs : List G} (ho : o.op = .store t x y) (h : dStore P σ o t x y = some (σ', gs)) : Good P I J σ o σ' gs := by
  unfold dStore at h
  split at h
  · rename_i xs i hxs hi
    have xsc : σ.sc → Sc σ.nx (dvsVars xs) := fun hs => dcells_sc hxs (hs.dev y)
    have f1 : ∀ ρ, cellsOf (ev (σ.v J ρ) y) = some (dvs ρ xs) := fun ρ => by rw [dev_v, dcells_v, hxs]; rfl
    split at h
    · rename_i hone hlen
      split at h
      · rename_i k off he
        have e1 : ∀ ρ, ev (σ.v J ρ) x = .ptr k off := fun ρ => by rw [dev_v, he]; simp [DV.v]
        split at h
        · rename_i bt cells hk
          split at h
          · rename_i hle
            simp only [Option.some.injEq, Prod.mk.injEq] at h; obtain ⟨rfl, rfl⟩ := h
            intro hs
            have hs1 := setObj_sc hs (k := k) (ov := .box bt (spl cells off xs)) (by simp only [DO.vars]; exact spl_sc (by have := hs.tab k _ hk; simpa [DO.vars] using this) (xsc hs))
            refine ⟨hs1.put _ (by simp [DV.vars, Sc.nil]), by rw [dput_nx]; exact Nat.le_refl _, fun ρ hok _ => ⟨ρ, Agree.refl _ _, ?_, ⟨[], []⟩, _, [], ?_, trivial, Same.refl _⟩⟩
            · exact (DSt.ok.put (σ := σ.setObj k (.box bt (spl cells off xs))) ⟨hok.g, hok.tys, hok.lin, hok.prs⟩ _ _)
            · rw [dput_v, setObj_v, dVU]
              rw [aop_store ho noArr (by rw [e1]; rfl), e1]
              simp [opStore, f1, hi, dones_v, hone, dvs_length, hlen, e1, dtab_v hk, DO.v, hle, dvs_spl, tr]
          · cases h
        · cases h
      · rename_i k sz n off he
        have e1 : ∀ ρ, ev (σ.v J ρ) x = .vptr k sz (n.v ρ).toNat off := fun ρ => by rw [dev_v, he]; simp [DV.v]
        have nsc : σ.sc → Sc σ.nx n.vars := fun hs => by have := hs.dev x; rw [he] at this; simpa [DV.vars] using this
        split at h
        · rename_i bt sz' l fr ys fr2 hk hys
          split at h
          · rename_i e hl hsz
            simp only [Bool.and_eq_true] at hsz
            split at h
            · rename_i R hR
              split at h
              · rename_i gs0 hle hty
                simp only [Bool.and_eq_true] at hle
                have hyl := Nat.eq_of_beq_eq_true hle.2
                have hle1 := Nat.le_of_ble_eq_true hle.1
                simp only [Option.some.injEq, Prod.mk.injEq] at h; obtain ⟨rfl, rfl⟩ := h
                have hRs := drow_sc _ _ _ hR
                have hnx : σ.nx + (R.nx - σ.nx + 1) = R.nx + 1 := by have := hRs.le; omega
                have ysc : σ.sc → Sc σ.nx (rowVars ys) := fun hs => dtoDPs_sc hys (xsc hs)
                have hgsc : σ.sc → GrowSc (σ.nx + (R.nx - σ.nx + 1)) ((R.nx, e) :: R.tys) (eqLen R.nx l ++ rowLin l R) [.set R.nx l n (spl R.cells off ys), .row l n R.cells] := by
                  intro hs
                  have hll := tys_sc hs hl
                  have hle' := hRs.le
                  rw [hnx]
                  refine ⟨?_, ?_, ?_⟩
                  · intro k' e' hk'
                    simp only [List.mem_cons, Prod.mk.injEq] at hk'
                    rcases hk' with ⟨rfl, _⟩ | hk'
                    · exact Nat.lt_succ_self _
                    · exact Nat.lt_succ_of_lt (hRs.tys k' e' hk')
                  · intro q hq
                    rcases List.mem_append.1 hq with hq | hq
                    · have n1 : Sc (R.nx + 1) (Lin.at (4 * R.nx + 1)).vars := Lin.at_sc (by omega)
                      have n2 : Sc (R.nx + 1) (Lin.at (4 * l + 1)).vars := Lin.at_sc (by omega)
                      simp only [eqLen, List.mem_cons, List.mem_nil_iff, or_false] at hq
                      rcases hq with rfl | rfl
                      · exact Lin.ax_sc n1 n2
                      · exact Lin.ax_sc n2 n1
                    · exact (rowLin_sc hRs hll q hq).mono (Nat.le_succ _)
                  · intro f hf
                    simp only [List.mem_cons, List.mem_nil_iff, or_false] at hf
                    have c1 := hRs.cells.mono (Nat.le_succ R.nx)
                    have c2 := (nsc hs).mono (show σ.nx ≤ R.nx + 1 by omega)
                    rcases hf with rfl | rfl
                    · simp only [PF.vars, Sc.cons, Sc.app]
                      exact ⟨Nat.lt_succ_self _, by omega, c2, splRow_sc c1 ((ysc hs).mono (by omega))⟩
                    · simp only [PF.vars, Sc.cons, Sc.app]
                      exact ⟨by omega, c2, c1⟩
                intro hs
                have hs1 := hs.grow (hgsc hs)
                have hs2 := setObj_sc hs1 (k := k) (ov := .vec bt sz' (some R.nx) (fr && fr2)) (by simp only [DO.vars, lvVars, Sc.cons]; exact ⟨by show R.nx < σ.nx + (R.nx - σ.nx + 1); omega, Sc.nil⟩)
                refine ⟨hs2.put _ (by simp [DV.vars, Sc.nil]), by rw [dput_nx]; exact Nat.le_add_right _ _, ?_⟩
                intro ρ hok hg
                rw [gsV_app] at hg
                obtain ⟨g0, g1⟩ := inR_v hg.1
                obtain ⟨ρ1, hw⟩ := row_new hs hok hl (nsc hs) hR g0 g1
                have hll := tys_sc hs hl
                have hlt : (n.v ρ).toNat < (ρ l).l.length := by omega
                have hrow : (ρ l).l[(n.v ρ).toNat] = rowV ρ1 R.cells := by have := hw.row; simp [hlt] at this; exact this
                have yv : rowV ρ1 ys = rowV ρ ys := row_ag hw.ag (ysc hs)
                have hnew : WTs P (cks P e) (spl (rowV ρ1 R.cells) off (rowV ρ ys)) := by
                  have hty1 := (tysV_lk hok.tys hl).2 _ (List.getElem_mem hlt)
                  rw [hrow] at hty1
                  refine WTs_spl _ _ _ _ hty1 (by rw [rowV_length, rowV_length]; omega) ?_
                  rw [rowV_length]
                  exact dty_ok hok.g hok.tys _ _ _ hty hg.2
                have hz : TyRows P e ((ρ l).l.set (n.v ρ).toNat (spl (rowV ρ1 R.cells) off (rowV ρ ys))) := by
                  have h0 := tysV_lk hok.tys hl
                  refine ⟨by rw [List.length_set]; exact h0.1, fun row hr => ?_⟩
                  rcases List.mem_or_eq_of_mem_set hr with hr | rfl
                  · exact h0.2 row hr
                  · exact hnew
                have ha1 := up_ag ρ1 R.nx R.nx (vaL ((ρ l).l.set (n.v ρ).toNat (spl (rowV ρ1 R.cells) off (rowV ρ ys)))) (Nat.le_refl _)
                have ha : Agree σ.nx ρ (up ρ1 R.nx (vaL ((ρ l).l.set (n.v ρ).toNat (spl (rowV ρ1 R.cells) off (rowV ρ ys))))) := hw.ag.trans ha1 hRs.le
                have hn : ((up ρ1 R.nx (vaL ((ρ l).l.set (n.v ρ).toNat (spl (rowV ρ1 R.cells) off (rowV ρ ys))))) R.nx).l = (ρ l).l.set (n.v ρ).toNat (spl (rowV ρ1 R.cells) off (rowV ρ ys)) := by rw [up_same]; rfl
                have hgk := hw.g.up R.nx (vaL_ok hz.1)
                generalize up ρ1 R.nx (vaL ((ρ l).l.set (n.v ρ).toNat (spl (rowV ρ1 R.cells) off (rowV ρ ys)))) = ρ' at ha1 ha hn hgk
                have hle' := hRs.le
                have e3 : ρ' l = ρ l := ha l hll
                have e4 := Lin.ag ha (nsc hs)
                have e5 : rowV ρ' R.cells = rowV ρ1 R.cells := row_ag ha1 hRs.cells
                have e6 : rowV ρ' ys = rowV ρ ys := row_ag ha (ysc hs)
                have hok' : (σ.grow (R.nx - σ.nx + 1) ((R.nx, e) :: R.tys) (eqLen R.nx l ++ rowLin l R) [.set R.nx l n (spl R.cells off ys), .row l n R.cells]).ok P I ρ' := by
                  refine hok.grow hs ha hgk ⟨by rw [hn]; exact hz, (tys_ag ha1 hRs.tys).2 hw.tys⟩ (linsV_append ?_ ((lins_ag ha1 (rowLin_sc hRs hll)).2 hw.lin)) ⟨?_, ?_, trivial⟩
                  · refine ⟨?_, ?_, trivial⟩ <;> simp only [Lin.ax_v, Lin.at_v, atomV1, hn, e3, List.length_set] <;> omega
                  · simp only [PF.v, hn, e3, e4, spl_rowV, e5, e6]
                  · refine ⟨by rw [e4]; exact g0, ?_⟩
                    rw [e3, e4, e5]; exact hw.row
                refine ⟨ρ', ha, ?_, ⟨[], [(k, rowV ρ1 R.cells)]⟩, (⟨(σ.v J ρ).slots, (k, .vec bt sz' ((ρ l).l.set (n.v ρ).toNat (spl (rowV ρ1 R.cells) off (rowV ρ ys))) (fr && fr2)) :: rm (σ.v J ρ).tab k⟩ : St).put o.dst .u, [(ρ l).l[(n.v ρ).toNat]? = some (rowV ρ1 R.cells)], ?_, ⟨hw.row, trivial⟩, ?_⟩
                · exact (DSt.ok.put (σ := (σ.grow (R.nx - σ.nx + 1) ((R.nx, e) :: R.tys) (eqLen R.nx l ++ rowLin l R) [.set R.nx l n (spl R.cells off ys), .row l n R.cells]).setObj k (.vec bt sz' (some R.nx) (fr && fr2))) ⟨hok'.g, hok'.tys, hok'.lin, hok'.prs⟩ _ _)
                · rw [aop_store ho noArr (by rw [e1]; rfl), e1]
                  have hble : Nat.ble (off + (dvs ρ xs).length) (rowV ρ1 R.cells).length = true := by rw [dvs_length, rowV_length]; exact hle.1
                  simp [opStore, f1, hi, dones_v, hone, dvs_length, hlen, e1, dtab_v hk, DO.v, lvV, dtoDPs_v hys hsz.2, lk, hsz.1, rowV_length, hle.1, nt]
                · rw [dput_v, setObj_v, dVU]
                  refine Same.put ?_ _ _
                  have hv' : (DO.vec bt sz' (some R.nx) (fr && fr2)).v J ρ' = .vec bt sz' ((ρ l).l.set (n.v ρ).toNat (spl (rowV ρ1 R.cells) off (rowV ρ ys))) (fr && fr2) := by simp only [DO.v, lvV, hn]
                  rw [hv']
                  exact Same.setObj (DSt.same_ag hs ha) _ _
              · cases h
            · cases h
          · cases h
        · cases h
      · cases h
    · cases h
  · cases h
end Go.TL
