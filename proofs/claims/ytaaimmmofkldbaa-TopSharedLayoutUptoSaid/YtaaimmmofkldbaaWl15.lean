/- Rows of new variables; rows that are of a type. -/
import Derived.Test.YtaaimmmofkldbaaWl14
namespace Go.TL
structure RowR where
  cells : List DP
  nx : Nat
  tys : List (Nat × TypeId)
  lin : List Lin
  rz : Lin
def is64 : IntKind → Bool
  | .i64 => true
  | _ => false
def isU64 : IntKind → Bool
  | .u64 => true
  | _ => false
def drow : List CK → Nat → Option RowR
  | [], n => some ⟨[], n, [], [], Lin.lit 0⟩
  | ck :: r, n => match drow r (n + 1) with
    | none => none
    | some R => match ck with
      | .int k => match isU64 k with
        | true => none
        | false => some ⟨.int k (Lin.at (4 * n)) :: R.cells, R.nx, R.tys, (match is64 k with | true => R.lin | false => (Lin.at (4 * n)).addc (-k.max) :: (Lin.scale (-1) (Lin.at (4 * n))).addc k.min :: R.lin), R.rz.addc 1⟩
      | .bool => some ⟨.bl (.var n) :: R.cells, R.nx, R.tys, R.lin, R.rz.addc 1⟩
      | .str => some ⟨.st (.var n) :: R.cells, R.nx, R.tys, R.lin, (R.rz.ax 1 (Lin.at (4 * n + 3))).addc 1⟩
      | .sl e => some ⟨.sl (some n) :: R.cells, R.nx, (n, e) :: R.tys, R.lin, (R.rz.ax 1 (Lin.at (4 * n + 2))).addc 1⟩
      | .other => none
theorem kmin_ge {k : IntKind} : (-9223372036854775808 : Int) ≤ k.min := by cases k <;> decide
theorem kmax_le {k : IntKind} (h : isU64 k = false) : k.max ≤ (9223372036854775807 : Int) := by cases k <;> first | decide | simp [isU64] at h
theorem insT_vars {n a : Nat} {c : Int} (ha : a / 4 < n) : ∀ {x : Sum}, Sc n (sumVars x) → Sc n (sumVars (insT a c x))
  | [], _ => by
    simp only [insT]; split
    · exact Sc.nil
    · simp only [sumVars, Sc.cons]; exact ⟨ha, Sc.nil⟩
  | (a', c') :: r, h => by
    simp only [sumVars, Sc.cons] at h
    simp only [insT]
    split
    · split
      · exact h.2
      · simp only [sumVars, Sc.cons]; exact ⟨ha, h.2⟩
    · split
      · split
        · simp only [sumVars, Sc.cons]; exact h
        · simp only [sumVars, Sc.cons]; exact ⟨ha, h⟩
      · simp only [sumVars, Sc.cons]; exact ⟨h.1, insT_vars ha h.2⟩
theorem addS_vars {n : Nat} {k : Int} : ∀ {x y : Sum}, Sc n (sumVars x) → Sc n (sumVars y) → Sc n (sumVars (addS k x y))
  | [], _, _, hy => hy
  | (a, c) :: r, y, hx, hy => by
    simp only [sumVars, Sc.cons] at hx
    simp only [addS]
    exact addS_vars hx.2 (insT_vars hx.1 hy)
theorem Lin.ax_sc {n : Nat} {x y : Lin} {k : Int} (hx : Sc n x.vars) (hy : Sc n y.vars) : Sc n (x.ax k y).vars := addS_vars hy hx
theorem Lin.add_sc {n : Nat} {x y : Lin} (hx : Sc n x.vars) (hy : Sc n y.vars) : Sc n (x.add y).vars := Lin.ax_sc hx hy
theorem Lin.lit_sc {n : Nat} {z : Int} : Sc n (Lin.lit z).vars := Sc.nil
theorem Lin.scale_sc {n : Nat} {x : Lin} {k : Int} (hx : Sc n x.vars) : Sc n (Lin.scale k x).vars := Lin.ax_sc Sc.nil hx
theorem Lin.addc_sc {n : Nat} {x : Lin} {k : Int} (hx : Sc n x.vars) : Sc n (x.addc k).vars := hx
theorem Lin.at_sc {n a : Nat} (h : a / 4 < n) : Sc n (Lin.at a).vars := by
  simp only [Lin.at, Lin.vars, sumVars, Sc.cons]; exact ⟨h, Sc.nil⟩
theorem atomV0 (ρ : Ro) (k : Nat) : atomV ρ (4 * k) = (ρ k).n := by
  unfold atomV
  have h1 : 4 * k % 4 = 0 := by omega
  have h2 : 4 * k / 4 = k := by omega
  simp only [h1, h2]
theorem atomV1 (ρ : Ro) (k : Nat) : atomV ρ (4 * k + 1) = ((ρ k).l.length : Int) := by
  unfold atomV
  have h1 : (4 * k + 1) % 4 = 1 := by omega
  have h2 : (4 * k + 1) / 4 = k := by omega
  simp only [h1, h2]
theorem atomV2 (ρ : Ro) (k : Nat) : atomV ρ (4 * k + 2) = (rsz (ρ k).l : Int) := by
  unfold atomV
  have h1 : (4 * k + 2) % 4 = 2 := by omega
  have h2 : (4 * k + 2) / 4 = k := by omega
  simp only [h1, h2]
theorem atomV3 (ρ : Ro) (k : Nat) : atomV ρ (4 * k + 3) = ((ρ k).s.size : Int) := by
  unfold atomV
  have h1 : (4 * k + 3) % 4 = 3 := by omega
  have h2 : (4 * k + 3) / 4 = k := by omega
  simp only [h1, h2]
structure RowOk (P : Program) (n : Nat) (row : List PV) (R : RowR) (ρ ρ' : Ro) : Prop where
  ag : Agree n ρ ρ'
  g : Gok ρ'
  cells : rowV ρ' R.cells = row
  tys : tysV P ρ' R.tys
  lin : linsV ρ' R.lin
  rz : R.rz.v ρ' = (Go.TL.rz row : Int)
structure RowSc (n : Nat) (R : RowR) : Prop where
  le : n ≤ R.nx
  cells : Sc R.nx (rowVars R.cells)
  tys : ∀ k e, (k, e) ∈ R.tys → k < R.nx
  lin : ∀ e ∈ R.lin, Sc R.nx e.vars
  rz : Sc R.nx R.rz.vars
theorem drow_sc : ∀ (cs : List CK) (n : Nat) (R : RowR), drow cs n = some R → RowSc n R
  | [], n, R, h => by
    simp only [drow, Option.some.injEq] at h; subst h
    exact ⟨Nat.le_refl _, Sc.nil, by simp, by simp, Lin.lit_sc⟩
  | ck :: r, n, R, h => by
    simp only [drow] at h
    split at h
    · cases h
    · rename_i R1 h1
      have ih := drow_sc r (n + 1) R1 h1
      have hn : n < R1.nx := ih.le
      have a0 : 4 * n / 4 < R1.nx := by omega
      have a2 : (4 * n + 2) / 4 < R1.nx := by omega
      have a3 : (4 * n + 3) / 4 < R1.nx := by omega
      split at h
      · rename_i k
        split at h
        · cases h
        · simp only [Option.some.injEq] at h; subst h
          refine ⟨Nat.le_of_lt hn, ?_, ih.tys, ?_, Lin.addc_sc ih.rz⟩
          · simp only [rowVars, DP.vars, Sc.app]; exact ⟨Lin.at_sc a0, ih.cells⟩
          · simp only
            split
            · exact ih.lin
            · intro e he
              simp only [List.mem_cons] at he
              rcases he with rfl | rfl | he
              · exact Lin.addc_sc (Lin.at_sc a0)
              · exact Lin.addc_sc (Lin.scale_sc (Lin.at_sc a0))
              · exact ih.lin e he
      · simp only [Option.some.injEq] at h; subst h
        refine ⟨Nat.le_of_lt hn, ?_, ih.tys, ih.lin, Lin.addc_sc ih.rz⟩
        simp only [rowVars, DP.vars, BF.vars, Sc.app, Sc.cons]; exact ⟨⟨hn, Sc.nil⟩, ih.cells⟩
      · simp only [Option.some.injEq] at h; subst h
        refine ⟨Nat.le_of_lt hn, ?_, ih.tys, ih.lin, Lin.addc_sc (Lin.ax_sc ih.rz (Lin.at_sc a3))⟩
        simp only [rowVars, DP.vars, SE.vars, Sc.app, Sc.cons]; exact ⟨⟨hn, Sc.nil⟩, ih.cells⟩
      · simp only [Option.some.injEq] at h; subst h
        refine ⟨Nat.le_of_lt hn, ?_, ?_, ih.lin, Lin.addc_sc (Lin.ax_sc ih.rz (Lin.at_sc a2))⟩
        · simp only [rowVars, DP.vars, lvVars, Sc.app, Sc.cons]; exact ⟨⟨hn, Sc.nil⟩, ih.cells⟩
        · intro k e hk
          simp only [List.mem_cons, Prod.mk.injEq] at hk
          rcases hk with ⟨rfl, _⟩ | hk
          · exact hn
          · exact ih.tys k e hk
      · cases h
theorem drow_ok {P : Program} : ∀ (cs : List CK) (n : Nat) (R : RowR) (row : List PV) (ρ : Ro), drow cs n = some R → WTs P cs row → Gok ρ → ∃ ρ', RowOk P n row R ρ ρ'
  | [], n, R, row, ρ, h, hw, hg => by
    simp only [drow, Option.some.injEq] at h; subst h
    have := WTs_nil hw; subst this
    exact ⟨ρ, Agree.refl _ _, hg, rfl, trivial, trivial, by simp [Lin.lit_v, Go.TL.rz]⟩
  | ck :: r, n, R, row, ρ, h, hw, hg => by
    simp only [drow] at h
    split at h
    · cases h
    · rename_i R1 h1
      obtain ⟨x, xs, rfl, hx, hxs⟩ := WTs_cons hw
      have step : ∀ va : Va, VaOk va → ∃ ρ', RowOk P (n + 1) xs R1 (up ρ n va) ρ' ∧ ρ' n = va ∧ Agree n ρ ρ' := by
        intro va hva
        obtain ⟨ρ', hr⟩ := drow_ok r (n + 1) R1 xs (up ρ n va) h1 hxs (hg.up n hva)
        exact ⟨ρ', hr, by rw [hr.ag n (Nat.lt_succ_self n), up_same], (up_ag ρ n n va (Nat.le_refl _)).trans hr.ag (Nat.le_succ n)⟩
      split at h
      · rename_i k
        split at h
        · cases h
        · rename_i hk
          simp only [Option.some.injEq] at h; subst h
          obtain ⟨z, rfl, hz1, hz2⟩ := WT_int hx
          obtain ⟨ρ', hr, he, ha⟩ := step (vaN z) (vaN_ok (Int.le_trans kmin_ge hz1) (Int.le_trans hz2 (kmax_le hk)))
          have hn : (ρ' n).n = z := by rw [he]; rfl
          refine ⟨ρ', ha, hr.g, ?_, hr.tys, ?_, ?_⟩
          · simp only [rowV, DP.v, Lin.at_v, atomV0, hn, hr.cells]
          · simp only
            split
            · exact hr.lin
            · refine ⟨?_, ?_, hr.lin⟩
              · rw [Lin.addc_v, Lin.at_v, atomV0, hn]; omega
              · rw [Lin.addc_v, Lin.scale_v, Lin.at_v, atomV0, hn]; omega
          · simp only [Lin.addc_v, hr.rz, Go.TL.rz, pz]; omega
      · simp only [Option.some.injEq] at h; subst h
        obtain ⟨z, rfl⟩ := WT_bool hx
        obtain ⟨ρ', hr, he, ha⟩ := step (vaB z) (vaB_ok z)
        have hn : (ρ' n).b = z := by rw [he]; rfl
        refine ⟨ρ', ha, hr.g, ?_, hr.tys, hr.lin, ?_⟩
        · simp only [rowV, DP.v, BF.v, hn, hr.cells]
        · simp only [Lin.addc_v, hr.rz, Go.TL.rz, pz]; omega
      · simp only [Option.some.injEq] at h; subst h
        obtain ⟨z, rfl, hz⟩ := WT_str hx
        obtain ⟨ρ', hr, he, ha⟩ := step (vaS z) (vaS_ok hz)
        have hn : (ρ' n).s = z := by rw [he]; rfl
        refine ⟨ρ', ha, hr.g, ?_, hr.tys, hr.lin, ?_⟩
        · simp only [rowV, DP.v, SE.v, hn, hr.cells]
        · simp only [Lin.addc_v, Lin.ax_v, Lin.at_v, atomV3, hr.rz, Go.TL.rz, pz, hn]; omega
      · rename_i e
        simp only [Option.some.injEq] at h; subst h
        obtain ⟨z, rfl, hz⟩ := WT_sl hx
        obtain ⟨ρ', hr, he, ha⟩ := step (vaL z) (vaL_ok hz.1)
        have hn : (ρ' n).l = z := by rw [he]; rfl
        refine ⟨ρ', ha, hr.g, ?_, ⟨by rw [hn]; exact hz, hr.tys⟩, hr.lin, ?_⟩
        · simp only [rowV, DP.v, lvV, hn, hr.cells]
        · simp only [Lin.addc_v, Lin.ax_v, Lin.at_v, atomV2, hr.rz, Go.TL.rz, pz, hn]; omega
      · cases h
def dty (tys : List (Nat × TypeId)) : List CK → List DP → Option (List G)
  | [], [] => some []
  | ck :: cs, x :: xs => match dty tys cs xs with
    | none => none
    | some gs => match ck, x with
      | .int k, .int k' e => match decide (k = k') with
        | true => some (.le (e.addc (-k.max)) :: .le ((Lin.scale (-1) e).addc k.min) :: gs)
        | false => none
      | .bool, .bl _ => some gs
      | .str, .st (.var _) => some gs
      | .str, .st (.lit b) => match Nat.ble b.length 1073741824 with | true => some gs | false => none
      | .sl _, .sl none => some gs
      | .sl e, .sl (some k) => match lk tys k with
        | some e' => match Nat.beq e e' with | true => some gs | false => none
        | none => none
      | _, _ => none
  | _, _ => none
theorem dty_ok {P : Program} {I : Pr} {ρ : Ro} {tys : List (Nat × TypeId)} (hg : Gok ρ) (ht : tysV P ρ tys) : ∀ (cs : List CK) (xs : List DP) (gs : List G), dty tys cs xs = some gs → gsV I ρ gs → WTs P cs (rowV ρ xs)
  | [], [], _, _, _ => trivial
  | ck :: cs, x :: xs, gs, h, hv => by
    simp only [dty] at h
    split at h
    · cases h
    · rename_i gs1 h1
      split at h
      · split at h
        · rename_i k k' e hk
          have := of_decide_eq_true hk; subst this
          simp only [Option.some.injEq] at h; subst h
          simp only [gsV, G.v, Lin.addc_v, Lin.scale_v] at hv
          exact ⟨.int _ _ (by omega) (by omega), dty_ok hg ht cs xs gs1 h1 hv.2.2⟩
        · cases h
      · simp only [Option.some.injEq] at h; subst h
        exact ⟨.bool _, dty_ok hg ht cs xs gs1 h1 hv⟩
      · simp only [Option.some.injEq] at h; subst h
        exact ⟨.str _ (hg.st _), dty_ok hg ht cs xs gs1 h1 hv⟩
      · split at h
        · rename_i b hb
          simp only [Option.some.injEq] at h; subst h
          refine ⟨.str _ ?_, dty_ok hg ht cs xs gs1 h1 hv⟩
          have := Nat.le_of_ble_eq_true hb
          simpa [mostStr, SE.v, ByteArray.size] using this
        · cases h
      · simp only [Option.some.injEq] at h; subst h
        exact ⟨TyRows.wt TyRows.nil, dty_ok hg ht cs xs gs1 h1 hv⟩
      · split at h
        · rename_i e k e' hl
          split at h
          · rename_i hb
            have := Nat.eq_of_beq_eq_true hb; subst this
            simp only [Option.some.injEq] at h; subst h
            exact ⟨TyRows.wt (tysV_lk ht hl), dty_ok hg ht cs xs gs1 h1 hv⟩
          · cases h
        · cases h
      · cases h
  | [], _ :: _, _, h, _ => by simp [dty] at h
  | _ :: _, [], _, h, _ => by simp [dty] at h
def dpz : DP → Lin
  | .st (.var k) => (Lin.at (4 * k + 3)).addc 1
  | .st (.lit b) => Lin.lit (1 + (b.length : Int))
  | .sl (some k) => (Lin.at (4 * k + 2)).addc 1
  | _ => Lin.lit 1
def drz : List DP → Lin
  | [] => Lin.lit 0
  | x :: xs => (dpz x).add (drz xs)
theorem dpz_v {ρ : Ro} (hg : Gok ρ) : ∀ x : DP, (∀ v, x = .cst v → ∀ s, v ≠ .string s) → (∀ k, x ≠ .raw k) → (dpz x).v ρ = (pz (x.v ρ) : Int)
  | .st (.var k), _, _ => by simp only [dpz, Lin.addc_v, Lin.at_v, atomV3, DP.v, SE.v, pz]; omega
  | .st (.lit b), _, _ => by simp only [dpz, Lin.lit_v, DP.v, SE.v, pz, ByteArray.size, List.size_toArray]; omega
  | .sl (some k), _, _ => by simp only [dpz, Lin.addc_v, Lin.at_v, atomV2, DP.v, lvV, pz]; omega
  | .sl none, _, _ => by simp [dpz, Lin.lit_v, DP.v, lvV, pz, rsz]
  | .int _ _, _, _ => by simp [dpz, Lin.lit_v, DP.v, pz]
  | .bl _, _, _ => by simp [dpz, Lin.lit_v, DP.v, pz]
  | .nl, _, _ => by simp [dpz, Lin.lit_v, DP.v, pz]
  | .cst v, h, _ => by
    simp only [dpz, Lin.lit_v, DP.v]
    cases v <;> first | rfl | exact absurd rfl (h _ rfl _)
  | .raw k, _, h => absurd rfl (h k)
theorem drz_ty {P : Program} {I : Pr} {ρ : Ro} {tys : List (Nat × TypeId)} (hg : Gok ρ) : ∀ (cs : List CK) (xs : List DP) (gs : List G), dty tys cs xs = some gs → (drz xs).v ρ = (Go.TL.rz (rowV ρ xs) : Int)
  | [], [], _, _ => by simp [drz, Lin.lit_v, rowV, Go.TL.rz]
  | ck :: cs, x :: xs, gs, h => by
    simp only [dty] at h
    split at h
    · cases h
    · rename_i gs1 h1
      have ih := drz_ty (P := P) (I := I) hg cs xs gs1 h1
      have hx : (∀ v, x = .cst v → ∀ s, v ≠ .string s) ∧ (∀ k, x ≠ .raw k) := by
        cases x with
        | cst v => cases ck <;> simp at h
        | raw k => cases ck <;> simp at h
        | _ => exact ⟨fun _ e => (by cases e), fun _ e => (by cases e)⟩
      have := dpz_v hg x hx.1 hx.2
      simp only [drz, Lin.add_v, rowV, Go.TL.rz, this, ih]; omega
  | [], _ :: _, _, h => by simp [dty] at h
  | _ :: _, [], _, h => by simp [dty] at h
theorem dpz_sc {n : Nat} : ∀ {x : DP}, Sc n x.vars → Sc n (dpz x).vars
  | .st (.var k), h => by
    simp only [DP.vars, SE.vars, Sc.cons] at h
    exact Lin.addc_sc (Lin.at_sc (by omega))
  | .st (.lit b), _ => Lin.lit_sc
  | .sl (some k), h => by
    simp only [DP.vars, lvVars, Sc.cons] at h
    exact Lin.addc_sc (Lin.at_sc (by omega))
  | .sl none, _ => Lin.lit_sc
  | .int _ _, _ => Lin.lit_sc
  | .bl _, _ => Lin.lit_sc
  | .nl, _ => Lin.lit_sc
  | .cst v, _ => Lin.lit_sc
  | .raw k, _ => Lin.lit_sc
theorem drz_sc {n : Nat} : ∀ {x : List DP}, Sc n (rowVars x) → Sc n (drz x).vars
  | [], _ => Lin.lit_sc
  | x :: xs, h => by simp only [rowVars, Sc.app] at h; exact Lin.add_sc (dpz_sc h.1) (drz_sc h.2)
end Go.TL
namespace Go.TL
def dcells : DV → Option (List DV)
  | .agg xs => some xs
  | .tup _ => none
  | .u => none
  | x => some [x]
theorem dcells_v (ρ : Ro) (x : DV) : cellsOf (x.v ρ) = (dcells x).map (dvs ρ) := by
  cases x <;> simp [DV.v, cellsOf, dcells, dvs]
theorem dcells_sc {n : Nat} {x : DV} {xs : List DV} (h : dcells x = some xs) (hx : Sc n x.vars) : Sc n (dvsVars xs) := by
  have key : ∀ y : DV, Sc n y.vars → Sc n (dvsVars [y]) := fun y hy => by simp only [dvsVars, Sc.app]; exact ⟨hy, Sc.nil⟩
  cases x with
  | agg ys => simp only [dcells, Option.some.injEq] at h; subst h; simpa only [DV.vars] using hx
  | tup _ => simp [dcells] at h
  | u => simp [dcells] at h
  | _ => simp only [dcells, Option.some.injEq] at h; subst h; exact key _ hx
theorem dvs_append (ρ : Ro) (a b : List DV) : dvs ρ (a ++ b) = dvs ρ a ++ dvs ρ b := by simp [dvs_map]
theorem dvs_drop (ρ : Ro) (a : List DV) (n : Nat) : dvs ρ (a.drop n) = (dvs ρ a).drop n := by simp [dvs_map, List.map_drop]
theorem dvs_take (ρ : Ro) (a : List DV) (n : Nat) : dvs ρ (a.take n) = (dvs ρ a).take n := by simp [dvs_map, List.map_take]
theorem dvs_length (ρ : Ro) (a : List DV) : (dvs ρ a).length = a.length := by simp [dvs_map]
theorem dvs_spl (ρ : Ro) (cs : List DV) (off : Nat) (new : List DV) : dvs ρ (spl cs off new) = spl (dvs ρ cs) off (dvs ρ new) := by
  simp [spl, dvs_append, dvs_take, dvs_drop, dvs_length]
theorem rowV_drop (ρ : Ro) (a : List DP) (n : Nat) : rowV ρ (a.drop n) = (rowV ρ a).drop n := by simp [rowV_map, List.map_drop]
theorem rowV_take (ρ : Ro) (a : List DP) (n : Nat) : rowV ρ (a.take n) = (rowV ρ a).take n := by simp [rowV_map, List.map_take]
theorem rowV_length (ρ : Ro) (a : List DP) : (rowV ρ a).length = a.length := by simp [rowV_map]
theorem rowV_append (ρ : Ro) (a b : List DP) : rowV ρ (a ++ b) = rowV ρ a ++ rowV ρ b := by simp [rowV_map]
theorem dvsVars_mem {k : Nat} : ∀ {xs : List DV}, k ∈ dvsVars xs ↔ ∃ x ∈ xs, k ∈ x.vars
  | [] => by simp [dvsVars]
  | x :: xs => by simp [dvsVars, dvsVars_mem (xs := xs)]
theorem rowVars_mem {k : Nat} : ∀ {xs : List DP}, k ∈ rowVars xs ↔ ∃ x ∈ xs, k ∈ x.vars
  | [] => by simp [rowVars]
  | x :: xs => by simp [rowVars, rowVars_mem (xs := xs)]
theorem dvs_sc {n : Nat} {xs : List DV} : Sc n (dvsVars xs) ↔ ∀ x ∈ xs, Sc n x.vars := by
  unfold Sc; simp only [dvsVars_mem]
  exact ⟨fun h x hx k hk => h k ⟨x, hx, hk⟩, fun h k ⟨x, hx, hk⟩ => h x hx k hk⟩
theorem row_sc {n : Nat} {xs : List DP} : Sc n (rowVars xs) ↔ ∀ x ∈ xs, Sc n x.vars := by
  unfold Sc; simp only [rowVars_mem]
  exact ⟨fun h x hx k hk => h k ⟨x, hx, hk⟩, fun h k ⟨x, hx, hk⟩ => h x hx k hk⟩
theorem spl_sc {n : Nat} {cs new : List DV} {off : Nat} (h : Sc n (dvsVars cs)) (h' : Sc n (dvsVars new)) : Sc n (dvsVars (spl cs off new)) := by
  rw [dvs_sc] at *
  intro x hx
  simp only [spl, List.mem_append] at hx
  rcases hx with hx | hx | hx
  · exact h x (List.mem_of_mem_take hx)
  · exact h' x hx
  · exact h x (List.mem_of_mem_drop hx)
def dMove (σ : DSt) (o : Oper) (x : Operand) : DR := some (σ.put o.dst (dev σ x), [])
theorem dMove_good {P : Program} {I : Pr} {J : Ex} {σ σ' : DSt} {o : Oper} {x : Operand} {gs : List G} (ho : o.op = .move x ∨ o.op = .assign x) (h : dMove σ o x = some (σ', gs)) : Good P I J σ o σ' gs := by
  simp only [dMove, Option.some.injEq, Prod.mk.injEq] at h; obtain ⟨rfl, rfl⟩ := h
  refine good_put (fun hs => hs.dev x) fun ρ hs hok _ => ⟨⟨[], []⟩, [], ?_, trivial⟩
  rcases ho with ho | ho <;> simp [aop, ho, tr, opMove, dev_v]
def dPick (σ : DSt) (o : Oper) (c x y : Operand) : DR :=
  match dev σ c with
  | .p (.bl (.lit true)) _ => some (σ.put o.dst (dev σ x), [])
  | .p (.bl (.lit false)) _ => some (σ.put o.dst (dev σ y), [])
  | _ => none
theorem dPick_good {P : Program} {I : Pr} {J : Ex} {σ σ' : DSt} {o : Oper} {c x y : Operand} {gs : List G} (ho : o.op = .pick c x y) (h : dPick σ o c x y = some (σ', gs)) : Good P I J σ o σ' gs := by
  unfold dPick at h
  split at h
  · rename_i fr he
    simp only [Option.some.injEq, Prod.mk.injEq] at h; obtain ⟨rfl, rfl⟩ := h
    refine good_put (fun hs => hs.dev x) fun ρ hs hok _ => ⟨⟨[], []⟩, [], ?_, trivial⟩
    simp [aop, ho, tr, opPick, dev_v, he, DV.v, DP.v, BF.v]
  · rename_i fr he
    simp only [Option.some.injEq, Prod.mk.injEq] at h; obtain ⟨rfl, rfl⟩ := h
    refine good_put (fun hs => hs.dev y) fun ρ hs hok _ => ⟨⟨[], []⟩, [], ?_, trivial⟩
    simp [aop, ho, tr, opPick, dev_v, he, DV.v, DP.v, BF.v]
  · cases h
def dzeros (z : Value) : Option (List DV) :=
  match z.cells.toList.all (·.oneCell') with
  | true => some (z.cells.toList.map fun v => .p (dval v) true)
  | false => none
theorem dzeros_v (ρ : Ro) (z : Value) : zeros z = (dzeros z).map (dvs ρ) := by
  unfold zeros dzeros
  cases z.cells.toList.all (·.oneCell') with
  | true => simp [dvs_map, DV.v, dval_v]
  | false => rfl
theorem dzeros_sc {n : Nat} {z : Value} {xs : List DV} (h : dzeros z = some xs) : Sc n (dvsVars xs) := by
  unfold dzeros at h
  split at h
  · simp only [Option.some.injEq] at h; subst h
    rw [dvs_sc]
    intro x hx
    simp only [List.mem_map] at hx
    obtain ⟨v, _, rfl⟩ := hx
    simp [DV.vars, dval_vars, Sc.nil]
  · cases h
def DSt.addBox (σ : DSt) (d : Nat) (t : TypeId) (xs : List DV) : DSt := { σ with slots := (d, .ptr d 0) :: σ.slots, tab := (d, .box t xs) :: σ.tab }
theorem addBox_sc {σ : DSt} (hs : σ.sc) {d : Nat} {t : TypeId} {xs : List DV} (hx : Sc σ.nx (dvsVars xs)) : (σ.addBox d t xs).sc := by
  refine ⟨?_, ?_, hs.tys, hs.lin, hs.prs⟩
  · intro j v hl
    simp only [DSt.addBox, lk] at hl
    cases hb : Nat.beq d j with
    | true => simp only [hb, Option.some.injEq] at hl; subst hl; simp [DV.vars, Sc.nil]
    | false => simp only [hb] at hl; exact hs.slots j v hl
  · intro j v hl
    simp only [DSt.addBox, lk] at hl
    cases hb : Nat.beq d j with
    | true => simp only [hb, Option.some.injEq] at hl; subst hl; change Sc σ.nx _; simpa [DO.vars] using hx
    | false => simp only [hb] at hl; exact hs.tab j v hl
theorem addBox_v {J : Ex} (ρ : Ro) (σ : DSt) (d : Nat) (t : TypeId) (xs : List DV) : (σ.addBox d t xs).v J ρ = ⟨(d, .ptr d 0) :: (σ.v J ρ).slots, (d, .box t (dvs ρ xs)) :: (σ.v J ρ).tab⟩ := by
  simp [DSt.addBox, DSt.v, slotsV, tabV, DV.v, DO.v]
theorem dlk_none {J : Ex} {ρ : Ro} {σ : DSt} {d : Nat} (h : lk σ.tab d = none) : lk (σ.v J ρ).tab d = none := by
  simp [DSt.v, lk_tabV, h]
def dAlloc (P : Program) (σ : DSt) (o : Oper) (t : TypeId) : DR :=
  match o.dst, P.info? t with
  | some d, some i => match lk σ.tab d, i.zero with
    | none, some z => match dzeros z with
      | some xs => some (σ.addBox d t xs, [])
      | none => none
    | _, _ => none
  | _, _ => none
theorem dAlloc_good {P : Program} {I : Pr} {J : Ex} {σ σ' : DSt} {o : Oper} {t : TypeId} {gs : List G} (ho : o.op = .alloc t) (h : dAlloc P σ o t = some (σ', gs)) : Good P I J σ o σ' gs := by
  unfold dAlloc at h
  split at h
  · rename_i d i hd hi
    split at h
    · rename_i z hl hz
      split at h
      · rename_i xs hx
        simp only [Option.some.injEq, Prod.mk.injEq] at h; obtain ⟨rfl, rfl⟩ := h
        intro hs
        refine ⟨addBox_sc hs (dzeros_sc hx), Nat.le_refl _, fun ρ hok _ => ⟨ρ, Agree.refl _ _, ⟨hok.g, hok.tys, hok.lin, hok.prs⟩, ⟨[], []⟩, _, [], ?_, trivial, Same.refl _⟩⟩
        rw [addBox_v]
        have h1 := dlk_none (J := J) (ρ := ρ) hl
        simp [aop, ho, tr, opAlloc, hd, hi, h1, hz, dzeros_v ρ, hx]
      · cases h
    · cases h
  · cases h
def dBox (σ : DSt) (o : Oper) (t : TypeId) (x : Operand) : DR :=
  match o.dst, dcells (dev σ x) with
  | some d, some xs => match lk σ.tab d with
    | none => some (σ.addBox d t xs, [])
    | _ => none
  | _, _ => none
theorem dBox_good {P : Program} {I : Pr} {J : Ex} {σ σ' : DSt} {o : Oper} {t : TypeId} {x : Operand} {gs : List G} (ho : o.op = .box t x) (h : dBox σ o t x = some (σ', gs)) : Good P I J σ o σ' gs := by
  unfold dBox at h
  split at h
  · rename_i d xs hd hx
    split at h
    · rename_i hl
      simp only [Option.some.injEq, Prod.mk.injEq] at h; obtain ⟨rfl, rfl⟩ := h
      intro hs
      refine ⟨addBox_sc hs (dcells_sc hx (hs.dev x)), Nat.le_refl _, fun ρ hok _ => ⟨ρ, Agree.refl _ _, ⟨hok.g, hok.tys, hok.lin, hok.prs⟩, ⟨[], []⟩, _, [], ?_, trivial, Same.refl _⟩⟩
      rw [addBox_v]
      have h1 := dlk_none (J := J) (ρ := ρ) hl
      simp [aop, ho, tr, opBox, hd, dev_v, dcells_v, hx, h1]
    · cases h
  · cases h
def dfill (place : Nat → Option (Nat × Nat)) (cells : List DV) : List (Nat × DV) → Option (List DV)
  | [] => some cells
  | (i, x) :: rest => match place i, dcells x with
    | some (off, size), some xs => match Nat.beq xs.length size, Nat.ble (off + xs.length) cells.length with
      | true, true => dfill place (spl cells off xs) rest
      | _, _ => none
    | _, _ => none
def dparts (σ : DSt) : List (Nat × Operand) → List (Nat × DV)
  | [] => []
  | (i, x) :: r => (i, dev σ x) :: dparts σ r
def partsV (ρ : Ro) : List (Nat × DV) → List (Nat × SV)
  | [] => []
  | (i, x) :: r => (i, x.v ρ) :: partsV ρ r
theorem dparts_v {J : Ex} (ρ : Ro) (σ : DSt) : ∀ l : List (Nat × Operand), evParts (σ.v J ρ) l = partsV ρ (dparts σ l)
  | [] => rfl
  | (i, x) :: r => by simp only [evParts, dparts, partsV, dev_v, dparts_v ρ σ r]
theorem dfill_v (ρ : Ro) (place : Nat → Option (Nat × Nat)) : ∀ (l : List (Nat × DV)) (cells : List DV), fillS place (dvs ρ cells) (partsV ρ l) = (dfill place cells l).map (dvs ρ)
  | [], cells => rfl
  | (i, x) :: r, cells => by
    simp only [partsV, fillS, dfill, dcells_v]
    cases place i with
    | none => rfl
    | some pl =>
      obtain ⟨off, size⟩ := pl
      cases dcells x with
      | none => rfl
      | some xs =>
        simp only [Option.map_some, dvs_length]
        cases Nat.beq xs.length size with
        | false => rfl
        | true => cases Nat.ble (off + xs.length) cells.length with
          | false => rfl
          | true => rw [← dvs_spl]; exact dfill_v ρ place r _
theorem dfill_sc {n : Nat} (place : Nat → Option (Nat × Nat)) : ∀ (l : List (Nat × DV)) (cells out : List DV), Sc n (dvsVars cells) → (∀ p ∈ l, Sc n p.2.vars) → dfill place cells l = some out → Sc n (dvsVars out)
  | [], cells, out, hc, _, h => by simp only [dfill, Option.some.injEq] at h; subst h; exact hc
  | (i, x) :: r, cells, out, hc, hl, h => by
    simp only [dfill] at h
    split at h
    · rename_i off size xs hp hx
      split at h
      · exact dfill_sc place r _ _ (spl_sc hc (dcells_sc hx (hl (i, x) (List.mem_cons_self ..)))) (fun p hp => hl p (List.mem_cons_of_mem _ hp)) h
      · cases h
    · cases h
theorem dparts_sc {σ : DSt} (hs : σ.sc) : ∀ (l : List (Nat × Operand)), ∀ p ∈ dparts σ l, Sc σ.nx p.2.vars
  | [], p, hp => by simp [dparts] at hp
  | (i, x) :: r, p, hp => by
    simp only [dparts, List.mem_cons] at hp
    rcases hp with rfl | hp
    · exact hs.dev x
    · exact dparts_sc hs r p hp
def dbuilt (P : Program) (t : TypeId) (parts : List (Nat × DV)) : Option (List DV) :=
  match P.info? t, P.underlying t with
  | some it, some (.array _ e) =>
    match it.zero, P.info? e with
    | some z, some ie => match dzeros z with
      | some cs => dfill (fun i => some (i * ie.size, ie.size)) cs parts
      | none => none
    | _, _ => none
  | some it, some (.struct fields) =>
    match it.zero, fields.toList.mapM (fun f => (P.info? f.type).map fun i => (f.offset, i.size)) with
    | some z, some places => match dzeros z with
      | some cs => dfill (places.toArray[·]?) cs parts
      | none => none
    | _, _ => none
  | _, _ => none
theorem dbuilt_v (P : Program) (ρ : Ro) (t : TypeId) (l : List (Nat × DV)) : builtS P t (partsV ρ l) = (dbuilt P t l).map (dvs ρ) := by
  unfold builtS dbuilt
  cases P.info? t with
  | none => rfl
  | some it => cases P.underlying t with
    | none => rfl
    | some d => cases d with
      | array m e =>
        simp only
        cases it.zero with
        | none => rfl
        | some z => cases P.info? e with
          | none => rfl
          | some ie =>
            simp only [dzeros_v ρ]
            cases dzeros z with
            | none => rfl
            | some cs => simp only [Option.map_some]; exact dfill_v ρ _ l cs
      | struct fs =>
        simp only
        cases it.zero with
        | none => rfl
        | some z => cases List.mapM (fun f : Field => Option.map (fun i : TypeInfo => (f.offset, i.size)) (P.info? f.type)) fs.toList with
          | none => rfl
          | some places =>
            simp only [dzeros_v ρ]
            cases dzeros z with
            | none => rfl
            | some cs => simp only [Option.map_some]; exact dfill_v ρ _ l cs
      | _ => rfl
theorem dbuilt_sc {P : Program} {n : Nat} {t : TypeId} {l : List (Nat × DV)} {out : List DV} (hl : ∀ p ∈ l, Sc n p.2.vars) (h : dbuilt P t l = some out) : Sc n (dvsVars out) := by
  unfold dbuilt at h
  split at h
  · split at h
    · split at h
      · rename_i cs hz; exact dfill_sc _ _ _ _ (dzeros_sc hz) hl h
      · cases h
    · cases h
  · split at h
    · split at h
      · rename_i cs hz; exact dfill_sc _ _ _ _ (dzeros_sc hz) hl h
      · cases h
    · cases h
  · cases h
def dBuild (P : Program) (σ : DSt) (o : Oper) (t : TypeId) (parts : Array (Nat × Operand)) : DR :=
  match dbuilt P t (dparts σ parts.toList) with
  | some xs => some (σ.put o.dst (.agg xs), [])
  | none => none
theorem dBuild_good {P : Program} {I : Pr} {J : Ex} {σ σ' : DSt} {o : Oper} {t : TypeId} {parts : Array (Nat × Operand)} {gs : List G} (ho : o.op = .build t parts) (h : dBuild P σ o t parts = some (σ', gs)) : Good P I J σ o σ' gs := by
  unfold dBuild at h
  split at h
  · rename_i xs hx
    simp only [Option.some.injEq, Prod.mk.injEq] at h; obtain ⟨rfl, rfl⟩ := h
    refine good_put (fun hs => by simp only [DV.vars]; exact dbuilt_sc (dparts_sc hs _) hx) fun ρ hs hok _ => ⟨⟨[], []⟩, [], ?_, trivial⟩
    simp [aop, ho, tr, opBuild, dparts_v, dbuilt_v, hx, DV.v]
  · cases h
def dloadOut (P : Program) (t : TypeId) (off : Nat) (cells : List DV) : Option DV :=
  match aggT P t, P.info? t with
  | some true, some i => match Nat.ble (off + i.size) cells.length with
    | true => some (.agg ((cells.drop off).take i.size))
    | false => none
  | some false, some i => match Nat.beq i.size 1, (cells.drop off) with
    | true, x :: _ => some x
    | _, _ => none
  | _, _ => none
theorem dloadOut_v (P : Program) (ρ : Ro) (t : TypeId) (off : Nat) (cells : List DV) : loadOut P t off (dvs ρ cells) = (dloadOut P t off cells).map (DV.v ρ) := by
  unfold loadOut dloadOut
  cases aggT P t with
  | none => rfl
  | some ag => cases P.info? t with
    | none => cases ag <;> rfl
    | some i => cases ag with
      | true =>
        simp only [dvs_length]
        cases Nat.ble (off + i.size) cells.length <;> simp [DV.v, dvs_take, dvs_drop]
      | false =>
        simp only [← dvs_drop]
        cases List.drop off cells with
        | nil => simp only [dvs]; cases Nat.beq i.size 1 <;> rfl
        | cons x xs => simp only [dvs]; cases Nat.beq i.size 1 <;> rfl
theorem dloadOut_sc {P : Program} {n : Nat} {t : TypeId} {off : Nat} {cells : List DV} {x : DV} (hc : Sc n (dvsVars cells)) (h : dloadOut P t off cells = some x) : Sc n x.vars := by
  rw [dvs_sc] at hc
  unfold dloadOut at h
  split at h
  · split at h
    · simp only [Option.some.injEq] at h; subst h
      simp only [DV.vars]; rw [dvs_sc]
      exact fun y hy => hc y (List.mem_of_mem_drop (List.mem_of_mem_take hy))
    · cases h
  · split at h
    · rename_i hx
      simp only [Option.some.injEq] at h; subst h
      exact hc _ (List.mem_of_mem_drop (by rw [hx]; exact List.mem_cons_self ..))
    · cases h
  · cases h
def dmkp (fr : Bool) : DP → DV
  | .sl l => .p (.sl l) fr
  | x => .p x true
def dmkps (fr : Bool) : List DP → List DV
  | [] => []
  | x :: xs => dmkp fr x :: dmkps fr xs
theorem dmkp_v (ρ : Ro) (fr : Bool) (x : DP) : mkp fr (x.v ρ) = (dmkp fr x).v ρ := by
  cases x <;> simp [DP.v, mkp, dmkp, DV.v]
theorem dmkps_v (ρ : Ro) (fr : Bool) : ∀ xs : List DP, (rowV ρ xs).map (mkp fr) = dvs ρ (dmkps fr xs)
  | [] => by simp [rowV, dmkps, dvs]
  | x :: xs => by simp [rowV, dmkps, dvs, dmkp_v, dmkps_v ρ fr xs]
theorem dmkps_sc {n : Nat} {fr : Bool} : ∀ {xs : List DP}, Sc n (rowVars xs) → Sc n (dvsVars (dmkps fr xs))
  | [], _ => Sc.nil
  | x :: xs, h => by
    simp only [rowVars, Sc.app] at h
    simp only [dmkps, dvsVars, Sc.app]
    exact ⟨by cases x <;> simpa [dmkp, DV.vars] using h.1, dmkps_sc h.2⟩
def dField (P : Program) (σ : DSt) (o : Oper) (t : TypeId) (x : Operand) (f : Nat) : DR :=
  match dev σ x, fieldOff0 P t f with
  | .agg xs, some (off, ft) => match dloadOut P ft off xs with
    | some v => some (σ.put o.dst v, [])
    | none => none
  | _, _ => none
theorem dField_good {P : Program} {I : Pr} {J : Ex} {σ σ' : DSt} {o : Oper} {t : TypeId} {x : Operand} {f : Nat} {gs : List G} (ho : o.op = .field t x f) (h : dField P σ o t x f = some (σ', gs)) : Good P I J σ o σ' gs := by
  unfold dField at h
  split at h
  · rename_i xs off ft he hf
    split at h
    · rename_i v hv
      simp only [Option.some.injEq, Prod.mk.injEq] at h; obtain ⟨rfl, rfl⟩ := h
      refine good_put (fun hs => dloadOut_sc (by have := hs.dev x; rw [he] at this; simpa [DV.vars] using this) hv) fun ρ hs hok _ => ⟨⟨[], []⟩, [], ?_, trivial⟩
      simp [aop, ho, tr, opField, dev_v, he, DV.v, hf, partOut, dloadOut_v, hv]
    · cases h
  · cases h
def dExtract (σ : DSt) (o : Oper) (x : Operand) (n : Nat) : DR :=
  match dev σ x with
  | .tup xs => match xs[n]? with
    | some v => some (σ.put o.dst v, [])
    | none => none
  | _ => none
theorem dExtract_good {P : Program} {I : Pr} {J : Ex} {σ σ' : DSt} {o : Oper} {x : Operand} {n : Nat} {gs : List G} (ho : o.op = .extract x n) (h : dExtract σ o x n = some (σ', gs)) : Good P I J σ o σ' gs := by
  unfold dExtract at h
  split at h
  · rename_i xs he
    split at h
    · rename_i v hv
      simp only [Option.some.injEq, Prod.mk.injEq] at h; obtain ⟨rfl, rfl⟩ := h
      refine good_put (fun hs => ?_) fun ρ hs hok _ => ⟨⟨[], []⟩, [], ?_, trivial⟩
      · have := hs.dev x; rw [he] at this; simp only [DV.vars] at this
        exact (dvs_sc.1 this) v (List.mem_of_getElem? hv)
      · simp [aop, ho, tr, opExtract, dev_v, he, DV.v, dvs_map, hv]
    · cases h
  · cases h
def dIface (P : Program) (σ : DSt) (o : Oper) (t : TypeId) (x : Operand) : DR :=
  match P.underlying t with
  | some (.interface _) => none
  | some _ => some (σ.put o.dst (.ifc t (dev σ x)), [])
  | none => none
theorem dIface_good {P : Program} {I : Pr} {J : Ex} {σ σ' : DSt} {o : Oper} {t : TypeId} {x : Operand} {gs : List G} (ho : o.op = .makeInterface t x) (h : dIface P σ o t x = some (σ', gs)) : Good P I J σ o σ' gs := by
  unfold dIface at h
  split at h
  · cases h
  · rename_i d hn hu
    simp only [Option.some.injEq, Prod.mk.injEq] at h; obtain ⟨rfl, rfl⟩ := h
    refine good_put (fun hs => by simpa [DV.vars] using hs.dev x) fun ρ hs hok _ => ⟨⟨[], []⟩, [], ?_, trivial⟩
    cases d <;> simp_all [aop, tr, opIface, dev_v, DV.v]
  · cases h
def dFunc (σ : DSt) (o : Oper) (f : Fn) (first caps : Array Operand) : DR :=
  some (σ.put o.dst (.fn f (devs σ first.toList) (devs σ caps.toList)), [])
theorem dFunc_good {P : Program} {I : Pr} {J : Ex} {σ σ' : DSt} {o : Oper} {f : Fn} {first caps : Array Operand} {gs : List G} (ho : o.op = .makeFunc f first caps) (h : dFunc σ o f first caps = some (σ', gs)) : Good P I J σ o σ' gs := by
  simp only [dFunc, Option.some.injEq, Prod.mk.injEq] at h; obtain ⟨rfl, rfl⟩ := h
  refine good_put (fun hs => by simp only [DV.vars, Sc.app]; exact ⟨hs.devs _, hs.devs _⟩) fun ρ hs hok _ => ⟨⟨[], []⟩, [], ?_, trivial⟩
  simp [aop, ho, tr, opFunc, devs_v, DV.v]
def dshift (n m : Nat) : DV → Option DV
  | .ptr k off => some (.ptr k (off + n))
  | .pd row 0 fr => some (.pd ((row.drop n).take m) 0 fr)
  | .vptr k sz i off => some (.vptr k sz i (off + n))
  | _ => none
theorem dshift_v (ρ : Ro) (n m : Nat) (x : DV) : shift n m (x.v ρ) = (dshift n m x).map (DV.v ρ) := by
  cases x with
  | pd row off fr => cases off <;> simp [DV.v, shift, dshift, rowV_take, rowV_drop]
  | _ => simp [DV.v, shift, dshift]
theorem dshift_sc {k n m : Nat} {x y : DV} (h : dshift n m x = some y) (hx : Sc k x.vars) : Sc k y.vars := by
  cases x with
  | pd row off fr =>
    cases off with
    | zero =>
      simp only [dshift, Option.some.injEq] at h; subst h
      simp only [DV.vars, row_sc] at hx ⊢
      exact fun y hy => hx y (List.mem_of_mem_drop (List.mem_of_mem_take hy))
    | succ _ => simp [dshift] at h
  | ptr _ _ => simp only [dshift, Option.some.injEq] at h; subst h; exact hx
  | vptr _ _ _ _ => simp only [dshift, Option.some.injEq] at h; subst h; exact hx
  | _ => simp [dshift] at h
def dFieldAddr (P : Program) (σ : DSt) (o : Oper) (s : TypeId) (x : Operand) (f : Nat) : DR :=
  match fieldOff P s f with
  | some (n, m) => match dev σ x with
    | .rp k off => some (σ.put o.dst (.rp k (off + n)), [])
    | y => match dshift n m y with
      | some v => some (σ.put o.dst v, [])
      | none => none
  | none => none
theorem rawP_pd {ρ : Ro} {x : DV} (h : ∀ k off, x ≠ .rp k off) (h2 : ∀ y fr, x ≠ .p y fr) : rawP (x.v ρ) = none := by
  cases x <;> simp_all [DV.v, rawP]
theorem dFieldAddr_good {P : Program} {I : Pr} {J : Ex} {σ σ' : DSt} {o : Oper} {s : TypeId} {x : Operand} {f : Nat} {gs : List G} (ho : o.op = .fieldAddr s x f) (h : dFieldAddr P σ o s x f = some (σ', gs)) : Good P I J σ o σ' gs := by
  unfold dFieldAddr at h
  split at h
  · rename_i n m hf
    split at h
    · rename_i k off he
      simp only [Option.some.injEq, Prod.mk.injEq] at h; obtain ⟨rfl, rfl⟩ := h
      refine good_put (fun hs => by have := hs.dev x; rw [he] at this; simpa [DV.vars] using this) fun ρ hs hok _ => ⟨⟨[], []⟩, [], ?_, trivial⟩
      simp [aop, ho, tr, opRawField, dev_v, he, DV.v, rawP, hf, Nat.add_assoc]
    · rename_i hn
      split at h
      · rename_i v hv
        simp only [Option.some.injEq, Prod.mk.injEq] at h; obtain ⟨rfl, rfl⟩ := h
        refine good_put (fun hs => dshift_sc hv (hs.dev x)) fun ρ hs hok _ => ⟨⟨[], []⟩, [], ?_, trivial⟩
        have hr : rawP ((dev σ x).v ρ) = none := rawP_pd hn (fun y fr e => by rw [e] at hv; simp [dshift] at hv)
        simp [aop, ho, tr, opRawField, dev_v, hr, opFieldAddr, hf, dshift_v, hv]
      · cases h
  · cases h
def dNilCheck (σ : DSt) (o : Oper) (x : Operand) : DR :=
  match dev σ x with
  | .ptr k off => some (σ.put o.dst (.ptr k off), [])
  | .pd row off fr => some (σ.put o.dst (.pd row off fr), [])
  | .vptr k sz i off => some (σ.put o.dst (.vptr k sz i off), [])
  | .ifc t y => some (σ.put o.dst (.ifc t y), [])
  | .fn (.func f) first caps => some (σ.put o.dst (.fn (.func f) first caps), [])
  | .rp k off => some (σ.put o.dst (.rp k off), [])
  | _ => none
theorem dNilCheck_good {P : Program} {I : Pr} {J : Ex} {σ σ' : DSt} {o : Oper} {x : Operand} {gs : List G} (ho : o.op = .nilCheck x) (h : dNilCheck σ o x = some (σ', gs)) : Good P I J σ o σ' gs := by
  unfold dNilCheck at h
  split at h <;> first
    | (rename_i he
       simp only [Option.some.injEq, Prod.mk.injEq] at h; obtain ⟨rfl, rfl⟩ := h
       refine good_put (fun hs => by have := hs.dev x; rw [he] at this; exact this) fun ρ hs hok _ => ⟨⟨[], []⟩, [], ?_, trivial⟩
       simp [aop, ho, tr, opRawNil, opNilCheck, dev_v, he, DV.v, rawP])
    | cases h
end Go.TL
namespace Go.TL
def NoArr (s : St) : Prop := ∀ k t sz rows len m, lk s.tab k ≠ some (.arr t sz rows len m)
theorem noArr {J : Ex} {ρ : Ro} {σ : DSt} : NoArr (σ.v J ρ) := by
  intro k t sz rows len m h
  simp only [DSt.v, lk_tabV] at h
  cases hl : lk σ.tab k with
  | none => simp [hl] at h
  | some x => rw [hl] at h; cases x <;> simp [DO.v] at h
theorem loadArr_none {P : Program} {H : Hint} {s : St} {o : Oper} {t : TypeId} {x : Operand} (h : NoArr s) : opLoadArr P H s o t x = none := by
  unfold opLoadArr
  split
  · split
    · rename_i hl _; exact absurd hl (h _ _ _ _ _ _)
    · rfl
  · rfl
theorem storeArr_none {P : Program} {s : St} {o : Oper} {t : TypeId} {x y : Operand} (h : NoArr s) : opStoreArr P s o t x y = none := by
  unfold opStoreArr
  split
  · split
    · rename_i hl _; exact absurd hl (h _ _ _ _ _ _)
    · rfl
  · rfl
theorem indexArr_none {P : Program} {s : St} {o : Oper} {t : TypeId} {x y : Operand} (h : NoArr s) : opIndexArr P s o t x y = none := by
  unfold opIndexArr
  split
  · split
    · rename_i hl _; exact absurd hl (h _ _ _ _ _ _)
    · rfl
  · rfl
theorem lenArr_none {P : Program} {s : St} {o : Oper} {t : TypeId} {x : Operand} (h : NoArr s) : opLenArr P s o x t = none := by
  unfold opLenArr
  split
  · split
    · rename_i hl; exact absurd hl (h _ _ _ _ _ _)
    · rfl
  · rfl
theorem appendArr_none {P : Program} {s : St} {o : Oper} {t : TypeId} {x y : Operand} (h : NoArr s) : opAppendArr P s o x y t = none := by
  unfold opAppendArr
  split
  · split
    · rename_i hl _; exact absurd hl (h _ _ _ _ _ _)
    · rfl
  · rfl
theorem tys_sc {σ : DSt} (hs : σ.sc) {l : Nat} {e : TypeId} (h : lk σ.tys l = some e) : l < σ.nx := by
  have : ∀ {t : List (Nat × TypeId)}, lk t l = some e → (l, e) ∈ t := by
    intro t
    induction t with
    | nil => intro h; simp [lk] at h
    | cons x r ih =>
      obtain ⟨j, y⟩ := x
      intro h
      simp only [lk] at h
      cases hb : Nat.beq j l with
      | true => simp only [hb, Option.some.injEq] at h; subst h; rw [Nat.eq_of_beq_eq_true hb]; exact List.mem_cons_self ..
      | false => simp only [hb] at h; exact List.mem_cons_of_mem _ (ih h)
  exact hs.tys l e (this h)
def rowLin (l : Nat) (R : RowR) : List Lin := (R.rz.ax (-1) (Lin.at (4 * l + 2))).addc 1 :: R.lin
def inR (i : Lin) (l : Nat) : List G := [.le (Lin.scale (-1) i), .le ((i.ax (-1) (Lin.at (4 * l + 1))).addc 1)]
theorem inR_v {I : Pr} {ρ : Ro} {i : Lin} {l : Nat} (h : gsV I ρ (inR i l)) : 0 ≤ i.v ρ ∧ i.v ρ < ((ρ l).l.length : Int) := by
  simp only [inR, gsV, G.v, Lin.scale_v, Lin.addc_v, Lin.ax_v, Lin.at_v, atomV1] at h
  omega
structure RowNew (P : Program) (I : Pr) (σ : DSt) (l : Nat) (i : Lin) (R : RowR) (ρ ρ' : Ro) : Prop where
  ag : Agree σ.nx ρ ρ'
  g : Gok ρ'
  tys : tysV P ρ' R.tys
  lin : linsV ρ' (rowLin l R)
  row : (ρ l).l[(i.v ρ).toNat]? = some (rowV ρ' R.cells)
  pf : prsV I ρ' [.row l i R.cells]
theorem row_new {P : Program} {I : Pr} {σ : DSt} {l : Nat} {i : Lin} {e : TypeId} {R : RowR} {ρ : Ro} (hs : σ.sc) (hok : σ.ok P I ρ) (hl : lk σ.tys l = some e) (hi : Sc σ.nx i.vars)
    (hR : drow (cks P e) σ.nx = some R) (h0 : 0 ≤ i.v ρ) (h1 : i.v ρ < ((ρ l).l.length : Int)) : ∃ ρ', RowNew P I σ l i R ρ ρ' := by
  have hlt : (i.v ρ).toNat < (ρ l).l.length := by omega
  have hty := tysV_lk hok.tys hl
  have hmem : (ρ l).l[(i.v ρ).toNat] ∈ (ρ l).l := List.getElem_mem hlt
  obtain ⟨ρ', hr⟩ := drow_ok (P := P) (cks P e) σ.nx R _ ρ hR (hty.2 _ hmem) hok.g
  have hget : (ρ l).l[(i.v ρ).toNat]? = some (rowV ρ' R.cells) := by rw [hr.cells]; simp [hlt]
  have hl' : ρ' l = ρ l := hr.ag l (tys_sc hs hl)
  refine ⟨ρ', hr.ag, hr.g, hr.tys, ⟨?_, hr.lin⟩, hget, ⟨?_, ?_⟩, trivial⟩
  · have h2 := size_mem hmem
    rw [Lin.addc_v, Lin.ax_v, Lin.at_v, atomV2, hl', hr.rz]; omega
  · rw [Lin.ag hr.ag hi]; exact h0
  · rw [Lin.ag hr.ag hi, hl']; exact hget
theorem grow_eq {σ : DSt} {R : RowR} (h : RowSc σ.nx R) : σ.nx + (R.nx - σ.nx) = R.nx := by have := h.le; omega
theorem rowLin_sc {σ : DSt} {l : Nat} {R : RowR} (hs : RowSc σ.nx R) (hl : l < σ.nx) : ∀ e ∈ rowLin l R, Sc R.nx e.vars := by
  intro e he
  simp only [rowLin, List.mem_cons] at he
  rcases he with rfl | he
  · have := hs.le; exact Lin.addc_sc (Lin.ax_sc hs.rz (Lin.at_sc (by omega)))
  · exact hs.lin e he
theorem rowGrow_sc {σ : DSt} {l : Nat} {i : Lin} {R : RowR} (hs : RowSc σ.nx R) (hl : l < σ.nx) (hi : Sc σ.nx i.vars) : GrowSc (σ.nx + (R.nx - σ.nx)) R.tys (rowLin l R) [.row l i R.cells] := by
  rw [grow_eq hs]
  have hle := hs.le
  refine ⟨hs.tys, rowLin_sc hs hl, ?_⟩
  intro f hf
  simp only [List.mem_singleton] at hf; subst hf
  simp only [PF.vars, Sc.cons, Sc.app]
  exact ⟨Nat.lt_of_lt_of_le hl hle, hi.mono hle, hs.cells⟩
def dLoad (P : Program) (σ : DSt) (o : Oper) (t : TypeId) (x : Operand) : DR :=
  match dev σ x with
  | .ptr k off => match lk σ.tab k with
    | some (.box _ cells) => match dloadOut P t off cells with
      | some v => some (σ.put o.dst v, [])
      | none => none
    | _ => none
  | .pd row off fr => match dloadOut P t off (dmkps fr row) with
    | some v => some (σ.put o.dst v, [])
    | none => none
  | .vptr k sz i off => match lk σ.tab k, o.dst with
    | some (.vec _ sz' (some l) fr), some _ => match lk σ.tys l, Nat.beq sz sz' with
      | some e, true => match drow (cks P e) σ.nx with
        | some R => match dloadOut P t off (dmkps fr R.cells) with
          | some v => some ((σ.grow (R.nx - σ.nx) R.tys (rowLin l R) [.row l i R.cells]).put o.dst v, inR i l)
          | none => none
        | none => none
      | _, _ => none
    | _, _ => none
  | _ => none
theorem aop_load {P : Program} {H : Hint} {s : St} {o : Oper} {t : TypeId} {x : Operand} (ho : o.op = .load t x) (hn : NoArr s) (hr : rawP (ev s x) = none) :
    aop P H s o = match ev s x with | .vptr _ _ _ _ => nt (opLoad P H s o t x) | _ => tr (opLoad P H s o t x) := by
  unfold aop
  simp only [ho, loadArr_none hn, opRawLoad, hr]
  cases ev s x <;> rfl
theorem dtab_v {J : Ex} {ρ : Ro} {σ : DSt} {k : Nat} {x : DO} (h : lk σ.tab k = some x) : lk (σ.v J ρ).tab k = some (x.v J ρ) := by
  simp [DSt.v, lk_tabV, h]
theorem dLoad_good {P : Program} {I : Pr} {J : Ex} {σ σ' : DSt} {o : Oper} {t : TypeId} {x : Operand} {gs : List G} (ho : o.op = .load t x) (h : dLoad P σ o t x = some (σ', gs)) : Good P I J σ o σ' gs := by
  unfold dLoad at h
  split at h
  · rename_i k off he
    split at h
    · rename_i bt cells hk
      split at h
      · rename_i v hv
        simp only [Option.some.injEq, Prod.mk.injEq] at h; obtain ⟨rfl, rfl⟩ := h
        refine good_put (fun hs => dloadOut_sc (by have := hs.tab k _ hk; simpa [DO.vars] using this) hv) fun ρ hs hok _ => ⟨⟨[], []⟩, [], ?_, trivial⟩
        have e1 : ev (σ.v J ρ) x = .ptr k off := by rw [dev_v, he]; simp [DV.v]
        rw [aop_load ho noArr (by rw [e1]; rfl), e1]
        simp [opLoad, e1, dtab_v hk, DO.v, dloadOut_v, hv, tr]
      · cases h
    · cases h
  · rename_i row off fr he
    split at h
    · rename_i v hv
      simp only [Option.some.injEq, Prod.mk.injEq] at h; obtain ⟨rfl, rfl⟩ := h
      refine good_put (fun hs => dloadOut_sc (dmkps_sc (by have := hs.dev x; rw [he] at this; simpa [DV.vars] using this)) hv) fun ρ hs hok _ => ⟨⟨[], []⟩, [], ?_, trivial⟩
      have e1 : ev (σ.v J ρ) x = .pd (rowV ρ row) off fr := by rw [dev_v, he]; simp [DV.v]
      rw [aop_load ho noArr (by rw [e1]; rfl), e1]
      simp [opLoad, e1, dmkps_v, dloadOut_v, hv, tr]
    · cases h
  · rename_i k sz i off he
    split at h
    · rename_i e' sz' l fr d hk hd
      split at h
      · rename_i e hl hsz
        split at h
        · rename_i R hR
          split at h
          · rename_i v hv
            simp only [Option.some.injEq, Prod.mk.injEq] at h; obtain ⟨rfl, rfl⟩ := h
            have hRs := drow_sc _ _ _ hR
            have hisc : σ.sc → Sc σ.nx i.vars := fun hs => by have := hs.dev x; rw [he] at this; simpa [DV.vars] using this
            refine good_new (fun hs => by rw [grow_eq hRs]; exact dloadOut_sc (dmkps_sc hRs.cells) hv) (fun hs => rowGrow_sc hRs (tys_sc hs hl) (hisc hs)) ?_
            intro ρ hs hok hg
            obtain ⟨g0, g1⟩ := inR_v hg
            obtain ⟨ρ', hn⟩ := row_new hs hok hl (hisc hs) hR g0 g1
            refine ⟨ρ', hn.ag, hn.g, hn.tys, hn.lin, hn.pf, ⟨[(d, rowV ρ' R.cells)], []⟩, [(ρ l).l[(i.v ρ).toNat]? = some (rowV ρ' R.cells)], ?_, ⟨hn.row, trivial⟩⟩
            have e1 : ev (σ.v J ρ) x = .vptr k sz (i.v ρ).toNat off := by rw [dev_v, he]; simp [DV.v]
            rw [aop_load ho noArr (by rw [e1]; rfl), e1]
            simp [opLoad, e1, dtab_v hk, DO.v, lvV, hd, lk, dmkps_v, dloadOut_v, hv, hsz, nt]
          · cases h
        · cases h
      · cases h
    · cases h
  · cases h
def nonneg (i : Lin) : G := .le (Lin.scale (-1) i)
def oldRow (l : Nat) (i : Lin) : List PF → Option (List DP)
  | [] => none
  | .row l' i' cells :: r => match Nat.beq l l', i.beq i' with
    | true, true => some cells
    | _, _ => oldRow l i r
  | _ :: r => oldRow l i r
theorem oldRow_v {I : Pr} {ρ : Ro} {l : Nat} {i : Lin} {cells : List DP} : ∀ {fs : List PF}, prsV I ρ fs → oldRow l i fs = some cells → 0 ≤ i.v ρ ∧ (ρ l).l[(i.v ρ).toNat]? = some (rowV ρ cells)
  | [], _, h => by simp [oldRow] at h
  | f :: r, hp, h => by
    cases f with
    | row l' i' c =>
      simp only [oldRow] at h
      split at h
      · rename_i h1 h2
        simp only [Option.some.injEq] at h; subst h
        rw [Nat.eq_of_beq_eq_true h1, Lin.beq_eq h2]
        exact hp.1
      · exact oldRow_v hp.2 h
    | _ => simp only [oldRow] at h; exact oldRow_v hp.2 h
theorem oldRow_sc {n l : Nat} {i : Lin} {cells : List DP} : ∀ {fs : List PF}, (∀ f ∈ fs, Sc n f.vars) → oldRow l i fs = some cells → Sc n (rowVars cells)
  | [], _, h => by simp [oldRow] at h
  | f :: r, hp, h => by
    have hr : ∀ f ∈ r, Sc n f.vars := fun f hf => hp f (List.mem_cons_of_mem _ hf)
    cases f with
    | row l' i' c =>
      simp only [oldRow] at h
      split at h
      · simp only [Option.some.injEq] at h; subst h
        have := hp _ (List.mem_cons_self ..)
        simp only [PF.vars, Sc.cons, Sc.app] at this
        exact this.2.2
      · exact oldRow_sc hr h
    | _ => simp only [oldRow] at h; exact oldRow_sc hr h
def dInt : DV → Option (IntKind × Lin)
  | .p (.int k e) _ => some (k, e)
  | _ => none
theorem dInt_v {ρ : Ro} {x : DV} {k : IntKind} {e : Lin} (h : dInt x = some (k, e)) : isInt (x.v ρ) = some (k, e.v ρ) ∧ intOf (x.v ρ) = some (e.v ρ) := by
  unfold dInt at h
  split at h
  · simp only [Option.some.injEq, Prod.mk.injEq] at h; obtain ⟨rfl, rfl⟩ := h
    simp [DV.v, DP.v, isInt, intOf]
  · cases h
theorem dInt_sc {n : Nat} {x : DV} {k : IntKind} {e : Lin} (h : dInt x = some (k, e)) (hx : Sc n x.vars) : Sc n e.vars := by
  unfold dInt at h
  split at h
  · simp only [Option.some.injEq, Prod.mk.injEq] at h; obtain ⟨rfl, rfl⟩ := h
    simpa [DV.vars, DP.vars] using hx
  · cases h
def dIndexAddr (P : Program) (σ : DSt) (o : Oper) (t : TypeId) (x ix : Operand) : DR :=
  match dInt (dev σ ix), o.dst with
  | some (_, n), some _ => match dev σ x, P.underlying t with
    | .p (.sl (some l)) fr, some (.slice e) => match lk σ.tys l, P.info? e with
      | some e', some i => match Nat.beq e e' with
        | true => match oldRow l n σ.prs with
          | some cells => match Nat.beq cells.length i.size with
            | true => some (σ.put o.dst (.pd cells 0 fr), [])
            | false => none
          | none => match drow (cks P e) σ.nx with
            | some R => match Nat.beq R.cells.length i.size with
              | true => some ((σ.grow (R.nx - σ.nx) R.tys (rowLin l R) [.row l n R.cells]).put o.dst (.pd R.cells 0 fr), inR n l)
              | false => none
            | none => none
        | false => none
      | _, _ => none
    | .vec k, some (.slice e) => match lk σ.tab k, P.info? e with
      | some (.vec _ sz (some l) _), some i => match Nat.beq sz i.size with
        | true => some (σ.put o.dst (.vptr k sz n 0), inR n l)
        | false => none
      | _, _ => none
    | .ptr k off, some (.array len e) => match P.info? e, n.t, n.c with
      | some i, [], .ofNat m => match Nat.ble (m + 1) len with
        | true => some (σ.put o.dst (.ptr k (off + m * i.size)), [])
        | false => none
      | _, _, _ => none
    | _, _ => none
  | _, _ => none
theorem aop_index {P : Program} {H : Hint} {s : St} {o : Oper} {t : TypeId} {x ix : Operand} (ho : o.op = .indexAddr t x ix) (hn : NoArr s) (hr : rawS (ev s x) = none) :
    aop P H s o = match ev s x with | .ptr _ _ => tr (opIndexAddr P H s o t x ix) | _ => nt (opIndexAddr P H s o t x ix) := by
  unfold aop
  simp only [ho, indexArr_none hn, opRawIndex, hr]
  cases ev s x <;> rfl
theorem dIndexAddr_good {P : Program} {I : Pr} {J : Ex} {σ σ' : DSt} {o : Oper} {t : TypeId} {x ix : Operand} {gs : List G} (ho : o.op = .indexAddr t x ix) (h : dIndexAddr P σ o t x ix = some (σ', gs)) : Good P I J σ o σ' gs := by
  unfold dIndexAddr at h
  split at h
  · rename_i kk n d hn hd
    have hnsc : σ.sc → Sc σ.nx n.vars := fun hs => dInt_sc hn (hs.dev ix)
    have hiv : ∀ ρ, intOf (ev (σ.v J ρ) ix) = some (n.v ρ) := fun ρ => by rw [dev_v]; exact (dInt_v hn).2
    split at h
    · rename_i l fr e he hu
      have e1 : ∀ ρ, ev (σ.v J ρ) x = .p (.sl (ρ l).l) fr := fun ρ => by rw [dev_v, he]; simp [DV.v, DP.v, lvV]
      split at h
      · rename_i e' i hl hi
        split at h
        · rename_i hee
          have := Nat.eq_of_beq_eq_true hee; subst this
          split at h
          · rename_i cells hold
            split at h
            · rename_i hlen
              simp only [Option.some.injEq, Prod.mk.injEq] at h; obtain ⟨rfl, rfl⟩ := h
              refine good_put (fun hs => by simpa [DV.vars] using oldRow_sc hs.prs hold) fun ρ hs hok _ => ?_
              obtain ⟨h0, h1⟩ := oldRow_v hok.prs hold
              refine ⟨⟨[(d, rowV ρ cells)], []⟩, [0 ≤ n.v ρ ∧ (ρ l).l[(n.v ρ).toNat]? = some (rowV ρ cells)], ?_, ⟨⟨h0, h1⟩, trivial⟩⟩
              rw [aop_index ho noArr (by rw [e1]; rfl), e1]
              simp [opIndexAddr, hiv, hd, e1, hu, lk, hi, rowV_length, hlen, nt, DV.v]
            · cases h
          · split at h
            · rename_i R hR
              split at h
              · rename_i hlen
                simp only [Option.some.injEq, Prod.mk.injEq] at h; obtain ⟨rfl, rfl⟩ := h
                have hRs := drow_sc _ _ _ hR
                refine good_new (fun hs => by rw [grow_eq hRs]; simpa [DV.vars] using hRs.cells) (fun hs => rowGrow_sc hRs (tys_sc hs hl) (hnsc hs)) ?_
                intro ρ hs hok hg
                obtain ⟨g0, g1⟩ := inR_v hg
                obtain ⟨ρ', hw⟩ := row_new hs hok hl (hnsc hs) hR g0 g1
                refine ⟨ρ', hw.ag, hw.g, hw.tys, hw.lin, hw.pf, ⟨[(d, rowV ρ' R.cells)], []⟩, [0 ≤ n.v ρ ∧ (ρ l).l[(n.v ρ).toNat]? = some (rowV ρ' R.cells)], ?_, ⟨⟨g0, hw.row⟩, trivial⟩⟩
                rw [aop_index ho noArr (by rw [e1]; rfl), e1]
                simp [opIndexAddr, hiv, hd, e1, hu, lk, hi, rowV_length, hlen, nt, DV.v]
              · cases h
            · cases h
        · cases h
      · cases h
    · rename_i k e he hu
      have e1 : ∀ ρ, ev (σ.v J ρ) x = .vec k := fun ρ => by rw [dev_v, he]; simp [DV.v]
      split at h
      · rename_i et sz l fr i hk hi
        split at h
        · rename_i hsz
          simp only [Option.some.injEq, Prod.mk.injEq] at h; obtain ⟨rfl, rfl⟩ := h
          refine good_put (fun hs => by simpa [DV.vars] using hnsc hs) fun ρ hs hok hg => ?_
          obtain ⟨g0, g1⟩ := inR_v hg
          refine ⟨⟨[], []⟩, [0 ≤ n.v ρ ∧ n.v ρ < ((ρ l).l.length : Int)], ?_, ⟨⟨g0, g1⟩, trivial⟩⟩
          rw [aop_index ho noArr (by rw [e1]; rfl), e1]
          simp [opIndexAddr, hiv, hd, e1, hu, dtab_v hk, DO.v, lvV, hi, hsz, nt, DV.v]
        · cases h
      · cases h
    · rename_i k off len e he hu
      have e1 : ∀ ρ, ev (σ.v J ρ) x = .ptr k off := fun ρ => by rw [dev_v, he]; simp [DV.v]
      split at h
      · rename_i i m hi ht hc
        split at h
        · rename_i hm
          simp only [Option.some.injEq, Prod.mk.injEq] at h; obtain ⟨rfl, rfl⟩ := h
          refine good_put (fun hs => by simp [DV.vars, Sc.nil]) fun ρ hs hok hg => ⟨⟨[], []⟩, [], ?_, trivial⟩
          have hv : n.v ρ = Int.ofNat m := by unfold Lin.v; rw [ht, hc]; simp [sumV]
          rw [aop_index ho noArr (by rw [e1]; rfl), e1]
          simp [opIndexAddr, hiv, hv, hd, e1, hu, hi, intLit, hm, tr, DV.v]
        · cases h
      · cases h
    · cases h
  · cases h
end Go.TL
