/- Regions that draw the order of their operations. -/
import Derived.Test.YtaaimmmofkldbaaWl07
import Derived.Test.YtaaimmmofkldbaaWl06
namespace Go.TL
def AAny (P : Program) (n : Nat) (ops : Array Oper) (fuel : Nat) (listed : Array Bool) (σ : St) (Q : Exit → St → Prop) : Prop :=
  ∀ lo w0 E0 a w, Holds (mkC P n lo w0 E0) σ a w → wpAny P .any ops (lift (mkC P n lo w0 E0) Q) fuel listed a w
theorem holds_drew {C : Ctx} {σ : St} {a : Act} {w : World} (h : Holds C σ a w) : Holds C σ a { w with drawn := w.drawn + 1 } := by
  obtain ⟨E, h⟩ := h
  have hk : Keeps w E { w with drawn := w.drawn + 1 } E := ⟨fun _ _ h => ⟨rfl, h⟩, rfl⟩
  refine ⟨E, h.size, h.defers, fun t sv hl => VR.mono hk (fun _ _ h => h) sv _ (h.slots t sv hl), ⟨?_, h.tab.dead, h.tab.own, h.tab.ext⟩, ⟨h.fr.os, h.fr.tape, h.fr.output, h.fr.size, h.fr.keep, h.fr.ext⟩, h.lo, h.ids, h.pres⟩
  intro k ov hl
  exact OR.mono hk (fun _ _ h => h) (fun _ => Iff.rfl) (fun _ _ => rfl) (h.tab.obj k ov hl)
theorem awp_drawn {P : Program} {n id : Nat} {ops : Array Oper} {σ : St} {Q : Exit → St → Prop} (k : Nat) (l : Array Bool) (hm : P.follows .mixedOrders = true) (hk : ops.size = k) (hl : Array.replicate k false = l)
    (h : AAny P n ops k l σ Q) : AWP P n (.region id ops true) σ Q := by
  subst hk; subst hl
  exact fun lo w0 E0 a w hh => wp_region_any hm (h lo w0 E0 a _ (holds_drew hh))
theorem aany_done {P : Program} {n : Nat} {ops : Array Oper} {fuel : Nat} {listed : Array Bool} {σ : St} {Q : Exit → St → Prop} (hr : (Region.ready .any ops listed).isEmpty = true) (h : Q .normal σ) : AAny P n ops fuel listed σ Q :=
  fun _ _ _ _ _ hh => wpAny_done (by simpa using hr) ⟨σ, h, hh⟩ fuel
theorem aany_imp {P : Program} {n : Nat} {ops : Array Oper} {fuel : Nat} {listed : Array Bool} {σ σ' : St} {Q : Exit → St → Prop} (h : Imp P n σ σ') (k : AAny P n ops fuel listed σ' Q) : AAny P n ops fuel listed σ Q :=
  fun lo w0 E0 a w hh => k lo w0 E0 a w (h lo w0 E0 a w hh)
def AllR (P : Program) (n : Nat) (ops : Array Oper) (fuel : Nat) (listed : Array Bool) (σ : St) (Q : Exit → St → Prop) : List Nat → Prop
  | [] => True
  | i :: rs => (∀ lo w0 E0 a w, Holds (mkC P n lo w0 E0) σ a w → wpOp P ops (lift (mkC P n lo w0 E0) Q) i (wpAny P .any ops (lift (mkC P n lo w0 E0) Q) fuel (listed.setIfInBounds i true)) a w) ∧ AllR P n ops fuel listed σ Q rs
theorem AllR_mem {P : Program} {n : Nat} {ops : Array Oper} {fuel : Nat} {listed : Array Bool} {σ : St} {Q : Exit → St → Prop} : ∀ {rs : List Nat}, AllR P n ops fuel listed σ Q rs → ∀ i ∈ rs,
    ∀ lo w0 E0 a w, Holds (mkC P n lo w0 E0) σ a w → wpOp P ops (lift (mkC P n lo w0 E0) Q) i (wpAny P .any ops (lift (mkC P n lo w0 E0) Q) fuel (listed.setIfInBounds i true)) a w
  | [], _, i, hi => by simp at hi
  | j :: rs, h, i, hi => by
    rcases List.mem_cons.1 hi with rfl | hi
    · exact h.1
    · exact AllR_mem h.2 i hi
theorem aany_all {P : Program} {n : Nat} {ops : Array Oper} {fuel : Nat} {listed : Array Bool} {σ : St} {Q : Exit → St → Prop} (rs : List Nat) (hr : Region.ready .any ops listed = rs) (hne : rs.isEmpty = false)
    (h : AllR P n ops fuel listed σ Q rs) : AAny P n ops (fuel + 1) listed σ Q := by
  intro lo w0 E0 a w hh
  refine wpAny_all hr ?_ fun i hi => AllR_mem h i hi lo w0 E0 a w hh
  intro e; rw [e] at hne; simp at hne
theorem aany_take {P : Program} {n : Nat} {H : Hint} {ops : Array Oper} {fuel : Nat} (i : Nat) {listed listed' : Array Bool} {σ σ' : St} {Q : Exit → St → Prop} {o : Oper} {ps : List Prop} (ho : ops.toList[i]? = some o) (hds : dstsB n ops.toList = true)
    (hpure : pureOp o = true) (hw : wantedS σ ops.toList o = some true) (hs : Region.noSelect ops = true) (hfree : Region.free .any ops listed i = true) (hr : (Region.ready .any ops listed).contains i = true)
    (hQ : ∀ c s, Q (.panic c) s → False) (hf : aop P H σ o = some (σ', ps)) (hp : allP ps) (hl : listed.setIfInBounds i true = listed') (h : AAny P n ops fuel listed' σ' Q) : AAny P n ops (fuel + 1) listed σ Q := by
  intro lo w0 E0 a w hh
  subst hl
  have ho' : ops[i]? = some o := by simpa using ho
  have hd : DstOk (mkC P n lo w0 E0) o := fun d hd => dstsB_ok hds o (List.mem_of_getElem? ho) d hd
  obtain ⟨v, hrun, hs'⟩ := aop_pure (C := mkC P n lo w0 E0) hpure hf hp hh hd
  refine wpAny_take (v := v) ho' hs hfree hr ?_ (.inl ⟨wantedS_eq hh (dstsB_ok hds) hw, hrun⟩) (h lo w0 E0 _ _ hs')
  rintro c a' w' ⟨s, hq, _⟩
  exact (hQ c s hq).elim
theorem aany_takeSkip {P : Program} {n : Nat} {ops : Array Oper} {fuel : Nat} (i : Nat) {listed : Array Bool} {σ : St} {Q : Exit → St → Prop} {o : Oper} (ho : ops.toList[i]? = some o) (hds : dstsB n ops.toList = true)
    (hw : wantedS σ ops.toList o = some false) (hs : Region.noSelect ops = true) (hfree : Region.free .any ops listed i = true) (hr : (Region.ready .any ops listed).contains i = true)
    (hQ : ∀ c s, Q (.panic c) s → False) (h : AAny P n ops fuel (listed.setIfInBounds i true) (σ.put o.dst .u) Q) : AAny P n ops (fuel + 1) listed σ Q := by
  intro lo w0 E0 a w hh
  have ho' : ops[i]? = some o := by simpa using ho
  refine wpAny_take (v := undef) ho' hs hfree hr ?_ (.inr ⟨wantedS_eq hh (dstsB_ok hds) hw, rfl⟩) (h lo w0 E0 _ _ (holds_u hh fun d hd => dstsB_ok hds o (List.mem_of_getElem? ho) d hd))
  rintro c a' w' ⟨s, hq, _⟩
  exact (hQ c s hq).elim
theorem call_wp {P : Program} {n : Nat} {lo : Nat} {w0 : World} {E0 : Env} {a : Act} {w : World} {σ : St} {K : Act → World → Prop} {Q : Exit → Act → World → Prop} {o : Oper} {g : FuncId} {svs : List SV} {R : SV → Tab → Prop} (T0 : Tab)
    (hd : ∀ d, o.dst = some d → d < n) (hc : calleeOf P σ o = some (g, svs)) (hok : calleeOk P g = true)
    (hs : ∀ k ov, lk T0 k = some ov → lk σ.tab k = some ov) (hsb : subB T0 T0 = true) (hin : insB T0 svs = true) (hspec : FnS P g svs T0 R) (hh : Holds (mkC P n lo w0 E0) σ a w)
    (hnext : ∀ r T', R r T' → newB n T0 σ.tab T' = true ∧ ∀ a' w', Holds (mkC P n lo w0 E0) ((σ.after T0 T').put o.dst r) a' w' → K a' w') : o.wp P a w K Q := by
  obtain ⟨E, h⟩ := hh
  obtain ⟨vals, hall, hrun⟩ := callee_run (C := mkC P n lo w0 E0) h hc hok
  have hcall := hspec lo w (E.sub T0) _ (Nat.le_trans h.lo h.fr.size) (h.tab.sub hs hsb) (VRs.sub _ _ hin hall)
  unfold Oper.wp
  rw [show (execOp a.eval o).run P w = _ from hrun]
  show Calls P g _ w _
  refine hcall.mono ?_
  rintro e w' ⟨r, v, T', E', rfl, hR, hfr, ht, hr, hp⟩
  obtain ⟨hnew, hnx⟩ := hnext r T' hR
  exact hnx _ _ (after_holds (C := mkC P n lo w0 E0) h hs hfr ht hr hp hnew hd)
end Go.TL
namespace Go.TL
inductive WR (P : Program) : CK → PV → Prop
  | int (k : IntKind) (n : Int) (h1 : k.min ≤ n) (h2 : n ≤ k.max) : WR P (.int k) (.v (.int k n))
  | bool (x : Bool) : WR P .bool (.v (.bool x))
  | str (x : ByteArray) (h : x.size ≤ mostStr) : WR P .str (.v (.string x))
  | rm (e : TypeId) (len : Nat) (rows : List (List PV)) (h : len ≤ rows.length) (hm : len ≤ mostLen) (hr : rows.length ≤ len + 2) (hl : ∀ row ∈ rows, row.length = (cks P e).length)
      (hw : ∀ (row : List PV), row ∈ rows → ∀ (j : Nat) (ck : CK) (x : PV), (cks P e)[j]? = some ck → row[j]? = some x → WR P ck x) : WR P (.sl e) (.rm len rows)
def WRs (P : Program) : List CK → List PV → Prop
  | [], [] => True
  | c :: cs, x :: xs => WR P c x ∧ WRs P cs xs
  | _, _ => False
theorem WRs_iff {P : Program} : ∀ (cs : List CK) (xs : List PV), WRs P cs xs ↔ xs.length = cs.length ∧ ∀ (j : Nat) (ck : CK) (x : PV), cs[j]? = some ck → xs[j]? = some x → WR P ck x
  | [], [] => by simp [WRs]
  | c :: cs, x :: xs => by
    simp only [WRs]
    rw [WRs_iff cs xs]
    constructor
    · rintro ⟨h1, h2, h3⟩
      refine ⟨by simp [h2], ?_⟩
      intro j ck y hc hy
      cases j with
      | zero => simp at hc hy; subst hc; subst hy; exact h1
      | succ j => exact h3 j ck y (by simpa using hc) (by simpa using hy)
    · rintro ⟨h1, h2⟩
      exact ⟨h2 0 c x rfl rfl, by simpa using h1, fun j ck y hc hy => h2 (j + 1) ck y (by simpa using hc) (by simpa using hy)⟩
  | [], _ :: _ => by simp [WRs]
  | _ :: _, [] => by simp [WRs]
def TyR (P : Program) (t : TypeId) (row : List PV) : Prop := WRs P (cks P t) row
theorem TyR.of {P : Program} {t : TypeId} {cs : List CK} {row : List PV} (hc : cks P t = cs) (h : WRs P cs row) : TyR P t row := by unfold TyR; rw [hc]; exact h
theorem TyR.to {P : Program} {t : TypeId} {cs : List CK} {row : List PV} (hc : cks P t = cs) (h : TyR P t row) : WRs P cs row := by unfold TyR at h; rw [hc] at h; exact h
mutual
def PV.er : PV → PV
  | .v x => .v x
  | .sl rows => .sl rows
  | .rm len rows => .sl (erRows len rows)
def erRow : List PV → List PV
  | [] => []
  | x :: xs => PV.er x :: erRow xs
def erRows : Nat → List (List PV) → List (List PV)
  | _, [] => []
  | 0, _ :: _ => []
  | n + 1, r :: rs => erRow r :: erRows n rs
end
theorem erRow_get : ∀ (row : List PV) (j : Nat), (erRow row)[j]? = (row[j]?).map PV.er
  | [], j => by simp [erRow]
  | x :: xs, 0 => by simp [erRow]
  | x :: xs, j + 1 => by simp [erRow, erRow_get xs j]
theorem erRow_length (row : List PV) : (erRow row).length = row.length := by
  induction row with
  | nil => simp [erRow]
  | cons x xs ih => simp [erRow, ih]
theorem erRows_get : ∀ (n : Nat) (rows : List (List PV)) (i : Nat), (erRows n rows)[i]? = if i < n then (rows[i]?).map erRow else none
  | _, [], i => by simp [erRows]
  | 0, _ :: _, i => by simp [erRows]
  | n + 1, r :: rs, 0 => by simp [erRows]
  | n + 1, r :: rs, i + 1 => by simp [erRows, erRows_get n rs i]
theorem erRows_length (n : Nat) (rows : List (List PV)) : (erRows n rows).length = min n rows.length := by
  induction rows generalizing n with
  | nil => simp [erRows]
  | cons r rs ih => cases n with
    | zero => simp [erRows]
    | succ n => simp only [erRows, List.length_cons, ih]; omega
theorem Rep.er {w : World} {bad : Nat → Prop} {lo : Nat} {x : PV} {v : Value} (h : Rep w bad lo x v) : Rep w bad lo x.er v := by
  induction h with
  | v x hx => exact .v x hx
  | nil b c => exact .nil b c
  | sl rows b off cap cs t fz sz f hcap hb hbad hlo hfz hlen hc hr ih => exact .sl rows b off cap cs t fz sz f hcap hb hbad hlo hfz hlen hc hr
  | rmNil => simp only [PV.er, erRows]; exact .nil none 0
  | rm len rows b off cs t sz f hcap hb hbad hlo hlen hc hr ih =>
    simp only [PV.er]
    have hl : (erRows len rows).length = len := by rw [erRows_length]; omega
    have hget : ∀ (i : Nat) (row : List PV), (erRows len rows)[i]? = some row → ∃ r0, rows[i]? = some r0 ∧ row = erRow r0 := by
      intro i row hi
      rw [erRows_get] at hi
      split at hi
      · cases hq : rows[i]? with
        | none => simp [hq] at hi
        | some r0 => simp [hq] at hi; exact ⟨r0, rfl, hi.symm⟩
      · cases hi
    have hcell : ∀ (r0 : List PV) (j : Nat) (x : PV), (erRow r0)[j]? = some x → ∃ y, r0[j]? = some y ∧ x = y.er := by
      intro r0 j x hj
      rw [erRow_get] at hj
      cases hq : r0[j]? with
      | none => simp [hq] at hj
      | some y => simp [hq] at hj; exact ⟨y, rfl, hj.symm⟩
    have := Rep.sl (w := w) (bad := bad) (lo := lo) (erRows len rows) b off rows.length cs t (0, 0) sz f (by rw [hl]; exact hcap) hb hbad hlo (fun _ => rfl)
      (fun i row hi => by obtain ⟨r0, h1, rfl⟩ := hget i row hi; rw [erRow_length]; exact hlen i r0 h1)
      (fun i row j x hi hj => by
        obtain ⟨r0, h1, rfl⟩ := hget i row hi
        obtain ⟨y, h2, rfl⟩ := hcell r0 j x hj
        exact hc i r0 j y h1 h2)
      (fun i row j x hi hj => by
        obtain ⟨r0, h1, rfl⟩ := hget i row hi
        obtain ⟨y, h2, rfl⟩ := hcell r0 j x hj
        exact ih i r0 j y h1 h2)
    rw [hl] at this
    exact this
theorem WR.er {P : Program} {ck : CK} {x : PV} (h : WR P ck x) : WT P ck x.er := by
  induction h with
  | int k n h1 h2 => exact .int k n h1 h2
  | bool x => exact .bool x
  | str x h => exact .str x h
  | rm e len rows h hm hr hl hw ih =>
    simp only [PV.er]
    have hget : ∀ row ∈ erRows len rows, ∃ r0 ∈ rows, row = erRow r0 := by
      intro row hrow
      obtain ⟨i, hi⟩ := List.getElem?_of_mem hrow
      rw [erRows_get] at hi
      split at hi
      · cases hq : rows[i]? with
        | none => simp [hq] at hi
        | some r0 => simp [hq] at hi; exact ⟨r0, List.mem_of_getElem? hq, hi.symm⟩
      · cases hi
    refine .sl e _ (by rw [erRows_length]; omega) ?_ ?_
    · intro row hrow
      obtain ⟨r0, h0, rfl⟩ := hget row hrow
      rw [erRow_length]; exact hl r0 h0
    · intro row hrow j ck x hc hx
      obtain ⟨r0, h0, rfl⟩ := hget row hrow
      rw [erRow_get] at hx
      cases hq : r0[j]? with
      | none => simp [hq] at hx
      | some y => simp [hq] at hx; subst hx; exact ih r0 h0 j ck y hc hq
theorem TyR.er {P : Program} {t : TypeId} {row : List PV} (h : TyR P t row) : Ty P t (erRow row) := by
  unfold TyR at h; unfold Ty
  rw [WRs_iff] at h; rw [WTs_iff]
  refine ⟨by rw [erRow_length]; exact h.1, ?_⟩
  intro j ck x hc hx
  rw [erRow_get] at hx
  cases hq : row[j]? with
  | none => simp [hq] at hx
  | some y => simp [hq] at hx; subst hx; exact (h.2 j ck y hc hq).er
def ArrTy (P : Program) (e : TypeId) (rows : List (List PV)) (len m B : Nat) : Prop :=
  rows.length = len + 2 ∧ ∀ (j : Nat) (row : List PV), rows[j]? = some row → (j < m ∨ len ≤ j → TyR P e row) ∧ (m ≤ j → j < len → Ty P e row ∧ rz row < B)
theorem ArrTy.get {P : Program} {e : TypeId} {rows : List (List PV)} {len m B : Nat} (h : ArrTy P e rows len m B) {j : Nat} (h1 : m ≤ j) (h2 : j < len) : ∃ row, rows[j]? = some row ∧ Ty P e row ∧ rz row < B := by
  have hlt : j < rows.length := by rw [h.1]; omega
  exact ⟨rows[j], by simp [hlt], (h.2 j rows[j] (by simp [hlt])).2 h1 h2⟩
theorem ArrTy.set {P : Program} {e : TypeId} {rows : List (List PV)} {len m B : Nat} {row : List PV} (h : ArrTy P e rows len m B) (hm : m < len) (hr : TyR P e row) : ArrTy P e (rows.set m row) len (m + 1) B := by
  refine ⟨by simp [h.1], ?_⟩
  intro j r hj
  by_cases he : m = j
  · subst he
    have hlt : m < rows.length := by rw [h.1]; omega
    rw [List.getElem?_set_self hlt] at hj; simp at hj; subst hj
    exact ⟨fun _ => hr, fun h1 => by omega⟩
  · rw [List.getElem?_set_ne he] at hj
    have := h.2 j r hj
    exact ⟨fun h1 => this.1 (by omega), fun h1 h2 => this.2 (by omega) h2⟩
theorem ArrTy.done {P : Program} {e : TypeId} {rows : List (List PV)} {len m B : Nat} (h : ArrTy P e rows len m B) (hm : len ≤ m) (hl : len ≤ mostLen) : WR P (.sl e) (.rm len rows) := by
  have hall : ∀ row ∈ rows, TyR P e row := by
    intro row hrow
    obtain ⟨j, hj⟩ := List.getElem?_of_mem hrow
    exact (h.2 j row hj).1 (by omega)
  exact .rm e len rows (by rw [h.1]; omega) hl (by rw [h.1]; omega) (fun row hrow => ((WRs_iff _ _).1 (hall row hrow)).1) fun row hrow j ck x hc hx => ((WRs_iff _ _).1 (hall row hrow)).2 j ck x hc hx
def scalars : List CK → Bool
  | [] => true
  | .int _ :: r => scalars r
  | .bool :: r => scalars r
  | .str :: r => scalars r
  | _ => false
theorem scalars_mem : ∀ {cs : List CK}, scalars cs = true → ∀ c ∈ cs, (∃ k, c = .int k) ∨ c = .bool ∨ c = .str
  | [], _, c, hc => by simp at hc
  | .int k :: r, h, c, hc => by
    rcases List.mem_cons.1 hc with rfl | hc
    · exact .inl ⟨k, rfl⟩
    · exact scalars_mem (cs := r) (by simpa [scalars] using h) c hc
  | .bool :: r, h, c, hc => by
    rcases List.mem_cons.1 hc with rfl | hc
    · exact .inr (.inl rfl)
    · exact scalars_mem (cs := r) (by simpa [scalars] using h) c hc
  | .str :: r, h, c, hc => by
    rcases List.mem_cons.1 hc with rfl | hc
    · exact .inr (.inr rfl)
    · exact scalars_mem (cs := r) (by simpa [scalars] using h) c hc
  | .sl _ :: _, h, _, _ => by simp [scalars] at h
  | .other :: _, h, _, _ => by simp [scalars] at h
theorem WT_scalar {P : Program} {c : CK} {x : PV} (hs : (∃ k, c = .int k) ∨ c = .bool ∨ c = .str) (h : WT P c x) : (∃ v, x = .v v) ∧ WR P c x := by
  cases h with
  | int k n h1 h2 => exact ⟨⟨_, rfl⟩, .int k n h1 h2⟩
  | bool x => exact ⟨⟨_, rfl⟩, .bool x⟩
  | str x h => exact ⟨⟨_, rfl⟩, .str x h⟩
  | sl e rows => rcases hs with ⟨k, e⟩ | e | e <;> cases e
theorem Ty.room {P : Program} {t : TypeId} {row : List PV} (hs : scalars (cks P t) = true) (h : Ty P t row) : TyR P t row := by
  unfold Ty at h; unfold TyR
  rw [WTs_iff] at h; rw [WRs_iff]
  exact ⟨h.1, fun j ck x hc hx => (WT_scalar (scalars_mem hs ck (List.mem_of_getElem? hc)) (h.2 j ck x hc hx)).2⟩
def isNl0 : SV → Bool
  | .p (.v x) _ => isNilSl x
  | _ => false
def St.nilCell (k j K : Nat) (e : TypeId) (sz : Nat) (σ : St) : Option St :=
  match lk σ.tab k with
  | some (.box t cells) => match cells[j]? with
    | some c => match isNl0 c with
      | true => some ⟨σ.slots, (K, .vec e sz [] true) :: (k, .box t (cells.set j (.vec K))) :: rm σ.tab k⟩
      | false => none
    | none => none
  | _ => none
theorem VRs_setNil {w : World} {E : Env} {lo K : Nat} (hK : E.val K = some (.slice none 0 0)) : ∀ (xs : List SV) (vs : List Value) (j : Nat) (c : SV), VRs w E lo xs vs → xs[j]? = some c → isNl0 c = true → VRs w E lo (xs.set j (.vec K)) vs
  | [], _, j, c, _, hj, _ => by simp at hj
  | x :: xs, [], j, c, h, _, _ => by simp [VRs] at h
  | x :: xs, v :: vs, 0, c, h, hj, hc => by
    simp at hj; subst hj
    have h1 := (VRs_cons_iff.1 h).1
    refine VRs_cons ?_ (VRs_cons_iff.1 h).2
    unfold isNl0 at hc
    split at hc
    · rename_i y fr
      have := isNilSl_eq hc; subst this
      have := VR_v_eq h1; subst this
      simp only [VR]
      exact ⟨hK, _, _, _, rfl⟩
    · cases hc
  | x :: xs, v :: vs, j + 1, c, h, hj, hc => VRs_cons (VRs_cons_iff.1 h).1 (VRs_setNil hK xs vs j c (VRs_cons_iff.1 h).2 (by simpa using hj) hc)
theorem imp_nilCell {P : Program} {n : Nat} {σ σ' : St} (k j K : Nat) (e : TypeId) (sz : Nat) (hf : (lk σ.tab K).isSome = false) (hi : Nat.ble (K + 1) n = true) (hz : Nat.ble 1 sz = true) (h : σ.nilCell k j K e sz = some σ') : Imp P n σ σ' := by
  unfold St.nilCell at h
  split at h
  · rename_i t cells hk
    split at h
    · rename_i c hc
      split at h
      · rename_i hn
        simp only [Option.some.injEq] at h; subst h
        rintro lo w0 E0 a w ⟨E, h⟩
        have hK : K < n := Nat.le_of_ble_eq_true hi
        have hf' : lk σ.tab K = none := by simpa using hf
        have hkK : k ≠ K := fun e => by subst e; rw [hf'] at hk; cases hk
        let E' : Env := ⟨fun k => if k = K then some (.slice none 0 0) else E.val k, E.own, E.ext⟩
        have hkp : Keeps w E w E' := ⟨fun _ _ h => ⟨rfl, h⟩, rfl⟩
        have hv : ∀ k x, E.val k = some x → E'.val k = some x := by
          intro k x hx
          have : k ≠ K := fun e => by subst e; rw [h.tab.dead k hf'] at hx; cases hx
          simp [E', this, hx]
        refine ⟨E', h.size, h.defers, fun t' s hl => VR.mono hkp hv s _ (h.slots t' s hl), ⟨?_, ?_, ?_, h.tab.ext⟩, ⟨h.fr.os, h.fr.tape, h.fr.output, h.fr.size, h.fr.keep, h.fr.ext⟩, h.lo, h.ids, ?_⟩
        · intro i ov hl
          by_cases he : i = K
          · subst he
            rw [lk_cons_same] at hl; cases hl
            exact ⟨.slice none 0 0, [], by simp [E'], Nat.le_of_ble_eq_true hz, World.ownsRow_nil w 0 e sz, by simp [Value.ownBlock], fun _ _ => undef, by simp, by simp, by simp⟩
          · rw [lk_cons_ne _ _ _ _ he] at hl
            by_cases hek : i = k
            · subst hek
              rw [lk_cons_same] at hl; cases hl
              obtain ⟨b, vs, h1, h2, h3, h4⟩ := h.tab.obj i _ hk
              exact ⟨b, vs, hv _ _ h1, h2, h3, VRs_setNil (by simp [E']) cells vs j c (VRs.mono hkp hv cells vs h4) hc hn⟩
            · rw [lk_cons_ne _ _ _ _ hek, lk_rm_ne _ _ _ hek] at hl
              exact OR.mono hkp hv (fun _ => Iff.rfl) (fun _ _ => rfl) (h.tab.obj i ov hl)
        · intro i hl
          have he : i ≠ K := fun e => by subst e; rw [lk_cons_same] at hl; cases hl
          rw [lk_cons_ne _ _ _ _ he] at hl
          have hek : i ≠ k := fun e => by subst e; rw [lk_cons_same] at hl; cases hl
          rw [lk_cons_ne _ _ _ _ hek, lk_rm_ne _ _ _ hek] at hl
          simp [E', he, h.tab.dead i hl]
        · intro b i ho
          have := h.tab.own b i ho
          refine ⟨this.1, this.2.1, ?_⟩
          by_cases he : i = K
          · subst he; rw [lk_cons_same]; simp
          · rw [lk_cons_ne _ _ _ _ he]
            by_cases hek : i = k
            · subst hek; rw [lk_cons_same]; simp
            · rw [lk_cons_ne _ _ _ _ hek, lk_rm_ne _ _ _ hek]; exact this.2.2
        · intro i x hj
          have hid : n ≤ i := h.ids i (by rw [hj]; simp)
          have : i ≠ K := by omega
          simpa [E', this] using h.pres i x hj
      · cases h
    · cases h
  · cases h
end Go.TL
namespace Go.TL
abbrev Cont := Nat → Option Obj
inductive WF (P : Program) (room : Bool) (c : Cont) : Nat → CK → Value → Prop
  | int (d : Nat) (k : IntKind) (n : Int) (h1 : k.min ≤ n) (h2 : n ≤ k.max) : WF P room c d (.int k) (.int k n)
  | bool (d : Nat) (x : Bool) : WF P room c d .bool (.bool x)
  | str (d : Nat) (x : ByteArray) (h : x.size ≤ mostStr) : WF P room c d .str (.string x)
  | nil (d : Nat) (e : TypeId) : WF P room c d (.sl e) (.slice none 0 0)
  | sl (d : Nat) (e : TypeId) (b o len cap : Nat) (cs : Array Value) (t : TypeId) (g : Nat → Nat → Value) (hb : c b = some (.cells cs t (0, 0))) (hle : len ≤ cap) (hl : len ≤ mostLen) (hm : room = true → cap ≤ len + 2)
      (hc : ∀ i : Nat, i < (if room then cap else len) → ∀ (j : Nat) (ck : CK), (cks P e)[j]? = some ck → cs[o + i * (cks P e).length + j]? = some (g i j))
      (hw : ∀ i : Nat, i < (if room then cap else len) → ∀ (j : Nat) (ck : CK), (cks P e)[j]? = some ck → WF P room c d ck (g i j)) :
      WF P room c (d + 1) (.sl e) (.slice (some ⟨b, o, none⟩) len cap)
theorem WF.up {P : Program} {room : Bool} {c : Cont} {d : Nat} {ck : CK} {v : Value} (h : WF P room c d ck v) : ∀ d', d ≤ d' → WF P room c d' ck v := by
  induction h with
  | int d k n h1 h2 => exact fun d' _ => .int d' k n h1 h2
  | bool d x => exact fun d' _ => .bool d' x
  | str d x h => exact fun d' _ => .str d' x h
  | nil d e => exact fun d' _ => .nil d' e
  | sl d e b o len cap cs t g hb hle hl hm hc hw ih =>
    intro d' hd
    obtain ⟨k, rfl⟩ : ∃ k, d' = k + 1 := ⟨d' - 1, by omega⟩
    exact .sl k e b o len cap cs t g hb hle hl hm hc fun i hi j ck hj => ih i hi j ck hj k (by omega)
def KEqV (v0 v : Value) : Prop :=
  v = v0 ∨ (∃ k n m, v0 = .int k n ∧ v = .int k m ∧ k.min ≤ m ∧ m ≤ k.max) ∨ (∃ x y, v0 = .bool x ∧ v = .bool y) ∨ (∃ x y, v0 = .string x ∧ v = .string y ∧ y.size ≤ mostStr)
def KEq (c0 c : Cont) : Prop :=
  (∀ b, c0 b = none ↔ c b = none) ∧ ∀ b cs t fz, c0 b = some (.cells cs t fz) → ∃ cs', c b = some (.cells cs' t fz) ∧ cs'.size = cs.size ∧ ∀ (j : Nat) (v0 : Value), cs[j]? = some v0 → ∃ v, cs'[j]? = some v ∧ KEqV v0 v
theorem WF.keqV {P : Program} {room : Bool} {c : Cont} {d : Nat} {ck : CK} {v0 v : Value} (h : WF P room c d ck v0) (hk : KEqV v0 v) : WF P room c d ck v := by
  rcases hk with rfl | ⟨k, n, m, rfl, rfl, h1, h2⟩ | ⟨x, y, rfl, rfl⟩ | ⟨x, y, rfl, rfl, h1⟩
  · exact h
  · cases h with | int => exact .int _ _ _ h1 h2
  · cases h with | bool => exact .bool _ _
  · cases h with | str => exact .str _ _ h1
theorem WF.keq {P : Program} {room : Bool} {c0 c : Cont} (hk : KEq c0 c) {d : Nat} {ck : CK} {v : Value} (h : WF P room c0 d ck v) : WF P room c d ck v := by
  induction h with
  | int d k n h1 h2 => exact .int d k n h1 h2
  | bool d x => exact .bool d x
  | str d x h => exact .str d x h
  | nil d e => exact .nil d e
  | sl d e b o len cap cs t g hb hle hl hm hc hw ih =>
    obtain ⟨cs', h1, h2, h3⟩ := hk.2 b cs t (0, 0) hb
    have key : ∀ i : Nat, i < (if room then cap else len) → ∀ (j : Nat) (ck : CK), (cks P e)[j]? = some ck → ∃ v, cs'[o + i * (cks P e).length + j]? = some v ∧ KEqV (g i j) v :=
      fun i hi j ck hj => h3 _ _ (hc i hi j ck hj)
    refine .sl d e b o len cap cs' t (fun i j => (cs'[o + i * (cks P e).length + j]?).getD undef) h1 hle hl hm (fun i hi j ck hj => ?_) fun i hi j ck hj => ?_
    · obtain ⟨v, q1, q2⟩ := key i hi j ck hj
      rw [q1]; rfl
    · obtain ⟨v, q1, q2⟩ := key i hi j ck hj
      simp only [q1, Option.getD_some]
      exact (ih i hi j ck hj).keqV q2
theorem depth_all {p : Nat → Nat → Prop} (hm : ∀ i d d', d ≤ d' → p i d → p i d') : ∀ (n : Nat), (∀ i, i < n → ∃ d, p i d) → ∃ d, ∀ i, i < n → p i d
  | 0, _ => ⟨0, fun i hi => absurd hi (Nat.not_lt_zero i)⟩
  | n + 1, h => by
    obtain ⟨d1, h1⟩ := depth_all hm n fun i hi => h i (by omega)
    obtain ⟨d2, h2⟩ := h n (by omega)
    refine ⟨max d1 d2, fun i hi => ?_⟩
    by_cases he : i = n
    · subst he; exact hm i d2 _ (by omega) h2
    · exact hm i d1 _ (by omega) (h1 i (by omega))
end Go.TL
namespace Go.TL.H
open Go
abbrev Slots := List (Nat × Value)
def putl : Option Nat → Value → Slots → Slots
  | some d, v, l => (d, v) :: l
  | none, _, l => l
structure SL (n : Nat) (sl : Slots) (a : Act) : Prop where
  size : a.tmps.size = n
  defers : a.defers = []
  slots : ∀ t v, lk sl t = some v → a.tmps.getD t undef = v
def dok (n : Nat) : Option Nat → Bool
  | some d => Nat.ble (d + 1) n
  | none => true
theorem SL.put {n : Nat} {sl : Slots} {a : Act} (h : SL n sl a) {dst : Option Nat} (hd : dok n dst = true) (v : Value) : SL n (putl dst v sl) (a.put dst v) := by
  cases dst with
  | none => exact h
  | some d =>
    have hdn : d < n := Nat.le_of_ble_eq_true hd
    refine ⟨by simp [Act.put, h.size], h.defers, ?_⟩
    intro t x hl
    by_cases he : t = d
    · subst he
      simp only [putl] at hl
      rw [lk_cons_same] at hl; cases hl
      have : t < a.tmps.size := by rw [h.size]; exact hdn
      simp [Act.put, this]
    · simp only [putl] at hl
      rw [lk_cons_ne _ _ _ _ he] at hl
      have := h.slots t x hl
      simpa [Act.put, Array.getElem?_setIfInBounds, Ne.symm he] using this
theorem SL.putU {n : Nat} {sl : Slots} {a : Act} (h : SL n sl a) {dst : Option Nat} (hd : dok n dst = true) : SL n (putl dst undef sl) (a.put dst undef) := h.put hd undef
theorem SL.keep {n : Nat} {sl : Slots} {a : Act} (h : SL n sl a) (ks : List Nat) : SL n (pick sl ks) a := ⟨h.size, h.defers, fun t v hl => h.slots t v (lk_pick _ _ _ _ hl)⟩
def slV : Nat → List Value → Slots
  | _, [] => []
  | k, x :: xs => (k, x) :: slV (k + 1) xs
theorem lk_slV : ∀ (xs : List Value) (k t : Nat), lk (slV k xs) t = if k ≤ t then xs[t - k]? else none
  | [], k, t => by simp [slV, lk]
  | x :: xs, k, t => by
    simp only [slV, lk]
    cases hb : Nat.beq k t with
    | true => have := Nat.eq_of_beq_eq_true hb; subst this; simp
    | false =>
      have hne := beq_false hb
      simp only
      rw [lk_slV xs (k + 1) t]
      by_cases hle : k ≤ t
      · rw [if_pos (by omega), if_pos hle, show t - k = (t - (k + 1)) + 1 by omega]; rfl
      · rw [if_neg (by omega), if_neg hle]
theorem SL.init {n : Nat} (args : List Value) (h : Nat.ble args.length n = true) : SL n (slV 0 args) { tmps := args.toArray ++ Array.replicate (n - args.length) undef, defers := [] } := by
  have hn := Nat.le_of_ble_eq_true h
  refine ⟨by simp; omega, rfl, ?_⟩
  intro t v hl
  rw [lk_slV] at hl
  simp at hl
  have hlt : t < args.length := (List.getElem?_eq_some_iff.1 hl).1
  simp only [Array.getD_eq_getD_getElem?, Array.getElem?_append, List.size_toArray, hlt, if_true, List.getElem?_toArray, hl, Option.getD_some]
def ev (sl : Slots) : Operand → Option Value
  | .tmp t => lk sl t
  | .const v => some v
  | .func f => some (.func (.func f) #[] #[])
  | .global g => some (.pointer (some ⟨g, 0, none⟩))
theorem SL.ev {n : Nat} {sl : Slots} {a : Act} (h : SL n sl a) {x : Operand} {v : Value} (e : H.ev sl x = some v) : a.eval x = v := by
  cases x with
  | tmp t => exact h.slots t v e
  | const u => simpa [H.ev, Act.eval] using e
  | func f => simpa [H.ev, Act.eval] using e
  | global g => simpa [H.ev, Act.eval] using e
def evs (sl : Slots) : List Operand → Option (List Value)
  | [] => some []
  | x :: xs => match ev sl x, evs sl xs with
    | some v, some vs => some (v :: vs)
    | _, _ => none
theorem SL.evs {n : Nat} {sl : Slots} {a : Act} (h : SL n sl a) : ∀ {xs : List Operand} {vs : List Value}, H.evs sl xs = some vs → xs.map a.eval = vs
  | [], vs, e => by simp [H.evs] at e; subst e; rfl
  | x :: xs, vs, e => by
    simp only [H.evs] at e
    split at e
    · rename_i v us h1 h2
      simp only [Option.some.injEq] at e; subst e
      simp [h.ev h1, h.evs h2]
    · cases e
section
variable {P : Program} {ops : Array Oper} {Q : Exit → Act → World → Prop} {rest : List Oper} {o : Oper} {n : Nat} {sl : Slots} {a : Act} {w w' : World} {v : Value}
theorem wg {j t : Nat} {want b : Bool} (h : SL n sl a) (hg : o.guard = some (j, want)) (hj : (ops[j]?).bind (·.dst) = some t) (ht : lk sl t = some (.bool b)) (htn : Nat.ble (t + 1) n = true) :
    Region.wanted o (yielded ops a.tmps) = (b == want) := by
  have hlt : t < a.tmps.size := by rw [h.size]; exact Nat.le_of_ble_eq_true htn
  have h1 := h.slots t _ ht
  have h2 : a.tmps[t]? = some (.bool b) := by
    rw [Array.getD_eq_getD_getElem?] at h1
    rw [Array.getElem?_eq_getElem hlt] at h1 ⊢
    simpa using h1
  unfold Region.wanted
  rw [hg]
  simp only [yielded, hj, Option.bind_some, h2]
  cases b <;> cases want <;> rfl
theorem L (h : SL n sl a) (hw : Region.wanted o (yielded ops a.tmps) = true) (hd : dok n o.dst = true) (hr : (execOp a.eval o).run P w = .ok (.value v) w')
    (k : ∀ a', SL n (putl o.dst v sl) a' → wpList P ops Q rest a' w') : wpList P ops Q (o :: rest) a w := by
  unfold wpList
  rw [if_pos hw]
  refine .inl ?_
  unfold Oper.wp
  rw [hr]
  exact k _ (h.put hd v)
theorem Ls (h : SL n sl a) (hw : Region.wanted o (yielded ops a.tmps) = true) (hd : o.dst = none) (hr : (execOp a.eval o).run P w = .ok .skip w')
    (k : SL n sl a → wpList P ops Q rest a w') : wpList P ops Q (o :: rest) a w := by
  unfold wpList
  rw [if_pos hw]
  refine .inl ?_
  unfold Oper.wp
  rw [hr]
  have e : a.put o.dst undef = a := by rw [hd]; rfl
  show wpList P ops Q rest (a.put o.dst undef) w'
  rw [e]; exact k h
theorem Lu (h : SL n sl a) (hw : Region.wanted o (yielded ops a.tmps) = false) (hd : dok n o.dst = true)
    (k : ∀ a', SL n (putl o.dst undef sl) a' → wpList P ops Q rest a' w) : wpList P ops Q (o :: rest) a w := by
  unfold wpList
  rw [if_neg (by rw [hw]; simp)]
  exact k _ (h.putU hd)
theorem wp_call {K : Act → World → Prop} {f : Operand} {args : Array Operand} {ts : Array TypeId} {g : FuncId} {first caps : Array Value} {vs : List Value} {R : Value → World → Prop} (h : SL n sl a) (hd : dok n o.dst = true)
    (ho : o.op = .call ⟨.value f, args, ts⟩) (hf : ev sl f = some (.func (.func g) first caps)) (ha : evs sl args.toList = some vs) (hok : calleeOk P g = true)
    (hret : Ret P g (first.toList ++ (vs ++ caps.toList)) w R) (k : ∀ v w' a', R v w' → SL n (putl o.dst v sl) a' → K a' w') : o.wp P a w K Q := by
  have hfv := h.ev hf
  have hav := h.evs ha
  have hrun : (execOp a.eval o).run P w = .ok (.enter g (first.toList ++ (vs ++ caps.toList)).toArray) w := by
    unfold execOp
    simp only [ho, resolve, hfv, Deferred.ofValue, pure_bind, invoke]
    have e : (first ++ Array.map a.eval args) ++ caps = (first.toList ++ (vs ++ caps.toList)).toArray := by
      rw [← hav]
      apply Array.ext'; simp
    rw [e]
    exact run_callFunc hok
  unfold Oper.wp
  rw [hrun]
  show Calls P g _ w _
  refine Calls.mono hret ?_
  rintro e w' ⟨v, rfl, hR⟩
  exact k v w' _ hR (h.put hd v)
theorem Lc {f : Operand} {args : Array Operand} {ts : Array TypeId} {g : FuncId} {first caps : Array Value} {vs : List Value} {R : Value → World → Prop} (h : SL n sl a) (hw : Region.wanted o (yielded ops a.tmps) = true) (hd : dok n o.dst = true)
    (ho : o.op = .call ⟨.value f, args, ts⟩) (hf : ev sl f = some (.func (.func g) first caps)) (ha : evs sl args.toList = some vs) (hok : calleeOk P g = true)
    (hret : Ret P g (first.toList ++ (vs ++ caps.toList)) w R) (k : ∀ v w' a', R v w' → SL n (putl o.dst v sl) a' → wpList P ops Q rest a' w') : wpList P ops Q (o :: rest) a w := by
  unfold wpList
  rw [if_pos hw]
  exact .inl (wp_call h hd ho hf ha hok hret k)
theorem Le (h : Q .normal a w) : wpList P ops Q [] a w := h
theorem T {Q : Act → Prop} (h : SL n sl a) (hw : Region.wanted o (yielded ops a.tmps) = true) (hd : dok n o.dst = true) (hr : (execOp a.eval o).run P w = .ok (.value v) w)
    (k : ∀ a', SL n (putl o.dst v sl) a' → wpStill P ops w Q rest a') : wpStill P ops w Q (o :: rest) a := by
  unfold wpStill
  rw [if_pos hw]
  unfold Oper.still
  rw [hr, Oper.stillUpon_value]
  exact k _ (h.put hd v)
theorem Tu {Q : Act → Prop} (h : SL n sl a) (hw : Region.wanted o (yielded ops a.tmps) = false) (hd : dok n o.dst = true)
    (k : ∀ a', SL n (putl o.dst undef sl) a' → wpStill P ops w Q rest a') : wpStill P ops w Q (o :: rest) a := by
  unfold wpStill
  rw [if_neg (by rw [hw]; simp)]
  exact k _ (h.putU hd)
theorem Te {Q : Act → Prop} (h : Q a) : wpStill P ops w Q [] a := h
theorem Y {fuel i : Nat} {listed : Array Bool} (h : SL n sl a) (hi : ops[i]? = some o) (hg : o.guard = none) (hd : dok n o.dst = true) (hs : Region.noSelect ops = true) (hf : Region.free .any ops listed i = true)
    (hr : (Region.ready .any ops listed).contains i = true) (hQ : ∀ c a w, Q (.panic c) a w → False) (hx : ∀ w, (execOp a.eval o).run P w = .ok (.value v) w)
    (k : ∀ a', SL n (putl o.dst v sl) a' → wpAny P .any ops Q fuel (listed.setIfInBounds i true) a' w) : wpAny P .any ops Q (fuel + 1) listed a w :=
  wpAny_take hi hs hf hr (fun c a w h => (hQ c _ _ h).elim) (.inl ⟨by unfold Region.wanted; rw [hg], hx⟩) (k _ (h.put hd v))
theorem wpOp_of {i : Nat} {K : Act → World → Prop} (h : SL n sl a) (hi : ops[i]? = some o) (hg : o.guard = none) (hd : dok n o.dst = true) (hr : (execOp a.eval o).run P w = .ok (.value v) w')
    (k : ∀ a', SL n (putl o.dst v sl) a' → K a' w') : wpOp P ops Q i K a w := by
  unfold wpOp
  simp only [hi]
  rw [if_pos (by unfold Region.wanted; rw [hg])]
  refine .inl ?_
  unfold Oper.wp
  rw [hr]
  exact k _ (h.put hd v)
theorem wpOp_skip {i : Nat} {K : Act → World → Prop} (h : SL n sl a) (hi : ops[i]? = some o) (hg : o.guard = none) (hd : o.dst = none) (hr : (execOp a.eval o).run P w = .ok .skip w')
    (k : SL n sl a → K a w') : wpOp P ops Q i K a w := by
  unfold wpOp
  simp only [hi]
  rw [if_pos (by unfold Region.wanted; rw [hg])]
  refine .inl ?_
  unfold Oper.wp
  rw [hr]
  have e : a.put o.dst undef = a := by rw [hd]; rfl
  show K (a.put o.dst undef) w'
  rw [e]; exact k h
theorem Y1 {fuel : Nat} (i : Nat) {listed : Array Bool} (hr : Region.ready .any ops listed = [i]) (k : wpOp P ops Q i (wpAny P .any ops Q fuel (listed.setIfInBounds i true)) a w) : wpAny P .any ops Q (fuel + 1) listed a w :=
  wpAny_all hr (by simp) fun j hj => by simp at hj; subst hj; exact k
theorem Y2 {fuel : Nat} (i j : Nat) {listed : Array Bool} (hr : Region.ready .any ops listed = [i, j]) (k1 : wpOp P ops Q i (wpAny P .any ops Q fuel (listed.setIfInBounds i true)) a w)
    (k2 : wpOp P ops Q j (wpAny P .any ops Q fuel (listed.setIfInBounds j true)) a w) : wpAny P .any ops Q (fuel + 1) listed a w :=
  wpAny_all hr (by simp) fun l hl => by
    simp at hl
    rcases hl with rfl | rfl
    · exact k1
    · exact k2
theorem Ye {fuel : Nat} {listed : Array Bool} (hr : Region.ready .any ops listed = []) (h : Q .normal a w) : wpAny P .any ops Q fuel listed a w := wpAny_done hr h fuel
end
structure Ch (S : Nat → Prop) (w w' : World) : Prop where
  os : w'.os = w.os
  tape : w'.tape = w.tape
  output : w'.output = w.output
  size : w.heap.size ≤ w'.heap.size
  keep : ∀ b, b < w.heap.size → ¬ S b → w'.heap[b]? = w.heap[b]?
theorem Ch.refl (S : Nat → Prop) (w : World) : Ch S w w := ⟨rfl, rfl, rfl, Nat.le_refl _, fun _ _ _ => rfl⟩
theorem Ch.drew (S : Nat → Prop) (w : World) : Ch S w { w with drawn := w.drawn + 1 } := ⟨rfl, rfl, rfl, Nat.le_refl _, fun _ _ _ => rfl⟩
theorem Ch.trans {S : Nat → Prop} {w w1 w2 : World} (h : Ch S w w1) (k : Ch S w1 w2) : Ch S w w2 :=
  ⟨k.os.trans h.os, k.tape.trans h.tape, k.output.trans h.output, Nat.le_trans h.size k.size, fun b hb hn => (k.keep b (Nat.lt_of_lt_of_le hb h.size) hn).trans (h.keep b hb hn)⟩
theorem Ch.mono {S S' : Nat → Prop} {w w' : World} (h : Ch S w w') (hs : ∀ b, b < w.heap.size → S b → S' b) : Ch S' w w' :=
  ⟨h.os, h.tape, h.output, h.size, fun b hb hn => h.keep b hb fun hS => hn (hs b hb hS)⟩
theorem Ch.trans' {S S' : Nat → Prop} {w w1 w2 : World} (h : Ch S w w1) (k : Ch S' w1 w2) (hs : ∀ b, b < w.heap.size → S' b → S b) : Ch S w w2 :=
  ⟨k.os.trans h.os, k.tape.trans h.tape, k.output.trans h.output, Nat.le_trans h.size k.size, fun b hb hn => (k.keep b (Nat.lt_of_lt_of_le hb h.size) fun hS => hn (hs b hb hS)).trans (h.keep b hb hn)⟩
theorem Ch.at {S : Nat → Prop} {w w' : World} (h : Ch S w w') {b : Nat} {o : Obj} (hb : w.heap[b]? = some o) (hn : ¬ S b) : w'.heap[b]? = some o := by rw [h.keep b (heap_lt hb) hn]; exact hb
theorem Ch.alloc (S : Nat → Prop) (w : World) (o : Obj) : Ch S w (w.alloc o) := ⟨rfl, rfl, rfl, by simp, fun b hb _ => heap_alloc_old w o b hb⟩
theorem Ch.setRow (w : World) (b : Nat) (cs : Array Value) : Ch (· = b) w (w.setRow b cs) := ⟨rfl, rfl, rfl, by simp, fun c _ hn => setRow_other w b c cs hn⟩
theorem Ch.ownsRow {S : Nat → Prop} {w w' : World} (h : Ch S w w') {base e size n : Nat} {v : Value} {xs : List Value} (ho : w.ownsRow base e size v n xs) (hn : ∀ g, v.ownBlock = some g → ¬ S g) : w'.ownsRow base e size v n xs := by
  refine ⟨ho.1, ?_⟩
  rcases ho.2 with h1 | ⟨g, cap, cur, h1, h2, h3, h4⟩
  · exact .inl h1
  · exact .inr ⟨g, cap, cur, h1, h2, h.at h3 (hn g (by rw [h1]; rfl)), h4⟩
end Go.TL.H
