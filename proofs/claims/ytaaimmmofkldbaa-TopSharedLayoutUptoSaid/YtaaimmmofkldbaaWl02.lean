/- What one operation makes of the state: memory. -/
import Derived.Test.YtaaimmmofkldbaaWl01
namespace Go.TL
def aggT (P : Program) (t : TypeId) : Option Bool :=
  match P.underlying t with
  | some (.struct _) => some true
  | some (.array _ _) => some true
  | some _ => some false
  | none => none
theorem run_isAgg {P : Program} {t : TypeId} {b : Bool} (h : aggT P t = some b) (w : World) : (isAgg t).run P w = .ok b w := by
  cases hu : P.underlying t with
  | none => simp [aggT, hu] at h
  | some d => cases d <;> (simp [aggT, hu] at h; subst h; simp [isAgg, run_underlying hu])
def mkp (fr : Bool) : PV → SV
  | .v x => .p (.v x) true
  | .sl rows => .p (.sl rows) fr
  | .rm len rows => .p (.rm len rows) fr
theorem mkp_rep {w : World} {E : Env} {lo : Nat} {fr : Bool} {x : PV} {v : Value} (h : Rep w E.bad (flo lo fr) x v) : VR w E lo (mkp fr x) v := by
  cases x with
  | v y => simp only [mkp, VR]; have := rep_v h; subst this; cases h with | v _ hx => exact .v _ hx
  | sl rows => simpa only [mkp, VR] using h
  | rm len rows => simpa only [mkp, VR] using h
theorem mkps_rep {w : World} {E : Env} {lo : Nat} {fr : Bool} : ∀ (xs : List PV) (vs : List Value), xs.length = vs.length →
    (∀ (j : Nat) x v, xs[j]? = some x → vs[j]? = some v → Rep w E.bad (flo lo fr) x v) → VRs w E lo (xs.map (mkp fr)) vs
  | [], [], _, _ => VRs_nil
  | x :: xs, v :: vs, hl, h => VRs_cons (mkp_rep (h 0 x v rfl rfl)) (mkps_rep xs vs (by simpa using hl) fun j y u hy hu => h (j + 1) y u (by simpa using hy) (by simpa using hu))
  | [], _ :: _, hl, _ => by simp at hl
  | _ :: _, [], hl, _ => by simp at hl
theorem run_loadAt {P : Program} {w : World} {t : TypeId} {i : TypeInfo} {ag : Bool} {b o : Nat} {vs : List Value} (ha : aggT P t = some ag) (hi : P.info? t = some i)
    (hc : ∀ (j : Nat) v, vs[j]? = some v → w.cell? ⟨b, o + j, none⟩ = some v) (hl : vs.length = i.size) (h1 : ag = false → vs.length = 1) :
    (Instr.loadAt t (.pointer (some ⟨b, o, none⟩))).run P w = .ok (match ag with | true => .agg vs.toArray | false => vs.headD undef) w := by
  have hr := run_isAgg ha w
  cases ag with
  | true =>
    have hl2 := run_loadCells_list (P := P) w ⟨b, o, none⟩ vs (fun j v hv => by rw [Addr.add_lit]; exact hc j v hv)
    rw [hl] at hl2
    simp [Instr.loadAt, Instr.sureAddr, loadVar, hr, sizeOf, typeInfo, hi, hl2]
  | false =>
    have h1' := h1 rfl
    match vs, h1' with
    | [v], _ =>
      have := hc 0 v rfl
      simp only [Nat.add_zero] at this
      simp [Instr.loadAt, Instr.sureAddr, loadVar, hr, this]
def loadOut (P : Program) (t : TypeId) (off : Nat) (cells : List SV) : Option SV :=
  match aggT P t, P.info? t with
  | some true, some i => match Nat.ble (off + i.size) cells.length with
    | true => some (.agg ((cells.drop off).take i.size))
    | false => none
  | some false, some i => match Nat.beq i.size 1, (cells.drop off) with
    | true, x :: _ => some x
    | _, _ => none
  | _, _ => none
theorem cell_at {w : World} {b : Nat} {cs : Array Value} {t : TypeId} {fz : Nat × Nat} (h : w.heap[b]? = some (.cells cs t fz)) (j : Nat) : w.cell? ⟨b, j, none⟩ = cs[j]? := by
  simp [World.cell?, h]
theorem load_rep {P : Program} {w : World} {E : Env} {lo : Nat} {t : TypeId} {off b o : Nat} {cells : List SV} {vs : List Value} {sv : SV} (hv : VRs w E lo cells vs)
    (hc : ∀ (j : Nat) v, vs[j]? = some v → w.cell? ⟨b, o + j, none⟩ = some v) (hf : loadOut P t off cells = some sv) :
    ∃ v, (Instr.loadAt t (.pointer (some ⟨b, o + off, none⟩))).run P w = .ok v w ∧ VR w E lo sv v := by
  unfold loadOut at hf
  split at hf
  · rename_i i ha hi
    split at hf
    · rename_i hle
      have hle' := Nat.le_of_ble_eq_true hle
      simp only [Option.some.injEq] at hf; subst hf
      have hlen := VRs_length hv
      have hr := run_loadAt (w := w) (b := b) (o := o + off) (vs := (vs.drop off).take i.size) ha hi
        (fun j v hj => by
          rw [List.getElem?_take] at hj
          split at hj
          · rw [List.getElem?_drop] at hj; rw [Nat.add_assoc]; exact hc _ _ hj
          · cases hj) (by simp; omega) (fun h => by cases h)
      exact ⟨_, hr, by simp only [VR]; exact ⟨_, rfl, VRs_take _ (VRs_drop off hv)⟩⟩
    · cases hf
  · rename_i i ha hi
    split at hf
    · rename_i x xs hsz hdr
      have hsz' := Nat.eq_of_beq_eq_true hsz
      simp only [Option.some.injEq] at hf; subst hf
      have hd := VRs_drop off hv
      rw [hdr] at hd
      cases hvd : vs.drop off with
      | nil => rw [hvd] at hd; simp [VRs] at hd
      | cons v rest =>
        rw [hvd] at hd
        have hr := run_loadAt (w := w) (b := b) (o := o + off) (vs := [v]) ha hi
          (fun j u hj => by
            cases j with
            | zero =>
              simp at hj; subst hj
              refine hc (off + 0) v ?_ |> fun h => by simpa [Nat.add_assoc] using h
              have : (vs.drop off)[0]? = some v := by rw [hvd]; rfl
              simpa [List.getElem?_drop] using this
            | succ j => simp at hj) (by simp [hsz']) (fun _ => rfl)
        exact ⟨v, by simpa using hr, (VRs_cons_iff.1 hd).1⟩
    · cases hf
  · cases hf
structure Hint where
  ld : List (Nat × List PV)
  st : List (Nat × List PV)
def opLoad (P : Program) (H : Hint) (σ : St) (o : Oper) (t : TypeId) (x : Operand) : Option (St × Prop) :=
  match ev σ x with
  | .ptr k off => match lk σ.tab k with
    | some (.box _ cells) => match loadOut P t off cells with
      | some sv => some (σ.put o.dst sv, True)
      | none => none
    | _ => none
  | .pd row off fr => match loadOut P t off (row.map (mkp fr)) with
    | some sv => some (σ.put o.dst sv, True)
    | none => none
  | .vptr k sz i off => match lk σ.tab k, o.dst with
    | some (.vec _ sz' rows fr), some d => match lk H.ld d with
      | some row => match loadOut P t off (row.map (mkp fr)), Nat.beq sz sz' with
        | some sv, true => some (σ.put o.dst sv, rows[i]? = some row)
        | _, _ => none
      | none => none
    | _, _ => none
  | _ => none
theorem rowsRep_row {w : World} {E : Env} {lo sz : Nat} {fr : Bool} {rows : List (List PV)} {xs : List Value} (h : RowsRep w E.bad (flo lo fr) sz rows xs) {i : Nat} {row : List PV} (hi : rows[i]? = some row) :
    ∃ vs : List Value, VRs w E lo (row.map (mkp fr)) vs ∧ ∀ (j : Nat) v, vs[j]? = some v → xs[i * sz + j]? = some v := by
  obtain ⟨f, h1, h2, h3⟩ := h
  refine ⟨(List.range row.length).map (f i), mkps_rep _ _ (by simp) ?_, ?_⟩
  · intro j x v hx hv
    have hj : j < row.length := (List.getElem?_eq_some_iff.1 hx).1
    simp [hj] at hv; subst hv
    exact h3 i row j x hi hx
  · intro j v hv
    have hj : j < row.length := by
      have := (List.getElem?_eq_some_iff.1 hv).1; simpa using this
    simp [hj] at hv; subst hv
    exact h2 i row j row[j] hi (by simp [hj])
theorem repAt_row {w : World} {E : Env} {lo : Nat} {fr : Bool} {row : List PV} {b o : Nat} (h : RepAt w E.bad (flo lo fr) row b o) :
    ∃ vs : List Value, VRs w E lo (row.map (mkp fr)) vs ∧ ∀ (j : Nat) v, vs[j]? = some v → w.cell? ⟨b, o + j, none⟩ = some v := by
  obtain ⟨cs, t, fz, f, hb, _, _, h1, h2⟩ := h
  refine ⟨(List.range row.length).map f, mkps_rep _ _ (by simp) ?_, ?_⟩
  · intro j x v hx hv
    have hj : j < row.length := (List.getElem?_eq_some_iff.1 hx).1
    simp [hj] at hv; subst hv
    exact h2 j x hx
  · intro j v hv
    have hj : j < row.length := by
      have := (List.getElem?_eq_some_iff.1 hv).1; simpa using this
    simp [hj] at hv; subst hv
    rw [cell_at hb]
    exact h1 j row[j] (by simp [hj])
theorem vec_block {w : World} {E : Env} {lo k : Nat} {t : TypeId} {sz : Nat} {rows : List (List PV)} {fr : Bool} (hor : OR w E lo k (.vec t sz rows fr)) {b n c : Nat}
    (hv : E.val k = some (.slice (some ⟨b, 0, none⟩) n c)) : E.own b = some k ∧ n = rows.length ∧ n ≤ c ∧ 0 < sz ∧ ∃ cur : Array Value, w.heap[b]? = some (.cells cur t (0, 0)) ∧ cur.size = c * sz ∧
      RowsRep w E.bad (flo lo fr) sz rows (cur.toList.take (n * sz)) := by
  obtain ⟨v, xs, h1, h2, h3, h4, h5⟩ := hor
  rw [hv] at h1; cases h1
  obtain ⟨h31, h32⟩ := h3
  rcases h32 with ⟨h, _⟩ | ⟨g, cap, cur, he, _, hg, hle, _, hsz, htk⟩
  · cases h
  · simp only [Value.slice.injEq, Option.some.injEq, Addr.mk.injEq] at he
    obtain ⟨⟨rfl, _⟩, rfl, rfl⟩ := he
    exact ⟨h4 _ rfl, rfl, hle, h2, cur, hg, hsz, by rw [htk]; exact h5⟩
theorem opLoad_sound {C : Ctx} {H : Hint} {E : Env} {σ σ' : St} {a : Act} {w : World} {o : Oper} {t : TypeId} {x : Operand} {vc : Prop} (ho : o.op = .load t x)
    (hf : opLoad C.P H σ o t x = some (σ', vc)) (hvc : vc) (h : HoldsE C E σ a w) (hd : DstOk C o) : OpOut C o σ' a w := by
  have hev := ev_rep h x
  unfold opLoad at hf
  split at hf
  · rename_i k off he
    rw [he] at hev; simp only [VR] at hev
    obtain ⟨b, hb, hx⟩ := hev
    split at hf
    · rename_i bt cells hl
      split at hf
      · rename_i sv hsv
        simp only [Option.some.injEq, Prod.mk.injEq] at hf; obtain ⟨rfl, _⟩ := hf
        obtain ⟨b', vs, h1, h2, h3, h4⟩ := h.tab.obj k _ hl
        rw [hb] at h1; simp at h1; subst h1
        obtain ⟨v, hr, hv⟩ := load_rep (P := C.P) (b := b) (o := 0) h4 (fun j v hj => by rw [cell_at h3]; simpa using hj) hsv
        simp only [Nat.zero_add] at hr
        exact out_pure h hd (v := v) (by simp [execOp, ho, hx, hr]) hv
      · cases hf
    · cases hf
  · rename_i row off fr he
    rw [he] at hev; simp only [VR] at hev
    obtain ⟨b, o', hx, hrep⟩ := hev
    split at hf
    · rename_i sv hsv
      simp only [Option.some.injEq, Prod.mk.injEq] at hf; obtain ⟨rfl, _⟩ := hf
      obtain ⟨vs, h1, h2⟩ := repAt_row hrep
      obtain ⟨v, hr, hv⟩ := load_rep (P := C.P) (b := b) (o := o') h1 h2 hsv
      exact out_pure h hd (v := v) (by simp [execOp, ho, hx, hr]) hv
    · cases hf
  · rename_i k sz i off he
    rw [he] at hev; simp only [VR] at hev
    obtain ⟨b, n, c, hb, hx⟩ := hev
    split at hf
    · rename_i d tt sz' rows fr dd hl hdst
      split at hf
      · rename_i row hrow
        split at hf
        · rename_i sv hsv hszz
          have := Nat.eq_of_beq_eq_true hszz; subst this
          simp only [Option.some.injEq, Prod.mk.injEq] at hf; obtain ⟨rfl, rfl⟩ := hf
          obtain ⟨_, hn, hnc, hszp, cur, hg, hcs, hrr⟩ := vec_block (h.tab.obj k _ hl) hb
          obtain ⟨vs, h1, h2⟩ := rowsRep_row hrr hvc
          obtain ⟨v, hr, hv⟩ := load_rep (P := C.P) (b := b) (o := i * sz) h1 (fun j v hj => by
            have := h2 j v hj
            rw [cell_at hg]
            rw [List.getElem?_take] at this
            split at this
            · simpa using this
            · cases this) hsv
          exact out_pure h hd (v := v) (by simp [execOp, ho, hx, hr]) hv
        · cases hf
      · cases hf
    · cases hf
  · cases hf
theorem out_set {C : Ctx} {E : Env} {σ : St} {a : Act} {w w1 : World} {o : Oper} {k : Nat} {ov : OV} (h : HoldsE C E σ a w) (hd : DstOk C o) (hk : lk σ.tab k ≠ none)
    (hrun : (execOp a.eval o).run C.P w = .ok .skip w1) (hos : w1.os = w.os) (htp : w1.tape = w.tape) (hou : w1.output = w.output) (hs : w1.heap.size = w.heap.size)
    (hb : ∀ b, E.own b ≠ some k → w1.heap[b]? = w.heap[b]?) (hor : OR w1 E C.lo k ov) : OpOut C o ((⟨σ.slots, (k, ov) :: rm σ.tab k⟩ : St).put o.dst .u) a w :=
  ⟨undef, w1, .inr ⟨hrun, rfl⟩, E, h.upd (Fr.set hos htp hou hs hb) (fun _ _ h => h) (fun _ _ h => h) (h.tab.set hk hs hb hor) o.dst hd fun _ _ => by simp [VR]⟩
def opStore (P : Program) (H : Hint) (σ : St) (o : Oper) (t : TypeId) (x y : Operand) : Option (St × Prop) :=
  match cellsOf (ev σ y), P.info? t with
  | some xs, some i => match ones xs, Nat.beq xs.length i.size with
    | true, true => match ev σ x with
      | .ptr k off => match lk σ.tab k with
        | some (.box bt cells) => match Nat.ble (off + xs.length) cells.length with
          | true => some ((⟨σ.slots, (k, .box bt (spl cells off xs)) :: rm σ.tab k⟩ : St).put o.dst .u, True)
          | false => none
        | _ => none
      | .vptr k sz n off => match lk σ.tab k, toPVs xs with
        | some (.vec bt sz' rows fr), some (ys, fr2) => match lk H.st k, Nat.beq sz sz' with
          | some row, true => match Nat.ble (off + xs.length) row.length with
            | true => some ((⟨σ.slots, (k, .vec bt sz' (rows.set n (spl row off ys)) (fr && fr2)) :: rm σ.tab k⟩ : St).put o.dst .u, rows[n]? = some row)
            | false => none
          | _, _ => none
        | _, _ => none
      | _ => none
    | _, _ => none
  | _, _ => none
theorem run_storeAt {P : Program} {w : World} {t bt : TypeId} {i : TypeInfo} {b off : Nat} {v : Value} {cur : Array Value} (hi : P.info? t = some i) (hs : v.cells.toList.length = i.size)
    (hg : w.heap[b]? = some (.cells cur bt (0, 0))) (hle : off + v.cells.toList.length ≤ cur.size) (h1 : ∀ u ∈ v.cells.toList, u.oneCell' = true) :
    (Instr.storeAt t (.pointer (some ⟨b, off, none⟩)) v).run P w = .ok () (w.setRow b (spl cur.toList off v.cells.toList).toArray) := by
  have hst := run_storeCells_at P b off bt v.cells.toList 0 cur w hg (by simpa using hle) h1
  have hs' : v.cells.size = i.size := by simpa using hs
  simp only [Nat.add_zero] at hst
  simp [Instr.storeAt, Instr.sureAddr, storeVar, sizeOf, typeInfo, hi, hs', hst, spl, List.append_assoc]
theorem spl_length {α : Type} (cs : List α) (off : Nat) (new : List α) (h : off + new.length ≤ cs.length) : (spl cs off new).length = cs.length := by
  simp [spl]; omega
theorem spl_get {α : Type} (cs : List α) (off : Nat) (new : List α) (h : off + new.length ≤ cs.length) (j : Nat) :
    (spl cs off new)[j]? = if off ≤ j ∧ j < off + new.length then new[j - off]? else cs[j]? := by
  unfold spl
  rw [List.getElem?_append]
  simp only [List.length_take, Nat.min_eq_left (show off ≤ cs.length by omega)]
  split
  · rename_i hj
    rw [if_neg (by omega), List.getElem?_take, if_pos hj]
  · rename_i hj
    rw [List.getElem?_append]
    split
    · rename_i hj2
      rw [if_pos (by omega)]
    · rename_i hj2
      rw [if_neg (by omega), List.getElem?_drop]
      congr 1; omega
theorem opStore_sound {C : Ctx} {H : Hint} {E : Env} {σ σ' : St} {a : Act} {w : World} {o : Oper} {t : TypeId} {x y : Operand} {vc : Prop} (ho : o.op = .store t x y)
    (hf : opStore C.P H σ o t x y = some (σ', vc)) (hvc : vc) (h : HoldsE C E σ a w) (hd : DstOk C o) : OpOut C o σ' a w := by
  have hev := ev_rep h x
  unfold opStore at hf
  split at hf
  · rename_i xs i hxs hi
    have hvs := cellsOf_rep hxs (ev_rep h y)
    have hlen := VRs_length hvs
    have hszy : (a.eval y).cells.toList.length = (a.eval y).cells.size := by simp
    split at hf
    · rename_i hones hsz
      have hsz' := Nat.eq_of_beq_eq_true hsz
      have h1 := ones_one hones hvs
      split at hf
      · rename_i k off he
        rw [he] at hev; simp only [VR] at hev
        obtain ⟨b, hb, hx⟩ := hev
        split at hf
        · rename_i bt cells hl
          split at hf
          · rename_i hle
            have hle' := Nat.le_of_ble_eq_true hle
            simp only [Option.some.injEq, Prod.mk.injEq] at hf; obtain ⟨rfl, _⟩ := hf
            obtain ⟨b', vs, e1, e2, e3, e4⟩ := h.tab.obj k _ hl
            rw [hb] at e1; simp at e1; subst e1
            have hvl := VRs_length e4
            have hr := run_storeAt (P := C.P) (off := off) (v := a.eval y) hi (by omega) e3 (by simp; omega) h1
            have hk0 : lk σ.tab k ≠ none := by rw [hl]; simp
            refine out_set h hd hk0 (w1 := w.setRow b (spl vs off (a.eval y).cells.toList).toArray) (by simp [execOp, ho, hx, hr]) rfl rfl rfl (by simp) ?_ ?_
            · intro c hc
              exact setRow_other w b c _ (fun e => hc (by rw [e]; exact e2))
            · refine ⟨b, spl vs off (a.eval y).cells.toList, hb, e2, setRow_heap w b _ _ bt _ e3, ?_⟩
              have hkeep : Keeps w E (w.setRow b (spl vs off (a.eval y).cells.toList).toArray) E := ⟨fun c _ hn => ⟨setRow_other w b c _ (fun e => by subst e; rw [hn] at e2; cases e2), hn⟩, rfl⟩
              exact VRs.mono hkeep (fun _ _ h => h) _ _ (VRs_spl off e4 hvs)
          · cases hf
        · cases hf
      · rename_i k sz n off he
        rw [he] at hev; simp only [VR] at hev
        obtain ⟨b, nn, c, hb, hx⟩ := hev
        split at hf
        · rename_i bt sz' rows fr ys fr2 hl hys
          split at hf
          · rename_i row hrow hszz
            have := Nat.eq_of_beq_eq_true hszz; subst this
            split at hf
            · rename_i hle
              have hle' := Nat.le_of_ble_eq_true hle
              simp only [Option.some.injEq, Prod.mk.injEq] at hf; obtain ⟨rfl, rfl⟩ := hf
              have hor := h.tab.obj k _ hl
              obtain ⟨e2, hn, hnc, hszp, cur, hg, hcs, f, r1, r2, r3⟩ := vec_block hor hb
              obtain ⟨g1, g2, g, g3, g4⟩ := toPVs_rep xs ys fr2 hys _ hvs
              have hi' : n < rows.length := (List.getElem?_eq_some_iff.1 hvc).1
              have hrl := r1 n row hvc
              have hfit : n * sz + sz ≤ cur.size := by
                rw [hcs]
                have : (n + 1) * sz ≤ c * sz := Nat.mul_le_mul_right _ (by omega)
                rw [Nat.add_mul, Nat.one_mul] at this; exact this
              have hyl : ys.length = (a.eval y).cells.toList.length := g2.symm
              have hr := run_storeAt (P := C.P) (off := n * sz + off) (v := a.eval y) hi (by omega) hg (by omega) h1
              have hk0 : lk σ.tab k ≠ none := by rw [hl]; simp
              refine out_set h hd hk0 (w1 := w.setRow b (spl cur.toList (n * sz + off) (a.eval y).cells.toList).toArray) (by simp [execOp, ho, hx, hr]) rfl rfl rfl (by simp) ?_ ?_
              · intro c hc
                exact setRow_other w b c _ (fun e => hc (by rw [e]; exact e2))
              · obtain ⟨v, vxs, q1, q2, q3, q4, q5⟩ := hor
                rw [hb] at q1; cases q1
                have hkeep : Keeps w E (w.setRow b (spl cur.toList (n * sz + off) (a.eval y).cells.toList).toArray) E := ⟨fun c _ hn => ⟨setRow_other w b c _ (fun e => by subst e; rw [hn] at e2; cases e2), hn⟩, rfl⟩
                obtain ⟨q31, q32⟩ := q3
                rcases q32 with ⟨q, _⟩ | ⟨gg, cap, cur', qe, _, qg, qle, qm, qsz, qtk⟩
                · cases q
                simp only [Value.slice.injEq, Option.some.injEq, Addr.mk.injEq] at qe
                obtain ⟨⟨rfl, _⟩, rfl, rfl⟩ := qe
                rw [hg] at qg; simp at qg; subst qg
                have hsl : (spl cur.toList (n * sz + off) (a.eval y).cells.toList).length = cur.size := by rw [spl_length _ _ _ (by simp; omega)]; simp
                refine ⟨_, (spl cur.toList (n * sz + off) (a.eval y).cells.toList).take (rows.length * sz), hb, hszp, ⟨?_, .inr ⟨b, c, _, by rw [hn]; simp, Nat.zero_le _, setRow_heap w b _ _ bt _ hg, by simp; omega, by omega, by simp [hsl, hcs], by simp⟩⟩, q4, ?_⟩
                · simp only [List.length_take, hsl, hcs, List.length_set]
                  exact Nat.min_eq_left (Nat.mul_le_mul_right _ (by omega))
                · refine ⟨fun i j => if i = n ∧ off ≤ j ∧ j < off + ys.length then g (j - off) else f i j, ?_, ?_, ?_⟩
                  · intro i row' hrow'
                    by_cases hin : n = i
                    · subst hin
                      rw [List.getElem?_set_self hi'] at hrow'; simp at hrow'; subst hrow'
                      rw [spl_length _ _ _ (by omega)]; exact hrl
                    · rw [List.getElem?_set_ne hin] at hrow'; exact r1 i row' hrow'
                  · intro i row' j x' hrow' hj
                    have hilt : i < rows.length := by have := (List.getElem?_eq_some_iff.1 hrow').1; simpa using this
                    have hjlt : j < sz := by
                      by_cases hin : n = i
                      · subst hin
                        rw [List.getElem?_set_self hi'] at hrow'; simp at hrow'; subst hrow'
                        have := (List.getElem?_eq_some_iff.1 hj).1
                        rw [spl_length _ _ _ (by omega)] at this; omega
                      · rw [List.getElem?_set_ne hin] at hrow'; rw [← r1 i row' hrow']; exact (List.getElem?_eq_some_iff.1 hj).1
                    have hij : i * sz + j < rows.length * sz := by
                      have : (i + 1) * sz ≤ rows.length * sz := Nat.mul_le_mul_right _ (by omega)
                      rw [Nat.add_mul, Nat.one_mul] at this; omega
                    rw [List.getElem?_take, if_pos hij, spl_get _ _ _ (by simp; omega)]
                    by_cases hin : n = i
                    · subst hin
                      rw [List.getElem?_set_self hi'] at hrow'; simp at hrow'; subst hrow'
                      rw [spl_get _ _ _ (by omega)] at hj
                      by_cases hr2 : off ≤ j ∧ j < off + ys.length
                      · rw [if_pos (by omega)]; dsimp only; rw [if_pos ⟨rfl, hr2⟩]
                        rw [if_pos hr2] at hj
                        have := g3 (j - off) x' hj
                        rw [show n * sz + j - (n * sz + off) = j - off by omega]; exact this
                      · rw [if_neg (by omega)]; dsimp only; rw [if_neg (fun hh => hr2 hh.2)]
                        rw [if_neg hr2] at hj
                        have := r2 n row j x' hvc hj
                        rw [List.getElem?_take, if_pos (by rw [hn]; exact hij)] at this
                        exact this
                    · rw [List.getElem?_set_ne hin] at hrow'
                      have hne : ¬ (n * sz + off ≤ i * sz + j ∧ i * sz + j < n * sz + off + (a.eval y).cells.toList.length) := by
                        intro hh
                        rcases Nat.lt_or_gt_of_ne hin with hlt | hgt
                        · have : (n + 1) * sz ≤ i * sz := Nat.mul_le_mul_right _ (by omega)
                          rw [Nat.add_mul, Nat.one_mul] at this; omega
                        · have : (i + 1) * sz ≤ n * sz := Nat.mul_le_mul_right _ (by omega)
                          rw [Nat.add_mul, Nat.one_mul] at this; omega
                      rw [if_neg hne]; dsimp only; rw [if_neg (fun hh => hin hh.1.symm)]
                      have := r2 i row' j x' hrow' hj
                      rw [List.getElem?_take, if_pos (by rw [hn]; exact hij)] at this
                      exact this
                  · intro i row' j x' hrow' hj
                    by_cases hin : n = i
                    · subst hin
                      rw [List.getElem?_set_self hi'] at hrow'; simp at hrow'; subst hrow'
                      rw [spl_get _ _ _ (by omega)] at hj
                      by_cases hr2 : off ≤ j ∧ j < off + ys.length
                      · dsimp only; rw [if_pos ⟨rfl, hr2⟩]
                        rw [if_pos hr2] at hj
                        exact (g4 (j - off) x' hj).mono (flo_and _ _ _).2 hkeep.rep
                      · dsimp only; rw [if_neg (fun hh => hr2 hh.2)]
                        rw [if_neg hr2] at hj
                        exact (r3 n row j x' hvc hj).mono (flo_and _ _ _).1 hkeep.rep
                    · rw [List.getElem?_set_ne hin] at hrow'
                      dsimp only; rw [if_neg (fun hh => hin hh.1.symm)]
                      exact (r3 i row' j x' hrow' hj).mono (flo_and _ _ _).1 hkeep.rep
            · cases hf
          · cases hf
        · cases hf
      · cases hf
    · cases hf
  · cases hf
def fieldOff (P : Program) (s : TypeId) (f : Nat) : Option (Nat × Nat) :=
  match P.underlying s with
  | some (.struct fields) => match fields.toList[f]? with
    | some fd => match P.info? fd.type with
      | some i => match Nat.beq i.size 0 with | true => none | false => some (fd.offset, i.size)
      | none => none
    | none => none
  | _ => none
def shift (n m : Nat) : SV → Option SV
  | .ptr k off => some (.ptr k (off + n))
  | .pd row 0 fr => some (.pd ((row.drop n).take m) 0 fr)
  | .vptr k sz i off => some (.vptr k sz i (off + n))
  | _ => none
theorem shift_rep {w : World} {E : Env} {lo n m : Nat} {s s' : SV} {v : Value} (hs : shift n m s = some s') (h : VR w E lo s v) :
    ∃ b o, v = .pointer (some ⟨b, o, none⟩) ∧ VR w E lo s' (.pointer (some ⟨b, o + n, none⟩)) := by
  cases s with
  | ptr k off =>
    simp only [shift, Option.some.injEq] at hs; subst hs; simp only [VR] at h ⊢
    obtain ⟨b, h1, rfl⟩ := h; exact ⟨b, off, rfl, b, h1, rfl⟩
  | pd row off fr =>
    cases off with
    | succ off => simp [shift] at hs
    | zero =>
      simp only [shift, Option.some.injEq] at hs; subst hs; simp only [VR] at h ⊢
      obtain ⟨b, o, rfl, cs, t, fz, f, h1, h2, h3, h4, h5⟩ := h
      have hget : ∀ (j : Nat) x, ((row.drop n).take m)[j]? = some x → row[n + j]? = some x := by
        intro j x hx
        rw [List.getElem?_take] at hx
        split at hx
        · rw [List.getElem?_drop] at hx; exact hx
        · cases hx
      exact ⟨b, o + 0, rfl, b, o + n, rfl, cs, t, fz, fun j => f (n + j), h1, h2, h3, fun j x hx => by have := h4 _ x (hget j x hx); rw [Nat.add_assoc]; exact this, fun j x hx => h5 _ x (hget j x hx)⟩
  | vptr k sz i off =>
    simp only [shift, Option.some.injEq] at hs; subst hs; simp only [VR] at h ⊢
    obtain ⟨b, n', c, h1, rfl⟩ := h; exact ⟨b, _, rfl, b, n', c, h1, by rw [Nat.add_assoc]⟩
  | _ => simp [shift] at hs
def opFieldAddr (P : Program) (σ : St) (o : Oper) (s : TypeId) (x : Operand) (f : Nat) : Option (St × Prop) :=
  match fieldOff P s f with
  | some (n, m) => match shift n m (ev σ x) with
    | some sv => some (σ.put o.dst sv, True)
    | none => none
  | none => none
theorem opFieldAddr_sound {C : Ctx} {E : Env} {σ σ' : St} {a : Act} {w : World} {o : Oper} {s : TypeId} {x : Operand} {f : Nat} {vc : Prop} (ho : o.op = .fieldAddr s x f)
    (hf : opFieldAddr C.P σ o s x f = some (σ', vc)) (h : HoldsE C E σ a w) (hd : DstOk C o) : OpOut C o σ' a w := by
  unfold opFieldAddr at hf
  split at hf
  · rename_i n m hn
    split at hf
    · rename_i sv hsv
      simp only [Option.some.injEq, Prod.mk.injEq] at hf; obtain ⟨rfl, _⟩ := hf
      obtain ⟨b, o', hx, hv⟩ := shift_rep hsv (ev_rep h x)
      unfold fieldOff at hn
      split at hn
      · rename_i fields hu
        split at hn
        · rename_i fd hfd
          split at hn
          · rename_i i hi
            split at hn
            · cases hn
            · rename_i hz
              simp only [Option.some.injEq, Prod.mk.injEq] at hn; obtain ⟨rfl, rfl⟩ := hn
              have hz' : i.size ≠ 0 := fun e => by rw [e] at hz; simp at hz
              have hfd' : fields[f]? = some fd := by simpa using hfd
              refine out_pure h hd (v := .pointer (some ⟨b, o' + fd.offset, none⟩)) ?_ hv
              simp [execOp, ho, hx, Instr.fieldAt, run_underlying hu, hfd', Instr.sureAddr, fieldPlace, sizeOf, typeInfo, hi, hz', Addr.add_lit]
          · cases hn
        · cases hn
      · cases hn
    · cases hf
  · cases hf
def opNilCheck (σ : St) (o : Oper) (x : Operand) : Option (St × Prop) :=
  match ev σ x with
  | .ptr k off => some (σ.put o.dst (.ptr k off), True)
  | .pd row off fr => some (σ.put o.dst (.pd row off fr), True)
  | .vptr k sz i off => some (σ.put o.dst (.vptr k sz i off), True)
  | .ifc t y => some (σ.put o.dst (.ifc t y), True)
  | .fn (.func f) first caps => some (σ.put o.dst (.fn (.func f) first caps), True)
  | _ => none
theorem opNilCheck_sound {C : Ctx} {E : Env} {σ σ' : St} {a : Act} {w : World} {o : Oper} {x : Operand} {vc : Prop} (ho : o.op = .nilCheck x)
    (hf : opNilCheck σ o x = some (σ', vc)) (h : HoldsE C E σ a w) (hd : DstOk C o) : OpOut C o σ' a w := by
  have hev := ev_rep h x
  unfold opNilCheck at hf
  split at hf <;> (try (cases hf; done)) <;> rename_i he <;> simp only [Option.some.injEq, Prod.mk.injEq] at hf <;> obtain ⟨rfl, _⟩ := hf <;> rw [he] at hev <;>
    refine out_pure h hd (v := a.eval x) ?_ hev <;> simp only [VR] at hev
  · obtain ⟨b, _, hx⟩ := hev; simp [execOp, ho, hx]
  · obtain ⟨b, o', hx, _⟩ := hev; simp [execOp, ho, hx]
  · obtain ⟨b, n, c, _, hx⟩ := hev; simp [execOp, ho, hx]
  · obtain ⟨y', hx, _⟩ := hev; simp [execOp, ho, hx]
  · obtain ⟨vs, ws, hx, _⟩ := hev; simp [execOp, ho, hx]
end Go.TL
namespace Go.TL
def Env.re (E : Env) (k d : Nat) (x : Value) : Env :=
  ⟨fun j => if j = d then some x else if j = k then none else E.val j, fun c => if x.ownBlock = some c then some d else if E.own c = some k then none else E.own c, E.ext⟩
theorem re_but {w : World} {E : Env} {lo k d : Nat} {x : Value} {T : Tab} (h : TabOK w E lo T) (hd : lk (rm T k) d = none) : But k E (E.re k d x) := by
  intro j y hj hy
  have hjd : j ≠ d := fun e => by
    subst e; rw [lk_rm_ne _ _ _ hj] at hd; rw [h.dead j hd] at hy; cases hy
  simp [Env.re, hjd, hj, hy]
theorem TabOK.re {w w' : World} {E : Env} {lo k d : Nat} {x : Value} {T : Tab} {ov : OV} (h : TabOK w E lo T) (hd : lk (rm T k) d = none) (hs : w.heap.size ≤ w'.heap.size)
    (hb : ∀ b, b < w.heap.size → E.own b ≠ some k → w'.heap[b]? = w.heap[b]?) (hx : ∀ g, x.ownBlock = some g → (E.own g = some k ∨ w.heap.size ≤ g) ∧ g < w'.heap.size)
    (hlo : lo ≤ w.heap.size) (hor : OR w' (E.re k d x) lo d ov) :
    TabOK w' (E.re k d x) lo ((d, ov) :: fzTab k .u (fun _ => .u) (rm T k)) ∧ Keeps w E w' (E.re k d x) := by
  have hkeep : Keeps w E w' (E.re k d x) := by
    refine ⟨?_, rfl⟩
    intro b hlt hn
    refine ⟨hb b hlt (by rw [hn]; simp), ?_⟩
    simp only [Env.re]
    split
    · rename_i hg
      rcases (hx b hg).1 with h1 | h1
      · rw [hn] at h1; cases h1
      · omega
    · rw [if_neg (by rw [hn]; simp)]; exact hn
  have hbut := re_but (x := x) h hd
  have hown : ∀ j, j ≠ k → j ≠ d → ∀ b, (E.re k d x).own b = some j ↔ E.own b = some j := by
    intro j hjk hjd b
    simp only [Env.re]
    split
    · rename_i hg
      constructor
      · intro e; simp at e; exact absurd e.symm hjd
      · intro e
        rcases (hx b hg).1 with h1 | h1
        · rw [e] at h1; simp at h1; exact absurd h1 hjk
        · have := (h.own b j e).1; omega
    · split
      · rename_i hk
        constructor
        · intro e; cases e
        · intro e; rw [hk] at e; simp at e; exact absurd e.symm hjk
      · exact Iff.rfl
  refine ⟨⟨?_, ?_, ?_, ?_⟩, hkeep⟩
  · intro j o hl
    by_cases he : j = d
    · subst he; rw [lk_cons_same] at hl; cases hl; exact hor
    · rw [lk_cons_ne _ _ _ _ he, lk_fzTab] at hl
      by_cases hjk : j = k
      · subst hjk; rw [lk_rm_same] at hl; simp at hl
      · rw [lk_rm_ne _ _ _ hjk] at hl
        cases hq : lk T j with
        | none => simp [hq] at hl
        | some o0 =>
          simp [hq] at hl; subst hl
          exact OR.fz hjk hkeep hbut (fun _ _ => by simp [VR]) (fun _ _ _ => by simp [VR]) (hown j hjk he)
            (fun b ho => hb b (h.own b j ho).1 (by rw [ho]; simp [hjk])) (h.obj j o0 hq)
  · intro j hl
    have he : j ≠ d := fun e => by subst e; rw [lk_cons_same] at hl; cases hl
    rw [lk_cons_ne _ _ _ _ he, lk_fzTab] at hl
    simp only [Env.re, if_neg he]
    by_cases hjk : j = k
    · simp [hjk]
    · rw [if_neg hjk]
      rw [lk_rm_ne _ _ _ hjk] at hl
      exact h.dead j (by simpa using hl)
  · intro b j ho
    by_cases he : j = d
    · subst he
      refine ⟨?_, ?_, by rw [lk_cons_same]; simp⟩
      · simp only [Env.re] at ho
        split at ho
        · rename_i hg; exact (hx b hg).2
        · split at ho
          · cases ho
          · have := (h.own b j ho).1; omega
      · simp only [Env.re] at ho
        split at ho
        · rename_i hg
          rcases (hx b hg).1 with h1 | h1
          · exact (h.own b k h1).2.1
          · omega
        · split at ho
          · cases ho
          · exact (h.own b j ho).2.1
    · have hjk : j ≠ k := by
        intro e; subst e
        simp only [Env.re] at ho
        split at ho
        · simp at ho; exact he ho.symm
        · split at ho
          · cases ho
          · rename_i hn; exact hn ho
      have h1 := h.own b j ((hown j hjk he b).1 ho)
      refine ⟨by omega, h1.2.1, ?_⟩
      rw [lk_cons_ne _ _ _ _ he, lk_fzTab, lk_rm_ne _ _ _ hjk]
      simpa using h1.2.2
  · intro b hxx
    have h1 := h.ext b hxx
    refine ⟨by omega, ?_⟩
    simp only [Env.re]
    split
    · rename_i hg
      rcases (hx b hg).1 with h2 | h2
      · rw [h1.2] at h2; cases h2
      · omega
    · rw [if_neg (by rw [h1.2]; simp)]; exact h1.2
def St.re (σ : St) (k d : Nat) (ov : OV) : St := ⟨(d, .vec d) :: fzSlots k .u (fun _ => .u) σ.slots, (d, ov) :: fzTab k .u (fun _ => .u) (rm σ.tab k)⟩
theorem out_re {C : Ctx} {E : Env} {σ : St} {a : Act} {w w' : World} {o : Oper} {k d : Nat} {x : Value} {ov : OV} (h : HoldsE C E σ a w) (hd : DstOk C o) (hdst : o.dst = some d)
    (hfresh : lk (rm σ.tab k) d = none) (hrun : (execOp a.eval o).run C.P w = .ok (.value x) w') (hos : w'.os = w.os) (htp : w'.tape = w.tape) (hou : w'.output = w.output)
    (hs : w.heap.size ≤ w'.heap.size) (hb : ∀ b, b < w.heap.size → E.own b ≠ some k → w'.heap[b]? = w.heap[b]?)
    (hx : ∀ g, x.ownBlock = some g → (E.own g = some k ∨ w.heap.size ≤ g) ∧ g < w'.heap.size) (hsl : ∃ p n c, x = .slice p n c)
    (hor : Keeps w E w' (E.re k d x) → OR w' (E.re k d x) C.lo d ov) : OpOut C o (σ.re k d ov) a w := by
  have hlo : C.lo ≤ w.heap.size := Nat.le_trans h.lo h.fr.size
  have hkeep : Keeps w E w' (E.re k d x) := by
    refine ⟨?_, rfl⟩
    intro b hlt hn
    refine ⟨hb b hlt (by rw [hn]; simp), ?_⟩
    simp only [Env.re]
    split
    · rename_i hg
      rcases (hx b hg).1 with h1 | h1
      · rw [hn] at h1; cases h1
      · omega
    · rw [if_neg (by rw [hn]; simp)]; exact hn
  have ht := TabOK.re h.tab hfresh hs hb hx hlo (hor hkeep)
  refine ⟨x, w', .inl hrun, E.re k d x, ?_⟩
  have hdn : d < C.n := hd d hdst
  have := h.updK (k := k) (E' := E.re k d x) ⟨hos, htp, hou, hs, hkeep.keep, hkeep.ext⟩ (re_but h.tab hfresh) (fun j hj hn => by
    simp only [Env.re]; rw [if_neg (by omega)]
    rcases hn with hn | hn
    · split
      · rfl
      · exact hn
    · rw [if_pos hn]) ht.1 o.dst hd (sv := .vec d) (v := x) (fun _ _ => by simp only [VR]; exact ⟨by simp [Env.re], hsl⟩)
  rw [hdst] at this ⊢
  exact this
structure SrcOk (w : World) (bad : Nat → Prop) (lo sz : Nat) (rows : List (List PV)) (x : Value) : Prop where
  out : (rows = [] ∧ ∃ b c, x = .slice b 0 c) ∨ ∃ (a : Addr) (c : Nat) (news : List Value), x = .slice (some a) rows.length c ∧ news.length = rows.length * sz ∧
    (∀ (j : Nat) u, news[j]? = some u → w.cell? (a.add j) = some u) ∧ (∀ u ∈ news, u.oneCell' = true) ∧ RowsRep w bad lo sz rows news
def srcOf (T : Tab) : SV → Option (List (List PV) × Bool)
  | .vec k => match lk T k with
    | some (.vec _ _ rows fr) => some (rows, fr)
    | _ => none
  | .p (.sl rows) fr => some (rows, fr)
  | .p (.v (.slice none 0 0)) _ => some ([], true)
  | .pc rows fr => some (rows, fr)
  | _ => none
theorem rep_sl_src {w : World} {bad : Nat → Prop} {lo sz : Nat} {rows : List (List PV)} {x : Value} (h : Rep w bad lo (.sl rows) x)
    (hsz : ∀ (i : Nat) (row : List PV), rows[i]? = some row → row.length = sz) (hpos : 0 < sz) : SrcOk w bad lo sz rows x := by
  cases h with
  | nil b c => exact ⟨.inl ⟨rfl, b, c, rfl⟩⟩
  | sl _ b off cap cs t fz szq f hcap hb hbad hlo hfz hlen hc hr =>
    by_cases hn : rows = []
    · subst hn; exact ⟨.inl ⟨rfl, some ⟨b, off, none⟩, cap, rfl⟩⟩
    · have hs : szq = sz := by
        have h0 : rows[0]? = some (rows[0]'(List.length_pos_iff.2 hn)) := by simp [List.length_pos_iff.2 hn]
        rw [← hlen 0 _ h0, hsz 0 _ h0]
      subst hs
      have hcell : ∀ j, j < rows.length * szq → cs[off + j]? = some (f (j / szq) (j % szq)) ∧ Rep w bad lo ((rows.getD (j / szq) []).getD (j % szq) default) (f (j / szq) (j % szq)) := by
        intro j hj
        have hq : j / szq < rows.length := (Nat.div_lt_iff_lt_mul hpos).2 hj
        have hm : j % szq < szq := Nat.mod_lt _ hpos
        have hrow : rows[j / szq]? = some rows[j / szq] := by simp [hq]
        have hcl : rows[j / szq][j % szq]? = some (rows[j / szq][j % szq]'(by rw [hlen _ _ hrow]; exact hm)) := by simp [hlen _ _ hrow, hm]
        have h1 := hc _ _ _ _ hrow hcl
        have h2 := hr _ _ _ _ hrow hcl
        have e : off + j / szq * szq + j % szq = off + j := by
          have := Nat.div_add_mod j szq; rw [Nat.mul_comm] at this; omega
        rw [e] at h1
        refine ⟨h1, ?_⟩
        have : ((rows.getD (j / szq) []).getD (j % szq) default) = rows[j / szq][j % szq]'(by rw [hlen _ _ hrow]; exact hm) := by simp [List.getD, hrow, hcl]
        rw [this]; exact h2
      refine ⟨.inr ⟨⟨b, off, none⟩, cap, (List.range (rows.length * szq)).map fun j => f (j / szq) (j % szq), rfl, by simp, ?_, ?_, ?_⟩⟩
      · intro j u hu
        have hj : j < rows.length * szq := by have := (List.getElem?_eq_some_iff.1 hu).1; simpa using this
        simp [hj] at hu; subst hu
        rw [Addr.add_lit, cell_at hb]; exact (hcell j hj).1
      · intro u hu
        obtain ⟨j, hj, rfl⟩ := List.mem_map.1 hu
        exact (hcell j (by simpa using hj)).2.one
      · refine ⟨f, hlen, ?_, hr⟩
        intro i row j x hi hj
        have hil : i < rows.length := (List.getElem?_eq_some_iff.1 hi).1
        have hjl : j < szq := by rw [← hlen i row hi]; exact (List.getElem?_eq_some_iff.1 hj).1
        have hlt : i * szq + j < rows.length * szq := by
          have : (i + 1) * szq ≤ rows.length * szq := Nat.mul_le_mul_right _ (by omega)
          rw [Nat.add_mul, Nat.one_mul] at this; omega
        have e1 : (i * szq + j) / szq = i := by rw [Nat.mul_comm, Nat.mul_add_div hpos, Nat.div_eq_of_lt hjl]; simp
        have e2 : (i * szq + j) % szq = j := by rw [Nat.mul_comm, Nat.mul_add_mod, Nat.mod_eq_of_lt hjl]
        simp [hlt, e1, e2]
theorem rowsRep_one {w : World} {bad : Nat → Prop} {lo sz : Nat} {rows : List (List PV)} {xs : List Value} (h : RowsRep w bad lo sz rows xs) (hl : xs.length = rows.length * sz) (hpos : 0 < sz) :
    ∀ u ∈ xs, u.oneCell' = true := by
  obtain ⟨f, h1, h2, h3⟩ := h
  intro u hu
  obtain ⟨j, hj, rfl⟩ := List.mem_iff_getElem.1 hu
  rw [hl] at hj
  have hq : j / sz < rows.length := (Nat.div_lt_iff_lt_mul hpos).2 hj
  have hm : j % sz < sz := Nat.mod_lt _ hpos
  have hrow : rows[j / sz]? = some rows[j / sz] := by simp [hq]
  have hcl : rows[j / sz][j % sz]? = some (rows[j / sz][j % sz]'(by rw [h1 _ _ hrow]; exact hm)) := by simp [h1 _ _ hrow, hm]
  have e : j / sz * sz + j % sz = j := by
    have := Nat.div_add_mod j sz; rw [Nat.mul_comm] at this; omega
  have h4 := h2 _ _ _ _ hrow hcl
  rw [e] at h4
  have h5 := (h3 _ _ _ _ hrow hcl).one
  rw [List.getElem?_eq_some_iff] at h4
  obtain ⟨_, h4⟩ := h4
  rw [h4]; exact h5
theorem src_rep {C : Ctx} {E : Env} {σ : St} {a : Act} {w : World} {sv : SV} {v : Value} {rows : List (List PV)} {fr : Bool} {sz : Nat} (h : HoldsE C E σ a w) (hs : srcOf σ.tab sv = some (rows, fr))
    (hv : VR w E C.lo sv v) (hsz : ∀ (i : Nat) (row : List PV), rows[i]? = some row → row.length = sz) (hpos : 0 < sz) : SrcOk w E.bad (flo C.lo fr) sz rows v := by
  unfold srcOf at hs
  split at hs
  · rename_i k
    split at hs
    · rename_i t' szq rows' fr' hl
      simp only [Option.some.injEq, Prod.mk.injEq] at hs; obtain ⟨rfl, rfl⟩ := hs
      obtain ⟨x, xs, h1, h2, h3, h4, h5⟩ := h.tab.obj k _ hl
      simp only [VR] at hv
      rw [hv.1] at h1; cases h1
      rcases h3.2 with ⟨rfl, hn⟩ | ⟨g, cap, cur, rfl, hb, hg, hle, hcm, hcs, htk⟩
      · exact ⟨.inl ⟨List.eq_nil_of_length_eq_zero hn, none, 0, rfl⟩⟩
      · by_cases hn : rows' = []
        · subst hn; exact ⟨.inl ⟨rfl, some ⟨g, 0, none⟩, cap, rfl⟩⟩
        have hss : szq = sz := by
          obtain ⟨f, f1, _⟩ := h5
          have h0 : rows'[0]? = some (rows'[0]'(List.length_pos_iff.2 hn)) := by simp [List.length_pos_iff.2 hn]
          rw [← f1 0 _ h0, hsz 0 _ h0]
        subst hss
        refine ⟨.inr ⟨⟨g, 0, none⟩, cap, xs, rfl, h3.1, ?_, rowsRep_one h5 h3.1 hpos, h5⟩⟩
        intro j u hu
        rw [Addr.add_lit, cell_at hg]
        rw [← htk, List.getElem?_take] at hu
        split at hu
        · simpa using hu
        · cases hu
    · cases hs
  · simp only [Option.some.injEq, Prod.mk.injEq] at hs; obtain ⟨rfl, rfl⟩ := hs
    simp only [VR] at hv
    exact rep_sl_src hv hsz hpos
  · simp only [Option.some.injEq, Prod.mk.injEq] at hs; obtain ⟨rfl, rfl⟩ := hs
    have := VR_v_eq hv; subst this
    exact ⟨.inl ⟨rfl, none, 0, rfl⟩⟩
  · simp only [Option.some.injEq, Prod.mk.injEq] at hs; obtain ⟨rfl, rfl⟩ := hs
    simp only [VR] at hv
    obtain ⟨_, _, hv⟩ := hv
    exact rep_sl_src hv hsz hpos
  · cases hs
theorem RowsRep.append {w : World} {bad : Nat → Prop} {lo sz : Nat} {r1 r2 : List (List PV)} {x1 x2 : List Value} (h1 : RowsRep w bad lo sz r1 x1) (hl : x1.length = r1.length * sz)
    (h2 : RowsRep w bad lo sz r2 x2) : RowsRep w bad lo sz (r1 ++ r2) (x1 ++ x2) := by
  obtain ⟨f, a1, a2, a3⟩ := h1
  obtain ⟨g, b1, b2, b3⟩ := h2
  refine ⟨fun i j => if i < r1.length then f i j else g (i - r1.length) j, ?_, ?_, ?_⟩
  · intro i row hi
    rw [List.getElem?_append] at hi
    split at hi
    · exact a1 i row hi
    · exact b1 _ row hi
  · intro i row j x hi hj
    rw [List.getElem?_append] at hi
    split at hi
    · rename_i hlt
      simp only [hlt, if_true]
      have hjl : j < sz := by rw [← a1 i row hi]; exact (List.getElem?_eq_some_iff.1 hj).1
      have : i * sz + j < x1.length := by
        rw [hl]
        have : (i + 1) * sz ≤ r1.length * sz := Nat.mul_le_mul_right _ (by omega)
        rw [Nat.add_mul, Nat.one_mul] at this; omega
      rw [List.getElem?_append_left this]
      exact a2 i row j x hi hj
    · rename_i hlt
      simp only [hlt, if_false]
      have hge : x1.length ≤ i * sz + j := by
        rw [hl]
        have : r1.length * sz ≤ i * sz := Nat.mul_le_mul_right _ (by omega)
        omega
      rw [List.getElem?_append_right hge]
      have := b2 _ row j x hi hj
      rw [Nat.sub_mul] at this
      rw [hl]
      have hle : r1.length * sz ≤ i * sz := Nat.mul_le_mul_right _ (by omega)
      rw [show i * sz + j - r1.length * sz = i * sz - r1.length * sz + j by omega]
      exact this
  · intro i row j x hi hj
    rw [List.getElem?_append] at hi
    split at hi
    · rename_i hlt
      simp only [hlt, if_true]; exact a3 i row j x hi hj
    · rename_i hlt
      simp only [hlt, if_false]; exact b3 _ row j x hi hj
theorem run_append_mine {P : Program} {w : World} (t ty e : TypeId) (i : TypeInfo) (z : Value) (ht : P.underlying t = some (.slice e)) (hi : P.info? e = some i) (hz : i.zero = some z)
    (hzs : z.cells.size = i.size) (hsz : 0 < i.size) (v : Value) (n : Nat) (xs : List Value) (hown : w.ownsRow 0 e i.size v n xs)
    (x : Value) (m : Nat) (news : List Value) (hx : (m = 0 ∧ news = [] ∧ ∃ b c, x = .slice b 0 c) ∨ ∃ (a : Addr) (c : Nat), x = .slice (some a) m c ∧ news.length = m * i.size ∧
      (∀ (j : Nat) u, news[j]? = some u → w.cell? (a.add j) = some u) ∧ (∀ u ∈ news, u.oneCell' = true))
    (hbytes : (n + m) * i.bytes ≤ 140737488355328) (hlen : n + m ≤ 140737488355328) :
    ∃ v' w', (Builtin.append_ #[t, t] ty #[v, x]).run P w = .ok v' w' ∧ w'.ownsRow 0 e i.size v' (n + m) (xs ++ news) ∧ w.grownBy w' v.ownBlock ∧
      (∀ g, v'.ownBlock = some g → (v.ownBlock = some g ∨ w.heap.size ≤ g) ∧ g < w'.heap.size) ∧ ∃ p n c, v' = .slice p n c := by
  have hmax : n + m ≤ maxLen := by simp only [maxLen]; omega
  have hshape : ∃ p c, v = .slice p n c ∧ n ≤ c := by
    rcases hown.2 with ⟨rfl, rfl⟩ | ⟨g, cap, cur, rfl, _, _, hle, _⟩
    · exact ⟨none, 0, rfl, Nat.le_refl _⟩
    · exact ⟨_, cap, rfl, hle⟩
  rcases hx with ⟨rfl, rfl, b, c, rfl⟩ | ⟨a, c, rfl, hl, hnews, h1⟩
  · obtain ⟨p, cp, rfl, hle⟩ := hshape
    refine ⟨.slice p n cp, w, ?_, by simpa using hown, ⟨rfl, rfl, rfl, Nat.le_refl _, fun _ _ _ => rfl⟩, ?_, p, n, cp, rfl⟩
    · have hf : (Builtin.firstCells i.size 0 (.slice b 0 c)).run P w = .ok #[] w := by
        cases b with
        | none => exact run_firstCells_none w _ _ _ _
        | some b => exact run_firstCells_some (P := P) w i.size 0 b 0 c [] (by simp) (by simp)
      cases p <;> simp [Builtin.append_, run_underlying ht, sizeOf, typeInfo, hi, Builtin.lenOf, hle, hf, storeCells]
    · intro g hg
      exact ⟨.inl hg, (hown.lt g hg).2⟩
  · have hr := run_append_own (P := P) w 0 t ty e i z i.size i.bytes ht hi hz rfl rfl hzs hsz v n xs hown a m c news hl hnews h1 hmax hbytes (Nat.zero_le _)
    obtain ⟨v', w', hrun, ho, hg, _⟩ := hr
    refine ⟨v', w', hrun, ho, hg, ?_, ?_⟩
    · intro g hgv
      refine ⟨?_, (ho.lt g hgv).2⟩
      rcases hown.2 with ⟨rfl, rfl⟩ | ⟨gg, cap, cur, rfl, _, hgg, hle, hcm, hcs, htk⟩
      · have hr2 := run_append_own (P := P) w w.heap.size t ty e i z i.size i.bytes ht hi hz rfl rfl hzs hsz (.slice none 0 0) 0 xs ⟨hown.1, .inl ⟨rfl, rfl⟩⟩ a m c news hl hnews h1 hmax hbytes (Nat.le_refl _)
        obtain ⟨v2, w2, hrun2, ho2, _⟩ := hr2
        rw [hrun] at hrun2
        injection hrun2 with e1 e2
        subst e1; subst e2
        exact .inr (ho2.lt g hgv).1
      · by_cases hroom : n + m ≤ cap
        · have hfit : n * i.size + news.length ≤ cur.size := by rw [hl, hcs, ← Nat.add_mul]; exact Nat.mul_le_mul_right _ hroom
          have hr2 := run_append_room (P := P) w t ty e i ht hi gg n cap cur hgg a m c news hl hnews h1 hroom hfit
          rw [hrun] at hr2
          injection hr2 with e1 e2
          subst e1
          exact .inl hgv
        · have holds : ∀ (j : Nat) u, xs[j]? = some u → w.cell? ((⟨gg, 0, none⟩ : Addr).add j) = some u := by
            intro j u hu
            rw [Addr.add_lit, cell_at hgg]
            rw [← htk, List.getElem?_take] at hu
            split at hu
            · simpa using hu
            · cases hu
          have hr2 := run_append_grow (P := P) w t ty e i z ht hi hz ⟨gg, 0, none⟩ n cap xs hown.1 holds a m c news hl hnews (by omega) (by omega) (growslice_fits (by omega) hbytes)
          rw [hrun] at hr2
          injection hr2 with e1 e2
          subst e1
          simp [Value.ownBlock] at hgv
          subst hgv
          exact .inr (Nat.le_refl _)
    · rcases ho.2 with ⟨rfl, _⟩ | ⟨g, cap, cur, rfl, _⟩
      · exact ⟨_, _, _, rfl⟩
      · exact ⟨_, _, _, rfl⟩
end Go.TL
