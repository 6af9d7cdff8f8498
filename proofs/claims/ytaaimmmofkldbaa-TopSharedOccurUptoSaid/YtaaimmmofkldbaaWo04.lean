/- Lists that are made with a known room. -/
import Derived.Test.YtaaimmmofkldbaaWo03
import Derived.Laws.MakeOwn
namespace Go.TL

def isNilSl : Value → Bool
  | .slice none 0 0 => true
  | _ => false

theorem isNilSl_eq {x : Value} (h : isNilSl x = true) : x = .slice none 0 0 := by
  unfold isNilSl at h
  split at h
  · rfl
  · cases h

/-- a zero cell as pure data -/
def zc (room : Bool) (x : Value) : PV :=
  match isNilSl x with
  | true => match room with | true => .rm 0 [] | false => .sl []
  | false => .v x

theorem zc_rep {w : World} {bad : Nat → Prop} {lo : Nat} {room : Bool} {x : Value} (h : x.oneCell' = true) : Rep w bad lo (zc room x) x := by
  unfold zc
  cases hx : isNilSl x with
  | true =>
    have := isNilSl_eq hx; subst this
    cases room with
    | true => exact .rmNil
    | false => exact .nil none 0
  | false => exact .v x h

def zrow (room : Bool) (z : Value) : Option (List PV) :=
  match z.cells.toList.all (·.oneCell') with
  | true => some (z.cells.toList.map (zc room))
  | false => none

/-- a new slice object -/
theorem out_newv {C : Ctx} {E : Env} {σ : St} {a : Act} {w : World} {o : Oper} {d n c : Nat} {cs : Array Value} {t : TypeId} {ov : OV} (h : HoldsE C E σ a w) (hd : DstOk C o) (hdst : o.dst = some d)
    (hfresh : lk σ.tab d = none) (hrun : (execOp a.eval o).run C.P w = .ok (.value (.slice (some ⟨w.heap.size, 0, none⟩) n c)) (w.alloc (.cells cs t)))
    (hor : OR (w.alloc (.cells cs t)) (E.add d (.slice (some ⟨w.heap.size, 0, none⟩) n c) w.heap.size) C.lo d ov) :
    OpOut C o ⟨(d, .vec d) :: σ.slots, (d, ov) :: σ.tab⟩ a w := by
  have hb : ∀ b, b < w.heap.size → (w.alloc (.cells cs t)).heap[b]? = w.heap[b]? := fun b hb => heap_alloc_old w _ b hb
  have hlo : C.lo ≤ w.heap.size := Nat.le_trans h.lo h.fr.size
  have hfr : Fr w E (w.alloc (.cells cs t)) (E.add d (.slice (some ⟨w.heap.size, 0, none⟩) n c) w.heap.size) := Fr.add rfl rfl rfl (by simp) hb (Nat.le_refl _)
  have hval := Env.add_val (w := w) (b0 := w.heap.size) (x := .slice (some ⟨w.heap.size, 0, none⟩) n c) h.tab hfresh
  have htab := TabOK.add (w' := w.alloc (.cells cs t)) (x := .slice (some ⟨w.heap.size, 0, none⟩) n c) (b0 := w.heap.size) (ov := ov) h.tab hfresh (by simp) hb (Nat.le_refl _) (by simp) hlo hor
  refine ⟨_, _, .inl hrun, E.add d (.slice (some ⟨w.heap.size, 0, none⟩) n c) w.heap.size, ?_⟩
  have hdn : d < C.n := hd d hdst
  have := h.upd hfr hval (fun k hk hn => by simp only [Env.add]; rw [if_neg (by omega)]; exact hn) htab o.dst hd (sv := .vec d) (v := .slice (some ⟨w.heap.size, 0, none⟩) n c) (fun _ _ => by simp only [VR]; exact ⟨by simp [Env.add], _, _, _, rfl⟩)
  rw [hdst] at this ⊢
  exact this

def opMake (P : Program) (H : Hint) (σ : St) (o : Oper) (t : TypeId) (l c : Operand) : Option (St × Prop) :=
  match isInt (ev σ l), isInt (ev σ c), o.dst, sliceElem P t with
  | some (_, nl), some (_, nc), some d, some (e, i) => match lk σ.tab d, i.zero, Nat.ble 1 i.size with
    | none, some z, true => match Nat.beq z.cells.size i.size, lk H.ld d with
      | true, some _ => match zrow true z with
        | some zr => some (⟨(d, .vec d) :: σ.slots, (d, .arr e i.size (List.replicate nc.toNat zr) nl.toNat 0) :: σ.tab⟩, 0 ≤ nl ∧ nl ≤ nc ∧ nc.toNat * max i.bytes 1 ≤ 140737488355328)
        | none => none
      | true, none => match zrow false z with
        | some zr => some (⟨(d, .vec d) :: σ.slots, (d, .vec e i.size (List.replicate nl.toNat zr) true) :: σ.tab⟩, 0 ≤ nl ∧ nl ≤ nc ∧ nc.toNat * max i.bytes 1 ≤ 140737488355328)
        | none => none
      | _, _ => none
    | _, _, _ => none
  | _, _, _, _ => none

theorem madeCells_get (z : Array Value) (n j : Nat) (h : j < n) : (madeCells z n)[j]? = some (z[j % z.size]!) := by
  simp [madeCells, h]

theorem made_rows {w : World} {bad : Nat → Prop} {lo : Nat} {room : Bool} {z : Value} {zr : List PV} {sz : Nat} (hz : z.cells.size = sz) (hpos : 0 < sz) (hr : zrow room z = some zr) (n : Nat) :
    zr.length = sz ∧ ∃ f : Nat → Nat → Value, (∀ (i : Nat) (row : List PV), (List.replicate n zr)[i]? = some row → row.length = sz) ∧
      (∀ (i : Nat) (row : List PV) (j : Nat) (x : PV), (List.replicate n zr)[i]? = some row → row[j]? = some x → (∀ m, i < m → (madeCells z.cells (m * sz))[i * sz + j]? = some (f i j))) ∧
      (∀ (i : Nat) (row : List PV) (j : Nat) (x : PV), (List.replicate n zr)[i]? = some row → row[j]? = some x → Rep w bad lo x (f i j)) := by
  unfold zrow at hr
  split at hr
  · rename_i hall
    simp only [Option.some.injEq] at hr; subst hr
    have hlen : (z.cells.toList.map (zc room)).length = sz := by simp [hz]
    have hrow : ∀ (i : Nat) (row : List PV), (List.replicate n (z.cells.toList.map (zc room)))[i]? = some row → row = z.cells.toList.map (zc room) := by
      intro i row hi
      rw [List.getElem?_replicate] at hi
      split at hi
      · exact (Option.some.inj hi).symm
      · cases hi
    refine ⟨hlen, fun _ j => z.cells[j]!, ?_, ?_, ?_⟩
    · intro i row hi; rw [hrow i row hi]; exact hlen
    · intro i row j x hi hj m hm
      rw [hrow i row hi] at hj
      have hjl : j < sz := by rw [← hlen]; exact (List.getElem?_eq_some_iff.1 hj).1
      have : i * sz + j < m * sz := by
        have : (i + 1) * sz ≤ m * sz := Nat.mul_le_mul_right _ hm
        rw [Nat.add_mul, Nat.one_mul] at this; omega
      rw [madeCells_get _ _ _ this, hz, Nat.mul_comm i sz, Nat.mul_add_mod, Nat.mod_eq_of_lt hjl]
    · intro i row j x hi hj
      rw [hrow i row hi] at hj
      have hjl : j < z.cells.size := by rw [hz, ← hlen]; exact (List.getElem?_eq_some_iff.1 hj).1
      simp [hjl] at hj; subst hj
      have h1 := List.all_eq_true.1 hall z.cells[j] (by simp)
      simp only [hjl, getElem!_pos]
      exact zc_rep h1
  · cases hr

theorem opMake_sound {C : Ctx} {H : Hint} {E : Env} {σ σ' : St} {a : Act} {w : World} {o : Oper} {t : TypeId} {l c : Operand} {vc : Prop} (ho : o.op = .makeSlice t l c)
    (hf : opMake C.P H σ o t l c = some (σ', vc)) (hvc : vc) (h : HoldsE C E σ a w) (hd : DstOk C o) : OpOut C o σ' a w := by
  unfold opMake at hf
  split at hf
  · rename_i kl nl kc nc d e i hl hc hdst hse
    obtain ⟨hu, hi⟩ := sliceElem_eq hse
    have el := isInt_ev h hl
    have ec := isInt_ev h hc
    split at hf
    · rename_i z hfresh hz hpos
      have hpos' := Nat.le_of_ble_eq_true hpos
      have hlo : C.lo ≤ w.heap.size := Nat.le_trans h.lo h.fr.size
      have key : (0 ≤ nl ∧ nl ≤ nc ∧ nc.toNat * max i.bytes 1 ≤ 140737488355328) →
          (execOp a.eval o).run C.P w = .ok (.value (.slice (some ⟨w.heap.size, 0, none⟩) nl.toNat nc.toNat)) (w.alloc (.cells (madeCells z.cells (nc.toNat * i.size)) e)) := by
        rintro ⟨h1, h2, h3⟩
        have m1 : nc.toNat * 1 ≤ nc.toNat * max i.bytes 1 := Nat.mul_le_mul_left _ (by omega)
        have m2 : nc.toNat * i.bytes ≤ nc.toNat * max i.bytes 1 := Nat.mul_le_mul_left _ (by omega)
        have m3 : (i.bytes : Int) * nc ≤ 281474976710656 := by
          have e1 : ((nc.toNat * i.bytes : Nat) : Int) ≤ 140737488355328 := by omega
          rw [Int.natCast_mul] at e1
          have e2 : (nc.toNat : Int) = nc := by omega
          rw [e2, Int.mul_comm] at e1; omega
        have hr := run_make (P := C.P) w t e i z hu hi hz kl kc nl nc h1 h2 m3 (by omega)
        unfold execOp
        simp only [ho, el, ec, Sem.run_bind, hr, Result.andThen_ok, Sem.run_pure]
      split at hf
      · rename_i hzs hh
        have hzs' := Nat.eq_of_beq_eq_true hzs
        split at hf
        · rename_i zr hzr
          simp only [Option.some.injEq, Prod.mk.injEq] at hf; obtain ⟨rfl, rfl⟩ := hf
          have hvc' := hvc
          obtain ⟨h1, h2, h3⟩ := hvc
          refine out_newv h hd hdst hfresh (key hvc') ?_
          obtain ⟨g0, f, g1, g2, g3⟩ := made_rows (w := w.alloc (.cells (madeCells z.cells (nc.toNat * i.size)) e)) (bad := (E.add d (.slice (some ⟨w.heap.size, 0, none⟩) nl.toNat nc.toNat) w.heap.size).bad) (lo := C.lo) hzs' hpos' hzr nc.toNat
          obtain ⟨_, f', _, g2', g3'⟩ := made_rows (w := w.alloc (.cells (madeCells z.cells (nc.toNat * i.size)) e)) (bad := (E.add d (.slice (some ⟨w.heap.size, 0, none⟩) nl.toNat nc.toNat) w.heap.size).bad) (lo := 0) hzs' hpos' hzr nc.toNat
          have hlt : ∀ (i : Nat) (row : List PV), (List.replicate nc.toNat zr)[i]? = some row → i < nc.toNat := fun i row hi => by
            have := (List.getElem?_eq_some_iff.1 hi).1; simpa using this
          refine ⟨w.heap.size, _, by simp [Env.add], by simp [Env.add], heap_alloc_new w _, by simp [size_madeCells], hpos', by simp; omega, f, g1, fun j row k x hj hk => g2 j row k x hj hk _ (hlt j row hj), fun j row k x hj hk => (g3 j row k x hj hk).mono (Nat.zero_le _) fun _ _ h k => ⟨h, k⟩, fun j row k x hj hk _ => g3 j row k x hj hk⟩
        · cases hf
      · rename_i hzs hh
        have hzs' := Nat.eq_of_beq_eq_true hzs
        split at hf
        · rename_i zr hzr
          simp only [Option.some.injEq, Prod.mk.injEq] at hf; obtain ⟨rfl, rfl⟩ := hf
          have hvc' := hvc
          obtain ⟨h1, h2, h3⟩ := hvc
          refine out_newv h hd hdst hfresh (key hvc') ?_
          obtain ⟨g0, f, g1, g2, g3⟩ := made_rows (w := w.alloc (.cells (madeCells z.cells (nc.toNat * i.size)) e)) (bad := (E.add d (.slice (some ⟨w.heap.size, 0, none⟩) nl.toNat nc.toNat) w.heap.size).bad) (lo := C.lo) hzs' hpos' hzr nl.toNat
          have hlt : ∀ (i : Nat) (row : List PV), (List.replicate nl.toNat zr)[i]? = some row → i < nl.toNat := fun i row hi => by
            have := (List.getElem?_eq_some_iff.1 hi).1; simpa using this
          have m1 : nc.toNat * 1 ≤ nc.toNat * max i.bytes 1 := Nat.mul_le_mul_left _ (by omega)
          have hle : nl.toNat * i.size ≤ nc.toNat * i.size := Nat.mul_le_mul_right _ (by omega)
          refine ⟨.slice (some ⟨w.heap.size, 0, none⟩) nl.toNat nc.toNat, (madeCells z.cells (nc.toNat * i.size)).toList.take (nl.toNat * i.size), by simp [Env.add], hpos', ⟨?_, .inr ⟨w.heap.size, nc.toNat, madeCells z.cells (nc.toNat * i.size), by simp, Nat.zero_le _, heap_alloc_new w _, by simp; omega, ?_, by simp [size_madeCells], by simp⟩⟩, ?_, f, g1, ?_, g3⟩
          · rw [List.length_take, Array.length_toList, size_madeCells, List.length_replicate]; exact Nat.min_eq_left hle
          · simp [maxLen]; omega
          · intro g hg
            simp only [Value.ownBlock, Option.some.injEq] at hg; subst hg
            simp [Env.add]
          · intro j row k x hj hk
            have hj' := hlt j row hj
            have hkl : k < i.size := by rw [← g1 j row hj]; exact (List.getElem?_eq_some_iff.1 hk).1
            have : j * i.size + k < nl.toNat * i.size := by
              have : (j + 1) * i.size ≤ nl.toNat * i.size := Nat.mul_le_mul_right _ hj'
              rw [Nat.add_mul, Nat.one_mul] at this; omega
            rw [List.getElem?_take, if_pos this]
            have := g2 j row k x hj hk nc.toNat (by omega)
            simpa using this
        · cases hf
      · cases hf
    · cases hf
  · cases hf

/-- append onto a list whose room is known -/
def opAppendArr (P : Program) (σ : St) (o : Oper) (s x : Operand) (t : TypeId) : Option (St × Prop) :=
  match ev σ s, o.dst, sliceElem P t, srcOf σ.tab (ev σ x) with
  | .vec k, some d, some (e, i), some (rows2, _) => match lk σ.tab k, lk (rm σ.tab k) d with
    | some (.arr t' sz rows len m), none => match Nat.beq t' e && Nat.beq sz i.size with
      | true => some (σ.re k d (.arr e sz (rows.take len ++ rows2 ++ rows.drop (len + rows2.length)) (len + rows2.length) m), m ≤ len ∧ len + rows2.length ≤ rows.length ∧ ∀ row ∈ rows2, row.length = sz)
      | false => none
    | _, _ => none
  | _, _, _, _ => none

theorem arr_split {w : World} {bad : Nat → Prop} {lo sz len m : Nat} {rows rows2 : List (List PV)} {cur : Array Value} {news : List Value} {fr : Bool} (hsz : 0 < sz) (hcs : cur.size = rows.length * sz)
    (h : ArrRep w bad lo sz rows len m cur) (hn : RowsRep w bad (flo lo fr) sz rows2 news) (hnl : news.length = rows2.length * sz) (hm : m ≤ len) (hfit : len + rows2.length ≤ rows.length) :
    ArrRep w bad lo sz (rows.take len ++ rows2 ++ rows.drop (len + rows2.length)) (len + rows2.length) m (cur.toList.take (len * sz) ++ news ++ cur.toList.drop (len * sz + news.length)).toArray := by
  obtain ⟨f, a1, a2, a3, a4⟩ := h
  obtain ⟨g, b1, b2, b3⟩ := hn
  have hT : (rows.take len).length = len := by rw [List.length_take]; omega
  have hget : ∀ (i : Nat) (row : List PV), (rows.take len ++ rows2 ++ rows.drop (len + rows2.length))[i]? = some row →
      (i < len ∧ rows[i]? = some row) ∨ (len ≤ i ∧ i < len + rows2.length ∧ rows2[i - len]? = some row) ∨ (len + rows2.length ≤ i ∧ rows[i]? = some row) := by
    intro i row hi
    rw [List.append_assoc, List.getElem?_append, hT] at hi
    split at hi
    · rename_i hlt
      rw [List.getElem?_take, if_pos hlt] at hi
      exact .inl ⟨hlt, hi⟩
    · rename_i hge
      rw [List.getElem?_append] at hi
      split at hi
      · rename_i h2; exact .inr (.inl ⟨by omega, by omega, hi⟩)
      · rename_i h2
        rw [List.getElem?_drop] at hi
        refine .inr (.inr ⟨by omega, ?_⟩)
        rw [← hi]; congr 1; omega
  have hlen1 : (cur.toList.take (len * sz)).length = len * sz := by
    rw [List.length_take, Array.length_toList, hcs]; exact Nat.min_eq_left (Nat.mul_le_mul_right _ (by omega))
  have hin : ∀ i j : Nat, j < sz → i * sz + j < (i + 1) * sz := fun i j hj => by rw [Nat.add_mul, Nat.one_mul]; omega
  have hcell : ∀ k : Nat, (cur.toList.take (len * sz) ++ news ++ cur.toList.drop (len * sz + news.length)).toArray[k]? =
      if k < len * sz then cur[k]? else if k < len * sz + news.length then news[k - len * sz]? else cur[k]? := by
    intro k
    rw [List.getElem?_toArray, List.append_assoc, List.getElem?_append, hlen1]
    split
    · rename_i hk; rw [List.getElem?_take, if_pos hk, Array.getElem?_toList]
    · rename_i hk
      rw [List.getElem?_append]
      split
      · rename_i h2; rw [if_pos (by omega)]
      · rename_i h2
        rw [if_neg (by omega), List.getElem?_drop, Array.getElem?_toList]
        congr 1; omega
  refine ⟨fun i j => if i < len then f i j else if i < len + rows2.length then g (i - len) j else f i j, ?_, ?_, ?_, ?_⟩
  · intro i row hi
    rcases hget i row hi with ⟨_, h⟩ | ⟨_, _, h⟩ | ⟨_, h⟩
    · exact a1 i row h
    · exact b1 _ row h
    · exact a1 i row h
  · intro i row j x hi hj
    rw [hcell]
    show _ = some (if i < len then f i j else if i < len + rows2.length then g (i - len) j else f i j)
    have l4 := Nat.add_mul len rows2.length sz
    rcases hget i row hi with ⟨c1, h⟩ | ⟨c1, c2, h⟩ | ⟨c1, h⟩
    · have hjl : j < sz := by rw [← a1 i row h]; exact (List.getElem?_eq_some_iff.1 hj).1
      have l1 := hin i j hjl
      have l2 : (i + 1) * sz ≤ len * sz := Nat.mul_le_mul_right _ (by omega)
      rw [if_pos (by omega), if_pos c1]
      exact a2 i row j x h hj
    · have hjl : j < sz := by rw [← b1 _ row h]; exact (List.getElem?_eq_some_iff.1 hj).1
      have l1 := hin i j hjl
      have l2 : len * sz ≤ i * sz := Nat.mul_le_mul_right _ c1
      have l3 : (i + 1) * sz ≤ (len + rows2.length) * sz := Nat.mul_le_mul_right _ (by omega)
      rw [if_neg (by omega), if_pos (by omega), if_neg (by omega), if_pos c2]
      have e : i * sz + j - len * sz = (i - len) * sz + j := by rw [Nat.sub_mul]; omega
      rw [e]
      exact b2 _ row j x h hj
    · have hjl : j < sz := by rw [← a1 i row h]; exact (List.getElem?_eq_some_iff.1 hj).1
      have l2 : (len + rows2.length) * sz ≤ i * sz := Nat.mul_le_mul_right _ c1
      rw [if_neg (by omega), if_neg (by omega), if_neg (by omega), if_neg (by omega)]
      exact a2 i row j x h hj
  · intro i row j x hi hj
    show Rep w bad 0 x (if i < len then f i j else if i < len + rows2.length then g (i - len) j else f i j)
    rcases hget i row hi with ⟨c1, h⟩ | ⟨c1, c2, h⟩ | ⟨c1, h⟩
    · rw [if_pos c1]; exact a3 i row j x h hj
    · rw [if_neg (by omega), if_pos c2]; exact (b3 _ row j x h hj).mono (Nat.zero_le _) fun _ _ h k => ⟨h, k⟩
    · rw [if_neg (by omega), if_neg (by omega)]; exact a3 i row j x h hj
  · intro i row j x hi hj hc
    show Rep w bad lo x (if i < len then f i j else if i < len + rows2.length then g (i - len) j else f i j)
    rcases hget i row hi with ⟨c1, h⟩ | ⟨c1, c2, h⟩ | ⟨c1, h⟩
    · rw [if_pos c1]; exact a4 i row j x h hj (.inl (by omega))
    · omega
    · rw [if_neg (by omega), if_neg (by omega)]; exact a4 i row j x h hj (.inr (by omega))

end Go.TL
/- Lists of known room: what is done with them. -/
namespace Go.TL

theorem run_append_none {P : Program} {w : World} (t ty e : TypeId) (i : TypeInfo) (ht : P.underlying t = some (.slice e)) (hi : P.info? e = some i) (g n cap : Nat) (b : Option Addr) (c : Nat) (hle : n ≤ cap) :
    (Builtin.append_ #[t, t] ty #[.slice (some ⟨g, 0, none⟩) n cap, .slice b 0 c]).run P w = .ok (.slice (some ⟨g, 0, none⟩) n cap) w := by
  cases b <;> simp [Builtin.append_, run_underlying ht, sizeOf, typeInfo, hi, Builtin.lenOf, hle, Builtin.firstCells, storeCells, loadCells, loadCellsFrom]

theorem opAppendArr_sound {C : Ctx} {E : Env} {σ σ' : St} {a : Act} {w : World} {o : Oper} {s x : Operand} {t : TypeId} {vc : Prop} (ho : o.op = .call { callee := .builtin .append, args := #[s, x], argTypes := #[t, t] })
    (hf : opAppendArr C.P σ o s x t = some (σ', vc)) (hvc : vc) (h : HoldsE C E σ a w) (hd : DstOk C o) : OpOut C o σ' a w := by
  unfold opAppendArr at hf
  split at hf
  · rename_i k d e i rows2 fr2 he hdst hse hsrc
    obtain ⟨hu, hi⟩ := sliceElem_eq hse
    split at hf
    · rename_i t' sz rows len m hl hfresh
      split at hf
      · rename_i hts
        simp only [Bool.and_eq_true] at hts
        have e1 := Nat.eq_of_beq_eq_true hts.1
        have e2 := Nat.eq_of_beq_eq_true hts.2
        subst e1; subst e2
        simp only [Option.some.injEq, Prod.mk.injEq] at hf; obtain ⟨rfl, rfl⟩ := hf
        obtain ⟨hm, hfit, hrows2⟩ := hvc
        obtain ⟨b, cs, h1, h2, h3, h4, h5, h6, h7⟩ := h.tab.obj _ _ hl
        have hev := ev_rep h s
        rw [he] at hev; simp only [VR] at hev
        have hs := hev.1
        rw [h1] at hs
        have hs' : a.eval s = .slice (some ⟨b, 0, none⟩) len rows.length := (Option.some.inj hs).symm
        have hsr := src_rep h hsrc (ev_rep h x) (fun n row hn => hrows2 row (List.mem_of_getElem? hn)) h5
        have hlt : b < w.heap.size := (h.tab.own b k h2).1
        rcases hsr.out with ⟨rfl, b', c, hx⟩ | ⟨ad, c, news, hx, hnl, hnc, hn1, hr⟩
        · have hrun := run_append_none (P := C.P) (w := w) t o.type t' i hu hi b len rows.length b' c h6
          refine out_re h hd hdst hfresh (x := .slice (some ⟨b, 0, none⟩) len rows.length) (w' := w) ?_ rfl rfl rfl (Nat.le_refl _) (fun _ _ _ => rfl) ?_ ⟨_, _, _, rfl⟩ ?_
          · unfold execOp
            simp only [ho, resolve, invoke, builtin, Sem.run_bind, Sem.run_pure, Result.andThen_ok, List.map_toArray, List.map_cons, List.map_nil, hs', hx, hrun]
          · intro g hg
            simp only [Value.ownBlock, Option.some.injEq] at hg; subst hg
            exact ⟨.inl h2, hlt⟩
          · intro hkeep
            refine ⟨b, cs, by simp [Env.re], by simp [Env.re, Value.ownBlock], h3, by simp; exact h4, h5, by simp; exact h6, ?_⟩
            simp only [List.append_nil, List.length_nil, Nat.add_zero, List.take_append_drop]
            exact h7.mono hkeep.rep
        · have hrun := run_append_room (P := C.P) (w := w) t o.type t' i hu hi b len rows.length cs h3 ad rows2.length c news hnl hnc hn1 hfit (by rw [hnl, h4, ← Nat.add_mul]; exact Nat.mul_le_mul_right _ hfit)
          refine out_re h hd hdst hfresh (x := .slice (some ⟨b, 0, none⟩) (len + rows2.length) rows.length) (w' := w.setRow b (cs.toList.take (len * i.size) ++ news ++ cs.toList.drop (len * i.size + news.length)).toArray) ?_ ?_ ?_ ?_ ?_ ?_ ?_ ⟨_, _, _, rfl⟩ ?_
          · unfold execOp
            simp only [ho, resolve, invoke, builtin, Sem.run_bind, Sem.run_pure, Result.andThen_ok, List.map_toArray, List.map_cons, List.map_nil, hs', hx, hrun]
          · rfl
          · rfl
          · rfl
          · simp
          · intro g hlt' hne
            exact setRow_other w b g _ (fun e => hne (by rw [e]; exact h2))
          · intro g hg
            simp only [Value.ownBlock, Option.some.injEq] at hg; subst hg
            exact ⟨.inl h2, by simpa using hlt⟩
          · intro hkeep
            have hlen : (rows.take len ++ rows2 ++ rows.drop (len + rows2.length)).length = rows.length := by simp; omega
            have hclen : (cs.toList.take (len * i.size) ++ news ++ cs.toList.drop (len * i.size + news.length)).length = rows.length * i.size := by
              have q1 : len * i.size + rows2.length * i.size ≤ rows.length * i.size := by rw [← Nat.add_mul]; exact Nat.mul_le_mul_right _ hfit
              rw [List.length_append, List.length_append, List.length_take, List.length_drop, Array.length_toList, h4, hnl, Nat.min_eq_left (by omega)]; omega
            refine ⟨b, (cs.toList.take (len * i.size) ++ news ++ cs.toList.drop (len * i.size + news.length)).toArray, by rw [hlen]; simp [Env.re], by simp [Env.re, Value.ownBlock], setRow_heap w b _ _ t' _ h3, ?_, h5, by rw [hlen]; exact hfit, ?_⟩
            · rw [hlen, List.size_toArray]; exact hclen
            · exact arr_split (fr := fr2) h5 h4 (h7.mono hkeep.rep) (hr.mono (Nat.le_refl _) hkeep.rep) hnl hm hfit
      · cases hf
    · cases hf
  · cases hf

def opIndexArr (P : Program) (σ : St) (o : Oper) (t : TypeId) (x ix : Operand) : Option (St × Prop) :=
  match ev σ x, intOf (ev σ ix), P.underlying t with
  | .vec k, some n, some (.slice e) => match lk σ.tab k, P.info? e with
    | some (.arr _ sz _ len _), some i => match Nat.beq sz i.size with
      | true => some (σ.put o.dst (.vptr k sz n.toNat 0), 0 ≤ n ∧ n < (len : Int))
      | false => none
    | _, _ => none
  | _, _, _ => none

theorem opIndexArr_sound {C : Ctx} {E : Env} {σ σ' : St} {a : Act} {w : World} {o : Oper} {t : TypeId} {x ix : Operand} {vc : Prop} (ho : o.op = .indexAddr t x ix)
    (hf : opIndexArr C.P σ o t x ix = some (σ', vc)) (hvc : vc) (h : HoldsE C E σ a w) (hd : DstOk C o) : OpOut C o σ' a w := by
  have hev := ev_rep h x
  unfold opIndexArr at hf
  split at hf
  · rename_i k n e he hn hu
    obtain ⟨kk, hix⟩ := intOf_ev h hn
    split at hf
    · rename_i t' sz rows len m i hl hi
      split at hf
      · rename_i hsz
        have hsz' := Nat.eq_of_beq_eq_true hsz
        simp only [Option.some.injEq, Prod.mk.injEq] at hf; obtain ⟨rfl, rfl⟩ := hf
        obtain ⟨h0, hlt⟩ := hvc
        rw [he] at hev; simp only [VR] at hev
        obtain ⟨b, cs, h1, h2, h3, h4, h5, h6, h7⟩ := h.tab.obj _ _ hl
        have hs := hev.1
        rw [h1] at hs
        have hv : a.eval x = .slice (some ⟨b, 0, none⟩) len rows.length := (Option.some.inj hs).symm
        refine out_pure h hd (v := .pointer (some ⟨b, n.toNat * sz, none⟩)) ?_ ?_
        · simp [execOp, ho, hv, hix, run_indexAt_slice (P := C.P) (w := w) (k := kk) hu hi h0 hlt, Addr.add_lit, hsz']
        · simp only [VR]
          exact ⟨b, _, _, h1, by simp⟩
      · cases hf
    · cases hf
  · cases hf

def opLoadArr (P : Program) (H : Hint) (σ : St) (o : Oper) (t : TypeId) (x : Operand) : Option (St × Prop) :=
  match ev σ x, o.dst with
  | .vptr k sz i off, some d => match lk σ.tab k, lk H.ld d with
    | some (.arr _ sz' rows _ _), some row => match loadOut P t off (row.map (mkp false)), Nat.beq sz sz' with
      | some sv, true => some (σ.put o.dst sv, rows[i]? = some row)
      | _, _ => none
    | _, _ => none
  | _, _ => none

theorem opLoadArr_sound {C : Ctx} {H : Hint} {E : Env} {σ σ' : St} {a : Act} {w : World} {o : Oper} {t : TypeId} {x : Operand} {vc : Prop} (ho : o.op = .load t x)
    (hf : opLoadArr C.P H σ o t x = some (σ', vc)) (hvc : vc) (h : HoldsE C E σ a w) (hd : DstOk C o) : OpOut C o σ' a w := by
  have hev := ev_rep h x
  unfold opLoadArr at hf
  split at hf
  · rename_i k sz i off d he hdst
    split at hf
    · rename_i tt sz' rows len m row hl hrow
      split at hf
      · rename_i sv hsv hszz
        have := Nat.eq_of_beq_eq_true hszz; subst this
        simp only [Option.some.injEq, Prod.mk.injEq] at hf; obtain ⟨rfl, rfl⟩ := hf
        rw [he] at hev; simp only [VR] at hev
        obtain ⟨b, n, c, hb, hx⟩ := hev
        obtain ⟨b', cs, h1, h2, h3, h4, h5, h6, f, a1, a2, a3, a4⟩ := h.tab.obj _ _ hl
        rw [hb] at h1
        simp only [Option.some.injEq, Value.slice.injEq, Addr.mk.injEq] at h1
        obtain ⟨⟨rfl, _⟩, _, _⟩ := h1
        have hvs : VRs w E C.lo (row.map (mkp false)) ((List.range row.length).map (f i)) := mkps_rep _ _ (by simp) fun j y v hy hv => by
          have hj : j < row.length := (List.getElem?_eq_some_iff.1 hy).1
          simp [hj] at hv; subst hv
          exact a3 i row j y hvc hy
        obtain ⟨v, hr, hv⟩ := load_rep (P := C.P) (b := b) (o := i * sz) hvs (fun j v hj => by
          have hj' : j < row.length := by have := (List.getElem?_eq_some_iff.1 hj).1; simpa using this
          simp [hj'] at hj; subst hj
          rw [cell_at h3]
          exact a2 i row j row[j] hvc (by simp [hj'])) hsv
        exact out_pure h hd (v := v) (by simp [execOp, ho, hx, hr]) hv
      · cases hf
    · cases hf
  · cases hf

def opStoreArr (P : Program) (σ : St) (o : Oper) (t : TypeId) (x y : Operand) : Option (St × Prop) :=
  match cellsOf (ev σ y), P.info? t, ev σ x with
  | some xs, some i, .vptr k sz n 0 => match ones xs, Nat.beq xs.length i.size, lk σ.tab k, toPVs xs with
    | true, true, some (.arr bt sz' rows len m), some (ys, true) => match Nat.beq sz sz', Nat.beq i.size sz with
      | true, true => some ((⟨σ.slots, (k, .arr bt sz' (rows.set n ys) len (m + 1)) :: rm σ.tab k⟩ : St).put o.dst .u, n = m ∧ m < len)
      | _, _ => none
    | _, _, _, _ => none
  | _, _, _ => none

theorem opStoreArr_sound {C : Ctx} {E : Env} {σ σ' : St} {a : Act} {w : World} {o : Oper} {t : TypeId} {x y : Operand} {vc : Prop} (ho : o.op = .store t x y)
    (hf : opStoreArr C.P σ o t x y = some (σ', vc)) (hvc : vc) (h : HoldsE C E σ a w) (hd : DstOk C o) : OpOut C o σ' a w := by
  have hev := ev_rep h x
  unfold opStoreArr at hf
  split at hf
  · rename_i xs i k sz n hxs hi he
    have hvs := cellsOf_rep hxs (ev_rep h y)
    have hlen := VRs_length hvs
    split at hf
    · rename_i bt sz' rows len m ys hones hsz hl hys
      have hsz' := Nat.eq_of_beq_eq_true hsz
      have h1 := ones_one hones hvs
      split at hf
      · rename_i hq1 hq2
        have := Nat.eq_of_beq_eq_true hq1; subst this
        have hq2' := Nat.eq_of_beq_eq_true hq2
        simp only [Option.some.injEq, Prod.mk.injEq] at hf; obtain ⟨rfl, rfl⟩ := hf
        obtain ⟨rfl, hml⟩ := hvc
        rw [he] at hev; simp only [VR] at hev
        obtain ⟨b, nn, c, hb, hx⟩ := hev
        obtain ⟨b', cs, e1, e2, e3, e4, e5, e6, f, a1, a2, a3, a4⟩ := h.tab.obj _ _ hl
        rw [hb] at e1
        simp only [Option.some.injEq, Value.slice.injEq, Addr.mk.injEq] at e1
        obtain ⟨⟨rfl, _⟩, rfl, rfl⟩ := e1
        obtain ⟨g1, g2, g, g3, g4⟩ := toPVs_rep xs ys true hys _ hvs
        have hyl : ys.length = sz := by rw [← g1]; omega
        have hcsz : (a.eval y).cells.size = sz := by have := g2; simp at this; omega
        have hnr : n < rows.length := by omega
        have hfit : n * sz + sz ≤ rows.length * sz := by
          have : (n + 1) * sz ≤ rows.length * sz := Nat.mul_le_mul_right _ (by omega)
          rw [Nat.add_mul, Nat.one_mul] at this; exact this
        have hr := run_storeAt (P := C.P) (off := n * sz) (v := a.eval y) hi (by omega) e3 (by omega) h1
        have hk0 : lk σ.tab k ≠ none := by rw [hl]; simp
        refine out_set h hd hk0 (w1 := w.setRow b (spl cs.toList (n * sz) (a.eval y).cells.toList).toArray) (by rw [Nat.add_zero] at hx; simp [execOp, ho, hx, hr]) rfl rfl rfl (by simp) ?_ ?_
        · intro c hc
          exact setRow_other w b c _ (fun e => hc (by rw [e]; exact e2))
        · have hkeep : Keeps w E (w.setRow b (spl cs.toList (n * sz) (a.eval y).cells.toList).toArray) E := ⟨fun c _ hn => ⟨setRow_other w b c _ (fun e => by subst e; rw [hn] at e2; cases e2), hn⟩, rfl⟩
          have hsl : (spl cs.toList (n * sz) (a.eval y).cells.toList).length = cs.size := by rw [spl_length _ _ _ (by simp; omega)]; simp
          have hget : ∀ (i : Nat) (row : List PV), (rows.set n ys)[i]? = some row → (i = n ∧ row = ys) ∨ (i ≠ n ∧ rows[i]? = some row) := by
            intro i row hi
            by_cases hin : n = i
            · subst hin
              rw [List.getElem?_set_self hnr] at hi; simp at hi; exact .inl ⟨rfl, hi.symm⟩
            · rw [List.getElem?_set_ne hin] at hi; exact .inr ⟨fun e => hin e.symm, hi⟩
          refine ⟨b, _, by simpa using hb, e2, setRow_heap w b _ _ bt _ e3, by simp [hsl, e4], e5, by simpa using e6, fun i j => if i = n then g j else f i j, ?_, ?_, ?_, ?_⟩
          · intro i row hi
            rcases hget i row hi with ⟨_, rfl⟩ | ⟨_, hi⟩
            · exact hyl
            · exact a1 i row hi
          · intro i row j x' hi hj
            have hjl : j < sz := by
              rcases hget i row hi with ⟨_, rfl⟩ | ⟨_, hi⟩
              · rw [← hyl]; exact (List.getElem?_eq_some_iff.1 hj).1
              · rw [← a1 i row hi]; exact (List.getElem?_eq_some_iff.1 hj).1
            rw [List.getElem?_toArray, spl_get _ _ _ (by simp; omega)]
            show _ = some (if i = n then g j else f i j)
            rcases hget i row hi with ⟨rfl, rfl⟩ | ⟨hne, hi⟩
            · rw [if_pos (by omega), if_pos rfl, ← g3 j x' hj]
              congr 1; omega
            · rw [if_neg hne]
              have hout : ¬ (n * sz ≤ i * sz + j ∧ i * sz + j < n * sz + (a.eval y).cells.toList.length) := by
                rintro ⟨q1, q2⟩
                rcases Nat.lt_or_gt_of_ne hne with hlt | hgt
                · have : (i + 1) * sz ≤ n * sz := Nat.mul_le_mul_right _ hlt
                  rw [Nat.add_mul, Nat.one_mul] at this; omega
                · have : (n + 1) * sz ≤ i * sz := Nat.mul_le_mul_right _ hgt
                  rw [Nat.add_mul, Nat.one_mul] at this; omega
              rw [if_neg hout, Array.getElem?_toList]
              exact a2 i row j x' hi hj
          · intro i row j x' hi hj
            show Rep _ _ 0 x' (if i = n then g j else f i j)
            rcases hget i row hi with ⟨rfl, rfl⟩ | ⟨hne, hi⟩
            · rw [if_pos rfl]; exact ((g4 j x' hj).mono (Nat.zero_le _) hkeep.rep)
            · rw [if_neg hne]; exact ((a3 i row j x' hi hj).mono (Nat.le_refl _) hkeep.rep)
          · intro i row j x' hi hj hc
            show Rep _ _ C.lo x' (if i = n then g j else f i j)
            rcases hget i row hi with ⟨rfl, rfl⟩ | ⟨hne, hi⟩
            · rw [if_pos rfl]; exact ((g4 j x' hj).mono (Nat.le_refl _) hkeep.rep)
            · rw [if_neg hne]; exact ((a4 i row j x' hi hj (by omega)).mono (Nat.le_refl _) hkeep.rep)
      · cases hf
    · cases hf
  · cases hf

def opLenArr (P : Program) (σ : St) (o : Oper) (x : Operand) (t : TypeId) : Option (St × Prop) :=
  match ev σ x, P.underlying t with
  | .vec k, some (.slice _) => match lk σ.tab k with
    | some (.arr _ _ _ len _) => some (σ.put o.dst (.p (.v (.int .i64 (len : Int))) true), True)
    | _ => none
  | _, _ => none

theorem opLenArr_sound {C : Ctx} {E : Env} {σ σ' : St} {a : Act} {w : World} {o : Oper} {x : Operand} {t : TypeId} {vc : Prop} (ho : o.op = .call { callee := .builtin .len, args := #[x], argTypes := #[t] })
    (hf : opLenArr C.P σ o x t = some (σ', vc)) (h : HoldsE C E σ a w) (hd : DstOk C o) : OpOut C o σ' a w := by
  have hev := ev_rep h x
  unfold opLenArr at hf
  split at hf
  · rename_i k e he hu
    split at hf
    · rename_i t' sz rows len m hl
      simp only [Option.some.injEq, Prod.mk.injEq] at hf; obtain ⟨rfl, _⟩ := hf
      rw [he] at hev; simp only [VR] at hev
      obtain ⟨b, cs, h1, h2, h3, h4, h5, h6, h7⟩ := h.tab.obj _ _ hl
      have hs := hev.1
      rw [h1] at hs
      have hv : a.eval x = .slice (some ⟨b, 0, none⟩) len rows.length := (Option.some.inj hs).symm
      refine out_pure h hd (v := .int .i64 (len : Int)) ?_ (VR_v true rfl)
      rw [exec_builtin ho]
      simp [builtin, Builtin.len_, run_underlying hu, hv, goInt]
    · cases hf
  · cases hf

/-- a list of known room is pure, where all of it is fresh -/
theorem imp_room {C : Ctx} {σ : St} {a : Act} {w : World} {k : Nat} {t : TypeId} {sz len m : Nat} {rows : List (List PV)} (hl : lk σ.tab k = some (.arr t sz rows len m)) (hm : len ≤ m) (h : Holds C σ a w) :
    Holds C (St.fz k (.p (.rm len rows) true) (fun _ => .u) σ) a w := by
  obtain ⟨E, h⟩ := h
  obtain ⟨b, cs, h1, h2, h3, h4, h5, h6, f, a1, a2, a3, a4⟩ := h.tab.obj k _ hl
  have hdrop : (E.drop k).own b = none := by simp [Env.drop, h2]
  have hext : ¬ (E.drop k).ext b := fun hx => by have := (h.tab.ext b hx).2; rw [h2] at this; cases this
  refine ⟨E.drop k, St.fz_holds h ?_ (fun _ _ _ => by simp [VR])⟩
  intro v hv
  simp only [VR] at hv ⊢
  have hv1 := hv.1
  rw [h1] at hv1
  have := Option.some.inj hv1; subst this
  refine .rm len rows b 0 cs t sz f h6 h3 (bad_of_none hdrop hext) (h.tab.own b k h2).2.1 a1 (fun i row j x hi hj => by rw [Nat.zero_add]; exact a2 i row j x hi hj) fun i row j x hi hj => ?_
  exact (a4 i row j x hi hj (by omega)).mono (Nat.le_refl _) (Env.keeps_drop w E k).rep

end Go.TL
/- Places and lists known as bare values: what lies there is told by an object's predicate. -/
namespace Go.TL

def rawP : SV → Option (Nat × Nat)
  | .p (.v (.pointer (some ⟨b, o, none⟩))) _ => some (b, o)
  | _ => none

theorem rawP_ev {C : Ctx} {E : Env} {σ : St} {a : Act} {w : World} {x : Operand} {b o : Nat} (h : HoldsE C E σ a w) (hr : rawP (ev σ x) = some (b, o)) : a.eval x = .pointer (some ⟨b, o, none⟩) := by
  unfold rawP at hr
  split at hr
  · rename_i b' o' fr he
    simp only [Option.some.injEq, Prod.mk.injEq] at hr; obtain ⟨rfl, rfl⟩ := hr
    exact ev_v h he
  · cases hr

abbrev Rp (b o : Nat) : SV := .p (.v (.pointer (some ⟨b, o, none⟩))) true

def opRawNil (σ : St) (o : Oper) (x : Operand) : Option (St × Prop) :=
  match rawP (ev σ x) with
  | some (b, o') => some (σ.put o.dst (Rp b o'), True)
  | none => none

theorem opRawNil_sound {C : Ctx} {E : Env} {σ σ' : St} {a : Act} {w : World} {o : Oper} {x : Operand} {vc : Prop} (ho : o.op = .nilCheck x)
    (hf : opRawNil σ o x = some (σ', vc)) (h : HoldsE C E σ a w) (hd : DstOk C o) : OpOut C o σ' a w := by
  unfold opRawNil at hf
  split at hf
  · rename_i b o' hr
    simp only [Option.some.injEq, Prod.mk.injEq] at hf; obtain ⟨rfl, _⟩ := hf
    have hx := rawP_ev h hr
    exact out_pure h hd (v := .pointer (some ⟨b, o', none⟩)) (by simp [execOp, ho, hx]) (VR_v true rfl)
  · cases hf

def opRawField (P : Program) (σ : St) (o : Oper) (s : TypeId) (x : Operand) (f : Nat) : Option (St × Prop) :=
  match fieldOff P s f, rawP (ev σ x) with
  | some (n, _), some (b, o') => some (σ.put o.dst (Rp b (o' + n)), True)
  | _, _ => none

theorem opRawField_sound {C : Ctx} {E : Env} {σ σ' : St} {a : Act} {w : World} {o : Oper} {s : TypeId} {x : Operand} {f : Nat} {vc : Prop} (ho : o.op = .fieldAddr s x f)
    (hf : opRawField C.P σ o s x f = some (σ', vc)) (h : HoldsE C E σ a w) (hd : DstOk C o) : OpOut C o σ' a w := by
  unfold opRawField at hf
  split at hf
  · rename_i n m b o' hn hr
    simp only [Option.some.injEq, Prod.mk.injEq] at hf; obtain ⟨rfl, _⟩ := hf
    have hx := rawP_ev h hr
    unfold fieldOff at hn
    split at hn
    · rename_i fields hu
      split at hn
      · rename_i fd hfd
        split at hn
        · rename_i i hi
          split at hn
          · cases hn
          · rename_i hz
            simp only [Option.some.injEq, Prod.mk.injEq] at hn; obtain ⟨rfl, rfl⟩ := hn
            have hz' : i.size ≠ 0 := fun e => by rw [e] at hz; simp at hz
            have hfd' : fields[f]? = some fd := by simpa using hfd
            refine out_pure h hd (v := .pointer (some ⟨b, o' + fd.offset, none⟩)) ?_ (VR_v true rfl)
            simp [execOp, ho, hx, Instr.fieldAt, run_underlying hu, hfd', Instr.sureAddr, fieldPlace, sizeOf, typeInfo, hi, hz', Addr.add_lit]
        · cases hn
      · cases hn
    · cases hn
  · cases hf

def extAt (T : Tab) (k : Nat) : Option (World → Value → (Nat → Prop) → Prop) :=
  match lk T k with
  | some (.ext φ) => some φ
  | _ => none

theorem extAt_eq {T : Tab} {k : Nat} {φ : World → Value → (Nat → Prop) → Prop} (h : extAt T k = some φ) : lk T k = some (.ext φ) := by
  unfold extAt at h
  split at h
  · rename_i he; rw [he]; simp only [Option.some.injEq] at h; rw [h]
  · cases h

def opRawLoad (P : Program) (H : Hint) (σ : St) (o : Oper) (t : TypeId) (x : Operand) : Option (St × Prop) :=
  match rawP (ev σ x), o.dst with
  | some (b, o'), some d => match lk H.ld d with
    | some [.v y, .v (.int _ (.ofNat k))] => match extAt σ.tab k, loadOut P t 0 [.p (.v y) true] with
      | some φ, some sv => some (σ.put o.dst sv, y.oneCell' = true ∧ ∀ w x B, φ w x B → ∃ cs t fz, w.heap[b]? = some (.cells cs t fz) ∧ cs[o']? = some y)
      | _, _ => none
    | _ => none
  | _, _ => none

theorem opRawLoad_sound {C : Ctx} {H : Hint} {E : Env} {σ σ' : St} {a : Act} {w : World} {o : Oper} {t : TypeId} {x : Operand} {vc : Prop} (ho : o.op = .load t x)
    (hf : opRawLoad C.P H σ o t x = some (σ', vc)) (hvc : vc) (h : HoldsE C E σ a w) (hd : DstOk C o) : OpOut C o σ' a w := by
  unfold opRawLoad at hf
  split at hf
  · rename_i b o' d hr hdst
    split at hf
    · rename_i y kk k hl
      split at hf
      · rename_i φ sv hφ hsv
        simp only [Option.some.injEq, Prod.mk.injEq] at hf; obtain ⟨rfl, rfl⟩ := hf
        obtain ⟨h1, h2⟩ := hvc
        have hx := rawP_ev h hr
        obtain ⟨x', e1, e2, e3, e4⟩ := h.tab.obj k _ (extAt_eq hφ)
        obtain ⟨cs, t', fz, q1, q2⟩ := h2 w x' _ e3
        obtain ⟨v, hr', hv⟩ := load_rep (P := C.P) (b := b) (o := o') (off := 0) (VRs_cons (VR_v (w := w) (E := E) (lo := C.lo) true h1) VRs_nil) (fun j v hj => by
          cases j with
          | zero => simp at hj; subst hj; rw [Nat.add_zero, cell_at q1]; exact q2
          | succ j => simp at hj) hsv
        exact out_pure h hd (v := v) (by rw [Nat.add_zero] at hr'; simp [execOp, ho, hx, hr']) hv
      · cases hf
    · cases hf
  · cases hf

/-- one cell of a block is another -/
def setExt (φ : World → Value → (Nat → Prop) → Prop) (b o : Nat) (z : Value) : World → Value → (Nat → Prop) → Prop := fun w' x B =>
  ∃ w, φ w x B ∧ B b ∧ (∀ c, B c → c ≠ b → w'.heap[c]? = w.heap[c]?) ∧ ∃ cs t, w.heap[b]? = some (.cells cs t (0, 0)) ∧ w'.heap[b]? = some (.cells (spl cs.toList o [z]).toArray t (0, 0))

def opRawStore (P : Program) (H : Hint) (σ : St) (o : Oper) (t : TypeId) (x y : Operand) : Option (St × Prop) :=
  match rawP (ev σ x), cellsOf (ev σ y), P.info? t, H.st with
  | some (b, o'), some [.p (.v z) _], some i, (k, _) :: _ => match extAt σ.tab k, Nat.beq i.size 1 with
    | some φ, true => some ((⟨σ.slots, (k, .ext (setExt φ b o' z)) :: rm σ.tab k⟩ : St).put o.dst .u, ∀ w x B, φ w x B → B b ∧ ∃ cs t, w.heap[b]? = some (.cells cs t (0, 0)) ∧ o' < cs.size)
    | _, _ => none
  | _, _, _, _ => none

theorem opRawStore_sound {C : Ctx} {H : Hint} {E : Env} {σ σ' : St} {a : Act} {w : World} {o : Oper} {t : TypeId} {x y : Operand} {vc : Prop} (ho : o.op = .store t x y)
    (hf : opRawStore C.P H σ o t x y = some (σ', vc)) (hvc : vc) (h : HoldsE C E σ a w) (hd : DstOk C o) : OpOut C o σ' a w := by
  unfold opRawStore at hf
  split at hf
  · rename_i b o' z fr i k hst rest hr hcells hi hst'
    split at hf
    · rename_i φ hφ hsz
      have hsz' := Nat.eq_of_beq_eq_true hsz
      simp only [Option.some.injEq, Prod.mk.injEq] at hf; obtain ⟨rfl, rfl⟩ := hf
      have hx := rawP_ev h hr
      obtain ⟨x', e1, e2, e3, e4⟩ := h.tab.obj k _ (extAt_eq hφ)
      obtain ⟨hB, cs, t', q1, q2⟩ := hvc w x' _ e3
      have hvs := cellsOf_rep hcells (ev_rep h y)
      have hlen := VRs_length hvs
      have hyc : (a.eval y).cells.toList = [z] ∧ z.oneCell' = true := by
        generalize (a.eval y).cells.toList = l at hvs hlen
        match l, hlen, hvs with
        | [v], _, hvs =>
          have hv := (VRs_cons_iff.1 hvs).1
          have e := VR_v_eq hv
          simp only [VR] at hv
          cases hv with
          | v _ h1 => exact ⟨rfl, h1⟩
      have hr' := run_storeAt (P := C.P) (off := o') (v := a.eval y) hi (by rw [hyc.1, hsz']; rfl) q1 (by rw [hyc.1]; exact q2) (by rw [hyc.1]; intro u hu; simp at hu; subst hu; exact hyc.2)
      rw [hyc.1] at hr'
      have hk0 : lk σ.tab k ≠ none := by rw [extAt_eq hφ]; simp
      refine out_set h hd hk0 (w1 := w.setRow b (spl cs.toList o' [z]).toArray) (by simp [execOp, ho, hx, hr']) rfl rfl rfl (by simp) ?_ ?_
      · intro c hc
        exact setRow_other w b c _ (fun e => hc (by rw [e]; exact hB))
      · have hnew := setRow_heap w b _ (spl cs.toList o' [z]).toArray t' _ q1
        refine ⟨x', e1, e2, ⟨w, e3, hB, fun c _ hne => setRow_other w b c _ hne, cs, t', q1, hnew⟩, ?_⟩
        intro w' hw'
        exact ⟨w, e3, hB, fun c hc hne => (hw' c hc).trans (setRow_other w b c _ hne), cs, t', q1, (hw' b hB).trans hnew⟩
    · cases hf
  · cases hf

/-- a list as a bare value -/
def rawS : SV → Option (Option (Nat × Nat) × Nat × Nat)
  | .p (.v (.slice (some ⟨b, o, none⟩) n c)) _ => some (some (b, o), n, c)
  | .p (.v (.slice none 0 0)) _ => some (none, 0, 0)
  | _ => none

def baseA : Option (Nat × Nat) → Option Addr
  | some (b, o) => some ⟨b, o, none⟩
  | none => none

theorem rawS_ev {C : Ctx} {E : Env} {σ : St} {a : Act} {w : World} {x : Operand} {p : Option (Nat × Nat)} {n c : Nat} (h : HoldsE C E σ a w) (hr : rawS (ev σ x) = some (p, n, c)) : a.eval x = .slice (baseA p) n c := by
  unfold rawS at hr
  split at hr
  · rename_i b' o' n' c' fr he
    simp only [Option.some.injEq, Prod.mk.injEq] at hr; obtain ⟨rfl, rfl, rfl⟩ := hr
    exact ev_v h he
  · rename_i fr he
    simp only [Option.some.injEq, Prod.mk.injEq] at hr; obtain ⟨rfl, rfl, rfl⟩ := hr
    exact ev_v h he
  · cases hr

def opRawLen (P : Program) (σ : St) (o : Oper) (x : Operand) (t : TypeId) : Option (St × Prop) :=
  match rawS (ev σ x), P.underlying t with
  | some (_, n, _), some (.slice _) => some (σ.put o.dst (.p (.v (.int .i64 (n : Int))) true), True)
  | _, _ => none

theorem opRawLen_sound {C : Ctx} {E : Env} {σ σ' : St} {a : Act} {w : World} {o : Oper} {x : Operand} {t : TypeId} {vc : Prop} (ho : o.op = .call { callee := .builtin .len, args := #[x], argTypes := #[t] })
    (hf : opRawLen C.P σ o x t = some (σ', vc)) (h : HoldsE C E σ a w) (hd : DstOk C o) : OpOut C o σ' a w := by
  unfold opRawLen at hf
  split at hf
  · rename_i p n c e hr hu
    simp only [Option.some.injEq, Prod.mk.injEq] at hf; obtain ⟨rfl, _⟩ := hf
    have hx := rawS_ev h hr
    refine out_pure h hd (v := .int .i64 (n : Int)) ?_ (VR_v true rfl)
    rw [exec_builtin ho]
    simp [builtin, Builtin.len_, run_underlying hu, hx, goInt]
  · cases hf

def opRawCap (P : Program) (σ : St) (o : Oper) (x : Operand) (t : TypeId) : Option (St × Prop) :=
  match rawS (ev σ x), P.underlying t with
  | some (_, _, c), some (.slice _) => some (σ.put o.dst (.p (.v (.int .i64 (c : Int))) true), True)
  | _, _ => none

theorem opRawCap_sound {C : Ctx} {E : Env} {σ σ' : St} {a : Act} {w : World} {o : Oper} {x : Operand} {t : TypeId} {vc : Prop} (ho : o.op = .call { callee := .builtin .cap, args := #[x], argTypes := #[t] })
    (hf : opRawCap C.P σ o x t = some (σ', vc)) (h : HoldsE C E σ a w) (hd : DstOk C o) : OpOut C o σ' a w := by
  unfold opRawCap at hf
  split at hf
  · rename_i p n c e hr hu
    simp only [Option.some.injEq, Prod.mk.injEq] at hf; obtain ⟨rfl, _⟩ := hf
    have hx := rawS_ev h hr
    refine out_pure h hd (v := .int .i64 (c : Int)) ?_ (VR_v true rfl)
    rw [exec_builtin ho]
    simp [builtin, Builtin.cap_, run_underlying hu, hx, goInt]
  · cases hf

def opRawIndex (P : Program) (σ : St) (o : Oper) (t : TypeId) (x ix : Operand) : Option (St × Prop) :=
  match rawS (ev σ x), intOf (ev σ ix), P.underlying t with
  | some (some (b, o'), n, _), some i, some (.slice e) => match P.info? e with
    | some inf => some (σ.put o.dst (Rp b (o' + i.toNat * inf.size)), 0 ≤ i ∧ i < (n : Int))
    | none => none
  | _, _, _ => none

theorem opRawIndex_sound {C : Ctx} {E : Env} {σ σ' : St} {a : Act} {w : World} {o : Oper} {t : TypeId} {x ix : Operand} {vc : Prop} (ho : o.op = .indexAddr t x ix)
    (hf : opRawIndex C.P σ o t x ix = some (σ', vc)) (hvc : vc) (h : HoldsE C E σ a w) (hd : DstOk C o) : OpOut C o σ' a w := by
  unfold opRawIndex at hf
  split at hf
  · rename_i b o' n c i e hr hn hu
    obtain ⟨kk, hix⟩ := intOf_ev h hn
    split at hf
    · rename_i inf hi
      simp only [Option.some.injEq, Prod.mk.injEq] at hf; obtain ⟨rfl, rfl⟩ := hf
      have hx := rawS_ev h hr
      refine out_pure h hd (v := .pointer (some ⟨b, o' + i.toNat * inf.size, none⟩)) ?_ (VR_v true rfl)
      simp [execOp, ho, hx, baseA, hix, run_indexAt_slice (P := C.P) (w := w) (k := kk) hu hi hvc.1 hvc.2, Addr.add_lit]
    · cases hf
  · cases hf

theorem run_bounds_cap {P : Program} {w : World} {len cap : Nat} {kk : IntKind} {m : Int} (h0 : 0 ≤ m) (h1 : m ≤ (cap : Int)) :
    (Instr.sliceBounds true len cap none (some (.int kk m)) none).run P w = .ok (0, m.toNat, cap) w := by
  simp [Instr.sliceBounds, Instr.sliceBound, asIntOf, h0, h1]

/-- all of the room: s[:h] -/
def opRawSlice (P : Program) (σ : St) (o : Oper) (t : TypeId) (x hi : Operand) : Option (St × Prop) :=
  match rawS (ev σ x), intOf (ev σ hi), P.underlying t with
  | some (p, n, c), some m, some (.slice e) => match P.info? e with
    | some _ => some (σ.put o.dst (.p (.v (.slice (baseA p) m.toNat c)) true), 0 ≤ m ∧ m ≤ (c : Int) ∧ n ≤ c)
    | none => none
  | _, _, _ => none

theorem opRawSlice_sound {C : Ctx} {E : Env} {σ σ' : St} {a : Act} {w : World} {o : Oper} {t : TypeId} {x hi : Operand} {vc : Prop} (ho : o.op = .slice t x none (some hi) none)
    (hf : opRawSlice C.P σ o t x hi = some (σ', vc)) (hvc : vc) (h : HoldsE C E σ a w) (hd : DstOk C o) : OpOut C o σ' a w := by
  unfold opRawSlice at hf
  split at hf
  · rename_i p n c m e hr hn hu
    obtain ⟨kk, hkk⟩ := intOf_ev h hn
    split at hf
    · rename_i inf hi'
      simp only [Option.some.injEq, Prod.mk.injEq] at hf; obtain ⟨rfl, rfl⟩ := hf
      obtain ⟨h0, h1, h2⟩ := hvc
      have hx := rawS_ev h hr
      have hb := run_bounds_cap (P := C.P) (w := w) (len := n) (cap := c) (kk := kk) (m := m) h0 h1
      have hp : (if c = 0 then baseA p else (baseA p).map (·.add (0 * inf.size))) = baseA p := by cases p <;> simp [baseA, Addr.add]
      refine out_pure h hd (v := .slice (baseA p) m.toNat c) ?_ (VR_v true rfl)
      unfold execOp
      simp only [ho, hx, hkk, Instr.sliceAt, Sem.run_bind, run_underlying hu, Result.andThen_ok, Instr.slice, Option.map_none, Option.map_some, hb, sizeOf, typeInfo, run_program, hi', Sem.run_pure, Nat.sub_zero, hp]
    · cases hf
  · cases hf

end Go.TL
