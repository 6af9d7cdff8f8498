/- What one operation makes of the state: appends, literals, lengths, slices, numbers. -/
import Derived.Test.YtaaimmmofkldbaaWl02
import Derived.ArgAppend
namespace Go.TL
def sliceElem (P : Program) (t : TypeId) : Option (TypeId × TypeInfo) :=
  match P.underlying t with
  | some (.slice e) => match P.info? e with
    | some i => some (e, i)
    | none => none
  | _ => none
theorem sliceElem_eq {P : Program} {t e : TypeId} {i : TypeInfo} (h : sliceElem P t = some (e, i)) : P.underlying t = some (.slice e) ∧ P.info? e = some i := by
  unfold sliceElem at h
  split at h
  · rename_i e' hu
    split at h
    · rename_i i' hi
      simp only [Option.some.injEq, Prod.mk.injEq] at h; obtain ⟨rfl, rfl⟩ := h; exact ⟨hu, hi⟩
    · cases h
  · cases h
def baseOf (T : Tab) (d : Nat) : SV → Option (List (List PV) × Bool × Nat × Option (TypeId × Nat))
  | .vec k => match lk T k with
    | some (.vec t sz rows fr) => some (rows, fr, k, some (t, sz))
    | _ => none
  | .p (.v (.slice none 0 0)) _ => some ([], true, d, none)
  | _ => none
def opAppend (P : Program) (σ : St) (o : Oper) (s x : Operand) (t : TypeId) : Option (St × Prop) :=
  match o.dst, sliceElem P t with
  | some d, some (e, i) => match baseOf σ.tab d (ev σ s), srcOf σ.tab (ev σ x), i.zero with
    | some (rows, fr, k, ts), some (rows2, fr2), some z => match lk (rm σ.tab k) d, Nat.beq z.cells.size i.size, Nat.beq i.size 0, (match ts with | some (t', sz) => Nat.beq t' e && Nat.beq sz i.size | none => (lk σ.tab d).isNone) with
      | none, true, false, true => some (σ.re k d (.vec e i.size (rows ++ rows2) (fr && fr2)), (∀ row ∈ rows2, row.length = i.size) ∧ (rows.length + rows2.length) * max i.bytes 1 ≤ 140737488355328)
      | _, _, _, _ => none
    | _, _, _ => none
  | _, _ => none
theorem opAppend_sound {C : Ctx} {E : Env} {σ σ' : St} {a : Act} {w : World} {o : Oper} {s x : Operand} {t : TypeId} {vc : Prop} (ho : o.op = .call { callee := .builtin .append, args := #[s, x], argTypes := #[t, t] })
    (hf : opAppend C.P σ o s x t = some (σ', vc)) (hvc : vc) (h : HoldsE C E σ a w) (hd : DstOk C o) : OpOut C o σ' a w := by
  unfold opAppend at hf
  split at hf
  · rename_i d e i hdst hse
    obtain ⟨hu, hi⟩ := sliceElem_eq hse
    split at hf
    · rename_i rows fr k ts rows2 fr2 z hbase hsrc hz
      split at hf
      · rename_i hfresh hzs hsz hts
        have hzs' := Nat.eq_of_beq_eq_true hzs
        have hpos : 0 < i.size := by
          rcases Nat.eq_zero_or_pos i.size with h0 | h0
          · rw [h0] at hsz; simp at hsz
          · exact h0
        simp only [Option.some.injEq, Prod.mk.injEq] at hf; obtain ⟨rfl, rfl⟩ := hf
        obtain ⟨hrows2, hroom⟩ := hvc
        have hm1 : (rows.length + rows2.length) * 1 ≤ (rows.length + rows2.length) * max i.bytes 1 := Nat.mul_le_mul_left _ (by omega)
        have hm2 : (rows.length + rows2.length) * i.bytes ≤ (rows.length + rows2.length) * max i.bytes 1 := Nat.mul_le_mul_left _ (by omega)
        have hok2 : ∀ (n : Nat) (row : List PV), rows2[n]? = some row → row.length = i.size := fun n row hn => hrows2 row (List.mem_of_getElem? hn)
        have hsr := src_rep h hsrc (ev_rep h x) hok2 hpos
        have hb : ∃ xs, w.ownsRow 0 e i.size (a.eval s) rows.length xs ∧ RowsRep w E.bad (flo C.lo fr) i.size rows xs ∧ ∀ g, (a.eval s).ownBlock = some g → E.own g = some k := by
          have hev := ev_rep h s
          unfold baseOf at hbase
          split at hbase
          · rename_i k' he
            split at hbase
            · rename_i t' sz' rows' fr' hl
              simp only [Option.some.injEq, Prod.mk.injEq] at hbase; obtain ⟨rfl, rfl, rfl, rfl⟩ := hbase
              simp only [Bool.and_eq_true] at hts
              have e1 := Nat.eq_of_beq_eq_true hts.1
              have e2 := Nat.eq_of_beq_eq_true hts.2
              subst e1
              obtain ⟨v, xs, h1, h2, h3, h4, h5⟩ := h.tab.obj _ _ hl
              rw [he] at hev; simp only [VR] at hev
              rw [hev.1] at h1; cases h1
              rw [e2] at h3 h5
              exact ⟨xs, h3, h5, h4⟩
            · cases hbase
          · rename_i he
            simp only [Option.some.injEq, Prod.mk.injEq] at hbase; obtain ⟨rfl, rfl, rfl, rfl⟩ := hbase
            rw [he] at hev
            have := VR_v_eq hev
            rw [this]
            exact ⟨[], World.ownsRow_nil w 0 e i.size, ⟨fun _ _ => undef, by simp, by simp, by simp⟩, by simp [Value.ownBlock]⟩
          · cases hbase
        obtain ⟨xs, hown, hrr, hblk⟩ := hb
        have hxx : ∃ news, ((rows2.length = 0 ∧ news = [] ∧ ∃ b c, a.eval x = .slice b 0 c) ∨ ∃ (ad : Addr) (c : Nat), a.eval x = .slice (some ad) rows2.length c ∧ news.length = rows2.length * i.size ∧
            (∀ (j : Nat) u, news[j]? = some u → w.cell? (ad.add j) = some u) ∧ (∀ u ∈ news, u.oneCell' = true)) ∧ RowsRep w E.bad (flo C.lo fr2) i.size rows2 news := by
          rcases hsr.out with ⟨rfl, b, c, hx⟩ | ⟨ad, c, news, hx, hl, hn, h1, hr⟩
          · exact ⟨[], .inl ⟨rfl, rfl, b, c, hx⟩, ⟨fun _ _ => undef, by simp, by simp, by simp⟩⟩
          · exact ⟨news, .inr ⟨ad, c, hx, hl, hn, h1⟩, hr⟩
        obtain ⟨news, hcase, hrr2⟩ := hxx
        obtain ⟨v', w', hrun, hown', hgb, hblk', hsl⟩ := run_append_mine (P := C.P) (w := w) t o.type e i z hu hi hz hzs' hpos (a.eval s) rows.length xs hown (a.eval x) rows2.length news hcase (by omega) (by omega)
        refine out_re h hd hdst hfresh (x := v') (w' := w') ?_ hgb.os hgb.tape hgb.output hgb.size ?_ ?_ hsl ?_
        · unfold execOp
          simp only [ho, resolve, invoke, builtin, Sem.run_bind, Sem.run_pure, Result.andThen_ok, List.map_toArray, List.map_cons, List.map_nil, hrun]
        · intro b hlt hne
          exact hgb.block b hlt (fun e => hne (hblk b e.symm))
        · intro g hg
          obtain ⟨h1, h2⟩ := hblk' g hg
          exact ⟨h1.imp (hblk g) id, h2⟩
        · intro hkeep
          refine ⟨v', xs ++ news, by simp [Env.re], hpos, by simpa using hown', ?_, ?_⟩
          · intro g hg; simp [Env.re, hg]
          · exact RowsRep.append (hrr.mono (flo_and _ _ _).1 hkeep.rep) hown.1 (hrr2.mono (flo_and _ _ _).2 hkeep.rep)
      · cases hf
    · cases hf
  · cases hf
def isPc : SV → Bool
  | .pc _ _ => true
  | _ => false
def opAppendF (P : Program) (σ : St) (o : Oper) (s x : Operand) (t : TypeId) : Option (St × Prop) :=
  match o.dst, sliceElem P t with
  | some d, some (e, i) => match ev σ s, srcOf σ.tab (ev σ x), i.zero with
    | .pc rows fr, some (rows2, fr2), some z => match lk σ.tab d, Nat.beq z.cells.size i.size, Nat.beq i.size 0 with
      | none, true, false => some (σ.re d d (.vec e i.size (rows ++ rows2) (fr && fr2)), (∀ row ∈ rows, row.length = i.size) ∧ (∀ row ∈ rows2, row.length = i.size) ∧ 0 < rows2.length ∧ (rows.length + rows2.length) * max i.bytes 1 ≤ 140737488355328)
      | _, _, _ => none
    | _, _, _ => none
  | _, _ => none
theorem opAppendF_sound {C : Ctx} {E : Env} {σ σ' : St} {a : Act} {w : World} {o : Oper} {s x : Operand} {t : TypeId} {vc : Prop} (ho : o.op = .call { callee := .builtin .append, args := #[s, x], argTypes := #[t, t] })
    (hf : opAppendF C.P σ o s x t = some (σ', vc)) (hvc : vc) (h : HoldsE C E σ a w) (hd : DstOk C o) : OpOut C o σ' a w := by
  unfold opAppendF at hf
  split at hf
  · rename_i d e i hdst hse
    obtain ⟨hu, hi⟩ := sliceElem_eq hse
    split at hf
    · rename_i rows fr rows2 fr2 z hbase hsrc hz
      split at hf
      · rename_i hfresh0 hzs hsz
        have hfresh : lk (rm σ.tab d) d = none := lk_rm_same _ _
        have hzs' := Nat.eq_of_beq_eq_true hzs
        have hpos : 0 < i.size := by
          rcases Nat.eq_zero_or_pos i.size with h0 | h0
          · rw [h0] at hsz; simp at hsz
          · exact h0
        simp only [Option.some.injEq, Prod.mk.injEq] at hf; obtain ⟨rfl, rfl⟩ := hf
        obtain ⟨hrows, hrows2, hne, hroom⟩ := hvc
        have hm1 : (rows.length + rows2.length) * 1 ≤ (rows.length + rows2.length) * max i.bytes 1 := Nat.mul_le_mul_left _ (by omega)
        have hm2 : (rows.length + rows2.length) * i.bytes ≤ (rows.length + rows2.length) * max i.bytes 1 := Nat.mul_le_mul_left _ (by omega)
        have hmax : rows.length + rows2.length ≤ maxLen := by simp only [maxLen]; omega
        have hok1 : ∀ (n : Nat) (row : List PV), rows[n]? = some row → row.length = i.size := fun n row hn => hrows row (List.mem_of_getElem? hn)
        have hok2 : ∀ (n : Nat) (row : List PV), rows2[n]? = some row → row.length = i.size := fun n row hn => hrows2 row (List.mem_of_getElem? hn)
        have hev := ev_rep h s
        have hsr1 := src_rep (rows := rows) (fr := fr) h (by rw [hbase]; rfl) hev hok1 hpos
        have hsr := src_rep h hsrc (ev_rep h x) hok2 hpos
        rw [hbase] at hev; simp only [VR] at hev
        obtain ⟨ad0, hval, _⟩ := hev
        obtain ⟨ad2, c2, news, hx, hnl, hn, h1, hrr2⟩ : ∃ (ad : Addr) (c : Nat) (news : List Value), a.eval x = .slice (some ad) rows2.length c ∧ news.length = rows2.length * i.size ∧
            (∀ (j : Nat) u, news[j]? = some u → w.cell? (ad.add j) = some u) ∧ (∀ u ∈ news, u.oneCell' = true) ∧ RowsRep w E.bad (flo C.lo fr2) i.size rows2 news := by
          rcases hsr.out with ⟨rfl, _⟩ | hh
          · simp at hne
          · exact hh
        have key : ∃ olds v' w', (Builtin.append_ #[t, t] o.type #[a.eval s, a.eval x]).run C.P w = .ok v' w' ∧ olds.length = rows.length * i.size ∧ RowsRep w E.bad (flo C.lo fr) i.size rows olds ∧ w'.ownsRow 0 e i.size v' (rows.length + rows2.length) (olds ++ news) ∧ w.grownBy w' none ∧
            (∀ g, v'.ownBlock = some g → w.heap.size ≤ g ∧ g < w'.heap.size) ∧ ∃ p n c, v' = .slice p n c := by
          have grow : ∀ (b : Addr) (olds : List Value), a.eval s = .slice (some b) rows.length rows.length → olds.length = rows.length * i.size → (∀ j u, olds[j]? = some u → w.cell? (b.add j) = some u) →
              ∃ v' w', (Builtin.append_ #[t, t] o.type #[a.eval s, a.eval x]).run C.P w = .ok v' w' ∧ w'.ownsRow 0 e i.size v' (rows.length + rows2.length) (olds ++ news) ∧ w.grownBy w' none ∧ (∀ g, v'.ownBlock = some g → w.heap.size ≤ g ∧ g < w'.heap.size) ∧ ∃ p n c, v' = .slice p n c := by
            intro b olds hs1 hol hoc
            obtain ⟨v', w', r1, r2, r3⟩ := run_append_arg_grows (P := C.P) w t o.type e i z i.size i.bytes hu hi hz rfl rfl hzs' hpos b rows.length rows.length olds hol hoc ad2 rows2.length c2 news hnl hn (by omega) hmax (by omega)
            rw [hs1, hx]
            refine ⟨v', w', r1, ⟨r2.1, ?_⟩, r3, ?_, ?_⟩
            · rcases r2.2 with q | ⟨g, cap, cur, q1, q2, q3⟩
              · exact .inl q
              · exact .inr ⟨g, cap, cur, q1, Nat.zero_le _, q3⟩
            · intro g hg
              rcases r2.2 with ⟨q, _⟩ | ⟨g', cap, cur, q1, q2, q3, _⟩
              · rw [q] at hg; simp [Value.ownBlock] at hg
              · rw [q1] at hg; simp [Value.ownBlock] at hg; subst hg; exact ⟨q2, heap_lt q3⟩
            · rcases r2.2 with ⟨q, _⟩ | ⟨g', cap, cur, q1, _⟩
              · exact ⟨_, _, _, q⟩
              · exact ⟨_, _, _, q1⟩
          rcases hsr1.out with ⟨rfl, b, c, hs1⟩ | ⟨ad, c, olds, hs1, hol, hoc, _, hr⟩
          · simp only [List.length_nil] at hval
            cases ad0 with
            | none =>
              obtain ⟨v', w', r1, r2, r3, r4, r5⟩ := run_append_mine (P := C.P) (w := w) t o.type e i z hu hi hz hzs' hpos (.slice none 0 0) 0 [] (World.ownsRow_nil w 0 e i.size) (a.eval x) rows2.length news (.inr ⟨ad2, c2, hx, hnl, hn, h1⟩) (by simp only [List.length_nil] at hm2 hroom; omega) (by simp only [List.length_nil] at hm1 hroom; omega)
              rw [hval]
              refine ⟨[], v', w', r1, by simp, ⟨fun _ _ => undef, by simp, by simp, by simp⟩, by simpa using r2, ?_, fun g hg => ⟨(r4 g hg).1.resolve_left (by simp [Value.ownBlock]), (r4 g hg).2⟩, r5⟩
              exact r3
            | some b =>
              obtain ⟨v', w', r⟩ := grow b [] (by simpa using hval) (by simp) (by simp)
              exact ⟨[], v', w', r.1, by simp, ⟨fun _ _ => undef, by simp, by simp, by simp⟩, r.2⟩
          · rw [hval] at hs1
            simp only [Value.slice.injEq] at hs1
            obtain ⟨rfl, _, rfl⟩ := hs1
            obtain ⟨v', w', r⟩ := grow ad olds hval hol hoc
            exact ⟨olds, v', w', r.1, hol, hr, r.2⟩
        obtain ⟨olds, v', w', hrun, hol, hrr, hown', hgb, hblk', hsl⟩ := key
        refine out_re h hd hdst hfresh (x := v') (w' := w') ?_ hgb.os hgb.tape hgb.output hgb.size ?_ ?_ hsl ?_
        · unfold execOp
          simp only [ho, resolve, invoke, builtin, Sem.run_bind, Sem.run_pure, Result.andThen_ok, List.map_toArray, List.map_cons, List.map_nil, hrun]
        · intro b hlt _
          exact hgb.block b hlt (by simp)
        · intro g hg
          obtain ⟨h1, h2⟩ := hblk' g hg
          exact ⟨.inr h1, h2⟩
        · intro hkeep
          refine ⟨v', olds ++ news, by simp [Env.re], hpos, by simpa using hown', ?_, ?_⟩
          · intro g hg; simp [Env.re, hg]
          · exact RowsRep.append (hrr.mono (flo_and _ _ _).1 hkeep.rep) hol (hrr2.mono (flo_and _ _ _).2 hkeep.rep)
      · cases hf
    · cases hf
  · cases hf
def chunk (sz : Nat) : Nat → List PV → List (List PV)
  | 0, _ => []
  | n + 1, xs => xs.take sz :: chunk sz n (xs.drop sz)
theorem chunk_length (sz : Nat) : ∀ (n : Nat) (xs : List PV), (chunk sz n xs).length = n
  | 0, _ => rfl
  | n + 1, xs => by simp [chunk, chunk_length sz n]
theorem chunk_get (sz : Nat) : ∀ (n : Nat) (xs : List PV) (i : Nat), i < n → (chunk sz n xs)[i]? = some ((xs.drop (i * sz)).take sz)
  | n + 1, xs, 0, _ => by simp [chunk]
  | n + 1, xs, i + 1, h => by
    simp only [chunk, List.getElem?_cons_succ]
    rw [chunk_get sz n _ i (by omega), List.drop_drop]
    congr 3; rw [Nat.add_mul]; omega
  | 0, _, _, h => by omega
def zeroFlat (zs : List SV) : Nat → List SV
  | 0 => []
  | n + 1 => zs ++ zeroFlat zs n
def opBuildSlice (P : Program) (σ : St) (o : Oper) (t : TypeId) (len : Nat) (parts : Array (Nat × Operand)) : Option (St × Prop) :=
  match o.dst, sliceElem P t with
  | some d, some (e, i) => match i.zero, lk σ.tab d with
    | some z, none => match zeros z with
      | some zs => match Nat.beq zs.length i.size, Nat.beq i.size 0, Nat.ble (len * i.size) 16777216, fillS (fun n => some (n * i.size, i.size)) (zeroFlat zs len) (evParts σ parts.toList) with
        | true, false, true, some cells => match toPVs cells with
          | some (xs, fr) => some (⟨(d, .vec d) :: σ.slots, (d, .vec e i.size (chunk i.size len xs) fr) :: σ.tab⟩, True)
          | none => none
        | _, _, _, _ => none
      | none => none
    | _, _ => none
  | _, _ => none
theorem zeroFlat_rep {w : World} {E : Env} {lo : Nat} {zs : List SV} {vs : List Value} (h : VRs w E lo zs vs) : ∀ n : Nat, VRs w E lo (zeroFlat zs n) (List.replicate n vs).flatten
  | 0 => by simpa [zeroFlat] using VRs_nil
  | n + 1 => by
    simp only [zeroFlat, List.replicate_succ, List.flatten_cons]
    exact VRs_append h (zeroFlat_rep h n)
theorem zero_cells (vs : Array Value) (h : 0 < vs.size) : ∀ n : Nat, ((Array.range (n * vs.size)).map (vs[· % vs.size]!)).toList = (List.replicate n vs.toList).flatten := by
  intro n
  apply List.ext_getElem?
  intro j
  have hl : (List.replicate n vs.toList).flatten.length = n * vs.size := by simp
  by_cases hj : j < n * vs.size
  · have hm : j % vs.size < vs.size := Nat.mod_lt _ h
    have hq : j / vs.size < n := (Nat.div_lt_iff_lt_mul h).2 hj
    have e1 : ((Array.range (n * vs.size)).map (vs[· % vs.size]!)).toList[j]? = some vs[j % vs.size] := by
      simp [hj, getElem!_pos, hm]
    rw [e1]
    symm
    clear e1 hl
    induction n generalizing j with
    | zero => simp at hj
    | succ n ih =>
      simp only [List.replicate_succ, List.flatten_cons, List.getElem?_append, Array.length_toList]
      by_cases hjs : j < vs.size
      · rw [if_pos hjs]; simp [Nat.mod_eq_of_lt hjs, hjs]
      · rw [if_neg hjs]
        have hj' : j - vs.size < n * vs.size := by rw [Nat.add_mul, Nat.one_mul] at hj; omega
        have hmod : (j - vs.size) % vs.size = j % vs.size := by
          conv => rhs; rw [show j = j - vs.size + vs.size by omega]
          rw [Nat.add_mod_right]
        have := ih (j - vs.size) hj' (Nat.mod_lt _ h) ((Nat.div_lt_iff_lt_mul h).2 hj')
        rw [this]
        simp only [hmod]
  · rw [List.getElem?_eq_none (by simpa using hj), List.getElem?_eq_none (by omega)]
theorem opBuildSlice_sound {C : Ctx} {E : Env} {σ σ' : St} {a : Act} {w : World} {o : Oper} {t : TypeId} {len : Nat} {parts : Array (Nat × Operand)} {vc : Prop} (ho : o.op = .buildSlice t len parts)
    (hf : opBuildSlice C.P σ o t len parts = some (σ', vc)) (h : HoldsE C E σ a w) (hd : DstOk C o) : OpOut C o σ' a w := by
  unfold opBuildSlice at hf
  split at hf
  · rename_i d e i hdst hse
    obtain ⟨hu, hi⟩ := sliceElem_eq hse
    split at hf
    · rename_i z hz hfresh
      split at hf
      · rename_i zs hzs
        split at hf
        · rename_i cells hzl hsz hle hfill
          split at hf
          · rename_i xs fr hx
            have hle' := Nat.le_of_ble_eq_true hle
            have hzl' := Nat.eq_of_beq_eq_true hzl
            have hpos : 0 < i.size := by
              rcases Nat.eq_zero_or_pos i.size with h0 | h0
              · rw [h0] at hsz; simp at hsz
              · exact h0
            simp only [Option.some.injEq, Prod.mk.injEq] at hf; obtain ⟨rfl, _⟩ := hf
            have hzr := zeros_rep (w := w) (E := E) (lo := C.lo) hzs
            have hzsz : z.cells.size = i.size := by have := VRs_length hzr; simp at this; omega
            have hp := evParts_rep h parts.toList
            have hbase : VRs w E C.lo (zeroFlat zs len) ((Array.range (len * i.size)).map (z.cells[· % z.cells.size]!)).toList := by
              rw [← hzsz, zero_cells z.cells (by omega) len]
              exact zeroFlat_rep hzr len
            obtain ⟨r, hr, hv⟩ := fill_rep _ _ _ _ _ _ hp.1 hp.2 hbase hfill
            obtain ⟨g1, g2, f, f1, f2⟩ := toPVs_rep cells xs fr hx _ hv
            have hrsz : r.toList.length = len * i.size := by
              rw [← VRs_length hv]
              have : ∀ (ps : List (Nat × SV)) (cs out : List SV), fillS (fun n => some (n * i.size, i.size)) cs ps = some out → out.length = cs.length := by
                intro ps
                induction ps with
                | nil => intro cs out hf; simp [fillS] at hf; subst hf; rfl
                | cons p ps ih =>
                  intro cs out hf
                  obtain ⟨n, y⟩ := p
                  simp only [fillS] at hf
                  split at hf
                  · rename_i off size ys hpl hcy
                    split at hf
                    · rename_i q1 q2
                      rw [ih _ _ hf]
                      exact spl_length _ _ _ (Nat.le_of_ble_eq_true q2)
                    · cases hf
                  · cases hf
              rw [this _ _ _ hfill, VRs_length hbase]; simp
            have hxl : xs.length = len * i.size := by rw [← hrsz]; exact g2.symm
            have hrun : (execOp a.eval o).run C.P w = .ok (.value (.slice (some ⟨w.heap.size, 0, none⟩) len len)) (w.alloc (.cells r e)) := by
              by_cases hn : len * i.size = 0
              · have hl0 : len = 0 := by rcases Nat.mul_eq_zero.1 hn with h0 | h0 <;> omega
                subst hl0
                have hr' : Instr.fill (fun n => some (n * i.size, i.size)) #[] (parts.toList.map fun (i, x) => (i, a.eval x)) = some r := by simpa [Array.range_zero'] using hr
                simp [execOp, ho, Instr.buildSlice, run_underlying hu, sizeOf, typeInfo, hi, Array.range_zero', hr', newRow]
              · have hnle : ¬ 16777216 < len * i.size := by omega
                have hr' : Instr.fill (fun n => some (n * i.size, i.size)) ((Array.range (len * i.size)).map (z.cells[· % z.cells.size]!)) (parts.toList.map fun (i, x) => (i, a.eval x)) = some r := hr
                simp [execOp, ho, Instr.buildSlice, run_underlying hu, sizeOf, typeInfo, zeroValue, hi, hz, newRow, hnle, hr']
                intro h0; exact absurd h0 hn
            have hb : ∀ b, b < w.heap.size → (w.alloc (.cells r e)).heap[b]? = w.heap[b]? := fun b hb => heap_alloc_old w _ b hb
            have hlo : C.lo ≤ w.heap.size := Nat.le_trans h.lo h.fr.size
            have hfr : Fr w E (w.alloc (.cells r e)) (E.add d (.slice (some ⟨w.heap.size, 0, none⟩) len len) w.heap.size) := Fr.add rfl rfl rfl (by simp) hb (Nat.le_refl _)
            have hval := Env.add_val (w := w) (b0 := w.heap.size) (x := .slice (some ⟨w.heap.size, 0, none⟩) len len) h.tab hfresh
            have hlm : len ≤ maxLen := by
              have : len * 1 ≤ len * i.size := Nat.mul_le_mul_left _ hpos
              simp only [maxLen]; omega
            have hch := chunk_length i.size len xs
            have htab := TabOK.add (w' := w.alloc (.cells r e)) (x := .slice (some ⟨w.heap.size, 0, none⟩) len len) (b0 := w.heap.size) (ov := .vec e i.size (chunk i.size len xs) fr) h.tab hfresh (by simp) hb (Nat.le_refl _) (by simp) hlo
              ⟨.slice (some ⟨w.heap.size, 0, none⟩) len len, r.toList, by simp [Env.add], hpos,
                ⟨by rw [hch]; exact hrsz, .inr ⟨w.heap.size, len, r, by rw [hch], Nat.zero_le _, heap_alloc_new w _, by rw [hch]; exact Nat.le_refl _, hlm, by simpa using hrsz, by rw [hch, ← hrsz]; exact List.take_length⟩⟩,
                by intro g hg; simp [Value.ownBlock] at hg; subst hg; simp [Env.add], fun n j => f (n * i.size + j), ?_, ?_, ?_⟩
            · refine ⟨_, _, .inl hrun, E.add d (.slice (some ⟨w.heap.size, 0, none⟩) len len) w.heap.size, ?_⟩
              have hdn : @LT.lt Nat instLTNat d C.n := hd d hdst
              have := h.upd hfr hval (fun k hk hn => by simp only [Env.add]; rw [if_neg (by omega)]; exact hn) htab o.dst hd (sv := .vec d) (v := .slice (some ⟨w.heap.size, 0, none⟩) len len) (fun _ _ => by simp only [VR]; exact ⟨by simp [Env.add], _, _, _, rfl⟩)
              rw [hdst] at this ⊢
              exact this
            · intro n row hrow
              have hn : n < len := by have := (List.getElem?_eq_some_iff.1 hrow).1; omega
              rw [chunk_get _ _ _ _ hn] at hrow; simp at hrow; subst hrow
              have : (n + 1) * i.size ≤ len * i.size := Nat.mul_le_mul_right _ (by omega)
              rw [Nat.add_mul, Nat.one_mul] at this
              simp; omega
            · intro n row j x hrow hj
              have hn : n < len := by have := (List.getElem?_eq_some_iff.1 hrow).1; omega
              rw [chunk_get _ _ _ _ hn] at hrow; simp at hrow; subst hrow
              rw [List.getElem?_take] at hj
              split at hj
              · rw [List.getElem?_drop] at hj; exact f1 _ x hj
              · cases hj
            · intro n row j x hrow hj
              have hn : n < len := by have := (List.getElem?_eq_some_iff.1 hrow).1; omega
              rw [chunk_get _ _ _ _ hn] at hrow; simp at hrow; subst hrow
              rw [List.getElem?_take] at hj
              split at hj
              · rw [List.getElem?_drop] at hj; exact (f2 _ x hj).mono (Nat.le_refl _) hfr.keeps.rep
              · cases hj
          · cases hf
        · cases hf
      · cases hf
    · cases hf
  · cases hf
end Go.TL
namespace Go.TL
theorem exec_builtin {a : Act} {o : Oper} {b : Builtin} {args : Array Operand} {ts : Array TypeId} (ho : o.op = .call { callee := .builtin b, args := args, argTypes := ts }) :
    execOp a.eval o = builtin b ts o.type (args.map fun | .const _ => true | _ => false) (args.map a.eval) := by
  unfold execOp
  simp only [ho, resolve, pure_bind, invoke]
  rfl
def lenOf (P : Program) (T : Tab) (t : TypeId) : SV → Option Nat
  | .vec k => match lk T k, P.underlying t with
    | some (.vec _ _ rows _), some (.slice _) => some rows.length
    | _, _ => none
  | .p (.sl rows) _ => match P.underlying t with
    | some (.slice _) => some rows.length
    | _ => none
  | .pc rows _ => match P.underlying t with
    | some (.slice _) => some rows.length
    | _ => none
  | .p (.v (.slice none 0 0)) _ => match P.underlying t with
    | some (.slice _) => some 0
    | _ => none
  | .p (.v (.string s)) _ => match P.underlying t with
    | some .string => some s.size
    | _ => none
  | _ => none
def opLen (P : Program) (σ : St) (o : Oper) (x : Operand) (t : TypeId) : Option (St × Prop) :=
  match lenOf P σ.tab t (ev σ x) with
  | some n => some (σ.put o.dst (.p (.v (.int .i64 (n : Int))) true), True)
  | none => none
theorem rep_sl_shape {w : World} {bad : Nat → Prop} {lo : Nat} {rows : List (List PV)} {v : Value} (h : Rep w bad lo (.sl rows) v) : ∃ p c, v = .slice p rows.length c := by
  cases h with
  | nil b c => exact ⟨b, c, rfl⟩
  | sl _ b off cap => exact ⟨_, cap, rfl⟩
theorem opLen_sound {C : Ctx} {E : Env} {σ σ' : St} {a : Act} {w : World} {o : Oper} {x : Operand} {t : TypeId} {vc : Prop} (ho : o.op = .call { callee := .builtin .len, args := #[x], argTypes := #[t] })
    (hf : opLen C.P σ o x t = some (σ', vc)) (h : HoldsE C E σ a w) (hd : DstOk C o) : OpOut C o σ' a w := by
  unfold opLen at hf
  split at hf
  · rename_i n hn
    simp only [Option.some.injEq, Prod.mk.injEq] at hf; obtain ⟨rfl, _⟩ := hf
    have hev := ev_rep h x
    refine out_pure h hd (v := .int .i64 (n : Int)) ?_ (VR_v true rfl)
    rw [exec_builtin ho]
    unfold lenOf at hn
    split at hn
    · rename_i k he
      split at hn
      · rename_i t' sz rows fr d hl hu
        simp only [Option.some.injEq] at hn; subst hn
        rw [he] at hev; simp only [VR] at hev
        obtain ⟨v, xs, h1, h2, h3, h4, h5⟩ := h.tab.obj _ _ hl
        rw [hev.1] at h1; cases h1
        have hv : ∃ p c, a.eval x = .slice p rows.length c := by
          rcases h3.2 with ⟨e, hz⟩ | ⟨g, cap, cur, e, _⟩
          · exact ⟨none, 0, by rw [e, hz]⟩
          · exact ⟨_, cap, e⟩
        obtain ⟨p, c, hv⟩ := hv
        simp [builtin, Builtin.len_, run_underlying hu, hv, goInt]
      · cases hn
    · rename_i rows fr he
      split at hn
      · rename_i d hu
        simp only [Option.some.injEq] at hn; subst hn
        rw [he] at hev; simp only [VR] at hev
        obtain ⟨p, c, hv⟩ := rep_sl_shape hev
        simp [builtin, Builtin.len_, run_underlying hu, hv, goInt]
      · cases hn
    · rename_i rows fr he
      split at hn
      · rename_i d hu
        simp only [Option.some.injEq] at hn; subst hn
        rw [he] at hev; simp only [VR] at hev
        obtain ⟨p, hv, _⟩ := hev
        simp [builtin, Builtin.len_, run_underlying hu, hv, goInt]
      · cases hn
    · rename_i fr he
      split at hn
      · rename_i d hu
        simp only [Option.some.injEq] at hn; subst hn
        simp [builtin, Builtin.len_, run_underlying hu, ev_v h he, goInt]
      · cases hn
    · rename_i s fr he
      split at hn
      · rename_i hu
        simp only [Option.some.injEq] at hn; subst hn
        simp [builtin, Builtin.len_, run_underlying hu, ev_v h he, goInt]
      · cases hn
    · cases hn
  · cases hf
def intOf : SV → Option Int
  | .p (.v (.int _ n)) _ => some n
  | _ => none
theorem intOf_ev {C : Ctx} {E : Env} {σ : St} {a : Act} {w : World} {x : Operand} {n : Int} (h : HoldsE C E σ a w) (hn : intOf (ev σ x) = some n) : ∃ k, a.eval x = .int k n := by
  unfold intOf at hn
  split at hn
  · rename_i k m fr he
    simp only [Option.some.injEq] at hn; subst hn
    exact ⟨k, ev_v h he⟩
  · cases hn
def optInt (σ : St) : Option Operand → Option (Option Int)
  | none => some none
  | some x => match intOf (ev σ x) with
    | some n => some (some n)
    | none => none
theorem run_bound {P : Program} {w : World} {v : Value} {k : IntKind} {n : Int} {y : Nat} {code : BoundsCode} (hv : v = .int k n) (h0 : 0 ≤ n) (h1 : n ≤ y) : (Instr.sliceBound v y code).run P w = .ok n.toNat w := by
  subst hv
  simp [Instr.sliceBound, asIntOf, h0, h1]
def bndLo (l : Option Int) : Nat := match l with | some n => n.toNat | none => 0
def bndHi (len : Nat) (h : Option Int) : Nat := match h with | some n => n.toNat | none => len
def bndOk (len : Nat) (l h : Option Int) : Prop :=
  (match l with | some n => 0 ≤ n | none => True) ∧ (match h with | some n => 0 ≤ n ∧ n ≤ (len : Int) | none => True) ∧
  (match l, h with | some a, some b => a ≤ b | some a, none => a ≤ (len : Int) | none, _ => True)
theorem run_bounds {P : Program} {w : World} {len cap : Nat} (isSlice : Bool) {lo hi : Option Value} {l h : Option Int} (hlo : ∀ n, l = some n → ∃ k, lo = some (.int k n)) (hlo0 : l = none → lo = none)
    (hhi : ∀ n, h = some n → ∃ k, hi = some (.int k n)) (hhi0 : h = none → hi = none) (hok : bndOk len l h) (hcap : len ≤ cap) :
    (Instr.sliceBounds isSlice len cap lo hi none).run P w = .ok (bndLo l, bndHi len h, cap) w ∧ bndLo l ≤ bndHi len h ∧ bndHi len h ≤ len := by
  obtain ⟨h1, h2, h3⟩ := hok
  have hle : bndHi len h ≤ len := by
    cases h with
    | none => exact Nat.le_refl _
    | some n => have := h2.2; have := h2.1; simp only [bndHi]; omega
  have hle2 : bndLo l ≤ bndHi len h := by
    cases l with
    | none => exact Nat.zero_le _
    | some m =>
      cases h with
      | none => simp only [bndLo, bndHi]; have := h1; simp only at h3; omega
      | some n => simp only [bndLo, bndHi]; simp only at h3; omega
  refine ⟨?_, hle2, hle⟩
  have e2 : (match lo with | some v => Instr.sliceBound v (bndHi len h) .sliceB | none => (pure 0 : Sem Nat)).run P w = .ok (bndLo l) w := by
    cases l with
    | none => rw [hlo0 rfl]; rfl
    | some m =>
      obtain ⟨k, hk⟩ := hlo m rfl
      rw [hk]
      refine run_bound (k := k) rfl h1 ?_
      simp only [bndLo] at hle2
      have := h1
      simp only at this
      omega
  have e1' : (match hi with | some v => Instr.sliceBound v cap (if isSlice then .sliceAcap else .sliceAlen) | none => (pure len : Sem Nat)).run P w = .ok (bndHi len h) w := by
    cases h with
    | none => rw [hhi0 rfl]; rfl
    | some n =>
      obtain ⟨k, hk⟩ := hhi n rfl
      rw [hk]
      exact run_bound (k := k) rfl h2.1 (by have := h2.2; omega)
  have key : ∀ (A B : Sem Nat), A.run P w = .ok (bndHi len h) w → B.run P w = .ok (bndLo l) w →
      (do let h ← A; let l ← B; pure (l, h, cap) : Sem (Nat × Nat × Nat)).run P w = .ok (bndLo l, bndHi len h, cap) w := by
    intro A B hA hB
    rw [Sem.run_bind, hA, Result.andThen_ok, Sem.run_bind, hB]
    rfl
  cases hi with
  | none =>
    have q1 : len = bndHi len h := by injection e1'
    cases lo with
    | none =>
      have q2 : 0 = bndLo l := by injection e2
      rw [← q1, ← q2]
      rfl
    | some v =>
      have := key (pure len) (Instr.sliceBound v (bndHi len h) .sliceB) e1' e2
      rw [← q1] at this ⊢
      exact this
  | some u =>
    cases lo with
    | none =>
      have q2 : 0 = bndLo l := by injection e2
      have := key (Instr.sliceBound u cap (if isSlice then .sliceAcap else .sliceAlen)) (pure 0) e1' e2
      exact this
    | some v =>
      have e3 : (do let h ← (Instr.sliceBound u cap (if isSlice then .sliceAcap else .sliceAlen)); let l ← Instr.sliceBound v h .sliceB; pure (l, h, cap) : Sem (Nat × Nat × Nat)).run P w = .ok (bndLo l, bndHi len h, cap) w := by
        rw [Sem.run_bind, e1', Result.andThen_ok, Sem.run_bind, e2]
        rfl
      exact e3
def opSlice (P : Program) (σ : St) (o : Oper) (t : TypeId) (x : Operand) (lo hi mx : Option Operand) : Option (St × Prop) :=
  match optInt σ lo, optInt σ hi, mx with
  | some l, some h, none => match ev σ x, P.underlying t with
    | .p (.sl rows) fr, some (.slice e) => match P.info? e with
      | some i => some (σ.put o.dst (.p (.sl ((rows.take (bndHi rows.length h)).drop (bndLo l))) fr), bndOk rows.length l h ∧ ∀ row ∈ rows, row.length = i.size)
      | none => none
    | .pc rows fr, some (.slice e) => match P.info? e with
      | some i => some (σ.put o.dst (.p (.sl ((rows.take (bndHi rows.length h)).drop (bndLo l))) fr), bndOk rows.length l h ∧ ∀ row ∈ rows, row.length = i.size)
      | none => none
    | .p (.v (.slice none 0 0)) _, some (.slice e) => match P.info? e with
      | some _ => some (σ.put o.dst (.p (.v (.slice none 0 0)) true), bndOk 0 l h)
      | none => none
    | .p (.v (.string s)) _, some .string => some (σ.put o.dst (.p (.v (.string (s.extract (bndLo l) (bndHi s.size h)))) true), bndOk s.size l h)
    | _, _ => none
  | _, _, _ => none
theorem rep_slice {w : World} {bad : Nat → Prop} {lo : Nat} {rows : List (List PV)} {p : Option Addr} {n c : Nat} (h : Rep w bad lo (.sl rows) (.slice p n c)) (l hh sz : Nat) (h1 : l ≤ hh) (h2 : hh ≤ rows.length) (m : Nat) (hmm : hh ≤ m)
    (hsz : ∀ (i : Nat) (row : List PV), rows[i]? = some row → row.length = sz) (hnl : m ≠ l ∨ l = hh) :
    Rep w bad lo (.sl ((rows.take hh).drop l)) (.slice (if m = l then p else p.map (·.add (l * sz))) (hh - l) (m - l)) := by
  have hlen : ((rows.take hh).drop l).length = hh - l := by simp; omega
  by_cases he : l = hh
  · subst he
    have : (rows.take l).drop l = [] := List.eq_nil_of_length_eq_zero (by omega)
    rw [this, Nat.sub_self]
    exact .nil _ _
  · have hm : m ≠ l := hnl.resolve_right he
    rw [if_neg hm]
    cases h with
    | nil b c => simp at h2; omega
    | sl _ b off cap cs t fz sz' f hcap hb hbad hlo hfz hlen' hc hr =>
      have hs : sz' = sz := by
        have hne : 0 < rows.length := by omega
        have h0 : rows[0]? = some rows[0] := by simp [hne]
        rw [← hlen' 0 _ h0, hsz 0 _ h0]
      subst hs
      have := Rep.sl (w := w) (bad := bad) (lo := lo) ((rows.take hh).drop l) b (off + l * sz') (m - l) cs t fz sz' (fun i j => f (l + i) j) (by rw [hlen]; omega) hb hbad hlo hfz ?_ ?_ ?_
      · rw [hlen] at this
        simpa [Addr.add_lit] using this
      · intro i row hi
        rw [List.getElem?_drop, List.getElem?_take] at hi
        split at hi
        · exact hlen' _ row hi
        · cases hi
      · intro i row j x hi hj
        rw [List.getElem?_drop, List.getElem?_take] at hi
        split at hi
        · have := hc _ row j x hi hj
          rw [show off + l * sz' + i * sz' + j = off + (l + i) * sz' + j by rw [Nat.add_mul]; omega]
          exact this
        · cases hi
      · intro i row j x hi hj
        rw [List.getElem?_drop, List.getElem?_take] at hi
        split at hi
        · exact hr _ row j x hi hj
        · cases hi
theorem optInt_ev {C : Ctx} {E : Env} {σ : St} {a : Act} {w : World} {x : Option Operand} {l : Option Int} (h : HoldsE C E σ a w) (hl : optInt σ x = some l) :
    (∀ n, l = some n → ∃ k, x.map a.eval = some (.int k n)) ∧ (l = none → x.map a.eval = none) := by
  cases x with
  | none => simp only [optInt, Option.some.injEq] at hl; subst hl; exact ⟨fun _ h => (by cases h), fun _ => rfl⟩
  | some y =>
    simp only [optInt] at hl
    split at hl
    · rename_i n hn
      simp only [Option.some.injEq] at hl; subst hl
      obtain ⟨k, hk⟩ := intOf_ev h hn
      exact ⟨fun m hm => ⟨k, by simp at hm; subst hm; simp [hk]⟩, fun h => by cases h⟩
    · cases hl
theorem rep_slice_cap {w : World} {bad : Nat → Prop} {lo : Nat} {rows : List (List PV)} {p : Option Addr} {n c : Nat} (h : Rep w bad lo (.sl rows) (.slice p n c)) : n ≤ c := by
  cases h with
  | nil => exact Nat.zero_le _
  | sl => assumption
theorem opSlice_data {C : Ctx} {E : Env} {σ : St} {a : Act} {w : World} {o : Oper} {t e : TypeId} {i : TypeInfo} {x : Operand} {lo hi : Option Operand} {l hh : Option Int} {rows : List (List PV)} {fr : Bool}
    (ho : o.op = .slice t x lo hi none) (h : HoldsE C E σ a w) (hd : DstOk C o) (hl : optInt σ lo = some l) (hh' : optInt σ hi = some hh) (hu : C.P.underlying t = some (.slice e)) (hi' : C.P.info? e = some i)
    (hr : Rep w E.bad (flo C.lo fr) (.sl rows) (a.eval x)) (hok : bndOk rows.length l hh) (hsz : ∀ row ∈ rows, row.length = i.size) :
    OpOut C o (σ.put o.dst (.p (.sl ((rows.take (bndHi rows.length hh)).drop (bndLo l))) fr)) a w := by
  obtain ⟨p, c, hv⟩ := rep_sl_shape hr
  rw [hv] at hr
  have hcap := rep_slice_cap hr
  have hb := run_bounds (P := C.P) (w := w) true (optInt_ev h hl).1 (optInt_ev h hl).2 (optInt_ev h hh').1 (optInt_ev h hh').2 hok hcap
  obtain ⟨hb1, hb2, hb3⟩ := hb
  have hrs := rep_slice hr (bndLo l) (bndHi rows.length hh) i.size hb2 hb3 c (by omega) (fun n row hn => hsz row (List.mem_of_getElem? hn)) (by
    by_cases hc : c = bndLo l
    · exact .inr (by omega)
    · exact .inl hc)
  refine out_pure h hd (v := .slice (if c = bndLo l then p else p.map (·.add (bndLo l * i.size))) (bndHi rows.length hh - bndLo l) (c - bndLo l)) ?_ (by simpa only [VR] using hrs)
  unfold execOp
  simp only [ho, hv, Instr.sliceAt, Sem.run_bind, run_underlying hu, Result.andThen_ok, Instr.slice, Option.map_none, hb1, sizeOf, typeInfo, run_program, hi', Sem.run_pure]
end Go.TL
namespace Go.TL
theorem opSlice_sound {C : Ctx} {E : Env} {σ σ' : St} {a : Act} {w : World} {o : Oper} {t : TypeId} {x : Operand} {lo hi mx : Option Operand} {vc : Prop} (ho : o.op = .slice t x lo hi mx)
    (hf : opSlice C.P σ o t x lo hi mx = some (σ', vc)) (hvc : vc) (h : HoldsE C E σ a w) (hd : DstOk C o) : OpOut C o σ' a w := by
  have hev := ev_rep h x
  unfold opSlice at hf
  split at hf
  · rename_i l hh hl hh'
    split at hf
    · rename_i rows fr e he hu
      split at hf
      · rename_i i hi'
        simp only [Option.some.injEq, Prod.mk.injEq] at hf; obtain ⟨rfl, rfl⟩ := hf
        rw [he] at hev; simp only [VR] at hev
        exact opSlice_data ho h hd hl hh' hu hi' hev hvc.1 hvc.2
      · cases hf
    · rename_i rows fr e he hu
      split at hf
      · rename_i i hi'
        simp only [Option.some.injEq, Prod.mk.injEq] at hf; obtain ⟨rfl, rfl⟩ := hf
        rw [he] at hev; simp only [VR] at hev
        obtain ⟨_, _, hev⟩ := hev
        exact opSlice_data ho h hd hl hh' hu hi' hev hvc.1 hvc.2
      · cases hf
    · rename_i fr e he hu
      split at hf
      · rename_i i hi'
        simp only [Option.some.injEq, Prod.mk.injEq] at hf; obtain ⟨rfl, rfl⟩ := hf
        have hv := ev_v h he
        have hb := run_bounds (P := C.P) (w := w) (cap := 0) true (optInt_ev h hl).1 (optInt_ev h hl).2 (optInt_ev h hh').1 (optInt_ev h hh').2 hvc (Nat.le_refl _)
        obtain ⟨hb1, hb2, hb3⟩ := hb
        refine out_pure h hd (v := .slice none 0 0) ?_ (VR_v true rfl)
        unfold execOp
        have e1 : bndHi 0 hh - bndLo l = 0 := by omega
        have e2 : 0 - bndLo l = 0 := by omega
        simp only [ho, hv, Instr.sliceAt, Sem.run_bind, run_underlying hu, Result.andThen_ok, Instr.slice, Option.map_none, hb1, sizeOf, typeInfo, run_program, hi', Sem.run_pure, e1, e2, ite_self]
      · cases hf
    · rename_i s fr he hu
      simp only [Option.some.injEq, Prod.mk.injEq] at hf; obtain ⟨rfl, rfl⟩ := hf
      have hv := ev_v h he
      have hb := run_bounds (P := C.P) (w := w) (cap := s.size) false (optInt_ev h hl).1 (optInt_ev h hl).2 (optInt_ev h hh').1 (optInt_ev h hh').2 hvc (Nat.le_refl _)
      obtain ⟨hb1, hb2, hb3⟩ := hb
      refine out_pure h hd (v := .string (s.extract (bndLo l) (bndHi s.size hh))) ?_ (VR_v true rfl)
      unfold execOp
      simp only [ho, hv, Instr.sliceAt, Sem.run_bind, run_underlying hu, Result.andThen_ok, Instr.slice, Option.map_none, Option.isSome_none, Bool.false_eq_true, if_false, Sem.run_pure, hb1]
    · cases hf
  · cases hf
def opSliceVec (P : Program) (σ : St) (o : Oper) (t : TypeId) (x hi : Operand) : Option (St × Prop) :=
  match ev σ x, intOf (ev σ hi), o.dst, P.underlying t with
  | .vec k, some n, some d, some (.slice e) => match lk σ.tab k, P.info? e, lk (rm σ.tab k) d with
    | some (.vec t' sz rows fr), some i, none => some (σ.re k d (.vec t' sz (rows.take n.toNat) fr), 0 ≤ n ∧ n ≤ (rows.length : Int))
    | _, _, _ => none
  | _, _, _, _ => none
theorem opSliceVec_sound {C : Ctx} {E : Env} {σ σ' : St} {a : Act} {w : World} {o : Oper} {t : TypeId} {x hi : Operand} {vc : Prop} (ho : o.op = .slice t x none (some hi) none)
    (hf : opSliceVec C.P σ o t x hi = some (σ', vc)) (hvc : vc) (h : HoldsE C E σ a w) (hd : DstOk C o) : OpOut C o σ' a w := by
  have hev := ev_rep h x
  unfold opSliceVec at hf
  split at hf
  · rename_i k n d e he hn hdst hu
    split at hf
    · rename_i t' sz rows fr i hl hi' hfresh
      simp only [Option.some.injEq, Prod.mk.injEq] at hf; obtain ⟨rfl, rfl⟩ := hf
      rw [he] at hev; simp only [VR] at hev
      obtain ⟨v, xs, h1, h2, h3, h4, h5⟩ := h.tab.obj _ _ hl
      rw [hev.1] at h1; cases h1
      obtain ⟨kk, hkk⟩ := intOf_ev h hn
      have hnl : n.toNat ≤ rows.length := by have := hvc.1; have := hvc.2; omega
      have htl : (rows.take n.toNat).length = n.toNat := by simp; omega
      have hshape : ∃ p c, a.eval x = .slice p rows.length c ∧ rows.length ≤ c := by
        rcases h3.2 with ⟨e, hz⟩ | ⟨g, cap, cur, e, _, _, hle, _⟩
        · exact ⟨none, 0, by rw [e, hz], by rw [hz]; exact Nat.le_refl _⟩
        · exact ⟨_, cap, e, hle⟩
      obtain ⟨p, c, hv, hle⟩ := hshape
      have hb := run_bounds (P := C.P) (w := w) (len := rows.length) (cap := c) true (lo := none) (l := none) (hi := some (.int kk n)) (h := some n) (fun _ h => by cases h) (fun _ => rfl) (fun m hm => ⟨kk, by simp at hm; subst hm; rfl⟩) (fun h => by cases h)
        ⟨trivial, hvc, trivial⟩ hle
      obtain ⟨hb1, hb2, hb3⟩ := hb
      have hp : (if c = 0 then p else p.map (·.add (0 * i.size))) = p := by cases p <;> simp [Addr.add]
      refine out_re h hd hdst hfresh (x := .slice p n.toNat c) (w' := w) ?_ rfl rfl rfl (Nat.le_refl _) (fun _ _ _ => rfl) ?_ ⟨_, _, _, rfl⟩ ?_
      · unfold execOp
        simp only [bndLo, bndHi] at hb1
        simp only [ho, hv, hkk, Instr.sliceAt, Sem.run_bind, run_underlying hu, Result.andThen_ok, Instr.slice, Option.map_none, Option.map_some, hb1, sizeOf, typeInfo, run_program, hi', Sem.run_pure, Nat.sub_zero, hp]
      · intro g hg
        have : (a.eval x).ownBlock = some g := by rw [hv]; cases p with
          | none => simp [Value.ownBlock] at hg
          | some p => simpa [Value.ownBlock] using hg
        have := h4 g this
        exact ⟨.inl this, (h.tab.own g k this).1⟩
      · intro hkeep
        refine ⟨.slice p n.toNat c, xs.take (n.toNat * sz), by simp [Env.re], h2, ⟨?_, ?_⟩, ?_, ?_⟩
        · rw [htl, List.length_take, h3.1]; exact Nat.min_eq_left (Nat.mul_le_mul_right _ hnl)
        · rw [htl]
          rcases h3.2 with ⟨e, hz⟩ | ⟨g, cap, cur, e, hb, hg, hle', hcm, hcs, htk⟩
          · rw [hv] at e; simp at e
            obtain ⟨rfl, _, rfl⟩ := e
            have : n.toNat = 0 := by omega
            exact .inl ⟨by rw [this], this⟩
          · rw [hv] at e; simp at e
            obtain ⟨rfl, rfl⟩ := e
            exact .inr ⟨g, c, cur, rfl, hb, hg, by omega, hcm, hcs, by rw [← htk, List.take_take, Nat.min_eq_left (Nat.mul_le_mul_right _ hnl)]⟩
        · intro g hg; simp [Env.re, hg]
        · obtain ⟨f, r1, r2, r3⟩ := h5
          have hget : ∀ (i : Nat) (row : List PV), (rows.take n.toNat)[i]? = some row → rows[i]? = some row ∧ i < n.toNat := by
            intro i row hi
            rw [List.getElem?_take] at hi
            split at hi
            · exact ⟨hi, by assumption⟩
            · cases hi
          refine ⟨f, fun i row hi => r1 i row (hget i row hi).1, fun i row j y hi hj => ?_, fun i row j y hi hj => (r3 i row j y (hget i row hi).1 hj).mono (Nat.le_refl _) hkeep.rep⟩
          have hh := hget i row hi
          have hjl : j < sz := by rw [← r1 i row hh.1]; exact (List.getElem?_eq_some_iff.1 hj).1
          have : i * sz + j < n.toNat * sz := by
            have : (i + 1) * sz ≤ n.toNat * sz := Nat.mul_le_mul_right _ (by omega)
            rw [Nat.add_mul, Nat.one_mul] at this; omega
          rw [List.getElem?_take, if_pos this]
          exact r2 i row j y hh.1 hj
    · cases hf
  · cases hf
def opSlice3 (P : Program) (σ : St) (o : Oper) (t : TypeId) (x : Operand) (lo : Option Operand) (hi mx : Operand) : Option (St × Prop) :=
  match ev σ x, optInt σ lo, intOf (ev σ hi), intOf (ev σ mx) with
  | .p (.sl rows) fr, some l, some n, some m => match P.underlying t with
    | some (.slice e) => match P.info? e with
      | some i => some (σ.put o.dst (.pc ((rows.take n.toNat).drop (bndLo l)) fr), n = m ∧ bndOk rows.length l (some n) ∧ ∀ row ∈ rows, row.length = i.size)
      | none => none
    | _ => none
  | _, _, _, _ => none
theorem opSlice3_sound {C : Ctx} {E : Env} {σ σ' : St} {a : Act} {w : World} {o : Oper} {t : TypeId} {x : Operand} {lo : Option Operand} {hi mx : Operand} {vc : Prop} (ho : o.op = .slice t x lo (some hi) (some mx))
    (hf : opSlice3 C.P σ o t x lo hi mx = some (σ', vc)) (hvc : vc) (h : HoldsE C E σ a w) (hd : DstOk C o) : OpOut C o σ' a w := by
  have hev := ev_rep h x
  unfold opSlice3 at hf
  split at hf
  · rename_i rows fr l n m he hl hn hm
    split at hf
    · rename_i e hu
      split at hf
      · rename_i i hi'
        simp only [Option.some.injEq, Prod.mk.injEq] at hf; obtain ⟨rfl, rfl⟩ := hf
        obtain ⟨rfl, hok, hsz⟩ := hvc
        rw [he] at hev; simp only [VR] at hev
        obtain ⟨p, c, hv⟩ := rep_sl_shape hev
        rw [hv] at hev
        have hcap := rep_slice_cap hev
        obtain ⟨k1, hk1⟩ := intOf_ev h hn
        obtain ⟨k2, hk2⟩ := intOf_ev h hm
        have h2 := hok.2.1
        simp only at h2
        have hlo : bndLo l ≤ n.toNat := by
          cases l with
          | none => exact Nat.zero_le _
          | some b => have := hok.2.2; have := hok.1; simp only at this; simp only [bndLo]; omega
        have e1 := run_bound (P := C.P) (w := w) (y := c) (code := .slice3Acap) hk2 h2.1 (by omega)
        have e2 := run_bound (P := C.P) (w := w) (y := n.toNat) (code := .slice3B) hk1 h2.1 (by omega)
        have e3 : (match lo.map a.eval with | some v => Instr.sliceBound v n.toNat .slice3C | none => (pure 0 : Sem Nat)).run C.P w = .ok (bndLo l) w := by
          cases l with
          | none => rw [(optInt_ev h hl).2 rfl]; rfl
          | some b =>
            obtain ⟨k3, hk3⟩ := (optInt_ev h hl).1 b rfl
            rw [hk3]
            have := hok.1
            simp only at this
            refine run_bound (k := k3) rfl this ?_
            simp only [bndLo] at hlo; omega
        have e4 : (Instr.sliceBounds true rows.length c (lo.map a.eval) (some (a.eval hi)) (some (a.eval mx))).run C.P w = .ok (bndLo l, n.toNat, n.toNat) w := by
          cases hlv : lo.map a.eval with
          | none =>
            rw [hlv] at e3
            have : (do let m ← Instr.sliceBound (a.eval mx) c .slice3Acap; let h ← Instr.sliceBound (a.eval hi) m .slice3B; let l ← (pure 0 : Sem Nat); pure (l, h, m) : Sem (Nat × Nat × Nat)).run C.P w = .ok (bndLo l, n.toNat, n.toNat) w := by
              rw [Sem.run_bind, e1, Result.andThen_ok, Sem.run_bind, e2, Result.andThen_ok, Sem.run_bind, e3]
              rfl
            exact this
          | some v =>
            rw [hlv] at e3
            have : (do let m ← Instr.sliceBound (a.eval mx) c .slice3Acap; let h ← Instr.sliceBound (a.eval hi) m .slice3B; let l ← Instr.sliceBound v h .slice3C; pure (l, h, m) : Sem (Nat × Nat × Nat)).run C.P w = .ok (bndLo l, n.toNat, n.toNat) w := by
              rw [Sem.run_bind, e1, Result.andThen_ok, Sem.run_bind, e2, Result.andThen_ok, Sem.run_bind]
              simp only at e3
              rw [e3]
              rfl
            exact this
        have hrs := rep_slice hev (bndLo l) n.toNat i.size hlo (by omega) n.toNat (Nat.le_refl _) (fun n row hn => hsz row (List.mem_of_getElem? hn)) (by
          by_cases hc : n.toNat = bndLo l
          · exact .inr hc.symm
          · exact .inl hc)
        have hlen : ((rows.take n.toNat).drop (bndLo l)).length = n.toNat - bndLo l := by simp; omega
        refine out_pure h hd (v := .slice (if n.toNat = bndLo l then p else p.map (·.add (bndLo l * i.size))) (n.toNat - bndLo l) (n.toNat - bndLo l)) ?_ ?_
        · unfold execOp
          simp only [ho, hv, Instr.sliceAt, Sem.run_bind, run_underlying hu, Result.andThen_ok, Instr.slice, Option.map_some, e4, sizeOf, typeInfo, run_program, hi', Sem.run_pure]
        · simp only [VR]
          exact ⟨_, by rw [hlen], hrs⟩
      · cases hf
    · cases hf
  · cases hf
end Go.TL
