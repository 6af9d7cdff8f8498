/- What one operation makes of the state: lengths, slices, places in lists, numbers. -/
import Derived.Test.YtaaimmmofkldbaaWo02
namespace Go.TL

theorem exec_builtin {a : Act} {o : Oper} {b : Builtin} {args : Array Operand} {ts : Array TypeId} (ho : o.op = .call { callee := .builtin b, args := args, argTypes := ts }) :
    execOp a.eval o = builtin b ts o.type (args.map fun | .const _ => true | _ => false) (args.map a.eval) := by
  unfold execOp
  simp only [ho, resolve, pure_bind, invoke]
  rfl

def lenOf (P : Program) (T : Tab) (t : TypeId) : SV → Option Nat
  | .vec k => match lk T k, P.underlying t with
    | some (.vec _ _ rows _), some (.slice _) => some rows.length
    | _, _ => none
  | .p (.sl rows) _ => match P.underlying t with
    | some (.slice _) => some rows.length
    | _ => none
  | .pc rows _ => match P.underlying t with
    | some (.slice _) => some rows.length
    | _ => none
  | .p (.v (.slice none 0 0)) _ => match P.underlying t with
    | some (.slice _) => some 0
    | _ => none
  | .p (.v (.string s)) _ => match P.underlying t with
    | some .string => some s.size
    | _ => none
  | _ => none

def opLen (P : Program) (σ : St) (o : Oper) (x : Operand) (t : TypeId) : Option (St × Prop) :=
  match lenOf P σ.tab t (ev σ x) with
  | some n => some (σ.put o.dst (.p (.v (.int .i64 (n : Int))) true), True)
  | none => none

theorem rep_sl_shape {w : World} {bad : Nat → Prop} {lo : Nat} {rows : List (List PV)} {v : Value} (h : Rep w bad lo (.sl rows) v) : ∃ p c, v = .slice p rows.length c := by
  cases h with
  | nil b c => exact ⟨b, c, rfl⟩
  | sl _ b off cap => exact ⟨_, cap, rfl⟩

theorem opLen_sound {C : Ctx} {E : Env} {σ σ' : St} {a : Act} {w : World} {o : Oper} {x : Operand} {t : TypeId} {vc : Prop} (ho : o.op = .call { callee := .builtin .len, args := #[x], argTypes := #[t] })
    (hf : opLen C.P σ o x t = some (σ', vc)) (h : HoldsE C E σ a w) (hd : DstOk C o) : OpOut C o σ' a w := by
  unfold opLen at hf
  split at hf
  · rename_i n hn
    simp only [Option.some.injEq, Prod.mk.injEq] at hf; obtain ⟨rfl, _⟩ := hf
    have hev := ev_rep h x
    refine out_pure h hd (v := .int .i64 (n : Int)) ?_ (VR_v true rfl)
    rw [exec_builtin ho]
    unfold lenOf at hn
    split at hn
    · rename_i k he
      split at hn
      · rename_i t' sz rows fr d hl hu
        simp only [Option.some.injEq] at hn; subst hn
        rw [he] at hev; simp only [VR] at hev
        obtain ⟨v, xs, h1, h2, h3, h4, h5⟩ := h.tab.obj _ _ hl
        rw [hev.1] at h1; cases h1
        have hv : ∃ p c, a.eval x = .slice p rows.length c := by
          rcases h3.2 with ⟨e, hz⟩ | ⟨g, cap, cur, e, _⟩
          · exact ⟨none, 0, by rw [e, hz]⟩
          · exact ⟨_, cap, e⟩
        obtain ⟨p, c, hv⟩ := hv
        simp [builtin, Builtin.len_, run_underlying hu, hv, goInt]
      · cases hn
    · rename_i rows fr he
      split at hn
      · rename_i d hu
        simp only [Option.some.injEq] at hn; subst hn
        rw [he] at hev; simp only [VR] at hev
        obtain ⟨p, c, hv⟩ := rep_sl_shape hev
        simp [builtin, Builtin.len_, run_underlying hu, hv, goInt]
      · cases hn
    · rename_i rows fr he
      split at hn
      · rename_i d hu
        simp only [Option.some.injEq] at hn; subst hn
        rw [he] at hev; simp only [VR] at hev
        obtain ⟨p, hv, _⟩ := hev
        simp [builtin, Builtin.len_, run_underlying hu, hv, goInt]
      · cases hn
    · rename_i fr he
      split at hn
      · rename_i d hu
        simp only [Option.some.injEq] at hn; subst hn
        simp [builtin, Builtin.len_, run_underlying hu, ev_v h he, goInt]
      · cases hn
    · rename_i s fr he
      split at hn
      · rename_i hu
        simp only [Option.some.injEq] at hn; subst hn
        simp [builtin, Builtin.len_, run_underlying hu, ev_v h he, goInt]
      · cases hn
    · cases hn
  · cases hf

/- slices of slices and of strings -/

def intOf : SV → Option Int
  | .p (.v (.int _ n)) _ => some n
  | _ => none

theorem intOf_ev {C : Ctx} {E : Env} {σ : St} {a : Act} {w : World} {x : Operand} {n : Int} (h : HoldsE C E σ a w) (hn : intOf (ev σ x) = some n) : ∃ k, a.eval x = .int k n := by
  unfold intOf at hn
  split at hn
  · rename_i k m fr he
    simp only [Option.some.injEq] at hn; subst hn
    exact ⟨k, ev_v h he⟩
  · cases hn

def optInt (σ : St) : Option Operand → Option (Option Int)
  | none => some none
  | some x => match intOf (ev σ x) with
    | some n => some (some n)
    | none => none

theorem run_bound {P : Program} {w : World} {v : Value} {k : IntKind} {n : Int} {y : Nat} {code : BoundsCode} (hv : v = .int k n) (h0 : 0 ≤ n) (h1 : n ≤ y) : (Instr.sliceBound v y code).run P w = .ok n.toNat w := by
  subst hv
  simp [Instr.sliceBound, asIntOf, h0, h1]

/-- lower and upper bound, as the statement has them: within the length -/
def bndLo (l : Option Int) : Nat := match l with | some n => n.toNat | none => 0
def bndHi (len : Nat) (h : Option Int) : Nat := match h with | some n => n.toNat | none => len
def bndOk (len : Nat) (l h : Option Int) : Prop :=
  (match l with | some n => 0 ≤ n | none => True) ∧ (match h with | some n => 0 ≤ n ∧ n ≤ (len : Int) | none => True) ∧
  (match l, h with | some a, some b => a ≤ b | some a, none => a ≤ (len : Int) | none, _ => True)

theorem run_bounds {P : Program} {w : World} {len cap : Nat} (isSlice : Bool) {lo hi : Option Value} {l h : Option Int} (hlo : ∀ n, l = some n → ∃ k, lo = some (.int k n)) (hlo0 : l = none → lo = none)
    (hhi : ∀ n, h = some n → ∃ k, hi = some (.int k n)) (hhi0 : h = none → hi = none) (hok : bndOk len l h) (hcap : len ≤ cap) :
    (Instr.sliceBounds isSlice len cap lo hi none).run P w = .ok (bndLo l, bndHi len h, cap) w ∧ bndLo l ≤ bndHi len h ∧ bndHi len h ≤ len := by
  obtain ⟨h1, h2, h3⟩ := hok
  have hle : bndHi len h ≤ len := by
    cases h with
    | none => exact Nat.le_refl _
    | some n => have := h2.2; have := h2.1; simp only [bndHi]; omega
  have hle2 : bndLo l ≤ bndHi len h := by
    cases l with
    | none => exact Nat.zero_le _
    | some m =>
      cases h with
      | none => simp only [bndLo, bndHi]; have := h1; simp only at h3; omega
      | some n => simp only [bndLo, bndHi]; simp only at h3; omega
  refine ⟨?_, hle2, hle⟩
  have e2 : (match lo with | some v => Instr.sliceBound v (bndHi len h) .sliceB | none => (pure 0 : Sem Nat)).run P w = .ok (bndLo l) w := by
    cases l with
    | none => rw [hlo0 rfl]; rfl
    | some m =>
      obtain ⟨k, hk⟩ := hlo m rfl
      rw [hk]
      refine run_bound (k := k) rfl h1 ?_
      simp only [bndLo] at hle2
      have := h1
      simp only at this
      omega
  have e1' : (match hi with | some v => Instr.sliceBound v cap (if isSlice then .sliceAcap else .sliceAlen) | none => (pure len : Sem Nat)).run P w = .ok (bndHi len h) w := by
    cases h with
    | none => rw [hhi0 rfl]; rfl
    | some n =>
      obtain ⟨k, hk⟩ := hhi n rfl
      rw [hk]
      exact run_bound (k := k) rfl h2.1 (by have := h2.2; omega)
  have key : ∀ (A B : Sem Nat), A.run P w = .ok (bndHi len h) w → B.run P w = .ok (bndLo l) w →
      (do let h ← A; let l ← B; pure (l, h, cap) : Sem (Nat × Nat × Nat)).run P w = .ok (bndLo l, bndHi len h, cap) w := by
    intro A B hA hB
    rw [Sem.run_bind, hA, Result.andThen_ok, Sem.run_bind, hB]
    rfl
  cases hi with
  | none =>
    have q1 : len = bndHi len h := by injection e1'
    cases lo with
    | none =>
      have q2 : 0 = bndLo l := by injection e2
      rw [← q1, ← q2]
      rfl
    | some v =>
      have := key (pure len) (Instr.sliceBound v (bndHi len h) .sliceB) e1' e2
      rw [← q1] at this ⊢
      exact this
  | some u =>
    cases lo with
    | none =>
      have q2 : 0 = bndLo l := by injection e2
      have := key (Instr.sliceBound u cap (if isSlice then .sliceAcap else .sliceAlen)) (pure 0) e1' e2
      exact this
    | some v =>
      have e3 : (do let h ← (Instr.sliceBound u cap (if isSlice then .sliceAcap else .sliceAlen)); let l ← Instr.sliceBound v h .sliceB; pure (l, h, cap) : Sem (Nat × Nat × Nat)).run P w = .ok (bndLo l, bndHi len h, cap) w := by
        rw [Sem.run_bind, e1', Result.andThen_ok, Sem.run_bind, e2]
        rfl
      exact e3

def opSlice (P : Program) (σ : St) (o : Oper) (t : TypeId) (x : Operand) (lo hi mx : Option Operand) : Option (St × Prop) :=
  match optInt σ lo, optInt σ hi, mx with
  | some l, some h, none => match ev σ x, P.underlying t with
    | .p (.sl rows) fr, some (.slice e) => match P.info? e with
      | some i => some (σ.put o.dst (.p (.sl ((rows.take (bndHi rows.length h)).drop (bndLo l))) fr), bndOk rows.length l h ∧ ∀ row ∈ rows, row.length = i.size)
      | none => none
    | .pc rows fr, some (.slice e) => match P.info? e with
      | some i => some (σ.put o.dst (.p (.sl ((rows.take (bndHi rows.length h)).drop (bndLo l))) fr), bndOk rows.length l h ∧ ∀ row ∈ rows, row.length = i.size)
      | none => none
    | .p (.v (.slice none 0 0)) _, some (.slice e) => match P.info? e with
      | some _ => some (σ.put o.dst (.p (.v (.slice none 0 0)) true), bndOk 0 l h)
      | none => none
    | .p (.v (.string s)) _, some .string => some (σ.put o.dst (.p (.v (.string (s.extract (bndLo l) (bndHi s.size h)))) true), bndOk s.size l h)
    | _, _ => none
  | _, _, _ => none

theorem rep_slice {w : World} {bad : Nat → Prop} {lo : Nat} {rows : List (List PV)} {p : Option Addr} {n c : Nat} (h : Rep w bad lo (.sl rows) (.slice p n c)) (l hh sz : Nat) (h1 : l ≤ hh) (h2 : hh ≤ rows.length) (m : Nat) (hmm : hh ≤ m)
    (hsz : ∀ (i : Nat) (row : List PV), rows[i]? = some row → row.length = sz) (hnl : m ≠ l ∨ l = hh) :
    Rep w bad lo (.sl ((rows.take hh).drop l)) (.slice (if m = l then p else p.map (·.add (l * sz))) (hh - l) (m - l)) := by
  have hlen : ((rows.take hh).drop l).length = hh - l := by simp; omega
  by_cases he : l = hh
  · subst he
    have : (rows.take l).drop l = [] := List.eq_nil_of_length_eq_zero (by omega)
    rw [this, Nat.sub_self]
    exact .nil _ _
  · have hm : m ≠ l := hnl.resolve_right he
    rw [if_neg hm]
    cases h with
    | nil b c => simp at h2; omega
    | sl _ b off cap cs t fz sz' f hcap hb hbad hlo hfz hlen' hc hr =>
      have hs : sz' = sz := by
        have hne : 0 < rows.length := by omega
        have h0 : rows[0]? = some rows[0] := by simp [hne]
        rw [← hlen' 0 _ h0, hsz 0 _ h0]
      subst hs
      have := Rep.sl (w := w) (bad := bad) (lo := lo) ((rows.take hh).drop l) b (off + l * sz') (m - l) cs t fz sz' (fun i j => f (l + i) j) (by rw [hlen]; omega) hb hbad hlo hfz ?_ ?_ ?_
      · rw [hlen] at this
        simpa [Addr.add_lit] using this
      · intro i row hi
        rw [List.getElem?_drop, List.getElem?_take] at hi
        split at hi
        · exact hlen' _ row hi
        · cases hi
      · intro i row j x hi hj
        rw [List.getElem?_drop, List.getElem?_take] at hi
        split at hi
        · have := hc _ row j x hi hj
          rw [show off + l * sz' + i * sz' + j = off + (l + i) * sz' + j by rw [Nat.add_mul]; omega]
          exact this
        · cases hi
      · intro i row j x hi hj
        rw [List.getElem?_drop, List.getElem?_take] at hi
        split at hi
        · exact hr _ row j x hi hj
        · cases hi

theorem optInt_ev {C : Ctx} {E : Env} {σ : St} {a : Act} {w : World} {x : Option Operand} {l : Option Int} (h : HoldsE C E σ a w) (hl : optInt σ x = some l) :
    (∀ n, l = some n → ∃ k, x.map a.eval = some (.int k n)) ∧ (l = none → x.map a.eval = none) := by
  cases x with
  | none => simp only [optInt, Option.some.injEq] at hl; subst hl; exact ⟨fun _ h => (by cases h), fun _ => rfl⟩
  | some y =>
    simp only [optInt] at hl
    split at hl
    · rename_i n hn
      simp only [Option.some.injEq] at hl; subst hl
      obtain ⟨k, hk⟩ := intOf_ev h hn
      exact ⟨fun m hm => ⟨k, by simp at hm; subst hm; simp [hk]⟩, fun h => by cases h⟩
    · cases hl

theorem rep_slice_len {w : World} {bad : Nat → Prop} {lo : Nat} {rows : List (List PV)} {p : Option Addr} {n c : Nat} (h : Rep w bad lo (.sl rows) (.slice p n c)) : n = rows.length := by
  cases h <;> rfl

theorem rep_slice_cap {w : World} {bad : Nat → Prop} {lo : Nat} {rows : List (List PV)} {p : Option Addr} {n c : Nat} (h : Rep w bad lo (.sl rows) (.slice p n c)) : n ≤ c := by
  cases h with
  | nil => exact Nat.zero_le _
  | sl => assumption

theorem opSlice_data {C : Ctx} {E : Env} {σ : St} {a : Act} {w : World} {o : Oper} {t e : TypeId} {i : TypeInfo} {x : Operand} {lo hi : Option Operand} {l hh : Option Int} {rows : List (List PV)} {fr : Bool}
    (ho : o.op = .slice t x lo hi none) (h : HoldsE C E σ a w) (hd : DstOk C o) (hl : optInt σ lo = some l) (hh' : optInt σ hi = some hh) (hu : C.P.underlying t = some (.slice e)) (hi' : C.P.info? e = some i)
    (hr : Rep w E.bad (flo C.lo fr) (.sl rows) (a.eval x)) (hok : bndOk rows.length l hh) (hsz : ∀ row ∈ rows, row.length = i.size) :
    OpOut C o (σ.put o.dst (.p (.sl ((rows.take (bndHi rows.length hh)).drop (bndLo l))) fr)) a w := by
  obtain ⟨p, c, hv⟩ := rep_sl_shape hr
  rw [hv] at hr
  have hcap := rep_slice_cap hr
  have hb := run_bounds (P := C.P) (w := w) true (optInt_ev h hl).1 (optInt_ev h hl).2 (optInt_ev h hh').1 (optInt_ev h hh').2 hok hcap
  obtain ⟨hb1, hb2, hb3⟩ := hb
  have hrs := rep_slice hr (bndLo l) (bndHi rows.length hh) i.size hb2 hb3 c (by omega) (fun n row hn => hsz row (List.mem_of_getElem? hn)) (by
    by_cases hc : c = bndLo l
    · exact .inr (by omega)
    · exact .inl hc)
  refine out_pure h hd (v := .slice (if c = bndLo l then p else p.map (·.add (bndLo l * i.size))) (bndHi rows.length hh - bndLo l) (c - bndLo l)) ?_ (by simpa only [VR] using hrs)
  unfold execOp
  simp only [ho, hv, Instr.sliceAt, Sem.run_bind, run_underlying hu, Result.andThen_ok, Instr.slice, Option.map_none, hb1, sizeOf, typeInfo, run_program, hi', Sem.run_pure]

end Go.TL
/- What one operation makes of the state: slices (their law), places in lists, numbers, strings, interfaces, functions. -/
namespace Go.TL

theorem opSlice_sound {C : Ctx} {E : Env} {σ σ' : St} {a : Act} {w : World} {o : Oper} {t : TypeId} {x : Operand} {lo hi mx : Option Operand} {vc : Prop} (ho : o.op = .slice t x lo hi mx)
    (hf : opSlice C.P σ o t x lo hi mx = some (σ', vc)) (hvc : vc) (h : HoldsE C E σ a w) (hd : DstOk C o) : OpOut C o σ' a w := by
  have hev := ev_rep h x
  unfold opSlice at hf
  split at hf
  · rename_i l hh hl hh'
    split at hf
    · rename_i rows fr e he hu
      split at hf
      · rename_i i hi'
        simp only [Option.some.injEq, Prod.mk.injEq] at hf; obtain ⟨rfl, rfl⟩ := hf
        rw [he] at hev; simp only [VR] at hev
        exact opSlice_data ho h hd hl hh' hu hi' hev hvc.1 hvc.2
      · cases hf
    · rename_i rows fr e he hu
      split at hf
      · rename_i i hi'
        simp only [Option.some.injEq, Prod.mk.injEq] at hf; obtain ⟨rfl, rfl⟩ := hf
        rw [he] at hev; simp only [VR] at hev
        obtain ⟨_, _, hev⟩ := hev
        exact opSlice_data ho h hd hl hh' hu hi' hev hvc.1 hvc.2
      · cases hf
    · rename_i fr e he hu
      split at hf
      · rename_i i hi'
        simp only [Option.some.injEq, Prod.mk.injEq] at hf; obtain ⟨rfl, rfl⟩ := hf
        have hv := ev_v h he
        have hb := run_bounds (P := C.P) (w := w) (cap := 0) true (optInt_ev h hl).1 (optInt_ev h hl).2 (optInt_ev h hh').1 (optInt_ev h hh').2 hvc (Nat.le_refl _)
        obtain ⟨hb1, hb2, hb3⟩ := hb
        refine out_pure h hd (v := .slice none 0 0) ?_ (VR_v true rfl)
        unfold execOp
        have e1 : bndHi 0 hh - bndLo l = 0 := by omega
        have e2 : 0 - bndLo l = 0 := by omega
        simp only [ho, hv, Instr.sliceAt, Sem.run_bind, run_underlying hu, Result.andThen_ok, Instr.slice, Option.map_none, hb1, sizeOf, typeInfo, run_program, hi', Sem.run_pure, e1, e2, ite_self]
      · cases hf
    · rename_i s fr he hu
      simp only [Option.some.injEq, Prod.mk.injEq] at hf; obtain ⟨rfl, rfl⟩ := hf
      have hv := ev_v h he
      have hb := run_bounds (P := C.P) (w := w) (cap := s.size) false (optInt_ev h hl).1 (optInt_ev h hl).2 (optInt_ev h hh').1 (optInt_ev h hh').2 hvc (Nat.le_refl _)
      obtain ⟨hb1, hb2, hb3⟩ := hb
      refine out_pure h hd (v := .string (s.extract (bndLo l) (bndHi s.size hh))) ?_ (VR_v true rfl)
      unfold execOp
      simp only [ho, hv, Instr.sliceAt, Sem.run_bind, run_underlying hu, Result.andThen_ok, Instr.slice, Option.map_none, Option.isSome_none, Bool.false_eq_true, if_false, Sem.run_pure, hb1]
    · cases hf
  · cases hf

/-- s[:h] of a growable list of one's own -/
def opSliceVec (P : Program) (σ : St) (o : Oper) (t : TypeId) (x hi : Operand) : Option (St × Prop) :=
  match ev σ x, intOf (ev σ hi), o.dst, P.underlying t with
  | .vec k, some n, some d, some (.slice e) => match lk σ.tab k, P.info? e, lk (rm σ.tab k) d with
    | some (.vec t' sz rows fr), some i, none => some (σ.re k d (.vec t' sz (rows.take n.toNat) fr), 0 ≤ n ∧ n ≤ (rows.length : Int))
    | _, _, _ => none
  | _, _, _, _ => none

theorem opSliceVec_sound {C : Ctx} {E : Env} {σ σ' : St} {a : Act} {w : World} {o : Oper} {t : TypeId} {x hi : Operand} {vc : Prop} (ho : o.op = .slice t x none (some hi) none)
    (hf : opSliceVec C.P σ o t x hi = some (σ', vc)) (hvc : vc) (h : HoldsE C E σ a w) (hd : DstOk C o) : OpOut C o σ' a w := by
  have hev := ev_rep h x
  unfold opSliceVec at hf
  split at hf
  · rename_i k n d e he hn hdst hu
    split at hf
    · rename_i t' sz rows fr i hl hi' hfresh
      simp only [Option.some.injEq, Prod.mk.injEq] at hf; obtain ⟨rfl, rfl⟩ := hf
      rw [he] at hev; simp only [VR] at hev
      obtain ⟨v, xs, h1, h2, h3, h4, h5⟩ := h.tab.obj _ _ hl
      rw [hev.1] at h1; cases h1
      obtain ⟨kk, hkk⟩ := intOf_ev h hn
      have hnl : n.toNat ≤ rows.length := by have := hvc.1; have := hvc.2; omega
      have htl : (rows.take n.toNat).length = n.toNat := by simp; omega
      have hshape : ∃ p c, a.eval x = .slice p rows.length c ∧ rows.length ≤ c := by
        rcases h3.2 with ⟨e, hz⟩ | ⟨g, cap, cur, e, _, _, hle, _⟩
        · exact ⟨none, 0, by rw [e, hz], by rw [hz]; exact Nat.le_refl _⟩
        · exact ⟨_, cap, e, hle⟩
      obtain ⟨p, c, hv, hle⟩ := hshape
      have hb := run_bounds (P := C.P) (w := w) (len := rows.length) (cap := c) true (lo := none) (l := none) (hi := some (.int kk n)) (h := some n) (fun _ h => by cases h) (fun _ => rfl) (fun m hm => ⟨kk, by simp at hm; subst hm; rfl⟩) (fun h => by cases h)
        ⟨trivial, hvc, trivial⟩ hle
      obtain ⟨hb1, hb2, hb3⟩ := hb
      have hp : (if c = 0 then p else p.map (·.add (0 * i.size))) = p := by cases p <;> simp [Addr.add]
      refine out_re h hd hdst hfresh (x := .slice p n.toNat c) (w' := w) ?_ rfl rfl rfl (Nat.le_refl _) (fun _ _ _ => rfl) ?_ ⟨_, _, _, rfl⟩ ?_
      · unfold execOp
        simp only [bndLo, bndHi] at hb1
        simp only [ho, hv, hkk, Instr.sliceAt, Sem.run_bind, run_underlying hu, Result.andThen_ok, Instr.slice, Option.map_none, Option.map_some, hb1, sizeOf, typeInfo, run_program, hi', Sem.run_pure, Nat.sub_zero, hp]
      · intro g hg
        have : (a.eval x).ownBlock = some g := by rw [hv]; cases p with
          | none => simp [Value.ownBlock] at hg
          | some p => simpa [Value.ownBlock] using hg
        have := h4 g this
        exact ⟨.inl this, (h.tab.own g k this).1⟩
      · intro hkeep
        refine ⟨.slice p n.toNat c, xs.take (n.toNat * sz), by simp [Env.re], h2, ⟨?_, ?_⟩, ?_, ?_⟩
        · rw [htl, List.length_take, h3.1]; exact Nat.min_eq_left (Nat.mul_le_mul_right _ hnl)
        · rw [htl]
          rcases h3.2 with ⟨e, hz⟩ | ⟨g, cap, cur, e, hb, hg, hle', hcm, hcs, htk⟩
          · rw [hv] at e; simp at e
            obtain ⟨rfl, _, rfl⟩ := e
            have : n.toNat = 0 := by omega
            exact .inl ⟨by rw [this], this⟩
          · rw [hv] at e; simp at e
            obtain ⟨rfl, rfl⟩ := e
            exact .inr ⟨g, c, cur, rfl, hb, hg, by omega, hcm, hcs, by rw [← htk, List.take_take, Nat.min_eq_left (Nat.mul_le_mul_right _ hnl)]⟩
        · intro g hg; simp [Env.re, hg]
        · obtain ⟨f, r1, r2, r3⟩ := h5
          have hget : ∀ (i : Nat) (row : List PV), (rows.take n.toNat)[i]? = some row → rows[i]? = some row ∧ i < n.toNat := by
            intro i row hi
            rw [List.getElem?_take] at hi
            split at hi
            · exact ⟨hi, by assumption⟩
            · cases hi
          refine ⟨f, fun i row hi => r1 i row (hget i row hi).1, fun i row j y hi hj => ?_, fun i row j y hi hj => (r3 i row j y (hget i row hi).1 hj).mono (Nat.le_refl _) hkeep.rep⟩
          have hh := hget i row hi
          have hjl : j < sz := by rw [← r1 i row hh.1]; exact (List.getElem?_eq_some_iff.1 hj).1
          have : i * sz + j < n.toNat * sz := by
            have : (i + 1) * sz ≤ n.toNat * sz := Nat.mul_le_mul_right _ (by omega)
            rw [Nat.add_mul, Nat.one_mul] at this; omega
          rw [List.getElem?_take, if_pos this]
          exact r2 i row j y hh.1 hj
    · cases hf
  · cases hf

/-- s[l:h:h] of pure data -/
def opSlice3 (P : Program) (σ : St) (o : Oper) (t : TypeId) (x : Operand) (lo : Option Operand) (hi mx : Operand) : Option (St × Prop) :=
  match ev σ x, optInt σ lo, intOf (ev σ hi), intOf (ev σ mx) with
  | .p (.sl rows) fr, some l, some n, some m => match P.underlying t with
    | some (.slice e) => match P.info? e with
      | some i => some (σ.put o.dst (.pc ((rows.take n.toNat).drop (bndLo l)) fr), n = m ∧ bndOk rows.length l (some n) ∧ ∀ row ∈ rows, row.length = i.size)
      | none => none
    | _ => none
  | _, _, _, _ => none

theorem opSlice3_sound {C : Ctx} {E : Env} {σ σ' : St} {a : Act} {w : World} {o : Oper} {t : TypeId} {x : Operand} {lo : Option Operand} {hi mx : Operand} {vc : Prop} (ho : o.op = .slice t x lo (some hi) (some mx))
    (hf : opSlice3 C.P σ o t x lo hi mx = some (σ', vc)) (hvc : vc) (h : HoldsE C E σ a w) (hd : DstOk C o) : OpOut C o σ' a w := by
  have hev := ev_rep h x
  unfold opSlice3 at hf
  split at hf
  · rename_i rows fr l n m he hl hn hm
    split at hf
    · rename_i e hu
      split at hf
      · rename_i i hi'
        simp only [Option.some.injEq, Prod.mk.injEq] at hf; obtain ⟨rfl, rfl⟩ := hf
        obtain ⟨rfl, hok, hsz⟩ := hvc
        rw [he] at hev; simp only [VR] at hev
        obtain ⟨p, c, hv⟩ := rep_sl_shape hev
        rw [hv] at hev
        have hcap := rep_slice_cap hev
        obtain ⟨k1, hk1⟩ := intOf_ev h hn
        obtain ⟨k2, hk2⟩ := intOf_ev h hm
        have h2 := hok.2.1
        simp only at h2
        have hlo : bndLo l ≤ n.toNat := by
          cases l with
          | none => exact Nat.zero_le _
          | some b => have := hok.2.2; have := hok.1; simp only at this; simp only [bndLo]; omega
        have e1 := run_bound (P := C.P) (w := w) (y := c) (code := .slice3Acap) hk2 h2.1 (by omega)
        have e2 := run_bound (P := C.P) (w := w) (y := n.toNat) (code := .slice3B) hk1 h2.1 (by omega)
        have e3 : (match lo.map a.eval with | some v => Instr.sliceBound v n.toNat .slice3C | none => (pure 0 : Sem Nat)).run C.P w = .ok (bndLo l) w := by
          cases l with
          | none => rw [(optInt_ev h hl).2 rfl]; rfl
          | some b =>
            obtain ⟨k3, hk3⟩ := (optInt_ev h hl).1 b rfl
            rw [hk3]
            have := hok.1
            simp only at this
            refine run_bound (k := k3) rfl this ?_
            simp only [bndLo] at hlo; omega
        have e4 : (Instr.sliceBounds true rows.length c (lo.map a.eval) (some (a.eval hi)) (some (a.eval mx))).run C.P w = .ok (bndLo l, n.toNat, n.toNat) w := by
          cases hlv : lo.map a.eval with
          | none =>
            rw [hlv] at e3
            have : (do let m ← Instr.sliceBound (a.eval mx) c .slice3Acap; let h ← Instr.sliceBound (a.eval hi) m .slice3B; let l ← (pure 0 : Sem Nat); pure (l, h, m) : Sem (Nat × Nat × Nat)).run C.P w = .ok (bndLo l, n.toNat, n.toNat) w := by
              rw [Sem.run_bind, e1, Result.andThen_ok, Sem.run_bind, e2, Result.andThen_ok, Sem.run_bind, e3]
              rfl
            exact this
          | some v =>
            rw [hlv] at e3
            have : (do let m ← Instr.sliceBound (a.eval mx) c .slice3Acap; let h ← Instr.sliceBound (a.eval hi) m .slice3B; let l ← Instr.sliceBound v h .slice3C; pure (l, h, m) : Sem (Nat × Nat × Nat)).run C.P w = .ok (bndLo l, n.toNat, n.toNat) w := by
              rw [Sem.run_bind, e1, Result.andThen_ok, Sem.run_bind, e2, Result.andThen_ok, Sem.run_bind]
              simp only at e3
              rw [e3]
              rfl
            exact this
        have hrs := rep_slice hev (bndLo l) n.toNat i.size hlo (by omega) n.toNat (Nat.le_refl _) (fun n row hn => hsz row (List.mem_of_getElem? hn)) (by
          by_cases hc : n.toNat = bndLo l
          · exact .inr hc.symm
          · exact .inl hc)
        have hlen : ((rows.take n.toNat).drop (bndLo l)).length = n.toNat - bndLo l := by simp; omega
        refine out_pure h hd (v := .slice (if n.toNat = bndLo l then p else p.map (·.add (bndLo l * i.size))) (n.toNat - bndLo l) (n.toNat - bndLo l)) ?_ ?_
        · unfold execOp
          simp only [ho, hv, Instr.sliceAt, Sem.run_bind, run_underlying hu, Result.andThen_ok, Instr.slice, Option.map_some, e4, sizeOf, typeInfo, run_program, hi', Sem.run_pure]
        · simp only [VR]
          exact ⟨_, by rw [hlen], hrs⟩
      · cases hf
    · cases hf
  · cases hf

end Go.TL
/- What one operation makes of the state: places in lists, parts, numbers, strings, interfaces, functions. -/
namespace Go.TL

def intLit : Int → Option Nat
  | .ofNat n => some n
  | _ => none

/-- the address of an element -/
def opIndexAddr (P : Program) (H : Hint) (σ : St) (o : Oper) (t : TypeId) (x ix : Operand) : Option (St × Prop) :=
  match intOf (ev σ ix), o.dst with
  | some n, some d => match ev σ x, P.underlying t with
    | .p (.sl rows) fr, some (.slice e) => match lk H.ld d, P.info? e with
      | some row, some i => match Nat.beq row.length i.size with
        | true => some (σ.put o.dst (.pd row 0 fr), 0 ≤ n ∧ rows[n.toNat]? = some row)
        | false => none
      | _, _ => none
    | .vec k, some (.slice e) => match lk σ.tab k, P.info? e with
      | some (.vec _ sz rows _), some i => match Nat.beq sz i.size with
        | true => some (σ.put o.dst (.vptr k sz n.toNat 0), 0 ≤ n ∧ n < (rows.length : Int))
        | false => none
      | _, _ => none
    | .ptr k off, some (.array len e) => match P.info? e, intLit n with
      | some i, some m => match Nat.ble (m + 1) len with
        | true => some (σ.put o.dst (.ptr k (off + m * i.size)), True)
        | false => none
      | _, _ => none
    | _, _ => none
  | _, _ => none

theorem run_indexAt_slice {P : Program} {w : World} {t e : TypeId} {i : TypeInfo} {a : Addr} {len cap : Nat} {k : IntKind} {n : Int} (hu : P.underlying t = some (.slice e)) (hi : P.info? e = some i) (h0 : 0 ≤ n) (h1 : n < (len : Int)) :
    (Instr.indexAt t (.slice (some a) len cap) (.int k n)).run P w = .ok (.pointer (some (a.add (n.toNat * i.size)))) w := by
  simp [Instr.indexAt, asIntOf, run_underlying hu, h0, h1, sizeOf, typeInfo, hi]

theorem opIndexAddr_sound {C : Ctx} {H : Hint} {E : Env} {σ σ' : St} {a : Act} {w : World} {o : Oper} {t : TypeId} {x ix : Operand} {vc : Prop} (ho : o.op = .indexAddr t x ix)
    (hf : opIndexAddr C.P H σ o t x ix = some (σ', vc)) (hvc : vc) (h : HoldsE C E σ a w) (hd : DstOk C o) : OpOut C o σ' a w := by
  have hev := ev_rep h x
  unfold opIndexAddr at hf
  split at hf
  · rename_i n d hn hdst
    obtain ⟨kk, hix⟩ := intOf_ev h hn
    split at hf
    · rename_i rows fr e he hu
      split at hf
      · rename_i row i hrow hi
        split at hf
        · rename_i hlen
          have hlen' := Nat.eq_of_beq_eq_true hlen
          simp only [Option.some.injEq, Prod.mk.injEq] at hf; obtain ⟨rfl, rfl⟩ := hf
          obtain ⟨h0, hr⟩ := hvc
          rw [he] at hev; simp only [VR] at hev
          have hlt : n.toNat < rows.length := (List.getElem?_eq_some_iff.1 hr).1
          generalize hv : a.eval x = v at hev
          cases hev with
          | nil b c => simp at hlt
          | sl _ b off cap cs t' fz sz f hcap hb hbad hlo hfz hl hc hrr =>
            have hsz : sz = i.size := by rw [← hlen', hl _ _ hr]
            subst hsz
            refine out_pure h hd (v := .pointer (some ⟨b, off + n.toNat * i.size, none⟩)) ?_ ?_
            · simp [execOp, ho, hv, hix, run_indexAt_slice (P := C.P) (w := w) (k := kk) hu hi h0 (show n < (rows.length : Int) by omega), Addr.add_lit]
            · simp only [VR]
              exact ⟨b, off + n.toNat * i.size, rfl, cs, t', fz, f n.toNat, hb, hbad, hlo, fun j y hj => hc _ _ _ _ hr hj, fun j y hj => hrr _ _ _ _ hr hj⟩
        · cases hf
      · cases hf
    · rename_i k e he hu
      split at hf
      · rename_i t' sz rows fr i hl hi
        split at hf
        · rename_i hsz
          have hsz' := Nat.eq_of_beq_eq_true hsz
          simp only [Option.some.injEq, Prod.mk.injEq] at hf; obtain ⟨rfl, rfl⟩ := hf
          obtain ⟨h0, hlt⟩ := hvc
          rw [he] at hev; simp only [VR] at hev
          obtain ⟨v, xs, h1, h2, h3, h4, h5⟩ := h.tab.obj _ _ hl
          rw [hev.1] at h1; cases h1
          rcases h3.2 with ⟨_, hz⟩ | ⟨g, cap, cur, hv, _⟩
          · omega
          · refine out_pure h hd (v := .pointer (some ⟨g, n.toNat * sz, none⟩)) ?_ ?_
            · simp [execOp, ho, hv, hix, run_indexAt_slice (P := C.P) (w := w) (k := kk) hu hi h0 hlt, Addr.add_lit, hsz']
            · simp only [VR]
              rw [hv] at hev
              exact ⟨g, _, _, hev.1, by simp⟩
        · cases hf
      · cases hf
    · rename_i k off len e he hu
      split at hf
      · rename_i i m hi hm
        split at hf
        · rename_i hle
          have hle' := Nat.le_of_ble_eq_true hle
          simp only [Option.some.injEq, Prod.mk.injEq] at hf; obtain ⟨rfl, _⟩ := hf
          rw [he] at hev; simp only [VR] at hev
          obtain ⟨b, hb, hx⟩ := hev
          have hnm : n = (m : Int) := by
            unfold intLit at hm; split at hm
            · simp only [Option.some.injEq] at hm; subst hm; rfl
            · cases hm
          subst hnm
          refine out_pure h hd (v := .pointer (some ⟨b, off + m * i.size, none⟩)) ?_ (by simp only [VR]; exact ⟨b, hb, rfl⟩)
          have h2 : (m : Int) < (len : Int) := by omega
          have hlt : m < len := hle'
          simp [execOp, ho, hx, hix, Instr.indexAt, asIntOf, run_underlying hu, Instr.sureAddr, hlt, sizeOf, typeInfo, hi, Addr.add_lit]
        · cases hf
      · cases hf
    · cases hf
  · cases hf

/- parts of values -/

def partOut (P : Program) (t : TypeId) (off : Nat) (cells : List SV) : Option SV := loadOut P t off cells

theorem part_rep {P : Program} {w : World} {E : Env} {lo : Nat} {t : TypeId} {off : Nat} {cells : List SV} {vs : List Value} {sv : SV} (hv : VRs w E lo cells vs) (hf : partOut P t off cells = some sv) :
    ∃ v, (part t vs.toArray off).run P w = .ok v w ∧ VR w E lo sv v := by
  unfold partOut loadOut at hf
  split at hf
  · rename_i i ha hi
    split at hf
    · rename_i hle
      have hle' := Nat.le_of_ble_eq_true hle
      simp only [Option.some.injEq] at hf; subst hf
      have hlen := VRs_length hv
      refine ⟨.agg ((vs.drop off).take i.size).toArray, ?_, by simp only [VR]; exact ⟨_, rfl, VRs_take _ (VRs_drop off hv)⟩⟩
      have hr := run_isAgg ha w
      have e : vs.toArray.extract off (off + i.size) = ((vs.drop off).take i.size).toArray := by
        apply Array.ext'; simp [List.extract_eq_take_drop]
      simp [part, hr, sizeOf, typeInfo, hi, e]
    · cases hf
  · rename_i i ha hi
    split at hf
    · rename_i x xs hsz hdr
      simp only [Option.some.injEq] at hf; subst hf
      have hd := VRs_drop off hv
      rw [hdr] at hd
      cases hvd : vs.drop off with
      | nil => rw [hvd] at hd; simp [VRs] at hd
      | cons v rest =>
        rw [hvd] at hd
        have hr := run_isAgg ha w
        have hg : vs[off]? = some v := by
          have : (vs.drop off)[0]? = some v := by rw [hvd]; rfl
          simpa [List.getElem?_drop] using this
        refine ⟨v, ?_, (VRs_cons_iff.1 hd).1⟩
        simp [part, hr, hg]
    · cases hf
  · cases hf

def fieldOff0 (P : Program) (s : TypeId) (f : Nat) : Option (Nat × TypeId) :=
  match P.underlying s with
  | some (.struct fields) => match fields.toList[f]? with
    | some fd => some (fd.offset, fd.type)
    | none => none
  | _ => none

def opField (P : Program) (σ : St) (o : Oper) (t : TypeId) (x : Operand) (f : Nat) : Option (St × Prop) :=
  match ev σ x, fieldOff0 P t f with
  | .agg xs, some (off, ft) => match partOut P ft off xs with
    | some sv => some (σ.put o.dst sv, True)
    | none => none
  | _, _ => none

theorem opField_sound {C : Ctx} {E : Env} {σ σ' : St} {a : Act} {w : World} {o : Oper} {t : TypeId} {x : Operand} {f : Nat} {vc : Prop} (ho : o.op = .field t x f)
    (hf : opField C.P σ o t x f = some (σ', vc)) (h : HoldsE C E σ a w) (hd : DstOk C o) : OpOut C o σ' a w := by
  have hev := ev_rep h x
  unfold opField at hf
  split at hf
  · rename_i xs off ft he hfo
    split at hf
    · rename_i sv hsv
      simp only [Option.some.injEq, Prod.mk.injEq] at hf; obtain ⟨rfl, _⟩ := hf
      rw [he] at hev; simp only [VR] at hev
      obtain ⟨vs, hx, hvs⟩ := hev
      obtain ⟨v, hr, hv⟩ := part_rep (P := C.P) hvs hsv
      unfold fieldOff0 at hfo
      split at hfo
      · rename_i fields hu
        split at hfo
        · rename_i fd hfd
          simp only [Option.some.injEq, Prod.mk.injEq] at hfo; obtain ⟨rfl, rfl⟩ := hfo
          have hfd' : fields[f]? = some fd := by simpa using hfd
          refine out_pure h hd (v := v) ?_ hv
          simp [execOp, ho, hx, Instr.field, run_underlying hu, hfd', asAgg, hr]
        · cases hfo
      · cases hfo
    · cases hf
  · cases hf

/-- an element of an array by value, a byte of a string -/
def opIndex (P : Program) (σ : St) (o : Oper) (t : TypeId) (x ix : Operand) : Option (St × Prop) :=
  match intOf (ev σ ix) with
  | some n => match ev σ x, P.underlying t with
    | .agg xs, some (.array len e) => match intLit n, P.info? e with
      | some m, some i => match Nat.ble (m + 1) len, partOut P e (m * i.size) xs with
        | true, some sv => some (σ.put o.dst sv, True)
        | _, _ => none
      | _, _ => none
    | .p (.v (.string s)) _, some .string => some (σ.put o.dst (.p (.v (.int .u8 ((s.data.toList.getD n.toNat 0).toNat : Int))) true), 0 ≤ n ∧ n < (s.size : Int))
    | _, _ => none
  | none => none

theorem opIndex_sound {C : Ctx} {E : Env} {σ σ' : St} {a : Act} {w : World} {o : Oper} {t : TypeId} {x ix : Operand} {vc : Prop} (ho : o.op = .index t x ix)
    (hf : opIndex C.P σ o t x ix = some (σ', vc)) (hvc : vc) (h : HoldsE C E σ a w) (hd : DstOk C o) : OpOut C o σ' a w := by
  have hev := ev_rep h x
  unfold opIndex at hf
  split at hf
  · rename_i n hn
    obtain ⟨kk, hix⟩ := intOf_ev h hn
    split at hf
    · rename_i xs len e he hu
      split at hf
      · rename_i m i hm hi
        split at hf
        · rename_i sv hle hsv
          have hle' := Nat.le_of_ble_eq_true hle
          simp only [Option.some.injEq, Prod.mk.injEq] at hf; obtain ⟨rfl, _⟩ := hf
          rw [he] at hev; simp only [VR] at hev
          obtain ⟨vs, hx, hvs⟩ := hev
          obtain ⟨v, hr, hv⟩ := part_rep (P := C.P) hvs hsv
          have hnm : n = (m : Int) := by
            unfold intLit at hm; split at hm
            · simp only [Option.some.injEq] at hm; subst hm; rfl
            · cases hm
          subst hnm
          have hlt : m < len := hle'
          refine out_pure h hd (v := v) ?_ hv
          simp [execOp, ho, hx, hix, Instr.index, asIntOf, run_underlying hu, hlt, sizeOf, typeInfo, hi, hr]
        · cases hf
      · cases hf
    · rename_i s fr he hu
      simp only [Option.some.injEq, Prod.mk.injEq] at hf; obtain ⟨rfl, rfl⟩ := hf
      have hx := ev_v h he
      have hlt : n.toNat < s.size := by have := hvc.1; have := hvc.2; omega
      refine out_pure h hd (v := .int .u8 ((s.data.toList.getD n.toNat 0).toNat : Int)) ?_ (VR_v true rfl)
      have hg : s[n.toNat]? = some (s.data.toList.getD n.toNat 0) := by
        rw [getElem?_pos s n.toNat hlt]
        congr 1
        have hlt' : n.toNat < s.data.size := hlt
        have e2 : s.data.toList.getD n.toNat 0 = s.data[n.toNat] := by
          rw [List.getD_eq_getElem?_getD, Array.getElem?_toList, Array.getElem?_eq_getElem hlt']; rfl
        rw [e2]; rfl
      simp [execOp, ho, hx, hix, Instr.index, asIntOf, run_underlying hu, hvc.1, hg]
    · cases hf
  · cases hf

def opExtract (σ : St) (o : Oper) (x : Operand) (n : Nat) : Option (St × Prop) :=
  match ev σ x with
  | .tup xs => match xs[n]? with
    | some sv => some (σ.put o.dst sv, True)
    | none => none
  | _ => none

theorem opExtract_sound {C : Ctx} {E : Env} {σ σ' : St} {a : Act} {w : World} {o : Oper} {x : Operand} {n : Nat} {vc : Prop} (ho : o.op = .extract x n)
    (hf : opExtract σ o x n = some (σ', vc)) (h : HoldsE C E σ a w) (hd : DstOk C o) : OpOut C o σ' a w := by
  have hev := ev_rep h x
  unfold opExtract at hf
  split at hf
  · rename_i xs he
    split at hf
    · rename_i sv hsv
      simp only [Option.some.injEq, Prod.mk.injEq] at hf; obtain ⟨rfl, _⟩ := hf
      rw [he] at hev; simp only [VR] at hev
      obtain ⟨vs, hx, hvs⟩ := hev
      obtain ⟨v, hv1, hv⟩ := VRs_get hvs hsv
      refine out_pure h hd (v := v) ?_ hv
      simp [execOp, ho, hx, Instr.extract, hv1]
    · cases hf
  · cases hf

/- interfaces, functions -/

def opIface (P : Program) (σ : St) (o : Oper) (t : TypeId) (x : Operand) : Option (St × Prop) :=
  match P.underlying t with
  | some (.interface _) => none
  | some _ => some (σ.put o.dst (.ifc t (ev σ x)), True)
  | none => none

theorem opIface_sound {C : Ctx} {E : Env} {σ σ' : St} {a : Act} {w : World} {o : Oper} {t : TypeId} {x : Operand} {vc : Prop} (ho : o.op = .makeInterface t x)
    (hf : opIface C.P σ o t x = some (σ', vc)) (h : HoldsE C E σ a w) (hd : DstOk C o) : OpOut C o σ' a w := by
  have hev := ev_rep h x
  unfold opIface at hf
  cases hu : C.P.underlying t with
  | none => simp [hu] at hf
  | some d =>
    have : (execOp a.eval o).run C.P w = .ok (.value (.iface t (a.eval x))) w ∧ some (σ.put o.dst (.ifc t (ev σ x)), True) = some (σ', vc) := by
      cases d <;> first | (simp [hu] at hf; done) | (simp only [hu] at hf; exact ⟨by simp [execOp, ho, Instr.makeInterface, run_underlying hu], hf⟩)
    obtain ⟨hr, hf'⟩ := this
    simp only [Option.some.injEq, Prod.mk.injEq] at hf'; obtain ⟨rfl, _⟩ := hf'
    exact out_pure h hd hr (by simp only [VR]; exact ⟨_, rfl, hev⟩)

def evs (σ : St) : List Operand → List SV
  | [] => []
  | x :: xs => ev σ x :: evs σ xs

theorem evs_rep {C : Ctx} {E : Env} {σ : St} {a : Act} {w : World} (h : HoldsE C E σ a w) : ∀ xs : List Operand, VRs w E C.lo (evs σ xs) (xs.map a.eval)
  | [] => VRs_nil
  | x :: xs => VRs_cons (ev_rep h x) (evs_rep h xs)

def opFunc (σ : St) (o : Oper) (f : Fn) (first caps : Array Operand) : Option (St × Prop) :=
  some (σ.put o.dst (.fn f (evs σ first.toList) (evs σ caps.toList)), True)

theorem opFunc_sound {C : Ctx} {E : Env} {σ σ' : St} {a : Act} {w : World} {o : Oper} {f : Fn} {first caps : Array Operand} {vc : Prop} (ho : o.op = .makeFunc f first caps)
    (hf : opFunc σ o f first caps = some (σ', vc)) (h : HoldsE C E σ a w) (hd : DstOk C o) : OpOut C o σ' a w := by
  simp only [opFunc, Option.some.injEq, Prod.mk.injEq] at hf; obtain ⟨rfl, _⟩ := hf
  refine out_pure h hd (v := .func f (first.map a.eval) (caps.map a.eval)) (by simp [execOp, ho, Instr.makeFunc]) ?_
  simp only [VR]
  refine ⟨_, _, ?_, evs_rep h first.toList, evs_rep h caps.toList⟩
  congr 1 <;> exact Array.ext' (by simp)

/- numbers -/

def arith (op : BinOp) (a b : Int) : Option Int :=
  match op with
  | .add => some (a + b)
  | .sub => some (a - b)
  | .mul => some (a * b)
  | _ => none

def icmp (op : BinOp) (a b : Int) : Option Bool :=
  match op with
  | .eql => some (a == b)
  | .neq => some (a != b)
  | .lss => some (decide (a < b))
  | .leq => some (decide (a ≤ b))
  | .gtr => some (decide (a > b))
  | .geq => some (decide (a ≥ b))
  | _ => none

def scmp (op : BinOp) (x y : ByteArray) : Option Bool :=
  match op with
  | .eql => some (x.toList == y.toList)
  | .neq => some (!(x.toList == y.toList))
  | .lss => some (Op.bytesLess x.toList y.toList)
  | .leq => some (Op.bytesLess x.toList y.toList || x.toList == y.toList)
  | .gtr => some (!(Op.bytesLess x.toList y.toList || x.toList == y.toList))
  | .geq => some (!Op.bytesLess x.toList y.toList)
  | _ => none

/-- whether a known value is nil: of pointers, functions, interfaces -/
def isNil : SV → Option Bool
  | .ptr _ _ => some false
  | .pd _ _ _ => some false
  | .vptr _ _ _ _ => some false
  | .fn _ _ _ => some false
  | .ifc _ _ => some false
  | .p (.v (.pointer none)) _ => some true
  | .p (.v .nilFunc) _ => some true
  | .p (.v .nilIface) _ => some true
  | _ => none

def nilConst : Operand → Bool
  | .const (.pointer none) => true
  | .const .nilFunc => true
  | .const .nilIface => true
  | _ => false

def eqOp : BinOp → Option Bool
  | .eql => some true
  | .neq => some false
  | _ => none

def isInt : SV → Option (IntKind × Int)
  | .p (.v (.int k n)) _ => some (k, n)
  | _ => none

def isStr : SV → Option ByteArray
  | .p (.v (.string s)) _ => some s
  | _ => none

def opBin (σ : St) (o : Oper) (op : BinOp) (x y : Operand) : Option (St × Prop) :=
  match isInt (ev σ x), isInt (ev σ y) with
  | some (k, a), some (k', b) => match decide (k = k') with
    | true => match arith op a b with
      | some n => some (σ.put o.dst (.p (.v (.int k n)) true), k.wrap n = n)
      | none => match icmp op a b with
        | some c => some (σ.put o.dst (.p (.v (.bool c)) true), True)
        | none => match op with
          | .rem => some (σ.put o.dst (.p (.v (.int k (a.tmod b))) true), b ≠ 0)
          | .quo => some (σ.put o.dst (.p (.v (.int k (a.tdiv b))) true), b ≠ 0 ∧ k.wrap (a.tdiv b) = a.tdiv b)
          | _ => none
    | false => none
  | _, _ => match isStr (ev σ x), isStr (ev σ y) with
    | some s, some r => match scmp op s r with
      | some c => some (σ.put o.dst (.p (.v (.bool c)) true), True)
      | none => match op with
        | .add => some (σ.put o.dst (.p (.v (.string (s ++ r))) true), s.size + r.size ≤ 4611686018427387904)
        | _ => none
    | _, _ => none

theorem isInt_ev {C : Ctx} {E : Env} {σ : St} {a : Act} {w : World} {x : Operand} {k : IntKind} {n : Int} (h : HoldsE C E σ a w) (hn : isInt (ev σ x) = some (k, n)) : a.eval x = .int k n := by
  unfold isInt at hn
  split at hn
  · rename_i k' m fr he
    simp only [Option.some.injEq, Prod.mk.injEq] at hn; obtain ⟨rfl, rfl⟩ := hn
    exact ev_v h he
  · cases hn

theorem isStr_ev {C : Ctx} {E : Env} {σ : St} {a : Act} {w : World} {x : Operand} {s : ByteArray} (h : HoldsE C E σ a w) (hn : isStr (ev σ x) = some s) : a.eval x = .string s := by
  unfold isStr at hn
  split at hn
  · rename_i s' fr he
    simp only [Option.some.injEq] at hn; subst hn
    exact ev_v h he
  · cases hn

theorem exec_bin {P : Program} {w : World} {a : Act} {o : Oper} {op : BinOp} {tx ty : TypeId} {x y : Operand} {r : Value} (ho : o.op = .binOp op tx x y ty)
    (hg : eqGuard op tx x y (a.eval x) (a.eval y) = pure ()) (hr : (binOp op tx (a.eval x) (a.eval y)).run P w = .ok r w) : (execOp a.eval o).run P w = .ok (.value r) w := by
  unfold execOp
  simp only [ho, hg, Sem.run_bind, Sem.run_pure, Result.andThen_ok, hr]

theorem opBin_sound {C : Ctx} {E : Env} {σ σ' : St} {a : Act} {w : World} {o : Oper} {op : BinOp} {tx ty : TypeId} {x y : Operand} {vc : Prop} (ho : o.op = .binOp op tx x y ty)
    (hf : opBin σ o op x y = some (σ', vc)) (hvc : vc) (h : HoldsE C E σ a w) (hd : DstOk C o) : OpOut C o σ' a w := by
  unfold opBin at hf
  split at hf
  · rename_i k m k' n hx hy
    have ex := isInt_ev h hx
    have ey := isInt_ev h hy
    split at hf
    · rename_i hk
      have hk' := of_decide_eq_true hk; subst hk'
      split at hf
      · rename_i r hr
        simp only [Option.some.injEq, Prod.mk.injEq] at hf; obtain ⟨rfl, rfl⟩ := hf
        refine out_pure h hd (v := .int k r) ?_ (VR_v true rfl)
        cases op <;> simp only [arith, Option.some.injEq, reduceCtorEq] at hr <;> subst hr <;> exact exec_bin ho (by rw [ex]; exact eqGuard_at_int _ _ _ _ _ _ _) (by rw [ex, ey]; simp [binOp, Op.intArith, hvc])
      · split at hf
        · rename_i c hc
          simp only [Option.some.injEq, Prod.mk.injEq] at hf; obtain ⟨rfl, _⟩ := hf
          refine out_pure h hd (v := .bool c) ?_ (VR_v true rfl)
          cases op <;> simp only [icmp, Option.some.injEq, reduceCtorEq] at hc <;> subst hc <;> exact exec_bin ho (by rw [ex]; exact eqGuard_at_int _ _ _ _ _ _ _) (by rw [ex, ey]; simp [binOp, Op.intCmp])
        · split at hf
          · simp only [Option.some.injEq, Prod.mk.injEq] at hf; obtain ⟨rfl, rfl⟩ := hf
            refine out_pure h hd (v := .int k (m.tmod n)) ?_ (VR_v true rfl)
            exact exec_bin ho (by rw [ex]; exact eqGuard_at_int _ _ _ _ _ _ _) (by rw [ex, ey]; simp [binOp, Op.intDiv, hvc])
          · simp only [Option.some.injEq, Prod.mk.injEq] at hf; obtain ⟨rfl, rfl⟩ := hf
            refine out_pure h hd (v := .int k (m.tdiv n)) ?_ (VR_v true rfl)
            exact exec_bin ho (by rw [ex]; exact eqGuard_at_int _ _ _ _ _ _ _) (by rw [ex, ey]; simp [binOp, Op.intDiv, hvc.1, hvc.2])
          · cases hf
    · cases hf
  · split at hf
    · rename_i s r hx hy
      have ex := isStr_ev h hx
      have ey := isStr_ev h hy
      split at hf
      · rename_i c hc
        simp only [Option.some.injEq, Prod.mk.injEq] at hf; obtain ⟨rfl, _⟩ := hf
        refine out_pure h hd (v := .bool c) ?_ (VR_v true rfl)
        cases op <;> simp only [scmp, Option.some.injEq, reduceCtorEq] at hc <;> subst hc <;> exact exec_bin ho (by rw [ex]; exact eqGuard_at_string _ _ _ _ _ _) (by rw [ex, ey]; simp [binOp, Op.stringOp])
      · split at hf
        · simp only [Option.some.injEq, Prod.mk.injEq] at hf; obtain ⟨rfl, rfl⟩ := hf
          refine out_pure h hd (v := .string (s ++ r)) ?_ (VR_v true rfl)
          have : ¬ (9223372036854775807 < (s.size : Int) + (r.size : Int)) := by omega
          exact exec_bin ho (by rw [ex]; exact eqGuard_at_string _ _ _ _ _ _) (by rw [ex, ey]; simp [binOp, Op.stringOp, this])
        · cases hf
    · cases hf

end Go.TL
/- What one operation makes of the state: unary operations, conversions, nil. -/
namespace Go.TL

def opUn (σ : St) (o : Oper) (op : UnOp) (x : Operand) : Option (St × Prop) :=
  match op, ev σ x with
  | .not, .p (.v (.bool b)) _ => some (σ.put o.dst (.p (.v (.bool (!b))) true), True)
  | .neg, .p (.v (.int k n)) _ => some (σ.put o.dst (.p (.v (.int k (0 - n))) true), k.wrap (0 - n) = 0 - n)
  | _, _ => none

theorem opUn_sound {C : Ctx} {E : Env} {σ σ' : St} {a : Act} {w : World} {o : Oper} {op : UnOp} {t : TypeId} {x : Operand} {vc : Prop} (ho : o.op = .unOp op t x)
    (hf : opUn σ o op x = some (σ', vc)) (hvc : vc) (h : HoldsE C E σ a w) (hd : DstOk C o) : OpOut C o σ' a w := by
  unfold opUn at hf
  split at hf
  · rename_i b fr he
    simp only [Option.some.injEq, Prod.mk.injEq] at hf; obtain ⟨rfl, _⟩ := hf
    exact out_pure h hd (v := .bool (!b)) (by simp [execOp, ho, ev_v h he, Op.unary]) (VR_v true rfl)
  · rename_i k n fr he
    simp only [Option.some.injEq, Prod.mk.injEq] at hf; obtain ⟨rfl, rfl⟩ := hf
    have hvc' : k.wrap (-n) = -n := by simpa using hvc
    exact out_pure h hd (v := .int k (0 - n)) (by simp [execOp, ho, ev_v h he, Op.unary, Op.intArith, hvc']) (VR_v true rfl)
  · cases hf

def opConv (P : Program) (σ : St) (o : Oper) (src dst : TypeId) (x : Operand) : Option (St × Prop) :=
  match ev σ x, P.underlying src, P.underlying dst with
  | .p (.v (.int _ n)) _, some _, some (.int k) => some (σ.put o.dst (.p (.v (.int k n)) true), k.wrap n = n)
  | .p (.v (.string s)) _, some _, some .string => some (σ.put o.dst (.p (.v (.string s)) true), True)
  | _, _, _ => none

theorem opConv_sound {C : Ctx} {E : Env} {σ σ' : St} {a : Act} {w : World} {o : Oper} {src dst : TypeId} {x : Operand} {vc : Prop} (ho : o.op = .convert src dst x)
    (hf : opConv C.P σ o src dst x = some (σ', vc)) (hvc : vc) (h : HoldsE C E σ a w) (hd : DstOk C o) : OpOut C o σ' a w := by
  unfold opConv at hf
  split at hf
  · rename_i k' n fr d k he hu1 hu2
    simp only [Option.some.injEq, Prod.mk.injEq] at hf; obtain ⟨rfl, rfl⟩ := hf
    have hx := ev_v h he
    refine out_pure h hd (v := .int k n) ?_ (VR_v true rfl)
    cases d <;> simp [execOp, ho, hx, convert, run_underlying hu1, run_underlying hu2, Conv.intToInt, hvc]
  · rename_i s fr d he hu1 hu2
    simp only [Option.some.injEq, Prod.mk.injEq] at hf; obtain ⟨rfl, rfl⟩ := hf
    have hx := ev_v h he
    refine out_pure h hd (v := .string s) ?_ (VR_v true rfl)
    cases d <;> simp [execOp, ho, hx, convert, run_underlying hu1, run_underlying hu2]
  · cases hf

def nilP : SV → Option Bool
  | .ptr _ _ => some false
  | .pd _ _ _ => some false
  | .vptr _ _ _ _ => some false
  | .p (.v (.pointer none)) _ => some true
  | _ => none
def nilF : SV → Option Bool
  | .fn _ _ _ => some false
  | .p (.v .nilFunc) _ => some true
  | _ => none

theorem nilP_ev {C : Ctx} {E : Env} {σ : St} {a : Act} {w : World} {x : Operand} {b : Bool} (h : HoldsE C E σ a w) (hb : nilP (ev σ x) = some b) : ∃ p : Option Addr, a.eval x = .pointer p ∧ p.isNone = b := by
  have hev := ev_rep h x
  unfold nilP at hb
  split at hb <;> (try (cases hb; done)) <;> rename_i he <;> simp only [Option.some.injEq] at hb <;> subst hb <;> rw [he] at hev
  · simp only [VR] at hev; obtain ⟨b, _, hx⟩ := hev; exact ⟨_, hx, rfl⟩
  · simp only [VR] at hev; obtain ⟨b, o, hx, _⟩ := hev; exact ⟨_, hx, rfl⟩
  · simp only [VR] at hev; obtain ⟨b, n, c, _, hx⟩ := hev; exact ⟨_, hx, rfl⟩
  · exact ⟨none, VR_v_eq hev, rfl⟩

theorem nilF_ev {C : Ctx} {E : Env} {σ : St} {a : Act} {w : World} {x : Operand} {b : Bool} (h : HoldsE C E σ a w) (hb : nilF (ev σ x) = some b) : (b = true ∧ a.eval x = .nilFunc) ∨ (b = false ∧ ∃ f p q, a.eval x = .func f p q) := by
  have hev := ev_rep h x
  unfold nilF at hb
  split at hb <;> (try (cases hb; done)) <;> rename_i he <;> simp only [Option.some.injEq] at hb <;> subst hb <;> rw [he] at hev
  · simp only [VR] at hev; obtain ⟨vs, ws, hx, _⟩ := hev; exact .inr ⟨rfl, _, _, _, hx⟩
  · exact .inl ⟨rfl, VR_v_eq hev⟩

/-- a pointer, a function held against nil -/
def nilEq (P : Program) (σ : St) (t : TypeId) (x y : Operand) : Option Bool :=
  match P.underlying t with
  | some (.pointer _) => match nilP (ev σ x), nilP (ev σ y) with
    | some p, some true => some p
    | some true, some q => some q
    | _, _ => none
  | some (.func _ _ _) => match nilF (ev σ x), nilF (ev σ y) with
    | some p, some true => some p
    | some true, some q => some q
    | _, _ => none
  | _ => none

def opNil (P : Program) (σ : St) (o : Oper) (op : BinOp) (t : TypeId) (x y : Operand) : Option (St × Prop) :=
  match nilEq P σ t x y, op with
  | some b, .eql => some (σ.put o.dst (.p (.v (.bool b)) true), True)
  | some b, .neq => some (σ.put o.dst (.p (.v (.bool (!b))) true), True)
  | _, _ => none

theorem run_eq_ptr {P : Program} {w : World} {t e : TypeId} (hu : P.underlying t = some (.pointer e)) (p q : Option Addr) (h : p = none ∨ q = none) : (Op.equal t (.pointer p) (.pointer q)).run P w = .ok (p.isNone && q.isNone) w := by
  show (Op.equalIn (9999 + 1) t _ _).run P w = _
  rw [Op.equalIn]
  rcases h with rfl | rfl
  · cases q <;> simp [run_underlying hu]
  · cases p <;> simp [run_underlying hu]
theorem run_eq_fn {P : Program} {w : World} {t : TypeId} {ps rs : Array TypeId} {v : Bool} (hu : P.underlying t = some (.func ps rs v)) :
    (Op.equal t .nilFunc .nilFunc).run P w = .ok true w ∧ (∀ f p q, (Op.equal t (.func f p q) .nilFunc).run P w = .ok false w) ∧ (∀ f p q, (Op.equal t .nilFunc (.func f p q)).run P w = .ok false w) := by
  refine ⟨?_, fun f p q => ?_, fun f p q => ?_⟩ <;> (show (Op.equalIn (9999 + 1) t _ _).run P w = _; rw [Op.equalIn]; simp [run_underlying hu])

theorem run_eql {P : Program} {w : World} {t : TypeId} {x y : Value} {b : Bool} (h : (Op.equal t x y).run P w = .ok b w) (hx : (∃ p, x = .pointer p) ∧ (∃ p, y = .pointer p) ∨ ((∃ f p q, x = .func f p q) ∨ x = .nilFunc) ∧ ((∃ f p q, y = .func f p q) ∨ y = .nilFunc)) :
    (binOp .eql t x y).run P w = .ok (.bool b) w ∧ (binOp .neq t x y).run P w = .ok (.bool (!b)) w := by
  rcases hx with ⟨⟨p, rfl⟩, ⟨q, rfl⟩⟩ | ⟨⟨f, p, q, rfl⟩ | rfl, ⟨f', p', q', rfl⟩ | rfl⟩ <;> simp only [binOp, Sem.run_bind, h, Result.andThen_ok, Sem.run_pure, and_self]

theorem opNil_sound {C : Ctx} {E : Env} {σ σ' : St} {a : Act} {w : World} {o : Oper} {op : BinOp} {tx ty : TypeId} {x y : Operand} {vc : Prop} (ho : o.op = .binOp op tx x y ty)
    (hf : opNil C.P σ o op tx x y = some (σ', vc)) (h : HoldsE C E σ a w) (hd : DstOk C o) : OpOut C o σ' a w := by
  unfold opNil at hf
  have key : ∀ b, nilEq C.P σ tx x y = some b → (∀ op', eqGuard op' tx x y (a.eval x) (a.eval y) = pure ()) ∧
      (binOp .eql tx (a.eval x) (a.eval y)).run C.P w = .ok (.bool b) w ∧ (binOp .neq tx (a.eval x) (a.eval y)).run C.P w = .ok (.bool (!b)) w := by
    intro b hb
    unfold nilEq at hb
    split at hb
    · rename_i e hu
      split at hb
      · rename_i p hx hy
        simp only [Option.some.injEq] at hb; subst hb
        obtain ⟨p1, e1, n1⟩ := nilP_ev h hx
        obtain ⟨p2, e2, n2⟩ := nilP_ev h hy
        have : p2 = none := by simpa using n2
        subst this
        rw [e1, e2]
        have hr := run_eq_ptr (P := C.P) (w := w) hu p1 none (.inr rfl)
        rw [n1, Option.isNone_none, Bool.and_true] at hr
        exact ⟨fun op' => eqGuard_at_pointer _ _ _ _ _ _, run_eql hr (.inl ⟨⟨_, rfl⟩, ⟨_, rfl⟩⟩)⟩
      · rename_i q hne hx hy
        simp only [Option.some.injEq] at hb; subst hb
        obtain ⟨p1, e1, n1⟩ := nilP_ev h hx
        obtain ⟨p2, e2, n2⟩ := nilP_ev h hy
        have : p1 = none := by simpa using n1
        subst this
        rw [e1, e2]
        have hr := run_eq_ptr (P := C.P) (w := w) hu none p2 (.inl rfl)
        rw [n2, Option.isNone_none, Bool.true_and] at hr
        exact ⟨fun op' => eqGuard_at_pointer _ _ _ _ _ _, run_eql hr (.inl ⟨⟨_, rfl⟩, ⟨_, rfl⟩⟩)⟩
      · cases hb
    · rename_i ps rs v hu
      split at hb
      · rename_i p hx hy
        simp only [Option.some.injEq] at hb; subst hb
        have e2 : a.eval y = .nilFunc := by
          rcases nilF_ev h hy with ⟨_, e⟩ | ⟨e, _⟩
          · exact e
          · cases e
        rcases nilF_ev h hx with ⟨rfl, e1⟩ | ⟨rfl, f, p, q, e1⟩ <;> rw [e1, e2]
        · exact ⟨fun op' => eqGuard_at_nilFunc _ _ _ _ _, run_eql (run_eq_fn hu).1 (.inr ⟨.inr rfl, .inr rfl⟩)⟩
        · exact ⟨fun op' => eqGuard_at_func _ _ _ _ _ _ _ _, run_eql ((run_eq_fn hu).2.1 f p q) (.inr ⟨.inl ⟨_, _, _, rfl⟩, .inr rfl⟩)⟩
      · rename_i q hne hx hy
        simp only [Option.some.injEq] at hb; subst hb
        have e1 : a.eval x = .nilFunc := by
          rcases nilF_ev h hx with ⟨_, e⟩ | ⟨e, _⟩
          · exact e
          · cases e
        rcases nilF_ev h hy with ⟨rfl, e2⟩ | ⟨rfl, f, p, q, e2⟩ <;> rw [e1, e2]
        · exact ⟨fun op' => eqGuard_at_nilFunc _ _ _ _ _, run_eql (run_eq_fn hu).1 (.inr ⟨.inr rfl, .inr rfl⟩)⟩
        · exact ⟨fun op' => eqGuard_at_nilFunc _ _ _ _ _, run_eql ((run_eq_fn hu).2.2 f p q) (.inr ⟨.inr rfl, .inl ⟨_, _, _, rfl⟩⟩)⟩
      · cases hb
    · cases hb
  split at hf
  · rename_i b hb
    simp only [Option.some.injEq, Prod.mk.injEq] at hf; obtain ⟨rfl, _⟩ := hf
    have := key b hb
    exact out_pure h hd (v := .bool b) (exec_bin ho (this.1 _) this.2.1) (VR_v true rfl)
  · rename_i b hb
    simp only [Option.some.injEq, Prod.mk.injEq] at hf; obtain ⟨rfl, _⟩ := hf
    have := key b hb
    exact out_pure h hd (v := .bool (!b)) (exec_bin ho (this.1 _) this.2.2) (VR_v true rfl)
  · cases hf

/- the lesser, the greater of two numbers -/
def opMinMax (σ : St) (o : Oper) (isMax : Bool) (x y : Operand) : Option (St × Prop) :=
  match isInt (ev σ x), isInt (ev σ y) with
  | some (k, a), some (_, b) => some (σ.put o.dst (.p (.v (.int k (match isMax with | true => (if b > a then b else a) | false => (if b < a then b else a)))) true), True)
  | _, _ => none

theorem opMin_sound {C : Ctx} {E : Env} {σ σ' : St} {a : Act} {w : World} {o : Oper} {x y : Operand} {ts : Array TypeId} {vc : Prop} (ho : o.op = .call { callee := .builtin .min, args := #[x, y], argTypes := ts })
    (hf : opMinMax σ o false x y = some (σ', vc)) (h : HoldsE C E σ a w) (hd : DstOk C o) : OpOut C o σ' a w := by
  unfold opMinMax at hf
  split at hf
  · rename_i k m k' n hx hy
    simp only [Option.some.injEq, Prod.mk.injEq] at hf; obtain ⟨rfl, _⟩ := hf
    refine out_pure h hd (v := .int k (if n < m then n else m)) ?_ (VR_v true rfl)
    rw [exec_builtin ho]
    simp [builtin, Builtin.min_, Builtin.min2, isInt_ev h hx, isInt_ev h hy]
  · cases hf

theorem opMax_sound {C : Ctx} {E : Env} {σ σ' : St} {a : Act} {w : World} {o : Oper} {x y : Operand} {ts : Array TypeId} {vc : Prop} (ho : o.op = .call { callee := .builtin .max, args := #[x, y], argTypes := ts })
    (hf : opMinMax σ o true x y = some (σ', vc)) (h : HoldsE C E σ a w) (hd : DstOk C o) : OpOut C o σ' a w := by
  unfold opMinMax at hf
  split at hf
  · rename_i k m k' n hx hy
    simp only [Option.some.injEq, Prod.mk.injEq] at hf; obtain ⟨rfl, _⟩ := hf
    refine out_pure h hd (v := .int k (if n > m then n else m)) ?_ (VR_v true rfl)
    rw [exec_builtin ho]
    simp [builtin, Builtin.max_, Builtin.max2, isInt_ev h hx, isInt_ev h hy]
  · cases hf

end Go.TL
