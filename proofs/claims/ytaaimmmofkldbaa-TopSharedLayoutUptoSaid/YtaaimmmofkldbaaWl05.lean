/- Places and lists known as bare values: what lies there is told by an object's predicate. -/
import Derived.Test.YtaaimmmofkldbaaWl04
namespace Go.TL
def rawP : SV → Option (Nat × Nat)
  | .p (.v (.pointer (some ⟨b, o, none⟩))) _ => some (b, o)
  | _ => none
theorem rawP_ev {C : Ctx} {E : Env} {σ : St} {a : Act} {w : World} {x : Operand} {b o : Nat} (h : HoldsE C E σ a w) (hr : rawP (ev σ x) = some (b, o)) : a.eval x = .pointer (some ⟨b, o, none⟩) := by
  unfold rawP at hr
  split at hr
  · rename_i b' o' fr he
    simp only [Option.some.injEq, Prod.mk.injEq] at hr; obtain ⟨rfl, rfl⟩ := hr
    exact ev_v h he
  · cases hr
abbrev Rp (b o : Nat) : SV := .p (.v (.pointer (some ⟨b, o, none⟩))) true
def opRawNil (σ : St) (o : Oper) (x : Operand) : Option (St × Prop) :=
  match rawP (ev σ x) with
  | some (b, o') => some (σ.put o.dst (Rp b o'), True)
  | none => none
theorem opRawNil_sound {C : Ctx} {E : Env} {σ σ' : St} {a : Act} {w : World} {o : Oper} {x : Operand} {vc : Prop} (ho : o.op = .nilCheck x)
    (hf : opRawNil σ o x = some (σ', vc)) (h : HoldsE C E σ a w) (hd : DstOk C o) : OpOut C o σ' a w := by
  unfold opRawNil at hf
  split at hf
  · rename_i b o' hr
    simp only [Option.some.injEq, Prod.mk.injEq] at hf; obtain ⟨rfl, _⟩ := hf
    have hx := rawP_ev h hr
    exact out_pure h hd (v := .pointer (some ⟨b, o', none⟩)) (by simp [execOp, ho, hx]) (VR_v true rfl)
  · cases hf
def opRawField (P : Program) (σ : St) (o : Oper) (s : TypeId) (x : Operand) (f : Nat) : Option (St × Prop) :=
  match fieldOff P s f, rawP (ev σ x) with
  | some (n, _), some (b, o') => some (σ.put o.dst (Rp b (o' + n)), True)
  | _, _ => none
theorem opRawField_sound {C : Ctx} {E : Env} {σ σ' : St} {a : Act} {w : World} {o : Oper} {s : TypeId} {x : Operand} {f : Nat} {vc : Prop} (ho : o.op = .fieldAddr s x f)
    (hf : opRawField C.P σ o s x f = some (σ', vc)) (h : HoldsE C E σ a w) (hd : DstOk C o) : OpOut C o σ' a w := by
  unfold opRawField at hf
  split at hf
  · rename_i n m b o' hn hr
    simp only [Option.some.injEq, Prod.mk.injEq] at hf; obtain ⟨rfl, _⟩ := hf
    have hx := rawP_ev h hr
    unfold fieldOff at hn
    split at hn
    · rename_i fields hu
      split at hn
      · rename_i fd hfd
        split at hn
        · rename_i i hi
          split at hn
          · cases hn
          · rename_i hz
            simp only [Option.some.injEq, Prod.mk.injEq] at hn; obtain ⟨rfl, rfl⟩ := hn
            have hz' : i.size ≠ 0 := fun e => by rw [e] at hz; simp at hz
            have hfd' : fields[f]? = some fd := by simpa using hfd
            refine out_pure h hd (v := .pointer (some ⟨b, o' + fd.offset, none⟩)) ?_ (VR_v true rfl)
            simp [execOp, ho, hx, Instr.fieldAt, run_underlying hu, hfd', Instr.sureAddr, fieldPlace, sizeOf, typeInfo, hi, hz', Addr.add_lit]
        · cases hn
      · cases hn
    · cases hn
  · cases hf
def extAt (T : Tab) (k : Nat) : Option (World → Value → (Nat → Prop) → Prop) :=
  match lk T k with
  | some (.ext φ) => some φ
  | _ => none
theorem extAt_eq {T : Tab} {k : Nat} {φ : World → Value → (Nat → Prop) → Prop} (h : extAt T k = some φ) : lk T k = some (.ext φ) := by
  unfold extAt at h
  split at h
  · rename_i he; rw [he]; simp only [Option.some.injEq] at h; rw [h]
  · cases h
def opRawLoad (P : Program) (H : Hint) (σ : St) (o : Oper) (t : TypeId) (x : Operand) : Option (St × Prop) :=
  match rawP (ev σ x), o.dst with
  | some (b, o'), some d => match lk H.ld d with
    | some [.v y, .v (.int _ (.ofNat k))] => match extAt σ.tab k, loadOut P t 0 [.p (.v y) true] with
      | some φ, some sv => some (σ.put o.dst sv, y.oneCell' = true ∧ ∀ w x B, φ w x B → ∃ cs t fz, w.heap[b]? = some (.cells cs t fz) ∧ cs[o']? = some y)
      | _, _ => none
    | _ => none
  | _, _ => none
theorem opRawLoad_sound {C : Ctx} {H : Hint} {E : Env} {σ σ' : St} {a : Act} {w : World} {o : Oper} {t : TypeId} {x : Operand} {vc : Prop} (ho : o.op = .load t x)
    (hf : opRawLoad C.P H σ o t x = some (σ', vc)) (hvc : vc) (h : HoldsE C E σ a w) (hd : DstOk C o) : OpOut C o σ' a w := by
  unfold opRawLoad at hf
  split at hf
  · rename_i b o' d hr hdst
    split at hf
    · rename_i y kk k hl
      split at hf
      · rename_i φ sv hφ hsv
        simp only [Option.some.injEq, Prod.mk.injEq] at hf; obtain ⟨rfl, rfl⟩ := hf
        obtain ⟨h1, h2⟩ := hvc
        have hx := rawP_ev h hr
        obtain ⟨x', e1, e2, e3, e4⟩ := h.tab.obj k _ (extAt_eq hφ)
        obtain ⟨cs, t', fz, q1, q2⟩ := h2 w x' _ e3
        obtain ⟨v, hr', hv⟩ := load_rep (P := C.P) (b := b) (o := o') (off := 0) (VRs_cons (VR_v (w := w) (E := E) (lo := C.lo) true h1) VRs_nil) (fun j v hj => by
          cases j with
          | zero => simp at hj; subst hj; rw [Nat.add_zero, cell_at q1]; exact q2
          | succ j => simp at hj) hsv
        exact out_pure h hd (v := v) (by rw [Nat.add_zero] at hr'; simp [execOp, ho, hx, hr']) hv
      · cases hf
    · cases hf
  · cases hf
def setExt (φ : World → Value → (Nat → Prop) → Prop) (b o : Nat) (z : Value) : World → Value → (Nat → Prop) → Prop := fun w' x B =>
  ∃ w, φ w x B ∧ B b ∧ (∀ c, B c → c ≠ b → w'.heap[c]? = w.heap[c]?) ∧ ∃ cs t, w.heap[b]? = some (.cells cs t (0, 0)) ∧ w'.heap[b]? = some (.cells (spl cs.toList o [z]).toArray t (0, 0))
def opRawStore (P : Program) (H : Hint) (σ : St) (o : Oper) (t : TypeId) (x y : Operand) : Option (St × Prop) :=
  match rawP (ev σ x), cellsOf (ev σ y), P.info? t, H.st with
  | some (b, o'), some [.p (.v z) _], some i, (k, _) :: _ => match extAt σ.tab k, Nat.beq i.size 1 with
    | some φ, true => some ((⟨σ.slots, (k, .ext (setExt φ b o' z)) :: rm σ.tab k⟩ : St).put o.dst .u, ∀ w x B, φ w x B → B b ∧ ∃ cs t, w.heap[b]? = some (.cells cs t (0, 0)) ∧ o' < cs.size)
    | _, _ => none
  | _, _, _, _ => none
theorem opRawStore_sound {C : Ctx} {H : Hint} {E : Env} {σ σ' : St} {a : Act} {w : World} {o : Oper} {t : TypeId} {x y : Operand} {vc : Prop} (ho : o.op = .store t x y)
    (hf : opRawStore C.P H σ o t x y = some (σ', vc)) (hvc : vc) (h : HoldsE C E σ a w) (hd : DstOk C o) : OpOut C o σ' a w := by
  unfold opRawStore at hf
  split at hf
  · rename_i b o' z fr i k hst rest hr hcells hi hst'
    split at hf
    · rename_i φ hφ hsz
      have hsz' := Nat.eq_of_beq_eq_true hsz
      simp only [Option.some.injEq, Prod.mk.injEq] at hf; obtain ⟨rfl, rfl⟩ := hf
      have hx := rawP_ev h hr
      obtain ⟨x', e1, e2, e3, e4⟩ := h.tab.obj k _ (extAt_eq hφ)
      obtain ⟨hB, cs, t', q1, q2⟩ := hvc w x' _ e3
      have hvs := cellsOf_rep hcells (ev_rep h y)
      have hlen := VRs_length hvs
      have hyc : (a.eval y).cells.toList = [z] ∧ z.oneCell' = true := by
        generalize (a.eval y).cells.toList = l at hvs hlen
        match l, hlen, hvs with
        | [v], _, hvs =>
          have hv := (VRs_cons_iff.1 hvs).1
          have e := VR_v_eq hv
          simp only [VR] at hv
          cases hv with
          | v _ h1 => exact ⟨rfl, h1⟩
      have hr' := run_storeAt (P := C.P) (off := o') (v := a.eval y) hi (by rw [hyc.1, hsz']; rfl) q1 (by rw [hyc.1]; exact q2) (by rw [hyc.1]; intro u hu; simp at hu; subst hu; exact hyc.2)
      rw [hyc.1] at hr'
      have hk0 : lk σ.tab k ≠ none := by rw [extAt_eq hφ]; simp
      refine out_set h hd hk0 (w1 := w.setRow b (spl cs.toList o' [z]).toArray) (by simp [execOp, ho, hx, hr']) rfl rfl rfl (by simp) ?_ ?_
      · intro c hc
        exact setRow_other w b c _ (fun e => hc (by rw [e]; exact hB))
      · have hnew := setRow_heap w b _ (spl cs.toList o' [z]).toArray t' _ q1
        refine ⟨x', e1, e2, ⟨w, e3, hB, fun c _ hne => setRow_other w b c _ hne, cs, t', q1, hnew⟩, ?_⟩
        intro w' hw'
        exact ⟨w, e3, hB, fun c hc hne => (hw' c hc).trans (setRow_other w b c _ hne), cs, t', q1, (hw' b hB).trans hnew⟩
    · cases hf
  · cases hf
def rawS : SV → Option (Option (Nat × Nat) × Nat × Nat)
  | .p (.v (.slice (some ⟨b, o, none⟩) n c)) _ => some (some (b, o), n, c)
  | .p (.v (.slice none 0 0)) _ => some (none, 0, 0)
  | _ => none
def baseA : Option (Nat × Nat) → Option Addr
  | some (b, o) => some ⟨b, o, none⟩
  | none => none
theorem rawS_ev {C : Ctx} {E : Env} {σ : St} {a : Act} {w : World} {x : Operand} {p : Option (Nat × Nat)} {n c : Nat} (h : HoldsE C E σ a w) (hr : rawS (ev σ x) = some (p, n, c)) : a.eval x = .slice (baseA p) n c := by
  unfold rawS at hr
  split at hr
  · rename_i b' o' n' c' fr he
    simp only [Option.some.injEq, Prod.mk.injEq] at hr; obtain ⟨rfl, rfl, rfl⟩ := hr
    exact ev_v h he
  · rename_i fr he
    simp only [Option.some.injEq, Prod.mk.injEq] at hr; obtain ⟨rfl, rfl, rfl⟩ := hr
    exact ev_v h he
  · cases hr
def opRawLen (P : Program) (σ : St) (o : Oper) (x : Operand) (t : TypeId) : Option (St × Prop) :=
  match rawS (ev σ x), P.underlying t with
  | some (_, n, _), some (.slice _) => some (σ.put o.dst (.p (.v (.int .i64 (n : Int))) true), True)
  | _, _ => none
theorem opRawLen_sound {C : Ctx} {E : Env} {σ σ' : St} {a : Act} {w : World} {o : Oper} {x : Operand} {t : TypeId} {vc : Prop} (ho : o.op = .call { callee := .builtin .len, args := #[x], argTypes := #[t] })
    (hf : opRawLen C.P σ o x t = some (σ', vc)) (h : HoldsE C E σ a w) (hd : DstOk C o) : OpOut C o σ' a w := by
  unfold opRawLen at hf
  split at hf
  · rename_i p n c e hr hu
    simp only [Option.some.injEq, Prod.mk.injEq] at hf; obtain ⟨rfl, _⟩ := hf
    have hx := rawS_ev h hr
    refine out_pure h hd (v := .int .i64 (n : Int)) ?_ (VR_v true rfl)
    rw [exec_builtin ho]
    simp [builtin, Builtin.len_, run_underlying hu, hx, goInt]
  · cases hf
def opRawCap (P : Program) (σ : St) (o : Oper) (x : Operand) (t : TypeId) : Option (St × Prop) :=
  match rawS (ev σ x), P.underlying t with
  | some (_, _, c), some (.slice _) => some (σ.put o.dst (.p (.v (.int .i64 (c : Int))) true), True)
  | _, _ => none
theorem opRawCap_sound {C : Ctx} {E : Env} {σ σ' : St} {a : Act} {w : World} {o : Oper} {x : Operand} {t : TypeId} {vc : Prop} (ho : o.op = .call { callee := .builtin .cap, args := #[x], argTypes := #[t] })
    (hf : opRawCap C.P σ o x t = some (σ', vc)) (h : HoldsE C E σ a w) (hd : DstOk C o) : OpOut C o σ' a w := by
  unfold opRawCap at hf
  split at hf
  · rename_i p n c e hr hu
    simp only [Option.some.injEq, Prod.mk.injEq] at hf; obtain ⟨rfl, _⟩ := hf
    have hx := rawS_ev h hr
    refine out_pure h hd (v := .int .i64 (c : Int)) ?_ (VR_v true rfl)
    rw [exec_builtin ho]
    simp [builtin, Builtin.cap_, run_underlying hu, hx, goInt]
  · cases hf
def opRawIndex (P : Program) (σ : St) (o : Oper) (t : TypeId) (x ix : Operand) : Option (St × Prop) :=
  match rawS (ev σ x), intOf (ev σ ix), P.underlying t with
  | some (some (b, o'), n, _), some i, some (.slice e) => match P.info? e with
    | some inf => some (σ.put o.dst (Rp b (o' + i.toNat * inf.size)), 0 ≤ i ∧ i < (n : Int))
    | none => none
  | _, _, _ => none
theorem opRawIndex_sound {C : Ctx} {E : Env} {σ σ' : St} {a : Act} {w : World} {o : Oper} {t : TypeId} {x ix : Operand} {vc : Prop} (ho : o.op = .indexAddr t x ix)
    (hf : opRawIndex C.P σ o t x ix = some (σ', vc)) (hvc : vc) (h : HoldsE C E σ a w) (hd : DstOk C o) : OpOut C o σ' a w := by
  unfold opRawIndex at hf
  split at hf
  · rename_i b o' n c i e hr hn hu
    obtain ⟨kk, hix⟩ := intOf_ev h hn
    split at hf
    · rename_i inf hi
      simp only [Option.some.injEq, Prod.mk.injEq] at hf; obtain ⟨rfl, rfl⟩ := hf
      have hx := rawS_ev h hr
      refine out_pure h hd (v := .pointer (some ⟨b, o' + i.toNat * inf.size, none⟩)) ?_ (VR_v true rfl)
      simp [execOp, ho, hx, baseA, hix, run_indexAt_slice (P := C.P) (w := w) (k := kk) hu hi hvc.1 hvc.2, Addr.add_lit]
    · cases hf
  · cases hf
theorem run_bounds_cap {P : Program} {w : World} {len cap : Nat} {kk : IntKind} {m : Int} (h0 : 0 ≤ m) (h1 : m ≤ (cap : Int)) :
    (Instr.sliceBounds true len cap none (some (.int kk m)) none).run P w = .ok (0, m.toNat, cap) w := by
  simp [Instr.sliceBounds, Instr.sliceBound, asIntOf, h0, h1]
def opRawSlice (P : Program) (σ : St) (o : Oper) (t : TypeId) (x hi : Operand) : Option (St × Prop) :=
  match rawS (ev σ x), intOf (ev σ hi), P.underlying t with
  | some (p, n, c), some m, some (.slice e) => match P.info? e with
    | some _ => some (σ.put o.dst (.p (.v (.slice (baseA p) m.toNat c)) true), 0 ≤ m ∧ m ≤ (c : Int) ∧ n ≤ c)
    | none => none
  | _, _, _ => none
theorem opRawSlice_sound {C : Ctx} {E : Env} {σ σ' : St} {a : Act} {w : World} {o : Oper} {t : TypeId} {x hi : Operand} {vc : Prop} (ho : o.op = .slice t x none (some hi) none)
    (hf : opRawSlice C.P σ o t x hi = some (σ', vc)) (hvc : vc) (h : HoldsE C E σ a w) (hd : DstOk C o) : OpOut C o σ' a w := by
  unfold opRawSlice at hf
  split at hf
  · rename_i p n c m e hr hn hu
    obtain ⟨kk, hkk⟩ := intOf_ev h hn
    split at hf
    · rename_i inf hi'
      simp only [Option.some.injEq, Prod.mk.injEq] at hf; obtain ⟨rfl, rfl⟩ := hf
      obtain ⟨h0, h1, h2⟩ := hvc
      have hx := rawS_ev h hr
      have hb := run_bounds_cap (P := C.P) (w := w) (len := n) (cap := c) (kk := kk) (m := m) h0 h1
      have hp : (if c = 0 then baseA p else (baseA p).map (·.add (0 * inf.size))) = baseA p := by cases p <;> simp [baseA, Addr.add]
      refine out_pure h hd (v := .slice (baseA p) m.toNat c) ?_ (VR_v true rfl)
      unfold execOp
      simp only [ho, hx, hkk, Instr.sliceAt, Sem.run_bind, run_underlying hu, Result.andThen_ok, Instr.slice, Option.map_none, Option.map_some, hb, sizeOf, typeInfo, run_program, hi', Sem.run_pure, Nat.sub_zero, hp]
    · cases hf
  · cases hf
end Go.TL
namespace Go.TL
def tr : Option (St × Prop) → Option (St × List Prop)
  | some (s, _) => some (s, [])
  | none => none
def nt : Option (St × Prop) → Option (St × List Prop)
  | some (s, p) => some (s, [p])
  | none => none
def allP : List Prop → Prop
  | [] => True
  | p :: ps => p ∧ allP ps
def arithOp : BinOp → Bool
  | .add | .sub | .mul | .quo | .rem => true
  | _ => false
def opBinW (H : Hint) (σ : St) (o : Oper) (op : BinOp) (x y : Operand) : Option (St × Prop) :=
  match o.dst with
  | some d => match lk H.ld d, isInt (ev σ x), isInt (ev σ y) with
    | some [.v (.int k0 z)], some (k, a), some (k', b) => match decide (k = k' ∧ k = k0) with
      | true => match arith op a b with
        | some n => some (σ.put o.dst (.p (.v (.int k z)) true), k.wrap n = z)
        | none => none
      | false => none
    | _, _, _ => none
  | none => none
theorem opBinW_sound {C : Ctx} {H : Hint} {E : Env} {σ σ' : St} {a : Act} {w : World} {o : Oper} {op : BinOp} {tx ty : TypeId} {x y : Operand} {vc : Prop} (ho : o.op = .binOp op tx x y ty)
    (hf : opBinW H σ o op x y = some (σ', vc)) (hvc : vc) (h : HoldsE C E σ a w) (hd : DstOk C o) : OpOut C o σ' a w := by
  unfold opBinW at hf
  split at hf
  · split at hf
    · rename_i k0 z k m k' n hl hx hy
      have ex := isInt_ev h hx
      have ey := isInt_ev h hy
      split at hf
      · rename_i hk
        obtain ⟨hk', hk0⟩ := of_decide_eq_true hk; subst hk'; subst hk0
        split at hf
        · rename_i r hr
          simp only [Option.some.injEq, Prod.mk.injEq] at hf; obtain ⟨rfl, rfl⟩ := hf
          refine out_pure h hd (v := .int k z) ?_ (VR_v true rfl)
          cases op <;> simp only [arith, Option.some.injEq, reduceCtorEq] at hr <;> subst hr <;> exact exec_bin ho (by rw [ex]; exact eqGuard_at_int _ _ _ _ _ _ _) (by rw [ex, ey]; simp [binOp, Op.intArith, hvc])
        · cases hf
      · cases hf
    · cases hf
  · cases hf
def aop (P : Program) (H : Hint) (σ : St) (o : Oper) : Option (St × List Prop) :=
  match o.op with
  | .move x => tr (opMove σ o x)
  | .assign x => tr (opMove σ o x)
  | .pick c x y => tr (opPick σ o c x y)
  | .alloc t => tr (opAlloc P σ o t)
  | .box t x => tr (opBox σ o t x)
  | .build t ps => tr (opBuild P σ o t ps)
  | .buildSlice t n ps => tr (opBuildSlice P σ o t n ps)
  | .load t x => match opLoadArr P H σ o t x with
    | some r => nt (some r)
    | none => match opRawLoad P H σ o t x with
    | some r => nt (some r)
    | none => match ev σ x with
      | .vptr _ _ _ _ => nt (opLoad P H σ o t x)
      | _ => tr (opLoad P H σ o t x)
  | .store t x y => match opStoreArr P σ o t x y with
    | some r => nt (some r)
    | none => match opRawStore P H σ o t x y with
    | some r => nt (some r)
    | none => match ev σ x with
      | .vptr _ _ _ _ => nt (opStore P H σ o t x y)
      | _ => tr (opStore P H σ o t x y)
  | .makeSlice t l c => nt (opMake P H σ o t l c)
  | .fieldAddr s x f => match opRawField P σ o s x f with
    | some r => tr (some r)
    | none => tr (opFieldAddr P σ o s x f)
  | .field t x f => tr (opField P σ o t x f)
  | .nilCheck x => match opRawNil σ o x with
    | some r => tr (some r)
    | none => tr (opNilCheck σ o x)
  | .indexAddr t x ix => match opIndexArr P σ o t x ix with
    | some r => nt (some r)
    | none => match opRawIndex P σ o t x ix with
    | some r => nt (some r)
    | none => match ev σ x with
      | .ptr _ _ => tr (opIndexAddr P H σ o t x ix)
      | _ => nt (opIndexAddr P H σ o t x ix)
  | .index t x ix => match ev σ x with
    | .agg _ => tr (opIndex P σ o t x ix)
    | _ => nt (opIndex P σ o t x ix)
  | .extract x n => tr (opExtract σ o x n)
  | .makeInterface t x => tr (opIface P σ o t x)
  | .makeFunc f first caps => tr (opFunc σ o f first caps)
  | .slice t x lo hi mx => match lo, hi, mx with
    | none, some h, none => match ev σ x with
      | .vec _ => nt (opSliceVec P σ o t x h)
      | _ => match opSlice P σ o t x none (some h) none with
        | some r => nt (some r)
        | none => nt (opRawSlice P σ o t x h)
    | lo, some h, some m => nt (opSlice3 P σ o t x lo h m)
    | lo, hi, none => nt (opSlice P σ o t x lo hi none)
    | _, _, _ => none
  | .binOp op t x y _ => match arithOp op with
    | true => match opBinW H σ o op x y with
      | some r => nt (some r)
      | none => nt (opBin σ o op x y)
    | false => match opBin σ o op x y with
      | some r => tr (some r)
      | none => tr (opNil P σ o op t x y)
  | .unOp op _ x => match op with
    | .not => tr (opUn σ o .not x)
    | op => nt (opUn σ o op x)
  | .convert s d x => nt (opConv P σ o s d x)
  | .call c => match c.callee, c.args.toList, c.argTypes.toList with
    | .builtin .len, [x], [t] => match opLenArr P σ o x t with
      | some r => tr (some r)
      | none => match opLen P σ o x t with
        | some r => tr (some r)
        | none => tr (opRawLen P σ o x t)
    | .builtin .cap, [x], [t] => tr (opRawCap P σ o x t)
    | .builtin .min, [x, y], _ => tr (opMinMax σ o false x y)
    | .builtin .max, [x, y], _ => tr (opMinMax σ o true x y)
    | .builtin .append, [s, x], [t, t'] => match Nat.beq t t' with
      | true => match opAppendArr P σ o s x t with
        | some r => nt (some r)
        | none => match isPc (ev σ s) with
          | true => nt (opAppendF P σ o s x t)
          | false => nt (opAppend P σ o s x t)
      | false => none
    | _, _, _ => none
  | _ => none
theorem tr_eq {r : Option (St × Prop)} {σ' : St} {ps : List Prop} (h : tr r = some (σ', ps)) : ∃ vc, r = some (σ', vc) := by
  unfold tr at h; split at h
  · simp only [Option.some.injEq, Prod.mk.injEq] at h; obtain ⟨rfl, _⟩ := h; exact ⟨_, rfl⟩
  · cases h
theorem nt_eq {r : Option (St × Prop)} {σ' : St} {ps : List Prop} (h : nt r = some (σ', ps)) (hp : allP ps) : ∃ vc, r = some (σ', vc) ∧ vc := by
  unfold nt at h; split at h
  · simp only [Option.some.injEq, Prod.mk.injEq] at h; obtain ⟨rfl, rfl⟩ := h; exact ⟨_, rfl, hp.1⟩
  · cases h
theorem opLoad_triv {P : Program} {H : Hint} {σ σ' : St} {o : Oper} {t : TypeId} {x : Operand} {vc : Prop} (hn : ∀ k sz i off, ev σ x ≠ .vptr k sz i off) (hf : opLoad P H σ o t x = some (σ', vc)) : vc := by
  unfold opLoad at hf
  split at hf
  · split at hf
    · split at hf
      · simp only [Option.some.injEq, Prod.mk.injEq] at hf; rw [← hf.2]; trivial
      · cases hf
    · cases hf
  · split at hf
    · simp only [Option.some.injEq, Prod.mk.injEq] at hf; rw [← hf.2]; trivial
    · cases hf
  · rename_i he; exact absurd he (hn _ _ _ _)
  · cases hf
theorem opStore_triv {P : Program} {H : Hint} {σ σ' : St} {o : Oper} {t : TypeId} {x y : Operand} {vc : Prop} (hn : ∀ k sz i off, ev σ x ≠ .vptr k sz i off) (hf : opStore P H σ o t x y = some (σ', vc)) : vc := by
  unfold opStore at hf
  split at hf
  · split at hf
    · split at hf
      · split at hf
        · split at hf
          · simp only [Option.some.injEq, Prod.mk.injEq] at hf; rw [← hf.2]; trivial
          · cases hf
        · cases hf
      · rename_i he; exact absurd he (hn _ _ _ _)
      · cases hf
    · cases hf
  · cases hf
theorem opIndexAddr_triv {P : Program} {H : Hint} {σ σ' : St} {o : Oper} {t : TypeId} {x ix : Operand} {vc : Prop} {k off : Nat} (hn : ev σ x = .ptr k off) (hf : opIndexAddr P H σ o t x ix = some (σ', vc)) : vc := by
  unfold opIndexAddr at hf
  split at hf
  · split at hf
    · rename_i he _; rw [hn] at he; cases he
    · rename_i he _; rw [hn] at he; cases he
    · split at hf
      · split at hf
        · simp only [Option.some.injEq, Prod.mk.injEq] at hf; rw [← hf.2]; trivial
        · cases hf
      · cases hf
    · cases hf
  · cases hf
theorem opIndex_triv {P : Program} {σ σ' : St} {o : Oper} {t : TypeId} {x ix : Operand} {vc : Prop} {xs : List SV} (hn : ev σ x = .agg xs) (hf : opIndex P σ o t x ix = some (σ', vc)) : vc := by
  unfold opIndex at hf
  split at hf
  · split at hf
    · split at hf
      · split at hf
        · simp only [Option.some.injEq, Prod.mk.injEq] at hf; rw [← hf.2]; trivial
        · cases hf
      · cases hf
    · rename_i he _; rw [hn] at he; cases he
    · cases hf
  · cases hf
theorem opBin_triv {σ σ' : St} {o : Oper} {op : BinOp} {x y : Operand} {vc : Prop} (hn : arithOp op = false) (hf : opBin σ o op x y = some (σ', vc)) : vc := by
  unfold opBin at hf
  split at hf
  · split at hf
    · split at hf
      · rename_i hr; cases op <;> simp [arith, arithOp] at hr hn
      · split at hf
        · simp only [Option.some.injEq, Prod.mk.injEq] at hf; rw [← hf.2]; trivial
        · split at hf <;> first | (simp [arithOp] at hn; done) | cases hf
    · cases hf
  · split at hf
    · split at hf
      · simp only [Option.some.injEq, Prod.mk.injEq] at hf; rw [← hf.2]; trivial
      · split at hf <;> first | (simp [arithOp] at hn; done) | cases hf
    · cases hf
theorem toList_one {α : Type} {xs : Array α} {x : α} (h : xs.toList = [x]) : xs = #[x] := Array.ext' h
theorem toList_two {α : Type} {xs : Array α} {x y : α} (h : xs.toList = [x, y]) : xs = #[x, y] := Array.ext' h
theorem aop_sound {C : Ctx} {H : Hint} {σ σ' : St} {a : Act} {w : World} {o : Oper} {ps : List Prop} (hf : aop C.P H σ o = some (σ', ps)) (hp : allP ps) (h : Holds C σ a w) (hd : DstOk C o) : OpOut C o σ' a w := by
  obtain ⟨E, h⟩ := h
  unfold aop at hf
  split at hf
  · rename_i ho; obtain ⟨_, hq⟩ := tr_eq hf; exact opMove_sound (.inl ho) hq h hd
  · rename_i ho; obtain ⟨_, hq⟩ := tr_eq hf; exact opMove_sound (.inr ho) hq h hd
  · rename_i ho; obtain ⟨_, hq⟩ := tr_eq hf; exact opPick_sound ho hq h hd
  · rename_i ho; obtain ⟨_, hq⟩ := tr_eq hf; exact opAlloc_sound ho hq h hd
  · rename_i ho; obtain ⟨_, hq⟩ := tr_eq hf; exact opBox_sound ho hq h hd
  · rename_i ho; obtain ⟨_, hq⟩ := tr_eq hf; exact opBuild_sound ho hq h hd
  · rename_i ho; obtain ⟨_, hq⟩ := tr_eq hf; exact opBuildSlice_sound ho hq h hd
  · rename_i ho
    split at hf
    · rename_i r hr; obtain ⟨_, hq, hv⟩ := nt_eq hf hp; rw [hq] at hr; exact opLoadArr_sound ho hr hv h hd
    split at hf
    · rename_i r hr; obtain ⟨_, hq, hv⟩ := nt_eq hf hp; rw [hq] at hr; exact opRawLoad_sound ho hr hv h hd
    · split at hf
      · obtain ⟨_, hq, hv⟩ := nt_eq hf hp; exact opLoad_sound ho hq hv h hd
      · rename_i hn; obtain ⟨_, hq⟩ := tr_eq hf; exact opLoad_sound ho hq (opLoad_triv (fun _ _ _ _ he => hn _ _ _ _ he) hq) h hd
  · rename_i ho
    split at hf
    · rename_i r hr; obtain ⟨_, hq, hv⟩ := nt_eq hf hp; rw [hq] at hr; exact opStoreArr_sound ho hr hv h hd
    split at hf
    · rename_i r hr; obtain ⟨_, hq, hv⟩ := nt_eq hf hp; rw [hq] at hr; exact opRawStore_sound ho hr hv h hd
    · split at hf
      · obtain ⟨_, hq, hv⟩ := nt_eq hf hp; exact opStore_sound ho hq hv h hd
      · rename_i hn; obtain ⟨_, hq⟩ := tr_eq hf; exact opStore_sound ho hq (opStore_triv (fun _ _ _ _ he => hn _ _ _ _ he) hq) h hd
  · rename_i ho; obtain ⟨_, hq, hv⟩ := nt_eq hf hp; exact opMake_sound ho hq hv h hd
  · rename_i ho
    split at hf
    · rename_i r hr; obtain ⟨_, hq⟩ := tr_eq hf; rw [hq] at hr; exact opRawField_sound ho hr h hd
    · obtain ⟨_, hq⟩ := tr_eq hf; exact opFieldAddr_sound ho hq h hd
  · rename_i ho; obtain ⟨_, hq⟩ := tr_eq hf; exact opField_sound ho hq h hd
  · rename_i ho
    split at hf
    · rename_i r hr; obtain ⟨_, hq⟩ := tr_eq hf; rw [hq] at hr; exact opRawNil_sound ho hr h hd
    · obtain ⟨_, hq⟩ := tr_eq hf; exact opNilCheck_sound ho hq h hd
  · rename_i ho
    split at hf
    · rename_i r hr; obtain ⟨_, hq, hv⟩ := nt_eq hf hp; rw [hq] at hr; exact opIndexArr_sound ho hr hv h hd
    split at hf
    · rename_i r hr; obtain ⟨_, hq, hv⟩ := nt_eq hf hp; rw [hq] at hr; exact opRawIndex_sound ho hr hv h hd
    · split at hf
      · rename_i he; obtain ⟨_, hq⟩ := tr_eq hf; exact opIndexAddr_sound ho hq (opIndexAddr_triv he hq) h hd
      · obtain ⟨_, hq, hv⟩ := nt_eq hf hp; exact opIndexAddr_sound ho hq hv h hd
  · rename_i ho
    split at hf
    · rename_i he; obtain ⟨_, hq⟩ := tr_eq hf; exact opIndex_sound ho hq (opIndex_triv he hq) h hd
    · obtain ⟨_, hq, hv⟩ := nt_eq hf hp; exact opIndex_sound ho hq hv h hd
  · rename_i ho; obtain ⟨_, hq⟩ := tr_eq hf; exact opExtract_sound ho hq h hd
  · rename_i ho; obtain ⟨_, hq⟩ := tr_eq hf; exact opIface_sound ho hq h hd
  · rename_i ho; obtain ⟨_, hq⟩ := tr_eq hf; exact opFunc_sound ho hq h hd
  · rename_i ho
    split at hf
    · split at hf
      · obtain ⟨_, hq, hv⟩ := nt_eq hf hp; exact opSliceVec_sound ho hq hv h hd
      · split at hf
        · rename_i r hr; obtain ⟨_, hq, hv⟩ := nt_eq hf hp; rw [hq] at hr; exact opSlice_sound ho hr hv h hd
        · obtain ⟨_, hq, hv⟩ := nt_eq hf hp; exact opRawSlice_sound ho hq hv h hd
    · obtain ⟨_, hq, hv⟩ := nt_eq hf hp; exact opSlice3_sound ho hq hv h hd
    · obtain ⟨_, hq, hv⟩ := nt_eq hf hp; exact opSlice_sound ho hq hv h hd
    · cases hf
  · rename_i ho
    split at hf
    · split at hf
      · rename_i r hr
        obtain ⟨_, hq, hv⟩ := nt_eq hf hp
        rw [hq] at hr
        exact opBinW_sound ho hr hv h hd
      · obtain ⟨_, hq, hv⟩ := nt_eq hf hp; exact opBin_sound ho hq hv h hd
    · rename_i hn
      split at hf
      · rename_i r hr
        obtain ⟨_, hq⟩ := tr_eq hf
        rw [hq] at hr
        exact opBin_sound ho hr (opBin_triv hn hr) h hd
      · obtain ⟨_, hq⟩ := tr_eq hf; exact opNil_sound ho hq h hd
  · rename_i op t x ho
    split at hf
    · obtain ⟨_, hq⟩ := tr_eq hf; exact opUn_sound ho hq (by unfold opUn at hq; split at hq <;> simp_all) h hd
    · obtain ⟨_, hq, hv⟩ := nt_eq hf hp; exact opUn_sound ho hq hv h hd
  · rename_i ho; obtain ⟨_, hq, hv⟩ := nt_eq hf hp; exact opConv_sound ho hq hv h hd
  · rename_i c ho
    split at hf
    · rename_i x t hc ha ht
      have ho' : o.op = .call { callee := .builtin .len, args := #[x], argTypes := #[t] } := by
        rw [ho]; obtain ⟨cc, ca, ct⟩ := c; simp only at hc ha ht; subst hc; rw [toList_one ha, toList_one ht]
      split at hf
      · rename_i r hr; obtain ⟨_, hq⟩ := tr_eq hf; rw [hq] at hr; exact opLenArr_sound ho' hr h hd
      split at hf
      · rename_i r hr; obtain ⟨_, hq⟩ := tr_eq hf; rw [hq] at hr; exact opLen_sound ho' hr h hd
      · obtain ⟨_, hq⟩ := tr_eq hf; exact opRawLen_sound ho' hq h hd
    · rename_i x t hc ha ht
      have ho' : o.op = .call { callee := .builtin .cap, args := #[x], argTypes := #[t] } := by
        rw [ho]; obtain ⟨cc, ca, ct⟩ := c; simp only at hc ha ht; subst hc; rw [toList_one ha, toList_one ht]
      obtain ⟨_, hq⟩ := tr_eq hf; exact opRawCap_sound ho' hq h hd
    · rename_i x y hc ha
      obtain ⟨_, hq⟩ := tr_eq hf
      refine opMin_sound (ts := c.argTypes) (x := x) (y := y) ?_ hq h hd
      rw [ho]; obtain ⟨cc, ca, ct⟩ := c; simp only at hc ha; subst hc; rw [toList_two ha]
    · rename_i x y hc ha
      obtain ⟨_, hq⟩ := tr_eq hf
      refine opMax_sound (ts := c.argTypes) (x := x) (y := y) ?_ hq h hd
      rw [ho]; obtain ⟨cc, ca, ct⟩ := c; simp only at hc ha; subst hc; rw [toList_two ha]
    · rename_i s x t t' hc ha ht
      split at hf
      · rename_i htt
        have := Nat.eq_of_beq_eq_true htt; subst this
        have ho' : o.op = .call { callee := .builtin .append, args := #[s, x], argTypes := #[t, t] } := by
          rw [ho]; obtain ⟨cc, ca, ct⟩ := c; simp only at hc ha ht; subst hc; rw [toList_two ha, toList_two ht]
        split at hf
        · rename_i r hr; obtain ⟨_, hq, hv⟩ := nt_eq hf hp; rw [hq] at hr; exact opAppendArr_sound ho' hr hv h hd
        · split at hf
          · obtain ⟨_, hq, hv⟩ := nt_eq hf hp; exact opAppendF_sound ho' hq hv h hd
          · obtain ⟨_, hq, hv⟩ := nt_eq hf hp; exact opAppend_sound ho' hq hv h hd
      · cases hf
    · cases hf
  · cases hf
def wantedS (σ : St) (ops : List Oper) (o : Oper) : Option Bool :=
  match o.guard with
  | none => some true
  | some (j, want) => match ops[j]? with
    | some oj => match oj.dst with
      | some t => match lk σ.slots t with
        | some (.p (.v (.bool b)) _) => some (b == want)
        | _ => none
      | none => none
    | none => none
def dstB (n : Nat) (o : Oper) : Bool :=
  match o.dst with
  | some d => Nat.ble (d + 1) n
  | none => true
def lift (C : Ctx) (Q : Exit → St → Prop) : Exit → Act → World → Prop := fun e a w => ∃ σ, Q e σ ∧ Holds C σ a w
theorem wantedS_eq {C : Ctx} {σ : St} {a : Act} {w : World} {ops : Array Oper} {o : Oper} {b : Bool} (h : Holds C σ a w) (hd : ∀ o ∈ ops.toList, ∀ d, o.dst = some d → d < C.n)
    (hb : wantedS σ ops.toList o = some b) : Region.wanted o (yielded ops a.tmps) = b := by
  obtain ⟨E, h⟩ := h
  unfold wantedS at hb
  unfold Region.wanted
  split at hb
  · rename_i hg; rw [hg]; simp at hb; rw [hb]
  · rename_i j want hg
    rw [hg]
    split at hb
    · rename_i oj hoj
      split at hb
      · rename_i t ht
        split at hb
        · rename_i bb fr hl
          have h1 := VR_v_eq (h.slots t _ hl)
          have hoj' : ops[j]? = some oj := by simpa using hoj
          have hlt : t < a.tmps.size := by rw [h.size]; exact hd oj (List.mem_of_getElem? hoj) t ht
          have h2 : a.tmps[t]? = some (.bool bb) := by
            rw [Array.getD_eq_getD_getElem?] at h1
            rw [Array.getElem?_eq_getElem hlt] at h1 ⊢
            simpa using h1
          simp only [Option.some.injEq] at hb
          simp only [yielded, hoj', Option.bind_some, ht, h2]
          rw [← hb]; cases bb <;> cases want <;> rfl
        · cases hb
      · cases hb
    · cases hb
def mkC (P : Program) (n : Nat) (lo : Nat) (w0 : World) (E0 : Env) : Ctx := ⟨P, lo, w0, E0, n⟩
def AOps (P : Program) (n : Nat) (ops : Array Oper) (is : List Nat) (σ : St) (Q : Exit → St → Prop) : Prop :=
  ∀ lo w0 E0 a w, Holds (mkC P n lo w0 E0) σ a w → wpOps P ops (lift (mkC P n lo w0 E0) Q) is a w
def AWP (P : Program) (n : Nat) (c : Code) (σ : St) (Q : Exit → St → Prop) : Prop :=
  ∀ lo w0 E0 a w, Holds (mkC P n lo w0 E0) σ a w → c.wp P (lift (mkC P n lo w0 E0) Q) a w
theorem wpOps_step {P : Program} {ops : Array Oper} {Q : Exit → Act → World → Prop} {i : Nat} {rest : List Nat} {a : Act} {w : World} {o : Oper} (ho : ops[i]? = some o)
    (hw : Region.wanted o (yielded ops a.tmps) = true) (h : o.wp P a w (wpOps P ops Q rest) Q) : wpOps P ops Q (i :: rest) a w := by
  simp only [wpOps, ho, hw, if_true]; exact .inl h
theorem wpOps_skip {P : Program} {ops : Array Oper} {Q : Exit → Act → World → Prop} {i : Nat} {rest : List Nat} {a : Act} {w : World} {o : Oper} (ho : ops[i]? = some o)
    (hw : Region.wanted o (yielded ops a.tmps) = false) (h : wpOps P ops Q rest (a.put o.dst undef) w) : wpOps P ops Q (i :: rest) a w := by
  simp only [wpOps, ho, hw, Bool.false_eq_true, if_false]; exact h
theorem holds_u {C : Ctx} {σ : St} {a : Act} {w : World} {dst : Option Nat} (h : Holds C σ a w) (hd : ∀ d, dst = some d → d < C.n) : Holds C (σ.put dst .u) (a.put dst undef) w := by
  obtain ⟨E, h⟩ := h
  exact ⟨E, h.upd (Fr.refl w E) (fun _ _ h => h) (fun _ _ h => h) h.tab dst hd fun _ _ => by simp [VR]⟩
def dstsB (n : Nat) : List Oper → Bool
  | [] => true
  | o :: os => match dstB n o with | true => dstsB n os | false => false
theorem dstB_ok {n : Nat} {o : Oper} (h : dstB n o = true) : ∀ d, o.dst = some d → d < n := by
  intro d hd
  unfold dstB at h
  rw [hd] at h
  exact Nat.le_of_ble_eq_true h
theorem dstsB_ok {n : Nat} : ∀ {os : List Oper}, dstsB n os = true → ∀ o ∈ os, ∀ d, o.dst = some d → d < n
  | [], _, o, ho, _, _ => by simp at ho
  | x :: os, h, o, ho, d, hd => by
    simp only [dstsB] at h
    cases hx : dstB n x with
    | false => simp [hx] at h
    | true =>
      simp only [hx] at h
      rcases List.mem_cons.1 ho with rfl | ho
      · exact dstB_ok hx d hd
      · exact dstsB_ok h o ho d hd
theorem aops_nil {P : Program} {n : Nat} {ops : Array Oper} {σ : St} {Q : Exit → St → Prop} (h : Q .normal σ) : AOps P n ops [] σ Q := by
  intro lo w0 E0 a w hh
  exact ⟨σ, h, hh⟩
def Imp (P : Program) (n : Nat) (σ σ' : St) : Prop := ∀ lo w0 E0 a w, Holds (mkC P n lo w0 E0) σ a w → Holds (mkC P n lo w0 E0) σ' a w
theorem AOps.imp {P : Program} {n : Nat} {ops : Array Oper} {is : List Nat} {σ σ' : St} {Q : Exit → St → Prop} (h : Imp P n σ σ') (k : AOps P n ops is σ' Q) : AOps P n ops is σ Q :=
  fun lo w0 E0 a w hh => k lo w0 E0 a w (h lo w0 E0 a w hh)
theorem AWP.imp {P : Program} {n : Nat} {c : Code} {σ σ' : St} {Q : Exit → St → Prop} (h : Imp P n σ σ') (k : AWP P n c σ' Q) : AWP P n c σ Q :=
  fun lo w0 E0 a w hh => k lo w0 E0 a w (h lo w0 E0 a w hh)
theorem awp_region {P : Program} {n id : Nat} {ops : Array Oper} {σ : St} {Q : Exit → St → Prop} (h : AOps P n ops (List.range ops.size) σ Q) : AWP P n (.region id ops false) σ Q :=
  fun lo w0 E0 a w hh => wp_region (h lo w0 E0 a w hh)
theorem awp_seq {P : Program} {n : Nat} {x y : Code} {σ : St} {Q : Exit → St → Prop} (h : AWP P n x σ fun e s => match e with | .normal => AWP P n y s Q | e => Q e s) : AWP P n (.seq x y) σ Q := by
  intro lo w0 E0 a w hh
  refine wp_seq (wp_mono (h lo w0 E0 a w hh) ?_)
  rintro e a' w' ⟨s, hq, hs⟩
  cases e <;> first | exact ⟨s, hq, hs⟩ | exact hq lo w0 E0 a' w' hs
theorem awp_skip {P : Program} {n : Nat} {σ : St} {Q : Exit → St → Prop} (h : Q .normal σ) : AWP P n .skip σ Q := fun _ _ _ _ _ hh => wp_skip ⟨σ, h, hh⟩
theorem awp_ret {P : Program} {n : Nat} {σ : St} {Q : Exit → St → Prop} (h : Q .ret σ) : AWP P n .ret σ Q := fun _ _ _ _ _ hh => wp_ret ⟨σ, h, hh⟩
theorem awp_exit {P : Program} {n id : Nat} {σ : St} {Q : Exit → St → Prop} (h : Q (.exit id) σ) : AWP P n (.exit id) σ Q := fun _ _ _ _ _ hh => wp_exit ⟨σ, h, hh⟩
theorem awp_block {P : Program} {n id : Nat} {c : Code} {σ : St} {Q : Exit → St → Prop} (h : AWP P n c σ fun e s => match e with | .exit id' => (match Nat.beq id' id with | true => Q .normal s | false => Q (.exit id') s) | e => Q e s) : AWP P n (.block id c) σ Q := by
  intro lo w0 E0 a w hh
  refine wp_block (wp_mono (h lo w0 E0 a w hh) ?_)
  rintro e a' w' ⟨s, hq, hs⟩
  cases e with
  | exit id' =>
    simp only [Exit.inBlock]
    simp only at hq
    cases hb : Nat.beq id' id with
    | true => rw [if_pos (Nat.eq_of_beq_eq_true hb)]; simp only [hb] at hq; exact ⟨s, hq, hs⟩
    | false => rw [if_neg (beq_false hb)]; simp only [hb] at hq; exact ⟨s, hq, hs⟩
  | _ => exact ⟨s, hq, hs⟩
def boolOp (σ : St) (c : Operand) : Option Bool :=
  match ev σ c with
  | .p (.v (.bool b)) _ => some b
  | _ => none
theorem boolOp_ev {C : Ctx} {σ : St} {a : Act} {w : World} {c : Operand} {b : Bool} (h : Holds C σ a w) (hb : boolOp σ c = some b) : a.eval c = .bool b := by
  obtain ⟨E, h⟩ := h
  unfold boolOp at hb
  split at hb
  · rename_i b' fr he
    simp only [Option.some.injEq] at hb; subst hb
    exact ev_v h he
  · cases hb
theorem awp_cond {P : Program} {n : Nat} {c : Operand} {x y : Code} {σ : St} {Q : Exit → St → Prop} (b : Bool) (hb : boolOp σ c = some b) (h1 : b = true → AWP P n x σ Q) (h2 : b = false → AWP P n y σ Q) : AWP P n (.cond c x y) σ Q :=
  fun lo w0 E0 a w hh => wp_cond_split (boolOp_ev hh hb) (fun e => h1 e lo w0 E0 a w hh) (fun e => h2 e lo w0 E0 a w hh)
theorem awp_loop {P : Program} {n : Nat} {c : Code} {σ : St} {Q : Exit → St → Prop} {α : Type} (I : α → St) (K : α → Prop) (μ : α → Nat) (x0 : α) (h0 : Imp P n σ (I x0)) (hK : K x0)
    (h : ∀ x, K x → AWP P n c (I x) fun e s => match e with | .normal => ∃ x', K x' ∧ μ x' < μ x ∧ Imp P n s (I x') | e => Q e s) : AWP P n (.loop c) σ Q := by
  intro lo w0 E0 a w hh
  intro b k cs
  have key : ∀ m a w x, K x → μ x = m → Holds (mkC P n lo w0 E0) (I x) a w →
      ∃ e a' w', lift (mkC P n lo w0 E0) Q e a' w' ∧ Arrives P (lone (b.at a (.code c :: .inLoop c :: k)) cs w) b k cs e a' w' := by
    intro m
    induction m using Nat.strongRecOn with
    | _ m ih =>
      intro a w x hx hm hs
      obtain ⟨e, a₁, w₁, ⟨s, hq, hs₁⟩, harr⟩ := h x hx lo w0 E0 a w hs b (.inLoop c :: k) cs
      cases e with
      | normal =>
        obtain ⟨x', hx', hlt, himp⟩ := hq
        obtain ⟨e₂, a₂, w₂, hq₂, harr₂⟩ := ih (μ x') (hm ▸ hlt) a₁ w₁ x' hx' rfl (himp lo w0 E0 a₁ w₁ hs₁)
        exact ⟨e₂, a₂, w₂, hq₂, .of_steps (Steps.trans harr (.one step_inLoop)) harr₂⟩
      | exit id => exact ⟨_, a₁, w₁, ⟨s, hq, hs₁⟩, .pass (x := .inLoop c) rfl (fun _ _ => .inl (by simp)) harr⟩
      | goto l => exact ⟨_, a₁, w₁, ⟨s, hq, hs₁⟩, .pass (x := .inLoop c) rfl (fun _ _ => .inl (by simp)) harr⟩
      | ret => exact ⟨_, a₁, w₁, ⟨s, hq, hs₁⟩, .pass (x := .inLoop c) rfl (fun _ _ => .inl (by simp)) harr⟩
      | panic ch => exact ⟨_, a₁, w₁, ⟨s, hq, hs₁⟩, .pass (x := .inLoop c) rfl (fun _ _ => .inl (by simp)) harr⟩
      | outgrown => exact ⟨_, a₁, w₁, ⟨s, hq, hs₁⟩, .pass (x := .inLoop c) rfl (fun _ _ => .inl (by simp)) harr⟩
  obtain ⟨e, a', w', hq, harr⟩ := key _ a w x0 hK rfl (h0 lo w0 E0 a w hh)
  exact ⟨e, a', w', hq, .of_steps (.one step_loop) harr⟩
def FnS (P : Program) (f : FuncId) (args : List SV) (T : Tab) (R : SV → Tab → Prop) : Prop :=
  ∀ lo w E vals, lo ≤ w.heap.size → TabOK w E lo T → VRs w E lo args vals →
    Calls P f vals.toArray w fun e w' => ∃ r v T' E', e = .returned v ∧ R r T' ∧ Fr w E w' E' ∧ TabOK w' E' lo T' ∧ VR w' E' lo r v ∧ ∀ k x, E.val k = some x → E'.val k = some x ∨ E'.val k = none
def slotsFrom : Nat → List SV → List (Nat × SV)
  | _, [] => []
  | k, x :: xs => (k, x) :: slotsFrom (k + 1) xs
theorem lk_slotsFrom : ∀ (xs : List SV) (k t : Nat), lk (slotsFrom k xs) t = if k ≤ t then xs[t - k]? else none
  | [], k, t => by simp [slotsFrom, lk]
  | x :: xs, k, t => by
    simp only [slotsFrom, lk]
    cases hb : Nat.beq k t with
    | true => have := Nat.eq_of_beq_eq_true hb; subst this; simp
    | false =>
      have hne := beq_false hb
      simp only
      rw [lk_slotsFrom xs (k + 1) t]
      by_cases hle : k ≤ t
      · rw [if_pos (by omega), if_pos hle, show t - k = (t - (k + 1)) + 1 by omega]; rfl
      · rw [if_neg (by omega), if_neg hle]
def idsB (n : Nat) : Tab → Bool
  | [] => true
  | (k, _) :: r => match Nat.ble n k with | true => idsB n r | false => false
theorem idsB_ok {n : Nat} : ∀ {T : Tab}, idsB n T = true → ∀ k, lk T k ≠ none → n ≤ k
  | [], _, k, h => by simp [lk] at h
  | (j, x) :: r, hb, k, h => by
    simp only [idsB] at hb
    cases hq : Nat.ble n j with
    | false => simp [hq] at hb
    | true =>
      simp only [hq] at hb
      simp only [lk] at h
      cases hjk : Nat.beq j k with
      | true => have := Nat.eq_of_beq_eq_true hjk; subst this; exact Nat.le_of_ble_eq_true hq
      | false => simp only [hjk] at h; exact idsB_ok hb k h
def resOf (P : Program) (σ : St) : ResultVar → Option SV
  | .tmp t => some (σ.get t)
  | .cell x t => match σ.get x with
    | .ptr k off => match lk σ.tab k with
      | some (.box _ cells) => loadOut P t off cells
      | _ => none
    | _ => none
def resList (P : Program) (σ : St) : List ResultVar → Option (List SV)
  | [] => some []
  | r :: rs => match resOf P σ r, resList P σ rs with
    | some x, some xs => some (x :: xs)
    | _, _ => none
def runRes (tmps : Array Value) : ResultVar → Sem Value
  | .tmp t => pure (tmps.getD t undef)
  | .cell a t => do loadVar t (← asAddr (tmps.getD a undef))
theorem resOf_run {C : Ctx} {E : Env} {σ : St} {a : Act} {w : World} {r : ResultVar} {sv : SV} (h : HoldsE C E σ a w) (hr : resOf C.P σ r = some sv) : ∃ v, (runRes a.tmps r).run C.P w = .ok v w ∧ VR w E C.lo sv v := by
  cases r with
  | tmp t => simp only [resOf, Option.some.injEq] at hr; subst hr; exact ⟨_, rfl, ev_rep h (.tmp t)⟩
  | cell x t =>
    simp only [resOf] at hr
    split at hr
    · rename_i k off he
      split at hr
      · rename_i bt cells hl
        have hev := ev_rep h (.tmp x)
        simp only [ev, he, VR] at hev
        obtain ⟨b, hb, hx⟩ := hev
        obtain ⟨b', vs, h1, h2, h3, h4⟩ := h.tab.obj k _ hl
        rw [hb] at h1; simp at h1; subst h1
        obtain ⟨v, hr', hv⟩ := load_rep (P := C.P) (b := b) (o := 0) h4 (fun j v hj => by rw [cell_at h3]; simpa using hj) hr
        refine ⟨v, ?_, hv⟩
        simp only [Nat.zero_add] at hr'
        simp only [Act.eval] at hx
        simp only [runRes, Sem.run_bind, hx, asAddr, Sem.run_pure, Result.andThen_ok]
        simpa [Instr.loadAt, Instr.sureAddr] using hr'
      · cases hr
    · cases hr
theorem resList_run {C : Ctx} {E : Env} {σ : St} {a : Act} {w : World} (h : HoldsE C E σ a w) : ∀ (rs : List ResultVar) (xs : List SV), resList C.P σ rs = some xs → ∃ vs : List Value, (rs.mapM (runRes a.tmps)).run C.P w = .ok vs w ∧ VRs w E C.lo xs vs
  | [], xs, hr => by simp only [resList, Option.some.injEq] at hr; subst hr; exact ⟨[], rfl, VRs_nil⟩
  | r :: rs, xs, hr => by
    simp only [resList] at hr
    split at hr
    · rename_i x ys h1 h2
      simp only [Option.some.injEq] at hr; subst hr
      obtain ⟨v, hv, hvr⟩ := resOf_run h h1
      obtain ⟨vs, hvs, hvrs⟩ := resList_run h rs ys h2
      exact ⟨v :: vs, by simp [List.mapM_cons, hv, hvs], VRs_cons hvr hvrs⟩
    · cases hr
end Go.TL
