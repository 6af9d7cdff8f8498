/- What one operation makes of the state: places in lists, parts, numbers, strings, interfaces, functions. -/
import Derived.Test.YtaaimmmofkldbaaWl03
import Derived.Laws.MakeOwn
namespace Go.TL
def intLit : Int → Option Nat
  | .ofNat n => some n
  | _ => none
def opIndexAddr (P : Program) (H : Hint) (σ : St) (o : Oper) (t : TypeId) (x ix : Operand) : Option (St × Prop) :=
  match intOf (ev σ ix), o.dst with
  | some n, some d => match ev σ x, P.underlying t with
    | .p (.sl rows) fr, some (.slice e) => match lk H.ld d, P.info? e with
      | some row, some i => match Nat.beq row.length i.size with
        | true => some (σ.put o.dst (.pd row 0 fr), 0 ≤ n ∧ rows[n.toNat]? = some row)
        | false => none
      | _, _ => none
    | .vec k, some (.slice e) => match lk σ.tab k, P.info? e with
      | some (.vec _ sz rows _), some i => match Nat.beq sz i.size with
        | true => some (σ.put o.dst (.vptr k sz n.toNat 0), 0 ≤ n ∧ n < (rows.length : Int))
        | false => none
      | _, _ => none
    | .ptr k off, some (.array len e) => match P.info? e, intLit n with
      | some i, some m => match Nat.ble (m + 1) len with
        | true => some (σ.put o.dst (.ptr k (off + m * i.size)), True)
        | false => none
      | _, _ => none
    | _, _ => none
  | _, _ => none
theorem run_indexAt_slice {P : Program} {w : World} {t e : TypeId} {i : TypeInfo} {a : Addr} {len cap : Nat} {k : IntKind} {n : Int} (hu : P.underlying t = some (.slice e)) (hi : P.info? e = some i) (h0 : 0 ≤ n) (h1 : n < (len : Int)) :
    (Instr.indexAt t (.slice (some a) len cap) (.int k n)).run P w = .ok (.pointer (some (a.add (n.toNat * i.size)))) w := by
  simp [Instr.indexAt, asIntOf, run_underlying hu, h0, h1, sizeOf, typeInfo, hi]
theorem opIndexAddr_sound {C : Ctx} {H : Hint} {E : Env} {σ σ' : St} {a : Act} {w : World} {o : Oper} {t : TypeId} {x ix : Operand} {vc : Prop} (ho : o.op = .indexAddr t x ix)
    (hf : opIndexAddr C.P H σ o t x ix = some (σ', vc)) (hvc : vc) (h : HoldsE C E σ a w) (hd : DstOk C o) : OpOut C o σ' a w := by
  have hev := ev_rep h x
  unfold opIndexAddr at hf
  split at hf
  · rename_i n d hn hdst
    obtain ⟨kk, hix⟩ := intOf_ev h hn
    split at hf
    · rename_i rows fr e he hu
      split at hf
      · rename_i row i hrow hi
        split at hf
        · rename_i hlen
          have hlen' := Nat.eq_of_beq_eq_true hlen
          simp only [Option.some.injEq, Prod.mk.injEq] at hf; obtain ⟨rfl, rfl⟩ := hf
          obtain ⟨h0, hr⟩ := hvc
          rw [he] at hev; simp only [VR] at hev
          have hlt : n.toNat < rows.length := (List.getElem?_eq_some_iff.1 hr).1
          generalize hv : a.eval x = v at hev
          cases hev with
          | nil b c => simp at hlt
          | sl _ b off cap cs t' fz sz f hcap hb hbad hlo hfz hl hc hrr =>
            have hsz : sz = i.size := by rw [← hlen', hl _ _ hr]
            subst hsz
            refine out_pure h hd (v := .pointer (some ⟨b, off + n.toNat * i.size, none⟩)) ?_ ?_
            · simp [execOp, ho, hv, hix, run_indexAt_slice (P := C.P) (w := w) (k := kk) hu hi h0 (show n < (rows.length : Int) by omega), Addr.add_lit]
            · simp only [VR]
              exact ⟨b, off + n.toNat * i.size, rfl, cs, t', fz, f n.toNat, hb, hbad, hlo, fun j y hj => hc _ _ _ _ hr hj, fun j y hj => hrr _ _ _ _ hr hj⟩
        · cases hf
      · cases hf
    · rename_i k e he hu
      split at hf
      · rename_i t' sz rows fr i hl hi
        split at hf
        · rename_i hsz
          have hsz' := Nat.eq_of_beq_eq_true hsz
          simp only [Option.some.injEq, Prod.mk.injEq] at hf; obtain ⟨rfl, rfl⟩ := hf
          obtain ⟨h0, hlt⟩ := hvc
          rw [he] at hev; simp only [VR] at hev
          obtain ⟨v, xs, h1, h2, h3, h4, h5⟩ := h.tab.obj _ _ hl
          rw [hev.1] at h1; cases h1
          rcases h3.2 with ⟨_, hz⟩ | ⟨g, cap, cur, hv, _⟩
          · omega
          · refine out_pure h hd (v := .pointer (some ⟨g, n.toNat * sz, none⟩)) ?_ ?_
            · simp [execOp, ho, hv, hix, run_indexAt_slice (P := C.P) (w := w) (k := kk) hu hi h0 hlt, Addr.add_lit, hsz']
            · simp only [VR]
              rw [hv] at hev
              exact ⟨g, _, _, hev.1, by simp⟩
        · cases hf
      · cases hf
    · rename_i k off len e he hu
      split at hf
      · rename_i i m hi hm
        split at hf
        · rename_i hle
          have hle' := Nat.le_of_ble_eq_true hle
          simp only [Option.some.injEq, Prod.mk.injEq] at hf; obtain ⟨rfl, _⟩ := hf
          rw [he] at hev; simp only [VR] at hev
          obtain ⟨b, hb, hx⟩ := hev
          have hnm : n = (m : Int) := by
            unfold intLit at hm; split at hm
            · simp only [Option.some.injEq] at hm; subst hm; rfl
            · cases hm
          subst hnm
          refine out_pure h hd (v := .pointer (some ⟨b, off + m * i.size, none⟩)) ?_ (by simp only [VR]; exact ⟨b, hb, rfl⟩)
          have h2 : (m : Int) < (len : Int) := by omega
          have hlt : m < len := hle'
          simp [execOp, ho, hx, hix, Instr.indexAt, asIntOf, run_underlying hu, Instr.sureAddr, hlt, sizeOf, typeInfo, hi, Addr.add_lit]
        · cases hf
      · cases hf
    · cases hf
  · cases hf
def partOut (P : Program) (t : TypeId) (off : Nat) (cells : List SV) : Option SV := loadOut P t off cells
theorem part_rep {P : Program} {w : World} {E : Env} {lo : Nat} {t : TypeId} {off : Nat} {cells : List SV} {vs : List Value} {sv : SV} (hv : VRs w E lo cells vs) (hf : partOut P t off cells = some sv) :
    ∃ v, (part t vs.toArray off).run P w = .ok v w ∧ VR w E lo sv v := by
  unfold partOut loadOut at hf
  split at hf
  · rename_i i ha hi
    split at hf
    · rename_i hle
      have hle' := Nat.le_of_ble_eq_true hle
      simp only [Option.some.injEq] at hf; subst hf
      have hlen := VRs_length hv
      refine ⟨.agg ((vs.drop off).take i.size).toArray, ?_, by simp only [VR]; exact ⟨_, rfl, VRs_take _ (VRs_drop off hv)⟩⟩
      have hr := run_isAgg ha w
      have e : vs.toArray.extract off (off + i.size) = ((vs.drop off).take i.size).toArray := by
        apply Array.ext'; simp [List.extract_eq_take_drop]
      simp [part, hr, sizeOf, typeInfo, hi, e]
    · cases hf
  · rename_i i ha hi
    split at hf
    · rename_i x xs hsz hdr
      simp only [Option.some.injEq] at hf; subst hf
      have hd := VRs_drop off hv
      rw [hdr] at hd
      cases hvd : vs.drop off with
      | nil => rw [hvd] at hd; simp [VRs] at hd
      | cons v rest =>
        rw [hvd] at hd
        have hr := run_isAgg ha w
        have hg : vs[off]? = some v := by
          have : (vs.drop off)[0]? = some v := by rw [hvd]; rfl
          simpa [List.getElem?_drop] using this
        refine ⟨v, ?_, (VRs_cons_iff.1 hd).1⟩
        simp [part, hr, hg]
    · cases hf
  · cases hf
def fieldOff0 (P : Program) (s : TypeId) (f : Nat) : Option (Nat × TypeId) :=
  match P.underlying s with
  | some (.struct fields) => match fields.toList[f]? with
    | some fd => some (fd.offset, fd.type)
    | none => none
  | _ => none
def opField (P : Program) (σ : St) (o : Oper) (t : TypeId) (x : Operand) (f : Nat) : Option (St × Prop) :=
  match ev σ x, fieldOff0 P t f with
  | .agg xs, some (off, ft) => match partOut P ft off xs with
    | some sv => some (σ.put o.dst sv, True)
    | none => none
  | _, _ => none
theorem opField_sound {C : Ctx} {E : Env} {σ σ' : St} {a : Act} {w : World} {o : Oper} {t : TypeId} {x : Operand} {f : Nat} {vc : Prop} (ho : o.op = .field t x f)
    (hf : opField C.P σ o t x f = some (σ', vc)) (h : HoldsE C E σ a w) (hd : DstOk C o) : OpOut C o σ' a w := by
  have hev := ev_rep h x
  unfold opField at hf
  split at hf
  · rename_i xs off ft he hfo
    split at hf
    · rename_i sv hsv
      simp only [Option.some.injEq, Prod.mk.injEq] at hf; obtain ⟨rfl, _⟩ := hf
      rw [he] at hev; simp only [VR] at hev
      obtain ⟨vs, hx, hvs⟩ := hev
      obtain ⟨v, hr, hv⟩ := part_rep (P := C.P) hvs hsv
      unfold fieldOff0 at hfo
      split at hfo
      · rename_i fields hu
        split at hfo
        · rename_i fd hfd
          simp only [Option.some.injEq, Prod.mk.injEq] at hfo; obtain ⟨rfl, rfl⟩ := hfo
          have hfd' : fields[f]? = some fd := by simpa using hfd
          refine out_pure h hd (v := v) ?_ hv
          simp [execOp, ho, hx, Instr.field, run_underlying hu, hfd', asAgg, hr]
        · cases hfo
      · cases hfo
    · cases hf
  · cases hf
def opIndex (P : Program) (σ : St) (o : Oper) (t : TypeId) (x ix : Operand) : Option (St × Prop) :=
  match intOf (ev σ ix) with
  | some n => match ev σ x, P.underlying t with
    | .agg xs, some (.array len e) => match intLit n, P.info? e with
      | some m, some i => match Nat.ble (m + 1) len, partOut P e (m * i.size) xs with
        | true, some sv => some (σ.put o.dst sv, True)
        | _, _ => none
      | _, _ => none
    | .p (.v (.string s)) _, some .string => some (σ.put o.dst (.p (.v (.int .u8 ((s.data.toList.getD n.toNat 0).toNat : Int))) true), 0 ≤ n ∧ n < (s.size : Int))
    | _, _ => none
  | none => none
theorem opIndex_sound {C : Ctx} {E : Env} {σ σ' : St} {a : Act} {w : World} {o : Oper} {t : TypeId} {x ix : Operand} {vc : Prop} (ho : o.op = .index t x ix)
    (hf : opIndex C.P σ o t x ix = some (σ', vc)) (hvc : vc) (h : HoldsE C E σ a w) (hd : DstOk C o) : OpOut C o σ' a w := by
  have hev := ev_rep h x
  unfold opIndex at hf
  split at hf
  · rename_i n hn
    obtain ⟨kk, hix⟩ := intOf_ev h hn
    split at hf
    · rename_i xs len e he hu
      split at hf
      · rename_i m i hm hi
        split at hf
        · rename_i sv hle hsv
          have hle' := Nat.le_of_ble_eq_true hle
          simp only [Option.some.injEq, Prod.mk.injEq] at hf; obtain ⟨rfl, _⟩ := hf
          rw [he] at hev; simp only [VR] at hev
          obtain ⟨vs, hx, hvs⟩ := hev
          obtain ⟨v, hr, hv⟩ := part_rep (P := C.P) hvs hsv
          have hnm : n = (m : Int) := by
            unfold intLit at hm; split at hm
            · simp only [Option.some.injEq] at hm; subst hm; rfl
            · cases hm
          subst hnm
          have hlt : m < len := hle'
          refine out_pure h hd (v := v) ?_ hv
          simp [execOp, ho, hx, hix, Instr.index, asIntOf, run_underlying hu, hlt, sizeOf, typeInfo, hi, hr]
        · cases hf
      · cases hf
    · rename_i s fr he hu
      simp only [Option.some.injEq, Prod.mk.injEq] at hf; obtain ⟨rfl, rfl⟩ := hf
      have hx := ev_v h he
      have hlt : n.toNat < s.size := by have := hvc.1; have := hvc.2; omega
      refine out_pure h hd (v := .int .u8 ((s.data.toList.getD n.toNat 0).toNat : Int)) ?_ (VR_v true rfl)
      have hg : s[n.toNat]? = some (s.data.toList.getD n.toNat 0) := by
        rw [getElem?_pos s n.toNat hlt]
        congr 1
        have hlt' : n.toNat < s.data.size := hlt
        have e2 : s.data.toList.getD n.toNat 0 = s.data[n.toNat] := by
          rw [List.getD_eq_getElem?_getD, Array.getElem?_toList, Array.getElem?_eq_getElem hlt']; rfl
        rw [e2]; rfl
      simp [execOp, ho, hx, hix, Instr.index, asIntOf, run_underlying hu, hvc.1, hg]
    · cases hf
  · cases hf
def opExtract (σ : St) (o : Oper) (x : Operand) (n : Nat) : Option (St × Prop) :=
  match ev σ x with
  | .tup xs => match xs[n]? with
    | some sv => some (σ.put o.dst sv, True)
    | none => none
  | _ => none
theorem opExtract_sound {C : Ctx} {E : Env} {σ σ' : St} {a : Act} {w : World} {o : Oper} {x : Operand} {n : Nat} {vc : Prop} (ho : o.op = .extract x n)
    (hf : opExtract σ o x n = some (σ', vc)) (h : HoldsE C E σ a w) (hd : DstOk C o) : OpOut C o σ' a w := by
  have hev := ev_rep h x
  unfold opExtract at hf
  split at hf
  · rename_i xs he
    split at hf
    · rename_i sv hsv
      simp only [Option.some.injEq, Prod.mk.injEq] at hf; obtain ⟨rfl, _⟩ := hf
      rw [he] at hev; simp only [VR] at hev
      obtain ⟨vs, hx, hvs⟩ := hev
      obtain ⟨v, hv1, hv⟩ := VRs_get hvs hsv
      refine out_pure h hd (v := v) ?_ hv
      simp [execOp, ho, hx, Instr.extract, hv1]
    · cases hf
  · cases hf
def opIface (P : Program) (σ : St) (o : Oper) (t : TypeId) (x : Operand) : Option (St × Prop) :=
  match P.underlying t with
  | some (.interface _) => none
  | some _ => some (σ.put o.dst (.ifc t (ev σ x)), True)
  | none => none
theorem opIface_sound {C : Ctx} {E : Env} {σ σ' : St} {a : Act} {w : World} {o : Oper} {t : TypeId} {x : Operand} {vc : Prop} (ho : o.op = .makeInterface t x)
    (hf : opIface C.P σ o t x = some (σ', vc)) (h : HoldsE C E σ a w) (hd : DstOk C o) : OpOut C o σ' a w := by
  have hev := ev_rep h x
  unfold opIface at hf
  cases hu : C.P.underlying t with
  | none => simp [hu] at hf
  | some d =>
    have : (execOp a.eval o).run C.P w = .ok (.value (.iface t (a.eval x))) w ∧ some (σ.put o.dst (.ifc t (ev σ x)), True) = some (σ', vc) := by
      cases d <;> first | (simp [hu] at hf; done) | (simp only [hu] at hf; exact ⟨by simp [execOp, ho, Instr.makeInterface, run_underlying hu], hf⟩)
    obtain ⟨hr, hf'⟩ := this
    simp only [Option.some.injEq, Prod.mk.injEq] at hf'; obtain ⟨rfl, _⟩ := hf'
    exact out_pure h hd hr (by simp only [VR]; exact ⟨_, rfl, hev⟩)
def evs (σ : St) : List Operand → List SV
  | [] => []
  | x :: xs => ev σ x :: evs σ xs
theorem evs_rep {C : Ctx} {E : Env} {σ : St} {a : Act} {w : World} (h : HoldsE C E σ a w) : ∀ xs : List Operand, VRs w E C.lo (evs σ xs) (xs.map a.eval)
  | [] => VRs_nil
  | x :: xs => VRs_cons (ev_rep h x) (evs_rep h xs)
def opFunc (σ : St) (o : Oper) (f : Fn) (first caps : Array Operand) : Option (St × Prop) :=
  some (σ.put o.dst (.fn f (evs σ first.toList) (evs σ caps.toList)), True)
theorem opFunc_sound {C : Ctx} {E : Env} {σ σ' : St} {a : Act} {w : World} {o : Oper} {f : Fn} {first caps : Array Operand} {vc : Prop} (ho : o.op = .makeFunc f first caps)
    (hf : opFunc σ o f first caps = some (σ', vc)) (h : HoldsE C E σ a w) (hd : DstOk C o) : OpOut C o σ' a w := by
  simp only [opFunc, Option.some.injEq, Prod.mk.injEq] at hf; obtain ⟨rfl, _⟩ := hf
  refine out_pure h hd (v := .func f (first.map a.eval) (caps.map a.eval)) (by simp [execOp, ho, Instr.makeFunc]) ?_
  simp only [VR]
  refine ⟨_, _, ?_, evs_rep h first.toList, evs_rep h caps.toList⟩
  congr 1 <;> exact Array.ext' (by simp)
def arith (op : BinOp) (a b : Int) : Option Int :=
  match op with
  | .add => some (a + b)
  | .sub => some (a - b)
  | .mul => some (a * b)
  | _ => none
def icmp (op : BinOp) (a b : Int) : Option Bool :=
  match op with
  | .eql => some (a == b)
  | .neq => some (a != b)
  | .lss => some (decide (a < b))
  | .leq => some (decide (a ≤ b))
  | .gtr => some (decide (a > b))
  | .geq => some (decide (a ≥ b))
  | _ => none
def scmp (op : BinOp) (x y : ByteArray) : Option Bool :=
  match op with
  | .eql => some (x.toList == y.toList)
  | .neq => some (!(x.toList == y.toList))
  | .lss => some (Op.bytesLess x.toList y.toList)
  | .leq => some (Op.bytesLess x.toList y.toList || x.toList == y.toList)
  | .gtr => some (!(Op.bytesLess x.toList y.toList || x.toList == y.toList))
  | .geq => some (!Op.bytesLess x.toList y.toList)
  | _ => none
def isInt : SV → Option (IntKind × Int)
  | .p (.v (.int k n)) _ => some (k, n)
  | _ => none
def isStr : SV → Option ByteArray
  | .p (.v (.string s)) _ => some s
  | _ => none
def opBin (σ : St) (o : Oper) (op : BinOp) (x y : Operand) : Option (St × Prop) :=
  match isInt (ev σ x), isInt (ev σ y) with
  | some (k, a), some (k', b) => match decide (k = k') with
    | true => match arith op a b with
      | some n => some (σ.put o.dst (.p (.v (.int k n)) true), k.wrap n = n)
      | none => match icmp op a b with
        | some c => some (σ.put o.dst (.p (.v (.bool c)) true), True)
        | none => match op with
          | .rem => some (σ.put o.dst (.p (.v (.int k (a.tmod b))) true), b ≠ 0)
          | .quo => some (σ.put o.dst (.p (.v (.int k (a.tdiv b))) true), b ≠ 0 ∧ k.wrap (a.tdiv b) = a.tdiv b)
          | _ => none
    | false => none
  | _, _ => match isStr (ev σ x), isStr (ev σ y) with
    | some s, some r => match scmp op s r with
      | some c => some (σ.put o.dst (.p (.v (.bool c)) true), True)
      | none => match op with
        | .add => some (σ.put o.dst (.p (.v (.string (s ++ r))) true), s.size + r.size ≤ 4611686018427387904)
        | _ => none
    | _, _ => none
theorem isInt_ev {C : Ctx} {E : Env} {σ : St} {a : Act} {w : World} {x : Operand} {k : IntKind} {n : Int} (h : HoldsE C E σ a w) (hn : isInt (ev σ x) = some (k, n)) : a.eval x = .int k n := by
  unfold isInt at hn
  split at hn
  · rename_i k' m fr he
    simp only [Option.some.injEq, Prod.mk.injEq] at hn; obtain ⟨rfl, rfl⟩ := hn
    exact ev_v h he
  · cases hn
theorem isStr_ev {C : Ctx} {E : Env} {σ : St} {a : Act} {w : World} {x : Operand} {s : ByteArray} (h : HoldsE C E σ a w) (hn : isStr (ev σ x) = some s) : a.eval x = .string s := by
  unfold isStr at hn
  split at hn
  · rename_i s' fr he
    simp only [Option.some.injEq] at hn; subst hn
    exact ev_v h he
  · cases hn
theorem exec_bin {P : Program} {w : World} {a : Act} {o : Oper} {op : BinOp} {tx ty : TypeId} {x y : Operand} {r : Value} (ho : o.op = .binOp op tx x y ty)
    (hg : eqGuard op tx x y (a.eval x) (a.eval y) = pure ()) (hr : (binOp op tx (a.eval x) (a.eval y)).run P w = .ok r w) : (execOp a.eval o).run P w = .ok (.value r) w := by
  unfold execOp
  simp only [ho, hg, Sem.run_bind, Sem.run_pure, Result.andThen_ok, hr]
theorem opBin_sound {C : Ctx} {E : Env} {σ σ' : St} {a : Act} {w : World} {o : Oper} {op : BinOp} {tx ty : TypeId} {x y : Operand} {vc : Prop} (ho : o.op = .binOp op tx x y ty)
    (hf : opBin σ o op x y = some (σ', vc)) (hvc : vc) (h : HoldsE C E σ a w) (hd : DstOk C o) : OpOut C o σ' a w := by
  unfold opBin at hf
  split at hf
  · rename_i k m k' n hx hy
    have ex := isInt_ev h hx
    have ey := isInt_ev h hy
    split at hf
    · rename_i hk
      have hk' := of_decide_eq_true hk; subst hk'
      split at hf
      · rename_i r hr
        simp only [Option.some.injEq, Prod.mk.injEq] at hf; obtain ⟨rfl, rfl⟩ := hf
        refine out_pure h hd (v := .int k r) ?_ (VR_v true rfl)
        cases op <;> simp only [arith, Option.some.injEq, reduceCtorEq] at hr <;> subst hr <;> exact exec_bin ho (by rw [ex]; exact eqGuard_at_int _ _ _ _ _ _ _) (by rw [ex, ey]; simp [binOp, Op.intArith, hvc])
      · split at hf
        · rename_i c hc
          simp only [Option.some.injEq, Prod.mk.injEq] at hf; obtain ⟨rfl, _⟩ := hf
          refine out_pure h hd (v := .bool c) ?_ (VR_v true rfl)
          cases op <;> simp only [icmp, Option.some.injEq, reduceCtorEq] at hc <;> subst hc <;> exact exec_bin ho (by rw [ex]; exact eqGuard_at_int _ _ _ _ _ _ _) (by rw [ex, ey]; simp [binOp, Op.intCmp])
        · split at hf
          · simp only [Option.some.injEq, Prod.mk.injEq] at hf; obtain ⟨rfl, rfl⟩ := hf
            refine out_pure h hd (v := .int k (m.tmod n)) ?_ (VR_v true rfl)
            exact exec_bin ho (by rw [ex]; exact eqGuard_at_int _ _ _ _ _ _ _) (by rw [ex, ey]; simp [binOp, Op.intDiv, hvc])
          · simp only [Option.some.injEq, Prod.mk.injEq] at hf; obtain ⟨rfl, rfl⟩ := hf
            refine out_pure h hd (v := .int k (m.tdiv n)) ?_ (VR_v true rfl)
            exact exec_bin ho (by rw [ex]; exact eqGuard_at_int _ _ _ _ _ _ _) (by rw [ex, ey]; simp [binOp, Op.intDiv, hvc.1, hvc.2])
          · cases hf
    · cases hf
  · split at hf
    · rename_i s r hx hy
      have ex := isStr_ev h hx
      have ey := isStr_ev h hy
      split at hf
      · rename_i c hc
        simp only [Option.some.injEq, Prod.mk.injEq] at hf; obtain ⟨rfl, _⟩ := hf
        refine out_pure h hd (v := .bool c) ?_ (VR_v true rfl)
        cases op <;> simp only [scmp, Option.some.injEq, reduceCtorEq] at hc <;> subst hc <;> exact exec_bin ho (by rw [ex]; exact eqGuard_at_string _ _ _ _ _ _) (by rw [ex, ey]; simp [binOp, Op.stringOp])
      · split at hf
        · simp only [Option.some.injEq, Prod.mk.injEq] at hf; obtain ⟨rfl, rfl⟩ := hf
          refine out_pure h hd (v := .string (s ++ r)) ?_ (VR_v true rfl)
          have : ¬ (9223372036854775807 < (s.size : Int) + (r.size : Int)) := by omega
          exact exec_bin ho (by rw [ex]; exact eqGuard_at_string _ _ _ _ _ _) (by rw [ex, ey]; simp [binOp, Op.stringOp, this])
        · cases hf
    · cases hf
end Go.TL
namespace Go.TL
def opUn (σ : St) (o : Oper) (op : UnOp) (x : Operand) : Option (St × Prop) :=
  match op, ev σ x with
  | .not, .p (.v (.bool b)) _ => some (σ.put o.dst (.p (.v (.bool (!b))) true), True)
  | .neg, .p (.v (.int k n)) _ => some (σ.put o.dst (.p (.v (.int k (0 - n))) true), k.wrap (0 - n) = 0 - n)
  | _, _ => none
theorem opUn_sound {C : Ctx} {E : Env} {σ σ' : St} {a : Act} {w : World} {o : Oper} {op : UnOp} {t : TypeId} {x : Operand} {vc : Prop} (ho : o.op = .unOp op t x)
    (hf : opUn σ o op x = some (σ', vc)) (hvc : vc) (h : HoldsE C E σ a w) (hd : DstOk C o) : OpOut C o σ' a w := by
  unfold opUn at hf
  split at hf
  · rename_i b fr he
    simp only [Option.some.injEq, Prod.mk.injEq] at hf; obtain ⟨rfl, _⟩ := hf
    exact out_pure h hd (v := .bool (!b)) (by simp [execOp, ho, ev_v h he, Op.unary]) (VR_v true rfl)
  · rename_i k n fr he
    simp only [Option.some.injEq, Prod.mk.injEq] at hf; obtain ⟨rfl, rfl⟩ := hf
    have hvc' : k.wrap (-n) = -n := by simpa using hvc
    exact out_pure h hd (v := .int k (0 - n)) (by simp [execOp, ho, ev_v h he, Op.unary, Op.intArith, hvc']) (VR_v true rfl)
  · cases hf
def opConv (P : Program) (σ : St) (o : Oper) (src dst : TypeId) (x : Operand) : Option (St × Prop) :=
  match ev σ x, P.underlying src, P.underlying dst with
  | .p (.v (.int _ n)) _, some _, some (.int k) => some (σ.put o.dst (.p (.v (.int k n)) true), k.wrap n = n)
  | .p (.v (.string s)) _, some _, some .string => some (σ.put o.dst (.p (.v (.string s)) true), True)
  | _, _, _ => none
theorem opConv_sound {C : Ctx} {E : Env} {σ σ' : St} {a : Act} {w : World} {o : Oper} {src dst : TypeId} {x : Operand} {vc : Prop} (ho : o.op = .convert src dst x)
    (hf : opConv C.P σ o src dst x = some (σ', vc)) (hvc : vc) (h : HoldsE C E σ a w) (hd : DstOk C o) : OpOut C o σ' a w := by
  unfold opConv at hf
  split at hf
  · rename_i k' n fr d k he hu1 hu2
    simp only [Option.some.injEq, Prod.mk.injEq] at hf; obtain ⟨rfl, rfl⟩ := hf
    have hx := ev_v h he
    refine out_pure h hd (v := .int k n) ?_ (VR_v true rfl)
    cases d <;> simp [execOp, ho, hx, convert, run_underlying hu1, run_underlying hu2, Conv.intToInt, hvc]
  · rename_i s fr d he hu1 hu2
    simp only [Option.some.injEq, Prod.mk.injEq] at hf; obtain ⟨rfl, rfl⟩ := hf
    have hx := ev_v h he
    refine out_pure h hd (v := .string s) ?_ (VR_v true rfl)
    cases d <;> simp [execOp, ho, hx, convert, run_underlying hu1, run_underlying hu2]
  · cases hf
def nilP : SV → Option Bool
  | .ptr _ _ => some false
  | .pd _ _ _ => some false
  | .vptr _ _ _ _ => some false
  | .p (.v (.pointer none)) _ => some true
  | _ => none
def nilF : SV → Option Bool
  | .fn _ _ _ => some false
  | .p (.v .nilFunc) _ => some true
  | _ => none
theorem nilP_ev {C : Ctx} {E : Env} {σ : St} {a : Act} {w : World} {x : Operand} {b : Bool} (h : HoldsE C E σ a w) (hb : nilP (ev σ x) = some b) : ∃ p : Option Addr, a.eval x = .pointer p ∧ p.isNone = b := by
  have hev := ev_rep h x
  unfold nilP at hb
  split at hb <;> (try (cases hb; done)) <;> rename_i he <;> simp only [Option.some.injEq] at hb <;> subst hb <;> rw [he] at hev
  · simp only [VR] at hev; obtain ⟨b, _, hx⟩ := hev; exact ⟨_, hx, rfl⟩
  · simp only [VR] at hev; obtain ⟨b, o, hx, _⟩ := hev; exact ⟨_, hx, rfl⟩
  · simp only [VR] at hev; obtain ⟨b, n, c, _, hx⟩ := hev; exact ⟨_, hx, rfl⟩
  · exact ⟨none, VR_v_eq hev, rfl⟩
theorem nilF_ev {C : Ctx} {E : Env} {σ : St} {a : Act} {w : World} {x : Operand} {b : Bool} (h : HoldsE C E σ a w) (hb : nilF (ev σ x) = some b) : (b = true ∧ a.eval x = .nilFunc) ∨ (b = false ∧ ∃ f p q, a.eval x = .func f p q) := by
  have hev := ev_rep h x
  unfold nilF at hb
  split at hb <;> (try (cases hb; done)) <;> rename_i he <;> simp only [Option.some.injEq] at hb <;> subst hb <;> rw [he] at hev
  · simp only [VR] at hev; obtain ⟨vs, ws, hx, _⟩ := hev; exact .inr ⟨rfl, _, _, _, hx⟩
  · exact .inl ⟨rfl, VR_v_eq hev⟩
def nilEq (P : Program) (σ : St) (t : TypeId) (x y : Operand) : Option Bool :=
  match P.underlying t with
  | some (.pointer _) => match nilP (ev σ x), nilP (ev σ y) with
    | some p, some true => some p
    | some true, some q => some q
    | _, _ => none
  | some (.func _ _ _) => match nilF (ev σ x), nilF (ev σ y) with
    | some p, some true => some p
    | some true, some q => some q
    | _, _ => none
  | _ => none
def opNil (P : Program) (σ : St) (o : Oper) (op : BinOp) (t : TypeId) (x y : Operand) : Option (St × Prop) :=
  match nilEq P σ t x y, op with
  | some b, .eql => some (σ.put o.dst (.p (.v (.bool b)) true), True)
  | some b, .neq => some (σ.put o.dst (.p (.v (.bool (!b))) true), True)
  | _, _ => none
theorem run_eq_ptr {P : Program} {w : World} {t e : TypeId} (hu : P.underlying t = some (.pointer e)) (p q : Option Addr) (h : p = none ∨ q = none) : (Op.equal t (.pointer p) (.pointer q)).run P w = .ok (p.isNone && q.isNone) w := by
  show (Op.equalIn (9999 + 1) t _ _).run P w = _
  rw [Op.equalIn]
  rcases h with rfl | rfl
  · cases q <;> simp [run_underlying hu]
  · cases p <;> simp [run_underlying hu]
theorem run_eq_fn {P : Program} {w : World} {t : TypeId} {ps rs : Array TypeId} {v : Bool} (hu : P.underlying t = some (.func ps rs v)) :
    (Op.equal t .nilFunc .nilFunc).run P w = .ok true w ∧ (∀ f p q, (Op.equal t (.func f p q) .nilFunc).run P w = .ok false w) ∧ (∀ f p q, (Op.equal t .nilFunc (.func f p q)).run P w = .ok false w) := by
  refine ⟨?_, fun f p q => ?_, fun f p q => ?_⟩ <;> (show (Op.equalIn (9999 + 1) t _ _).run P w = _; rw [Op.equalIn]; simp [run_underlying hu])
theorem run_eql {P : Program} {w : World} {t : TypeId} {x y : Value} {b : Bool} (h : (Op.equal t x y).run P w = .ok b w) (hx : (∃ p, x = .pointer p) ∧ (∃ p, y = .pointer p) ∨ ((∃ f p q, x = .func f p q) ∨ x = .nilFunc) ∧ ((∃ f p q, y = .func f p q) ∨ y = .nilFunc)) :
    (binOp .eql t x y).run P w = .ok (.bool b) w ∧ (binOp .neq t x y).run P w = .ok (.bool (!b)) w := by
  rcases hx with ⟨⟨p, rfl⟩, ⟨q, rfl⟩⟩ | ⟨⟨f, p, q, rfl⟩ | rfl, ⟨f', p', q', rfl⟩ | rfl⟩ <;> simp only [binOp, Sem.run_bind, h, Result.andThen_ok, Sem.run_pure, and_self]
theorem opNil_sound {C : Ctx} {E : Env} {σ σ' : St} {a : Act} {w : World} {o : Oper} {op : BinOp} {tx ty : TypeId} {x y : Operand} {vc : Prop} (ho : o.op = .binOp op tx x y ty)
    (hf : opNil C.P σ o op tx x y = some (σ', vc)) (h : HoldsE C E σ a w) (hd : DstOk C o) : OpOut C o σ' a w := by
  unfold opNil at hf
  have key : ∀ b, nilEq C.P σ tx x y = some b → (∀ op', eqGuard op' tx x y (a.eval x) (a.eval y) = pure ()) ∧
      (binOp .eql tx (a.eval x) (a.eval y)).run C.P w = .ok (.bool b) w ∧ (binOp .neq tx (a.eval x) (a.eval y)).run C.P w = .ok (.bool (!b)) w := by
    intro b hb
    unfold nilEq at hb
    split at hb
    · rename_i e hu
      split at hb
      · rename_i p hx hy
        simp only [Option.some.injEq] at hb; subst hb
        obtain ⟨p1, e1, n1⟩ := nilP_ev h hx
        obtain ⟨p2, e2, n2⟩ := nilP_ev h hy
        have : p2 = none := by simpa using n2
        subst this
        rw [e1, e2]
        have hr := run_eq_ptr (P := C.P) (w := w) hu p1 none (.inr rfl)
        rw [n1, Option.isNone_none, Bool.and_true] at hr
        exact ⟨fun op' => eqGuard_at_pointer _ _ _ _ _ _, run_eql hr (.inl ⟨⟨_, rfl⟩, ⟨_, rfl⟩⟩)⟩
      · rename_i q hne hx hy
        simp only [Option.some.injEq] at hb; subst hb
        obtain ⟨p1, e1, n1⟩ := nilP_ev h hx
        obtain ⟨p2, e2, n2⟩ := nilP_ev h hy
        have : p1 = none := by simpa using n1
        subst this
        rw [e1, e2]
        have hr := run_eq_ptr (P := C.P) (w := w) hu none p2 (.inl rfl)
        rw [n2, Option.isNone_none, Bool.true_and] at hr
        exact ⟨fun op' => eqGuard_at_pointer _ _ _ _ _ _, run_eql hr (.inl ⟨⟨_, rfl⟩, ⟨_, rfl⟩⟩)⟩
      · cases hb
    · rename_i ps rs v hu
      split at hb
      · rename_i p hx hy
        simp only [Option.some.injEq] at hb; subst hb
        have e2 : a.eval y = .nilFunc := by
          rcases nilF_ev h hy with ⟨_, e⟩ | ⟨e, _⟩
          · exact e
          · cases e
        rcases nilF_ev h hx with ⟨rfl, e1⟩ | ⟨rfl, f, p, q, e1⟩ <;> rw [e1, e2]
        · exact ⟨fun op' => eqGuard_at_nilFunc _ _ _ _ _, run_eql (run_eq_fn hu).1 (.inr ⟨.inr rfl, .inr rfl⟩)⟩
        · exact ⟨fun op' => eqGuard_at_func _ _ _ _ _ _ _ _, run_eql ((run_eq_fn hu).2.1 f p q) (.inr ⟨.inl ⟨_, _, _, rfl⟩, .inr rfl⟩)⟩
      · rename_i q hne hx hy
        simp only [Option.some.injEq] at hb; subst hb
        have e1 : a.eval x = .nilFunc := by
          rcases nilF_ev h hx with ⟨_, e⟩ | ⟨e, _⟩
          · exact e
          · cases e
        rcases nilF_ev h hy with ⟨rfl, e2⟩ | ⟨rfl, f, p, q, e2⟩ <;> rw [e1, e2]
        · exact ⟨fun op' => eqGuard_at_nilFunc _ _ _ _ _, run_eql (run_eq_fn hu).1 (.inr ⟨.inr rfl, .inr rfl⟩)⟩
        · exact ⟨fun op' => eqGuard_at_nilFunc _ _ _ _ _, run_eql ((run_eq_fn hu).2.2 f p q) (.inr ⟨.inr rfl, .inl ⟨_, _, _, rfl⟩⟩)⟩
      · cases hb
    · cases hb
  split at hf
  · rename_i b hb
    simp only [Option.some.injEq, Prod.mk.injEq] at hf; obtain ⟨rfl, _⟩ := hf
    have := key b hb
    exact out_pure h hd (v := .bool b) (exec_bin ho (this.1 _) this.2.1) (VR_v true rfl)
  · rename_i b hb
    simp only [Option.some.injEq, Prod.mk.injEq] at hf; obtain ⟨rfl, _⟩ := hf
    have := key b hb
    exact out_pure h hd (v := .bool (!b)) (exec_bin ho (this.1 _) this.2.2) (VR_v true rfl)
  · cases hf
def opMinMax (σ : St) (o : Oper) (isMax : Bool) (x y : Operand) : Option (St × Prop) :=
  match isInt (ev σ x), isInt (ev σ y) with
  | some (k, a), some (_, b) => some (σ.put o.dst (.p (.v (.int k (match isMax with | true => (if b > a then b else a) | false => (if b < a then b else a)))) true), True)
  | _, _ => none
theorem opMin_sound {C : Ctx} {E : Env} {σ σ' : St} {a : Act} {w : World} {o : Oper} {x y : Operand} {ts : Array TypeId} {vc : Prop} (ho : o.op = .call { callee := .builtin .min, args := #[x, y], argTypes := ts })
    (hf : opMinMax σ o false x y = some (σ', vc)) (h : HoldsE C E σ a w) (hd : DstOk C o) : OpOut C o σ' a w := by
  unfold opMinMax at hf
  split at hf
  · rename_i k m k' n hx hy
    simp only [Option.some.injEq, Prod.mk.injEq] at hf; obtain ⟨rfl, _⟩ := hf
    refine out_pure h hd (v := .int k (if n < m then n else m)) ?_ (VR_v true rfl)
    rw [exec_builtin ho]
    simp [builtin, Builtin.min_, Builtin.min2, isInt_ev h hx, isInt_ev h hy]
  · cases hf
theorem opMax_sound {C : Ctx} {E : Env} {σ σ' : St} {a : Act} {w : World} {o : Oper} {x y : Operand} {ts : Array TypeId} {vc : Prop} (ho : o.op = .call { callee := .builtin .max, args := #[x, y], argTypes := ts })
    (hf : opMinMax σ o true x y = some (σ', vc)) (h : HoldsE C E σ a w) (hd : DstOk C o) : OpOut C o σ' a w := by
  unfold opMinMax at hf
  split at hf
  · rename_i k m k' n hx hy
    simp only [Option.some.injEq, Prod.mk.injEq] at hf; obtain ⟨rfl, _⟩ := hf
    refine out_pure h hd (v := .int k (if n > m then n else m)) ?_ (VR_v true rfl)
    rw [exec_builtin ho]
    simp [builtin, Builtin.max_, Builtin.max2, isInt_ev h hx, isInt_ev h hy]
  · cases hf
end Go.TL
namespace Go.TL
def isNilSl : Value → Bool
  | .slice none 0 0 => true
  | _ => false
theorem isNilSl_eq {x : Value} (h : isNilSl x = true) : x = .slice none 0 0 := by
  unfold isNilSl at h
  split at h
  · rfl
  · cases h
def zc (room : Bool) (x : Value) : PV :=
  match isNilSl x with
  | true => match room with | true => .rm 0 [] | false => .sl []
  | false => .v x
theorem zc_rep {w : World} {bad : Nat → Prop} {lo : Nat} {room : Bool} {x : Value} (h : x.oneCell' = true) : Rep w bad lo (zc room x) x := by
  unfold zc
  cases hx : isNilSl x with
  | true =>
    have := isNilSl_eq hx; subst this
    cases room with
    | true => exact .rmNil
    | false => exact .nil none 0
  | false => exact .v x h
def zrow (room : Bool) (z : Value) : Option (List PV) :=
  match z.cells.toList.all (·.oneCell') with
  | true => some (z.cells.toList.map (zc room))
  | false => none
theorem out_newv {C : Ctx} {E : Env} {σ : St} {a : Act} {w : World} {o : Oper} {d n c : Nat} {cs : Array Value} {t : TypeId} {ov : OV} (h : HoldsE C E σ a w) (hd : DstOk C o) (hdst : o.dst = some d)
    (hfresh : lk σ.tab d = none) (hrun : (execOp a.eval o).run C.P w = .ok (.value (.slice (some ⟨w.heap.size, 0, none⟩) n c)) (w.alloc (.cells cs t)))
    (hor : OR (w.alloc (.cells cs t)) (E.add d (.slice (some ⟨w.heap.size, 0, none⟩) n c) w.heap.size) C.lo d ov) :
    OpOut C o ⟨(d, .vec d) :: σ.slots, (d, ov) :: σ.tab⟩ a w := by
  have hb : ∀ b, b < w.heap.size → (w.alloc (.cells cs t)).heap[b]? = w.heap[b]? := fun b hb => heap_alloc_old w _ b hb
  have hlo : C.lo ≤ w.heap.size := Nat.le_trans h.lo h.fr.size
  have hfr : Fr w E (w.alloc (.cells cs t)) (E.add d (.slice (some ⟨w.heap.size, 0, none⟩) n c) w.heap.size) := Fr.add rfl rfl rfl (by simp) hb (Nat.le_refl _)
  have hval := Env.add_val (w := w) (b0 := w.heap.size) (x := .slice (some ⟨w.heap.size, 0, none⟩) n c) h.tab hfresh
  have htab := TabOK.add (w' := w.alloc (.cells cs t)) (x := .slice (some ⟨w.heap.size, 0, none⟩) n c) (b0 := w.heap.size) (ov := ov) h.tab hfresh (by simp) hb (Nat.le_refl _) (by simp) hlo hor
  refine ⟨_, _, .inl hrun, E.add d (.slice (some ⟨w.heap.size, 0, none⟩) n c) w.heap.size, ?_⟩
  have hdn : d < C.n := hd d hdst
  have := h.upd hfr hval (fun k hk hn => by simp only [Env.add]; rw [if_neg (by omega)]; exact hn) htab o.dst hd (sv := .vec d) (v := .slice (some ⟨w.heap.size, 0, none⟩) n c) (fun _ _ => by simp only [VR]; exact ⟨by simp [Env.add], _, _, _, rfl⟩)
  rw [hdst] at this ⊢
  exact this
def opMake (P : Program) (H : Hint) (σ : St) (o : Oper) (t : TypeId) (l c : Operand) : Option (St × Prop) :=
  match isInt (ev σ l), isInt (ev σ c), o.dst, sliceElem P t with
  | some (_, nl), some (_, nc), some d, some (e, i) => match lk σ.tab d, i.zero, Nat.ble 1 i.size with
    | none, some z, true => match Nat.beq z.cells.size i.size, lk H.ld d with
      | true, some _ => match zrow true z with
        | some zr => some (⟨(d, .vec d) :: σ.slots, (d, .arr e i.size (List.replicate nc.toNat zr) nl.toNat 0) :: σ.tab⟩, 0 ≤ nl ∧ nl ≤ nc ∧ nc.toNat * max i.bytes 1 ≤ 140737488355328)
        | none => none
      | true, none => match zrow false z with
        | some zr => some (⟨(d, .vec d) :: σ.slots, (d, .vec e i.size (List.replicate nl.toNat zr) true) :: σ.tab⟩, 0 ≤ nl ∧ nl ≤ nc ∧ nc.toNat * max i.bytes 1 ≤ 140737488355328)
        | none => none
      | _, _ => none
    | _, _, _ => none
  | _, _, _, _ => none
theorem madeCells_get (z : Array Value) (n j : Nat) (h : j < n) : (madeCells z n)[j]? = some (z[j % z.size]!) := by
  simp [madeCells, h]
theorem made_rows {w : World} {bad : Nat → Prop} {lo : Nat} {room : Bool} {z : Value} {zr : List PV} {sz : Nat} (hz : z.cells.size = sz) (hpos : 0 < sz) (hr : zrow room z = some zr) (n : Nat) :
    zr.length = sz ∧ ∃ f : Nat → Nat → Value, (∀ (i : Nat) (row : List PV), (List.replicate n zr)[i]? = some row → row.length = sz) ∧
      (∀ (i : Nat) (row : List PV) (j : Nat) (x : PV), (List.replicate n zr)[i]? = some row → row[j]? = some x → (∀ m, i < m → (madeCells z.cells (m * sz))[i * sz + j]? = some (f i j))) ∧
      (∀ (i : Nat) (row : List PV) (j : Nat) (x : PV), (List.replicate n zr)[i]? = some row → row[j]? = some x → Rep w bad lo x (f i j)) := by
  unfold zrow at hr
  split at hr
  · rename_i hall
    simp only [Option.some.injEq] at hr; subst hr
    have hlen : (z.cells.toList.map (zc room)).length = sz := by simp [hz]
    have hrow : ∀ (i : Nat) (row : List PV), (List.replicate n (z.cells.toList.map (zc room)))[i]? = some row → row = z.cells.toList.map (zc room) := by
      intro i row hi
      rw [List.getElem?_replicate] at hi
      split at hi
      · exact (Option.some.inj hi).symm
      · cases hi
    refine ⟨hlen, fun _ j => z.cells[j]!, ?_, ?_, ?_⟩
    · intro i row hi; rw [hrow i row hi]; exact hlen
    · intro i row j x hi hj m hm
      rw [hrow i row hi] at hj
      have hjl : j < sz := by rw [← hlen]; exact (List.getElem?_eq_some_iff.1 hj).1
      have : i * sz + j < m * sz := by
        have : (i + 1) * sz ≤ m * sz := Nat.mul_le_mul_right _ hm
        rw [Nat.add_mul, Nat.one_mul] at this; omega
      rw [madeCells_get _ _ _ this, hz, Nat.mul_comm i sz, Nat.mul_add_mod, Nat.mod_eq_of_lt hjl]
    · intro i row j x hi hj
      rw [hrow i row hi] at hj
      have hjl : j < z.cells.size := by rw [hz, ← hlen]; exact (List.getElem?_eq_some_iff.1 hj).1
      simp [hjl] at hj; subst hj
      have h1 := List.all_eq_true.1 hall z.cells[j] (by simp)
      simp only [hjl, getElem!_pos]
      exact zc_rep h1
  · cases hr
theorem opMake_sound {C : Ctx} {H : Hint} {E : Env} {σ σ' : St} {a : Act} {w : World} {o : Oper} {t : TypeId} {l c : Operand} {vc : Prop} (ho : o.op = .makeSlice t l c)
    (hf : opMake C.P H σ o t l c = some (σ', vc)) (hvc : vc) (h : HoldsE C E σ a w) (hd : DstOk C o) : OpOut C o σ' a w := by
  unfold opMake at hf
  split at hf
  · rename_i kl nl kc nc d e i hl hc hdst hse
    obtain ⟨hu, hi⟩ := sliceElem_eq hse
    have el := isInt_ev h hl
    have ec := isInt_ev h hc
    split at hf
    · rename_i z hfresh hz hpos
      have hpos' := Nat.le_of_ble_eq_true hpos
      have hlo : C.lo ≤ w.heap.size := Nat.le_trans h.lo h.fr.size
      have key : (0 ≤ nl ∧ nl ≤ nc ∧ nc.toNat * max i.bytes 1 ≤ 140737488355328) →
          (execOp a.eval o).run C.P w = .ok (.value (.slice (some ⟨w.heap.size, 0, none⟩) nl.toNat nc.toNat)) (w.alloc (.cells (madeCells z.cells (nc.toNat * i.size)) e)) := by
        rintro ⟨h1, h2, h3⟩
        have m1 : nc.toNat * 1 ≤ nc.toNat * max i.bytes 1 := Nat.mul_le_mul_left _ (by omega)
        have m2 : nc.toNat * i.bytes ≤ nc.toNat * max i.bytes 1 := Nat.mul_le_mul_left _ (by omega)
        have m3 : (i.bytes : Int) * nc ≤ 281474976710656 := by
          have e1 : ((nc.toNat * i.bytes : Nat) : Int) ≤ 140737488355328 := by omega
          rw [Int.natCast_mul] at e1
          have e2 : (nc.toNat : Int) = nc := by omega
          rw [e2, Int.mul_comm] at e1; omega
        have hr := run_make (P := C.P) w t e i z hu hi hz kl kc nl nc h1 h2 m3 (by omega)
        unfold execOp
        simp only [ho, el, ec, Sem.run_bind, hr, Result.andThen_ok, Sem.run_pure]
      split at hf
      · rename_i hzs hh
        have hzs' := Nat.eq_of_beq_eq_true hzs
        split at hf
        · rename_i zr hzr
          simp only [Option.some.injEq, Prod.mk.injEq] at hf; obtain ⟨rfl, rfl⟩ := hf
          have hvc' := hvc
          obtain ⟨h1, h2, h3⟩ := hvc
          refine out_newv h hd hdst hfresh (key hvc') ?_
          obtain ⟨g0, f, g1, g2, g3⟩ := made_rows (w := w.alloc (.cells (madeCells z.cells (nc.toNat * i.size)) e)) (bad := (E.add d (.slice (some ⟨w.heap.size, 0, none⟩) nl.toNat nc.toNat) w.heap.size).bad) (lo := C.lo) hzs' hpos' hzr nc.toNat
          obtain ⟨_, f', _, g2', g3'⟩ := made_rows (w := w.alloc (.cells (madeCells z.cells (nc.toNat * i.size)) e)) (bad := (E.add d (.slice (some ⟨w.heap.size, 0, none⟩) nl.toNat nc.toNat) w.heap.size).bad) (lo := 0) hzs' hpos' hzr nc.toNat
          have hlt : ∀ (i : Nat) (row : List PV), (List.replicate nc.toNat zr)[i]? = some row → i < nc.toNat := fun i row hi => by
            have := (List.getElem?_eq_some_iff.1 hi).1; simpa using this
          refine ⟨w.heap.size, _, by simp [Env.add], by simp [Env.add], heap_alloc_new w _, by simp [size_madeCells], hpos', by simp; omega, f, g1, fun j row k x hj hk => g2 j row k x hj hk _ (hlt j row hj), fun j row k x hj hk => (g3 j row k x hj hk).mono (Nat.zero_le _) fun _ _ h k => ⟨h, k⟩, fun j row k x hj hk _ => g3 j row k x hj hk⟩
        · cases hf
      · rename_i hzs hh
        have hzs' := Nat.eq_of_beq_eq_true hzs
        split at hf
        · rename_i zr hzr
          simp only [Option.some.injEq, Prod.mk.injEq] at hf; obtain ⟨rfl, rfl⟩ := hf
          have hvc' := hvc
          obtain ⟨h1, h2, h3⟩ := hvc
          refine out_newv h hd hdst hfresh (key hvc') ?_
          obtain ⟨g0, f, g1, g2, g3⟩ := made_rows (w := w.alloc (.cells (madeCells z.cells (nc.toNat * i.size)) e)) (bad := (E.add d (.slice (some ⟨w.heap.size, 0, none⟩) nl.toNat nc.toNat) w.heap.size).bad) (lo := C.lo) hzs' hpos' hzr nl.toNat
          have hlt : ∀ (i : Nat) (row : List PV), (List.replicate nl.toNat zr)[i]? = some row → i < nl.toNat := fun i row hi => by
            have := (List.getElem?_eq_some_iff.1 hi).1; simpa using this
          have m1 : nc.toNat * 1 ≤ nc.toNat * max i.bytes 1 := Nat.mul_le_mul_left _ (by omega)
          have hle : nl.toNat * i.size ≤ nc.toNat * i.size := Nat.mul_le_mul_right _ (by omega)
          refine ⟨.slice (some ⟨w.heap.size, 0, none⟩) nl.toNat nc.toNat, (madeCells z.cells (nc.toNat * i.size)).toList.take (nl.toNat * i.size), by simp [Env.add], hpos', ⟨?_, .inr ⟨w.heap.size, nc.toNat, madeCells z.cells (nc.toNat * i.size), by simp, Nat.zero_le _, heap_alloc_new w _, by simp; omega, ?_, by simp [size_madeCells], by simp⟩⟩, ?_, f, g1, ?_, g3⟩
          · rw [List.length_take, Array.length_toList, size_madeCells, List.length_replicate]; exact Nat.min_eq_left hle
          · simp [maxLen]; omega
          · intro g hg
            simp only [Value.ownBlock, Option.some.injEq] at hg; subst hg
            simp [Env.add]
          · intro j row k x hj hk
            have hj' := hlt j row hj
            have hkl : k < i.size := by rw [← g1 j row hj]; exact (List.getElem?_eq_some_iff.1 hk).1
            have : j * i.size + k < nl.toNat * i.size := by
              have : (j + 1) * i.size ≤ nl.toNat * i.size := Nat.mul_le_mul_right _ hj'
              rw [Nat.add_mul, Nat.one_mul] at this; omega
            rw [List.getElem?_take, if_pos this]
            have := g2 j row k x hj hk nc.toNat (by omega)
            simpa using this
        · cases hf
      · cases hf
    · cases hf
  · cases hf
def opAppendArr (P : Program) (σ : St) (o : Oper) (s x : Operand) (t : TypeId) : Option (St × Prop) :=
  match ev σ s, o.dst, sliceElem P t, srcOf σ.tab (ev σ x) with
  | .vec k, some d, some (e, i), some (rows2, _) => match lk σ.tab k, lk (rm σ.tab k) d with
    | some (.arr t' sz rows len m), none => match Nat.beq t' e && Nat.beq sz i.size with
      | true => some (σ.re k d (.arr e sz (rows.take len ++ rows2 ++ rows.drop (len + rows2.length)) (len + rows2.length) m), m ≤ len ∧ len + rows2.length ≤ rows.length ∧ ∀ row ∈ rows2, row.length = sz)
      | false => none
    | _, _ => none
  | _, _, _, _ => none
theorem arr_split {w : World} {bad : Nat → Prop} {lo sz len m : Nat} {rows rows2 : List (List PV)} {cur : Array Value} {news : List Value} {fr : Bool} (hsz : 0 < sz) (hcs : cur.size = rows.length * sz)
    (h : ArrRep w bad lo sz rows len m cur) (hn : RowsRep w bad (flo lo fr) sz rows2 news) (hnl : news.length = rows2.length * sz) (hm : m ≤ len) (hfit : len + rows2.length ≤ rows.length) :
    ArrRep w bad lo sz (rows.take len ++ rows2 ++ rows.drop (len + rows2.length)) (len + rows2.length) m (cur.toList.take (len * sz) ++ news ++ cur.toList.drop (len * sz + news.length)).toArray := by
  obtain ⟨f, a1, a2, a3, a4⟩ := h
  obtain ⟨g, b1, b2, b3⟩ := hn
  have hT : (rows.take len).length = len := by rw [List.length_take]; omega
  have hget : ∀ (i : Nat) (row : List PV), (rows.take len ++ rows2 ++ rows.drop (len + rows2.length))[i]? = some row →
      (i < len ∧ rows[i]? = some row) ∨ (len ≤ i ∧ i < len + rows2.length ∧ rows2[i - len]? = some row) ∨ (len + rows2.length ≤ i ∧ rows[i]? = some row) := by
    intro i row hi
    rw [List.append_assoc, List.getElem?_append, hT] at hi
    split at hi
    · rename_i hlt
      rw [List.getElem?_take, if_pos hlt] at hi
      exact .inl ⟨hlt, hi⟩
    · rename_i hge
      rw [List.getElem?_append] at hi
      split at hi
      · rename_i h2; exact .inr (.inl ⟨by omega, by omega, hi⟩)
      · rename_i h2
        rw [List.getElem?_drop] at hi
        refine .inr (.inr ⟨by omega, ?_⟩)
        rw [← hi]; congr 1; omega
  have hlen1 : (cur.toList.take (len * sz)).length = len * sz := by
    rw [List.length_take, Array.length_toList, hcs]; exact Nat.min_eq_left (Nat.mul_le_mul_right _ (by omega))
  have hin : ∀ i j : Nat, j < sz → i * sz + j < (i + 1) * sz := fun i j hj => by rw [Nat.add_mul, Nat.one_mul]; omega
  have hcell : ∀ k : Nat, (cur.toList.take (len * sz) ++ news ++ cur.toList.drop (len * sz + news.length)).toArray[k]? =
      if k < len * sz then cur[k]? else if k < len * sz + news.length then news[k - len * sz]? else cur[k]? := by
    intro k
    rw [List.getElem?_toArray, List.append_assoc, List.getElem?_append, hlen1]
    split
    · rename_i hk; rw [List.getElem?_take, if_pos hk, Array.getElem?_toList]
    · rename_i hk
      rw [List.getElem?_append]
      split
      · rename_i h2; rw [if_pos (by omega)]
      · rename_i h2
        rw [if_neg (by omega), List.getElem?_drop, Array.getElem?_toList]
        congr 1; omega
  refine ⟨fun i j => if i < len then f i j else if i < len + rows2.length then g (i - len) j else f i j, ?_, ?_, ?_, ?_⟩
  · intro i row hi
    rcases hget i row hi with ⟨_, h⟩ | ⟨_, _, h⟩ | ⟨_, h⟩
    · exact a1 i row h
    · exact b1 _ row h
    · exact a1 i row h
  · intro i row j x hi hj
    rw [hcell]
    show _ = some (if i < len then f i j else if i < len + rows2.length then g (i - len) j else f i j)
    have l4 := Nat.add_mul len rows2.length sz
    rcases hget i row hi with ⟨c1, h⟩ | ⟨c1, c2, h⟩ | ⟨c1, h⟩
    · have hjl : j < sz := by rw [← a1 i row h]; exact (List.getElem?_eq_some_iff.1 hj).1
      have l1 := hin i j hjl
      have l2 : (i + 1) * sz ≤ len * sz := Nat.mul_le_mul_right _ (by omega)
      rw [if_pos (by omega), if_pos c1]
      exact a2 i row j x h hj
    · have hjl : j < sz := by rw [← b1 _ row h]; exact (List.getElem?_eq_some_iff.1 hj).1
      have l1 := hin i j hjl
      have l2 : len * sz ≤ i * sz := Nat.mul_le_mul_right _ c1
      have l3 : (i + 1) * sz ≤ (len + rows2.length) * sz := Nat.mul_le_mul_right _ (by omega)
      rw [if_neg (by omega), if_pos (by omega), if_neg (by omega), if_pos c2]
      have e : i * sz + j - len * sz = (i - len) * sz + j := by rw [Nat.sub_mul]; omega
      rw [e]
      exact b2 _ row j x h hj
    · have hjl : j < sz := by rw [← a1 i row h]; exact (List.getElem?_eq_some_iff.1 hj).1
      have l2 : (len + rows2.length) * sz ≤ i * sz := Nat.mul_le_mul_right _ c1
      rw [if_neg (by omega), if_neg (by omega), if_neg (by omega), if_neg (by omega)]
      exact a2 i row j x h hj
  · intro i row j x hi hj
    show Rep w bad 0 x (if i < len then f i j else if i < len + rows2.length then g (i - len) j else f i j)
    rcases hget i row hi with ⟨c1, h⟩ | ⟨c1, c2, h⟩ | ⟨c1, h⟩
    · rw [if_pos c1]; exact a3 i row j x h hj
    · rw [if_neg (by omega), if_pos c2]; exact (b3 _ row j x h hj).mono (Nat.zero_le _) fun _ _ h k => ⟨h, k⟩
    · rw [if_neg (by omega), if_neg (by omega)]; exact a3 i row j x h hj
  · intro i row j x hi hj hc
    show Rep w bad lo x (if i < len then f i j else if i < len + rows2.length then g (i - len) j else f i j)
    rcases hget i row hi with ⟨c1, h⟩ | ⟨c1, c2, h⟩ | ⟨c1, h⟩
    · rw [if_pos c1]; exact a4 i row j x h hj (.inl (by omega))
    · omega
    · rw [if_neg (by omega), if_neg (by omega)]; exact a4 i row j x h hj (.inr (by omega))
end Go.TL
namespace Go.TL
theorem run_append_none {P : Program} {w : World} (t ty e : TypeId) (i : TypeInfo) (ht : P.underlying t = some (.slice e)) (hi : P.info? e = some i) (g n cap : Nat) (b : Option Addr) (c : Nat) (hle : n ≤ cap) :
    (Builtin.append_ #[t, t] ty #[.slice (some ⟨g, 0, none⟩) n cap, .slice b 0 c]).run P w = .ok (.slice (some ⟨g, 0, none⟩) n cap) w := by
  cases b <;> simp [Builtin.append_, run_underlying ht, sizeOf, typeInfo, hi, Builtin.lenOf, hle, Builtin.firstCells, storeCells, loadCells, loadCellsFrom]
theorem opAppendArr_sound {C : Ctx} {E : Env} {σ σ' : St} {a : Act} {w : World} {o : Oper} {s x : Operand} {t : TypeId} {vc : Prop} (ho : o.op = .call { callee := .builtin .append, args := #[s, x], argTypes := #[t, t] })
    (hf : opAppendArr C.P σ o s x t = some (σ', vc)) (hvc : vc) (h : HoldsE C E σ a w) (hd : DstOk C o) : OpOut C o σ' a w := by
  unfold opAppendArr at hf
  split at hf
  · rename_i k d e i rows2 fr2 he hdst hse hsrc
    obtain ⟨hu, hi⟩ := sliceElem_eq hse
    split at hf
    · rename_i t' sz rows len m hl hfresh
      split at hf
      · rename_i hts
        simp only [Bool.and_eq_true] at hts
        have e1 := Nat.eq_of_beq_eq_true hts.1
        have e2 := Nat.eq_of_beq_eq_true hts.2
        subst e1; subst e2
        simp only [Option.some.injEq, Prod.mk.injEq] at hf; obtain ⟨rfl, rfl⟩ := hf
        obtain ⟨hm, hfit, hrows2⟩ := hvc
        obtain ⟨b, cs, h1, h2, h3, h4, h5, h6, h7⟩ := h.tab.obj _ _ hl
        have hev := ev_rep h s
        rw [he] at hev; simp only [VR] at hev
        have hs := hev.1
        rw [h1] at hs
        have hs' : a.eval s = .slice (some ⟨b, 0, none⟩) len rows.length := (Option.some.inj hs).symm
        have hsr := src_rep h hsrc (ev_rep h x) (fun n row hn => hrows2 row (List.mem_of_getElem? hn)) h5
        have hlt : b < w.heap.size := (h.tab.own b k h2).1
        rcases hsr.out with ⟨rfl, b', c, hx⟩ | ⟨ad, c, news, hx, hnl, hnc, hn1, hr⟩
        · have hrun := run_append_none (P := C.P) (w := w) t o.type t' i hu hi b len rows.length b' c h6
          refine out_re h hd hdst hfresh (x := .slice (some ⟨b, 0, none⟩) len rows.length) (w' := w) ?_ rfl rfl rfl (Nat.le_refl _) (fun _ _ _ => rfl) ?_ ⟨_, _, _, rfl⟩ ?_
          · unfold execOp
            simp only [ho, resolve, invoke, builtin, Sem.run_bind, Sem.run_pure, Result.andThen_ok, List.map_toArray, List.map_cons, List.map_nil, hs', hx, hrun]
          · intro g hg
            simp only [Value.ownBlock, Option.some.injEq] at hg; subst hg
            exact ⟨.inl h2, hlt⟩
          · intro hkeep
            refine ⟨b, cs, by simp [Env.re], by simp [Env.re, Value.ownBlock], h3, by simp; exact h4, h5, by simp; exact h6, ?_⟩
            simp only [List.append_nil, List.length_nil, Nat.add_zero, List.take_append_drop]
            exact h7.mono hkeep.rep
        · have hrun := run_append_room (P := C.P) (w := w) t o.type t' i hu hi b len rows.length cs h3 ad rows2.length c news hnl hnc hn1 hfit (by rw [hnl, h4, ← Nat.add_mul]; exact Nat.mul_le_mul_right _ hfit)
          refine out_re h hd hdst hfresh (x := .slice (some ⟨b, 0, none⟩) (len + rows2.length) rows.length) (w' := w.setRow b (cs.toList.take (len * i.size) ++ news ++ cs.toList.drop (len * i.size + news.length)).toArray) ?_ ?_ ?_ ?_ ?_ ?_ ?_ ⟨_, _, _, rfl⟩ ?_
          · unfold execOp
            simp only [ho, resolve, invoke, builtin, Sem.run_bind, Sem.run_pure, Result.andThen_ok, List.map_toArray, List.map_cons, List.map_nil, hs', hx, hrun]
          · rfl
          · rfl
          · rfl
          · simp
          · intro g hlt' hne
            exact setRow_other w b g _ (fun e => hne (by rw [e]; exact h2))
          · intro g hg
            simp only [Value.ownBlock, Option.some.injEq] at hg; subst hg
            exact ⟨.inl h2, by simpa using hlt⟩
          · intro hkeep
            have hlen : (rows.take len ++ rows2 ++ rows.drop (len + rows2.length)).length = rows.length := by simp; omega
            have hclen : (cs.toList.take (len * i.size) ++ news ++ cs.toList.drop (len * i.size + news.length)).length = rows.length * i.size := by
              have q1 : len * i.size + rows2.length * i.size ≤ rows.length * i.size := by rw [← Nat.add_mul]; exact Nat.mul_le_mul_right _ hfit
              rw [List.length_append, List.length_append, List.length_take, List.length_drop, Array.length_toList, h4, hnl, Nat.min_eq_left (by omega)]; omega
            refine ⟨b, (cs.toList.take (len * i.size) ++ news ++ cs.toList.drop (len * i.size + news.length)).toArray, by rw [hlen]; simp [Env.re], by simp [Env.re, Value.ownBlock], setRow_heap w b _ _ t' _ h3, ?_, h5, by rw [hlen]; exact hfit, ?_⟩
            · rw [hlen, List.size_toArray]; exact hclen
            · exact arr_split (fr := fr2) h5 h4 (h7.mono hkeep.rep) (hr.mono (Nat.le_refl _) hkeep.rep) hnl hm hfit
      · cases hf
    · cases hf
  · cases hf
def opIndexArr (P : Program) (σ : St) (o : Oper) (t : TypeId) (x ix : Operand) : Option (St × Prop) :=
  match ev σ x, intOf (ev σ ix), P.underlying t with
  | .vec k, some n, some (.slice e) => match lk σ.tab k, P.info? e with
    | some (.arr _ sz _ len _), some i => match Nat.beq sz i.size with
      | true => some (σ.put o.dst (.vptr k sz n.toNat 0), 0 ≤ n ∧ n < (len : Int))
      | false => none
    | _, _ => none
  | _, _, _ => none
theorem opIndexArr_sound {C : Ctx} {E : Env} {σ σ' : St} {a : Act} {w : World} {o : Oper} {t : TypeId} {x ix : Operand} {vc : Prop} (ho : o.op = .indexAddr t x ix)
    (hf : opIndexArr C.P σ o t x ix = some (σ', vc)) (hvc : vc) (h : HoldsE C E σ a w) (hd : DstOk C o) : OpOut C o σ' a w := by
  have hev := ev_rep h x
  unfold opIndexArr at hf
  split at hf
  · rename_i k n e he hn hu
    obtain ⟨kk, hix⟩ := intOf_ev h hn
    split at hf
    · rename_i t' sz rows len m i hl hi
      split at hf
      · rename_i hsz
        have hsz' := Nat.eq_of_beq_eq_true hsz
        simp only [Option.some.injEq, Prod.mk.injEq] at hf; obtain ⟨rfl, rfl⟩ := hf
        obtain ⟨h0, hlt⟩ := hvc
        rw [he] at hev; simp only [VR] at hev
        obtain ⟨b, cs, h1, h2, h3, h4, h5, h6, h7⟩ := h.tab.obj _ _ hl
        have hs := hev.1
        rw [h1] at hs
        have hv : a.eval x = .slice (some ⟨b, 0, none⟩) len rows.length := (Option.some.inj hs).symm
        refine out_pure h hd (v := .pointer (some ⟨b, n.toNat * sz, none⟩)) ?_ ?_
        · simp [execOp, ho, hv, hix, run_indexAt_slice (P := C.P) (w := w) (k := kk) hu hi h0 hlt, Addr.add_lit, hsz']
        · simp only [VR]
          exact ⟨b, _, _, h1, by simp⟩
      · cases hf
    · cases hf
  · cases hf
def opLoadArr (P : Program) (H : Hint) (σ : St) (o : Oper) (t : TypeId) (x : Operand) : Option (St × Prop) :=
  match ev σ x, o.dst with
  | .vptr k sz i off, some d => match lk σ.tab k, lk H.ld d with
    | some (.arr _ sz' rows _ _), some row => match loadOut P t off (row.map (mkp false)), Nat.beq sz sz' with
      | some sv, true => some (σ.put o.dst sv, rows[i]? = some row)
      | _, _ => none
    | _, _ => none
  | _, _ => none
theorem opLoadArr_sound {C : Ctx} {H : Hint} {E : Env} {σ σ' : St} {a : Act} {w : World} {o : Oper} {t : TypeId} {x : Operand} {vc : Prop} (ho : o.op = .load t x)
    (hf : opLoadArr C.P H σ o t x = some (σ', vc)) (hvc : vc) (h : HoldsE C E σ a w) (hd : DstOk C o) : OpOut C o σ' a w := by
  have hev := ev_rep h x
  unfold opLoadArr at hf
  split at hf
  · rename_i k sz i off d he hdst
    split at hf
    · rename_i tt sz' rows len m row hl hrow
      split at hf
      · rename_i sv hsv hszz
        have := Nat.eq_of_beq_eq_true hszz; subst this
        simp only [Option.some.injEq, Prod.mk.injEq] at hf; obtain ⟨rfl, rfl⟩ := hf
        rw [he] at hev; simp only [VR] at hev
        obtain ⟨b, n, c, hb, hx⟩ := hev
        obtain ⟨b', cs, h1, h2, h3, h4, h5, h6, f, a1, a2, a3, a4⟩ := h.tab.obj _ _ hl
        rw [hb] at h1
        simp only [Option.some.injEq, Value.slice.injEq, Addr.mk.injEq] at h1
        obtain ⟨⟨rfl, _⟩, _, _⟩ := h1
        have hvs : VRs w E C.lo (row.map (mkp false)) ((List.range row.length).map (f i)) := mkps_rep _ _ (by simp) fun j y v hy hv => by
          have hj : j < row.length := (List.getElem?_eq_some_iff.1 hy).1
          simp [hj] at hv; subst hv
          exact a3 i row j y hvc hy
        obtain ⟨v, hr, hv⟩ := load_rep (P := C.P) (b := b) (o := i * sz) hvs (fun j v hj => by
          have hj' : j < row.length := by have := (List.getElem?_eq_some_iff.1 hj).1; simpa using this
          simp [hj'] at hj; subst hj
          rw [cell_at h3]
          exact a2 i row j row[j] hvc (by simp [hj'])) hsv
        exact out_pure h hd (v := v) (by simp [execOp, ho, hx, hr]) hv
      · cases hf
    · cases hf
  · cases hf
def opStoreArr (P : Program) (σ : St) (o : Oper) (t : TypeId) (x y : Operand) : Option (St × Prop) :=
  match cellsOf (ev σ y), P.info? t, ev σ x with
  | some xs, some i, .vptr k sz n 0 => match ones xs, Nat.beq xs.length i.size, lk σ.tab k, toPVs xs with
    | true, true, some (.arr bt sz' rows len m), some (ys, true) => match Nat.beq sz sz', Nat.beq i.size sz with
      | true, true => some ((⟨σ.slots, (k, .arr bt sz' (rows.set n ys) len (m + 1)) :: rm σ.tab k⟩ : St).put o.dst .u, n = m ∧ m < len)
      | _, _ => none
    | _, _, _, _ => none
  | _, _, _ => none
theorem opStoreArr_sound {C : Ctx} {E : Env} {σ σ' : St} {a : Act} {w : World} {o : Oper} {t : TypeId} {x y : Operand} {vc : Prop} (ho : o.op = .store t x y)
    (hf : opStoreArr C.P σ o t x y = some (σ', vc)) (hvc : vc) (h : HoldsE C E σ a w) (hd : DstOk C o) : OpOut C o σ' a w := by
  have hev := ev_rep h x
  unfold opStoreArr at hf
  split at hf
  · rename_i xs i k sz n hxs hi he
    have hvs := cellsOf_rep hxs (ev_rep h y)
    have hlen := VRs_length hvs
    split at hf
    · rename_i bt sz' rows len m ys hones hsz hl hys
      have hsz' := Nat.eq_of_beq_eq_true hsz
      have h1 := ones_one hones hvs
      split at hf
      · rename_i hq1 hq2
        have := Nat.eq_of_beq_eq_true hq1; subst this
        have hq2' := Nat.eq_of_beq_eq_true hq2
        simp only [Option.some.injEq, Prod.mk.injEq] at hf; obtain ⟨rfl, rfl⟩ := hf
        obtain ⟨rfl, hml⟩ := hvc
        rw [he] at hev; simp only [VR] at hev
        obtain ⟨b, nn, c, hb, hx⟩ := hev
        obtain ⟨b', cs, e1, e2, e3, e4, e5, e6, f, a1, a2, a3, a4⟩ := h.tab.obj _ _ hl
        rw [hb] at e1
        simp only [Option.some.injEq, Value.slice.injEq, Addr.mk.injEq] at e1
        obtain ⟨⟨rfl, _⟩, rfl, rfl⟩ := e1
        obtain ⟨g1, g2, g, g3, g4⟩ := toPVs_rep xs ys true hys _ hvs
        have hyl : ys.length = sz := by rw [← g1]; omega
        have hcsz : (a.eval y).cells.size = sz := by have := g2; simp at this; omega
        have hnr : n < rows.length := by omega
        have hfit : n * sz + sz ≤ rows.length * sz := by
          have : (n + 1) * sz ≤ rows.length * sz := Nat.mul_le_mul_right _ (by omega)
          rw [Nat.add_mul, Nat.one_mul] at this; exact this
        have hr := run_storeAt (P := C.P) (off := n * sz) (v := a.eval y) hi (by omega) e3 (by omega) h1
        have hk0 : lk σ.tab k ≠ none := by rw [hl]; simp
        refine out_set h hd hk0 (w1 := w.setRow b (spl cs.toList (n * sz) (a.eval y).cells.toList).toArray) (by rw [Nat.add_zero] at hx; simp [execOp, ho, hx, hr]) rfl rfl rfl (by simp) ?_ ?_
        · intro c hc
          exact setRow_other w b c _ (fun e => hc (by rw [e]; exact e2))
        · have hkeep : Keeps w E (w.setRow b (spl cs.toList (n * sz) (a.eval y).cells.toList).toArray) E := ⟨fun c _ hn => ⟨setRow_other w b c _ (fun e => by subst e; rw [hn] at e2; cases e2), hn⟩, rfl⟩
          have hsl : (spl cs.toList (n * sz) (a.eval y).cells.toList).length = cs.size := by rw [spl_length _ _ _ (by simp; omega)]; simp
          have hget : ∀ (i : Nat) (row : List PV), (rows.set n ys)[i]? = some row → (i = n ∧ row = ys) ∨ (i ≠ n ∧ rows[i]? = some row) := by
            intro i row hi
            by_cases hin : n = i
            · subst hin
              rw [List.getElem?_set_self hnr] at hi; simp at hi; exact .inl ⟨rfl, hi.symm⟩
            · rw [List.getElem?_set_ne hin] at hi; exact .inr ⟨fun e => hin e.symm, hi⟩
          refine ⟨b, _, by simpa using hb, e2, setRow_heap w b _ _ bt _ e3, by simp [hsl, e4], e5, by simpa using e6, fun i j => if i = n then g j else f i j, ?_, ?_, ?_, ?_⟩
          · intro i row hi
            rcases hget i row hi with ⟨_, rfl⟩ | ⟨_, hi⟩
            · exact hyl
            · exact a1 i row hi
          · intro i row j x' hi hj
            have hjl : j < sz := by
              rcases hget i row hi with ⟨_, rfl⟩ | ⟨_, hi⟩
              · rw [← hyl]; exact (List.getElem?_eq_some_iff.1 hj).1
              · rw [← a1 i row hi]; exact (List.getElem?_eq_some_iff.1 hj).1
            rw [List.getElem?_toArray, spl_get _ _ _ (by simp; omega)]
            show _ = some (if i = n then g j else f i j)
            rcases hget i row hi with ⟨rfl, rfl⟩ | ⟨hne, hi⟩
            · rw [if_pos (by omega), if_pos rfl, ← g3 j x' hj]
              congr 1; omega
            · rw [if_neg hne]
              have hout : ¬ (n * sz ≤ i * sz + j ∧ i * sz + j < n * sz + (a.eval y).cells.toList.length) := by
                rintro ⟨q1, q2⟩
                rcases Nat.lt_or_gt_of_ne hne with hlt | hgt
                · have : (i + 1) * sz ≤ n * sz := Nat.mul_le_mul_right _ hlt
                  rw [Nat.add_mul, Nat.one_mul] at this; omega
                · have : (n + 1) * sz ≤ i * sz := Nat.mul_le_mul_right _ hgt
                  rw [Nat.add_mul, Nat.one_mul] at this; omega
              rw [if_neg hout, Array.getElem?_toList]
              exact a2 i row j x' hi hj
          · intro i row j x' hi hj
            show Rep _ _ 0 x' (if i = n then g j else f i j)
            rcases hget i row hi with ⟨rfl, rfl⟩ | ⟨hne, hi⟩
            · rw [if_pos rfl]; exact ((g4 j x' hj).mono (Nat.zero_le _) hkeep.rep)
            · rw [if_neg hne]; exact ((a3 i row j x' hi hj).mono (Nat.le_refl _) hkeep.rep)
          · intro i row j x' hi hj hc
            show Rep _ _ C.lo x' (if i = n then g j else f i j)
            rcases hget i row hi with ⟨rfl, rfl⟩ | ⟨hne, hi⟩
            · rw [if_pos rfl]; exact ((g4 j x' hj).mono (Nat.le_refl _) hkeep.rep)
            · rw [if_neg hne]; exact ((a4 i row j x' hi hj (by omega)).mono (Nat.le_refl _) hkeep.rep)
      · cases hf
    · cases hf
  · cases hf
def opLenArr (P : Program) (σ : St) (o : Oper) (x : Operand) (t : TypeId) : Option (St × Prop) :=
  match ev σ x, P.underlying t with
  | .vec k, some (.slice _) => match lk σ.tab k with
    | some (.arr _ _ _ len _) => some (σ.put o.dst (.p (.v (.int .i64 (len : Int))) true), True)
    | _ => none
  | _, _ => none
theorem opLenArr_sound {C : Ctx} {E : Env} {σ σ' : St} {a : Act} {w : World} {o : Oper} {x : Operand} {t : TypeId} {vc : Prop} (ho : o.op = .call { callee := .builtin .len, args := #[x], argTypes := #[t] })
    (hf : opLenArr C.P σ o x t = some (σ', vc)) (h : HoldsE C E σ a w) (hd : DstOk C o) : OpOut C o σ' a w := by
  have hev := ev_rep h x
  unfold opLenArr at hf
  split at hf
  · rename_i k e he hu
    split at hf
    · rename_i t' sz rows len m hl
      simp only [Option.some.injEq, Prod.mk.injEq] at hf; obtain ⟨rfl, _⟩ := hf
      rw [he] at hev; simp only [VR] at hev
      obtain ⟨b, cs, h1, h2, h3, h4, h5, h6, h7⟩ := h.tab.obj _ _ hl
      have hs := hev.1
      rw [h1] at hs
      have hv : a.eval x = .slice (some ⟨b, 0, none⟩) len rows.length := (Option.some.inj hs).symm
      refine out_pure h hd (v := .int .i64 (len : Int)) ?_ (VR_v true rfl)
      rw [exec_builtin ho]
      simp [builtin, Builtin.len_, run_underlying hu, hv, goInt]
    · cases hf
  · cases hf
end Go.TL
