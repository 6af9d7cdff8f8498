/- Runs of operations; code; functions. -/
import Derived.Test.YtaaimmmofkldbaaWo04
namespace Go.TL

def tr : Option (St × Prop) → Option (St × List Prop)
  | some (s, _) => some (s, [])
  | none => none
def nt : Option (St × Prop) → Option (St × List Prop)
  | some (s, p) => some (s, [p])
  | none => none

def allP : List Prop → Prop
  | [] => True
  | p :: ps => p ∧ allP ps

theorem allP_append {ps qs : List Prop} : allP (ps ++ qs) ↔ allP ps ∧ allP qs := by
  induction ps with
  | nil => simp [allP]
  | cons p ps ih => simp [allP, ih, and_assoc]

def arithOp : BinOp → Bool
  | .add | .sub | .mul | .quo | .rem => true
  | _ => false

/-- arithmetic whose result is told -/
def opBinW (H : Hint) (σ : St) (o : Oper) (op : BinOp) (x y : Operand) : Option (St × Prop) :=
  match o.dst with
  | some d => match lk H.ld d, isInt (ev σ x), isInt (ev σ y) with
    | some [.v (.int k0 z)], some (k, a), some (k', b) => match decide (k = k' ∧ k = k0) with
      | true => match arith op a b with
        | some n => some (σ.put o.dst (.p (.v (.int k z)) true), k.wrap n = z)
        | none => none
      | false => none
    | _, _, _ => none
  | none => none

theorem opBinW_sound {C : Ctx} {H : Hint} {E : Env} {σ σ' : St} {a : Act} {w : World} {o : Oper} {op : BinOp} {tx ty : TypeId} {x y : Operand} {vc : Prop} (ho : o.op = .binOp op tx x y ty)
    (hf : opBinW H σ o op x y = some (σ', vc)) (hvc : vc) (h : HoldsE C E σ a w) (hd : DstOk C o) : OpOut C o σ' a w := by
  unfold opBinW at hf
  split at hf
  · split at hf
    · rename_i k0 z k m k' n hl hx hy
      have ex := isInt_ev h hx
      have ey := isInt_ev h hy
      split at hf
      · rename_i hk
        obtain ⟨hk', hk0⟩ := of_decide_eq_true hk; subst hk'; subst hk0
        split at hf
        · rename_i r hr
          simp only [Option.some.injEq, Prod.mk.injEq] at hf; obtain ⟨rfl, rfl⟩ := hf
          refine out_pure h hd (v := .int k z) ?_ (VR_v true rfl)
          cases op <;> simp only [arith, Option.some.injEq, reduceCtorEq] at hr <;> subst hr <;> exact exec_bin ho (by rw [ex]; exact eqGuard_at_int _ _ _ _ _ _ _) (by rw [ex, ey]; simp [binOp, Op.intArith, hvc])
        · cases hf
      · cases hf
    · cases hf
  · cases hf

def aop (P : Program) (H : Hint) (σ : St) (o : Oper) : Option (St × List Prop) :=
  match o.op with
  | .move x => tr (opMove σ o x)
  | .assign x => tr (opMove σ o x)
  | .pick c x y => tr (opPick σ o c x y)
  | .alloc t => tr (opAlloc P σ o t)
  | .box t x => tr (opBox σ o t x)
  | .build t ps => tr (opBuild P σ o t ps)
  | .buildSlice t n ps => tr (opBuildSlice P σ o t n ps)
  | .load t x => match opLoadArr P H σ o t x with
    | some r => nt (some r)
    | none => match opRawLoad P H σ o t x with
    | some r => nt (some r)
    | none => match ev σ x with
      | .vptr _ _ _ _ => nt (opLoad P H σ o t x)
      | _ => tr (opLoad P H σ o t x)
  | .store t x y => match opStoreArr P σ o t x y with
    | some r => nt (some r)
    | none => match opRawStore P H σ o t x y with
    | some r => nt (some r)
    | none => match ev σ x with
      | .vptr _ _ _ _ => nt (opStore P H σ o t x y)
      | _ => tr (opStore P H σ o t x y)
  | .makeSlice t l c => nt (opMake P H σ o t l c)
  | .fieldAddr s x f => match opRawField P σ o s x f with
    | some r => tr (some r)
    | none => tr (opFieldAddr P σ o s x f)
  | .field t x f => tr (opField P σ o t x f)
  | .nilCheck x => match opRawNil σ o x with
    | some r => tr (some r)
    | none => tr (opNilCheck σ o x)
  | .indexAddr t x ix => match opIndexArr P σ o t x ix with
    | some r => nt (some r)
    | none => match opRawIndex P σ o t x ix with
    | some r => nt (some r)
    | none => match ev σ x with
      | .ptr _ _ => tr (opIndexAddr P H σ o t x ix)
      | _ => nt (opIndexAddr P H σ o t x ix)
  | .index t x ix => match ev σ x with
    | .agg _ => tr (opIndex P σ o t x ix)
    | _ => nt (opIndex P σ o t x ix)
  | .extract x n => tr (opExtract σ o x n)
  | .makeInterface t x => tr (opIface P σ o t x)
  | .makeFunc f first caps => tr (opFunc σ o f first caps)
  | .slice t x lo hi mx => match lo, hi, mx with
    | none, some h, none => match ev σ x with
      | .vec _ => nt (opSliceVec P σ o t x h)
      | _ => match opSlice P σ o t x none (some h) none with
        | some r => nt (some r)
        | none => nt (opRawSlice P σ o t x h)
    | lo, some h, some m => nt (opSlice3 P σ o t x lo h m)
    | lo, hi, none => nt (opSlice P σ o t x lo hi none)
    | _, _, _ => none
  | .binOp op t x y _ => match arithOp op with
    | true => match opBinW H σ o op x y with
      | some r => nt (some r)
      | none => nt (opBin σ o op x y)
    | false => match opBin σ o op x y with
      | some r => tr (some r)
      | none => tr (opNil P σ o op t x y)
  | .unOp op _ x => match op with
    | .not => tr (opUn σ o .not x)
    | op => nt (opUn σ o op x)
  | .convert s d x => nt (opConv P σ o s d x)
  | .call c => match c.callee, c.args.toList, c.argTypes.toList with
    | .builtin .len, [x], [t] => match opLenArr P σ o x t with
      | some r => tr (some r)
      | none => match opLen P σ o x t with
        | some r => tr (some r)
        | none => tr (opRawLen P σ o x t)
    | .builtin .cap, [x], [t] => tr (opRawCap P σ o x t)
    | .builtin .min, [x, y], _ => tr (opMinMax σ o false x y)
    | .builtin .max, [x, y], _ => tr (opMinMax σ o true x y)
    | .builtin .append, [s, x], [t, t'] => match Nat.beq t t' with
      | true => match opAppendArr P σ o s x t with
        | some r => nt (some r)
        | none => nt (opAppend P σ o s x t)
      | false => none
    | _, _, _ => none
  | _ => none

theorem tr_eq {r : Option (St × Prop)} {σ' : St} {ps : List Prop} (h : tr r = some (σ', ps)) : ∃ vc, r = some (σ', vc) := by
  unfold tr at h; split at h
  · simp only [Option.some.injEq, Prod.mk.injEq] at h; obtain ⟨rfl, _⟩ := h; exact ⟨_, rfl⟩
  · cases h
theorem nt_eq {r : Option (St × Prop)} {σ' : St} {ps : List Prop} (h : nt r = some (σ', ps)) (hp : allP ps) : ∃ vc, r = some (σ', vc) ∧ vc := by
  unfold nt at h; split at h
  · simp only [Option.some.injEq, Prod.mk.injEq] at h; obtain ⟨rfl, rfl⟩ := h; exact ⟨_, rfl, hp.1⟩
  · cases h


theorem opLoad_triv {P : Program} {H : Hint} {σ σ' : St} {o : Oper} {t : TypeId} {x : Operand} {vc : Prop} (hn : ∀ k sz i off, ev σ x ≠ .vptr k sz i off) (hf : opLoad P H σ o t x = some (σ', vc)) : vc := by
  unfold opLoad at hf
  split at hf
  · split at hf
    · split at hf
      · simp only [Option.some.injEq, Prod.mk.injEq] at hf; rw [← hf.2]; trivial
      · cases hf
    · cases hf
  · split at hf
    · simp only [Option.some.injEq, Prod.mk.injEq] at hf; rw [← hf.2]; trivial
    · cases hf
  · rename_i he; exact absurd he (hn _ _ _ _)
  · cases hf

theorem opStore_triv {P : Program} {H : Hint} {σ σ' : St} {o : Oper} {t : TypeId} {x y : Operand} {vc : Prop} (hn : ∀ k sz i off, ev σ x ≠ .vptr k sz i off) (hf : opStore P H σ o t x y = some (σ', vc)) : vc := by
  unfold opStore at hf
  split at hf
  · split at hf
    · split at hf
      · split at hf
        · split at hf
          · simp only [Option.some.injEq, Prod.mk.injEq] at hf; rw [← hf.2]; trivial
          · cases hf
        · cases hf
      · rename_i he; exact absurd he (hn _ _ _ _)
      · cases hf
    · cases hf
  · cases hf

theorem opIndexAddr_triv {P : Program} {H : Hint} {σ σ' : St} {o : Oper} {t : TypeId} {x ix : Operand} {vc : Prop} {k off : Nat} (hn : ev σ x = .ptr k off) (hf : opIndexAddr P H σ o t x ix = some (σ', vc)) : vc := by
  unfold opIndexAddr at hf
  split at hf
  · split at hf
    · rename_i he _; rw [hn] at he; cases he
    · rename_i he _; rw [hn] at he; cases he
    · split at hf
      · split at hf
        · simp only [Option.some.injEq, Prod.mk.injEq] at hf; rw [← hf.2]; trivial
        · cases hf
      · cases hf
    · cases hf
  · cases hf

theorem opIndex_triv {P : Program} {σ σ' : St} {o : Oper} {t : TypeId} {x ix : Operand} {vc : Prop} {xs : List SV} (hn : ev σ x = .agg xs) (hf : opIndex P σ o t x ix = some (σ', vc)) : vc := by
  unfold opIndex at hf
  split at hf
  · split at hf
    · split at hf
      · split at hf
        · simp only [Option.some.injEq, Prod.mk.injEq] at hf; rw [← hf.2]; trivial
        · cases hf
      · cases hf
    · rename_i he _; rw [hn] at he; cases he
    · cases hf
  · cases hf

theorem opBin_triv {σ σ' : St} {o : Oper} {op : BinOp} {x y : Operand} {vc : Prop} (hn : arithOp op = false) (hf : opBin σ o op x y = some (σ', vc)) : vc := by
  unfold opBin at hf
  split at hf
  · split at hf
    · split at hf
      · rename_i hr; cases op <;> simp [arith, arithOp] at hr hn
      · split at hf
        · simp only [Option.some.injEq, Prod.mk.injEq] at hf; rw [← hf.2]; trivial
        · split at hf <;> first | (simp [arithOp] at hn; done) | cases hf
    · cases hf
  · split at hf
    · split at hf
      · simp only [Option.some.injEq, Prod.mk.injEq] at hf; rw [← hf.2]; trivial
      · split at hf <;> first | (simp [arithOp] at hn; done) | cases hf
    · cases hf

theorem toList_one {α : Type} {xs : Array α} {x : α} (h : xs.toList = [x]) : xs = #[x] := Array.ext' h
theorem toList_two {α : Type} {xs : Array α} {x y : α} (h : xs.toList = [x, y]) : xs = #[x, y] := Array.ext' h

theorem aop_sound {C : Ctx} {H : Hint} {σ σ' : St} {a : Act} {w : World} {o : Oper} {ps : List Prop} (hf : aop C.P H σ o = some (σ', ps)) (hp : allP ps) (h : Holds C σ a w) (hd : DstOk C o) : OpOut C o σ' a w := by
  obtain ⟨E, h⟩ := h
  unfold aop at hf
  split at hf
  · rename_i ho; obtain ⟨_, hq⟩ := tr_eq hf; exact opMove_sound (.inl ho) hq h hd
  · rename_i ho; obtain ⟨_, hq⟩ := tr_eq hf; exact opMove_sound (.inr ho) hq h hd
  · rename_i ho; obtain ⟨_, hq⟩ := tr_eq hf; exact opPick_sound ho hq h hd
  · rename_i ho; obtain ⟨_, hq⟩ := tr_eq hf; exact opAlloc_sound ho hq h hd
  · rename_i ho; obtain ⟨_, hq⟩ := tr_eq hf; exact opBox_sound ho hq h hd
  · rename_i ho; obtain ⟨_, hq⟩ := tr_eq hf; exact opBuild_sound ho hq h hd
  · rename_i ho; obtain ⟨_, hq⟩ := tr_eq hf; exact opBuildSlice_sound ho hq h hd
  · rename_i ho
    split at hf
    · rename_i r hr; obtain ⟨_, hq, hv⟩ := nt_eq hf hp; rw [hq] at hr; exact opLoadArr_sound ho hr hv h hd
    split at hf
    · rename_i r hr; obtain ⟨_, hq, hv⟩ := nt_eq hf hp; rw [hq] at hr; exact opRawLoad_sound ho hr hv h hd
    · split at hf
      · obtain ⟨_, hq, hv⟩ := nt_eq hf hp; exact opLoad_sound ho hq hv h hd
      · rename_i hn; obtain ⟨_, hq⟩ := tr_eq hf; exact opLoad_sound ho hq (opLoad_triv (fun _ _ _ _ he => hn _ _ _ _ he) hq) h hd
  · rename_i ho
    split at hf
    · rename_i r hr; obtain ⟨_, hq, hv⟩ := nt_eq hf hp; rw [hq] at hr; exact opStoreArr_sound ho hr hv h hd
    split at hf
    · rename_i r hr; obtain ⟨_, hq, hv⟩ := nt_eq hf hp; rw [hq] at hr; exact opRawStore_sound ho hr hv h hd
    · split at hf
      · obtain ⟨_, hq, hv⟩ := nt_eq hf hp; exact opStore_sound ho hq hv h hd
      · rename_i hn; obtain ⟨_, hq⟩ := tr_eq hf; exact opStore_sound ho hq (opStore_triv (fun _ _ _ _ he => hn _ _ _ _ he) hq) h hd
  · rename_i ho; obtain ⟨_, hq, hv⟩ := nt_eq hf hp; exact opMake_sound ho hq hv h hd
  · rename_i ho
    split at hf
    · rename_i r hr; obtain ⟨_, hq⟩ := tr_eq hf; rw [hq] at hr; exact opRawField_sound ho hr h hd
    · obtain ⟨_, hq⟩ := tr_eq hf; exact opFieldAddr_sound ho hq h hd
  · rename_i ho; obtain ⟨_, hq⟩ := tr_eq hf; exact opField_sound ho hq h hd
  · rename_i ho
    split at hf
    · rename_i r hr; obtain ⟨_, hq⟩ := tr_eq hf; rw [hq] at hr; exact opRawNil_sound ho hr h hd
    · obtain ⟨_, hq⟩ := tr_eq hf; exact opNilCheck_sound ho hq h hd
  · rename_i ho
    split at hf
    · rename_i r hr; obtain ⟨_, hq, hv⟩ := nt_eq hf hp; rw [hq] at hr; exact opIndexArr_sound ho hr hv h hd
    split at hf
    · rename_i r hr; obtain ⟨_, hq, hv⟩ := nt_eq hf hp; rw [hq] at hr; exact opRawIndex_sound ho hr hv h hd
    · split at hf
      · rename_i he; obtain ⟨_, hq⟩ := tr_eq hf; exact opIndexAddr_sound ho hq (opIndexAddr_triv he hq) h hd
      · obtain ⟨_, hq, hv⟩ := nt_eq hf hp; exact opIndexAddr_sound ho hq hv h hd
  · rename_i ho
    split at hf
    · rename_i he; obtain ⟨_, hq⟩ := tr_eq hf; exact opIndex_sound ho hq (opIndex_triv he hq) h hd
    · obtain ⟨_, hq, hv⟩ := nt_eq hf hp; exact opIndex_sound ho hq hv h hd
  · rename_i ho; obtain ⟨_, hq⟩ := tr_eq hf; exact opExtract_sound ho hq h hd
  · rename_i ho; obtain ⟨_, hq⟩ := tr_eq hf; exact opIface_sound ho hq h hd
  · rename_i ho; obtain ⟨_, hq⟩ := tr_eq hf; exact opFunc_sound ho hq h hd
  · rename_i ho
    split at hf
    · split at hf
      · obtain ⟨_, hq, hv⟩ := nt_eq hf hp; exact opSliceVec_sound ho hq hv h hd
      · split at hf
        · rename_i r hr; obtain ⟨_, hq, hv⟩ := nt_eq hf hp; rw [hq] at hr; exact opSlice_sound ho hr hv h hd
        · obtain ⟨_, hq, hv⟩ := nt_eq hf hp; exact opRawSlice_sound ho hq hv h hd
    · obtain ⟨_, hq, hv⟩ := nt_eq hf hp; exact opSlice3_sound ho hq hv h hd
    · obtain ⟨_, hq, hv⟩ := nt_eq hf hp; exact opSlice_sound ho hq hv h hd
    · cases hf
  · rename_i ho
    split at hf
    · split at hf
      · rename_i r hr
        obtain ⟨_, hq, hv⟩ := nt_eq hf hp
        rw [hq] at hr
        exact opBinW_sound ho hr hv h hd
      · obtain ⟨_, hq, hv⟩ := nt_eq hf hp; exact opBin_sound ho hq hv h hd
    · rename_i hn
      split at hf
      · rename_i r hr
        obtain ⟨_, hq⟩ := tr_eq hf
        rw [hq] at hr
        exact opBin_sound ho hr (opBin_triv hn hr) h hd
      · obtain ⟨_, hq⟩ := tr_eq hf; exact opNil_sound ho hq h hd
  · rename_i op t x ho
    split at hf
    · obtain ⟨_, hq⟩ := tr_eq hf; exact opUn_sound ho hq (by unfold opUn at hq; split at hq <;> simp_all) h hd
    · obtain ⟨_, hq, hv⟩ := nt_eq hf hp; exact opUn_sound ho hq hv h hd
  · rename_i ho; obtain ⟨_, hq, hv⟩ := nt_eq hf hp; exact opConv_sound ho hq hv h hd
  · rename_i c ho
    split at hf
    · rename_i x t hc ha ht
      have ho' : o.op = .call { callee := .builtin .len, args := #[x], argTypes := #[t] } := by
        rw [ho]; obtain ⟨cc, ca, ct⟩ := c; simp only at hc ha ht; subst hc; rw [toList_one ha, toList_one ht]
      split at hf
      · rename_i r hr; obtain ⟨_, hq⟩ := tr_eq hf; rw [hq] at hr; exact opLenArr_sound ho' hr h hd
      split at hf
      · rename_i r hr; obtain ⟨_, hq⟩ := tr_eq hf; rw [hq] at hr; exact opLen_sound ho' hr h hd
      · obtain ⟨_, hq⟩ := tr_eq hf; exact opRawLen_sound ho' hq h hd
    · rename_i x t hc ha ht
      have ho' : o.op = .call { callee := .builtin .cap, args := #[x], argTypes := #[t] } := by
        rw [ho]; obtain ⟨cc, ca, ct⟩ := c; simp only at hc ha ht; subst hc; rw [toList_one ha, toList_one ht]
      obtain ⟨_, hq⟩ := tr_eq hf; exact opRawCap_sound ho' hq h hd
    · rename_i x y hc ha
      obtain ⟨_, hq⟩ := tr_eq hf
      refine opMin_sound (ts := c.argTypes) (x := x) (y := y) ?_ hq h hd
      rw [ho]; obtain ⟨cc, ca, ct⟩ := c; simp only at hc ha; subst hc; rw [toList_two ha]
    · rename_i x y hc ha
      obtain ⟨_, hq⟩ := tr_eq hf
      refine opMax_sound (ts := c.argTypes) (x := x) (y := y) ?_ hq h hd
      rw [ho]; obtain ⟨cc, ca, ct⟩ := c; simp only at hc ha; subst hc; rw [toList_two ha]
    · rename_i s x t t' hc ha ht
      split at hf
      · rename_i htt
        have := Nat.eq_of_beq_eq_true htt; subst this
        have ho' : o.op = .call { callee := .builtin .append, args := #[s, x], argTypes := #[t, t] } := by
          rw [ho]; obtain ⟨cc, ca, ct⟩ := c; simp only at hc ha ht; subst hc; rw [toList_two ha, toList_two ht]
        split at hf
        · rename_i r hr; obtain ⟨_, hq, hv⟩ := nt_eq hf hp; rw [hq] at hr; exact opAppendArr_sound ho' hr hv h hd
        · obtain ⟨_, hq, hv⟩ := nt_eq hf hp; exact opAppend_sound ho' hq hv h hd
      · cases hf
    · cases hf
  · cases hf

/- runs of operations -/

/-- whether an operation is carried out: known, or not -/
def wantedS (σ : St) (ops : List Oper) (o : Oper) : Option Bool :=
  match o.guard with
  | none => some true
  | some (j, want) => match ops[j]? with
    | some oj => match oj.dst with
      | some t => match lk σ.slots t with
        | some (.p (.v (.bool b)) _) => some (b == want)
        | _ => none
      | none => none
    | none => none

def dstB (n : Nat) (o : Oper) : Bool :=
  match o.dst with
  | some d => Nat.ble (d + 1) n
  | none => true

/-- a run of operations: the state behind it, what has to hold -/
def aops (P : Program) (n : Nat) (H : Hint) (ops : List Oper) : List Nat → St → Option (St × List Prop)
  | [], σ => some (σ, [])
  | i :: is, σ => match ops[i]? with
    | none => none
    | some o => match dstB n o, wantedS σ ops o with
      | true, some true => match aop P H σ o with
        | some (σ', ps) => match aops P n H ops is σ' with
          | some (σ'', qs) => some (σ'', ps ++ qs)
          | none => none
        | none => none
      | true, some false => match aops P n H ops is (σ.put o.dst .u) with
        | some (σ'', qs) => some (σ'', qs)
        | none => none
      | _, _ => none

def lift (C : Ctx) (Q : Exit → St → Prop) : Exit → Act → World → Prop := fun e a w => ∃ σ, Q e σ ∧ Holds C σ a w

theorem wantedS_eq {C : Ctx} {σ : St} {a : Act} {w : World} {ops : Array Oper} {o : Oper} {b : Bool} (h : Holds C σ a w) (hd : ∀ o ∈ ops.toList, ∀ d, o.dst = some d → d < C.n)
    (hb : wantedS σ ops.toList o = some b) : Region.wanted o (yielded ops a.tmps) = b := by
  obtain ⟨E, h⟩ := h
  unfold wantedS at hb
  unfold Region.wanted
  split at hb
  · rename_i hg; rw [hg]; simp at hb; rw [hb]
  · rename_i j want hg
    rw [hg]
    split at hb
    · rename_i oj hoj
      split at hb
      · rename_i t ht
        split at hb
        · rename_i bb fr hl
          have h1 := VR_v_eq (h.slots t _ hl)
          have hoj' : ops[j]? = some oj := by simpa using hoj
          have hlt : t < a.tmps.size := by rw [h.size]; exact hd oj (List.mem_of_getElem? hoj) t ht
          have h2 : a.tmps[t]? = some (.bool bb) := by
            rw [Array.getD_eq_getD_getElem?] at h1
            rw [Array.getElem?_eq_getElem hlt] at h1 ⊢
            simpa using h1
          simp only [Option.some.injEq] at hb
          simp only [yielded, hoj', Option.bind_some, ht, h2]
          rw [← hb]; cases bb <;> cases want <;> rfl
        · cases hb
      · cases hb
    · cases hb


/-- the context of a call: P and the number of slots are known, the rest is whatever it is -/
def mkC (P : Program) (n : Nat) (lo : Nat) (w0 : World) (E0 : Env) : Ctx := ⟨P, lo, w0, E0, n⟩

/-- from a state on: the operations is of a region come to Q -/
def AOps (P : Program) (n : Nat) (ops : Array Oper) (is : List Nat) (σ : St) (Q : Exit → St → Prop) : Prop :=
  ∀ lo w0 E0 a w, Holds (mkC P n lo w0 E0) σ a w → wpOps P ops (lift (mkC P n lo w0 E0) Q) is a w

/-- from a state on: a piece of code comes to Q -/
def AWP (P : Program) (n : Nat) (c : Code) (σ : St) (Q : Exit → St → Prop) : Prop :=
  ∀ lo w0 E0 a w, Holds (mkC P n lo w0 E0) σ a w → c.wp P (lift (mkC P n lo w0 E0) Q) a w

theorem wpOps_step {P : Program} {ops : Array Oper} {Q : Exit → Act → World → Prop} {i : Nat} {rest : List Nat} {a : Act} {w : World} {o : Oper} (ho : ops[i]? = some o)
    (hw : Region.wanted o (yielded ops a.tmps) = true) (h : o.wp P a w (wpOps P ops Q rest) Q) : wpOps P ops Q (i :: rest) a w := by
  simp only [wpOps, ho, hw, if_true]; exact .inl h

theorem wpOps_skip {P : Program} {ops : Array Oper} {Q : Exit → Act → World → Prop} {i : Nat} {rest : List Nat} {a : Act} {w : World} {o : Oper} (ho : ops[i]? = some o)
    (hw : Region.wanted o (yielded ops a.tmps) = false) (h : wpOps P ops Q rest (a.put o.dst undef) w) : wpOps P ops Q (i :: rest) a w := by
  simp only [wpOps, ho, hw, Bool.false_eq_true, if_false]; exact h

theorem holds_u {C : Ctx} {σ : St} {a : Act} {w : World} {dst : Option Nat} (h : Holds C σ a w) (hd : ∀ d, dst = some d → d < C.n) : Holds C (σ.put dst .u) (a.put dst undef) w := by
  obtain ⟨E, h⟩ := h
  exact ⟨E, h.upd (Fr.refl w E) (fun _ _ h => h) (fun _ _ h => h) h.tab dst hd fun _ _ => by simp [VR]⟩

def dstsB (n : Nat) : List Oper → Bool
  | [] => true
  | o :: os => match dstB n o with | true => dstsB n os | false => false

theorem dstB_ok {n : Nat} {o : Oper} (h : dstB n o = true) : ∀ d, o.dst = some d → d < n := by
  intro d hd
  unfold dstB at h
  rw [hd] at h
  exact Nat.le_of_ble_eq_true h

theorem dstsB_ok {n : Nat} : ∀ {os : List Oper}, dstsB n os = true → ∀ o ∈ os, ∀ d, o.dst = some d → d < n
  | [], _, o, ho, _, _ => by simp at ho
  | x :: os, h, o, ho, d, hd => by
    simp only [dstsB] at h
    cases hx : dstB n x with
    | false => simp [hx] at h
    | true =>
      simp only [hx] at h
      rcases List.mem_cons.1 ho with rfl | ho
      · exact dstB_ok hx d hd
      · exact dstsB_ok h o ho d hd

theorem aops_run {P : Program} {n : Nat} {H : Hint} {ops : Array Oper} {Q : Exit → St → Prop} (hds : dstsB n ops.toList = true) (is2 : List Nat) : ∀ (is : List Nat) (σ σ' : St) (ps : List Prop), aops P n H ops.toList is σ = some (σ', ps) → allP ps →
    AOps P n ops is2 σ' Q → AOps P n ops (is ++ is2) σ Q
  | [], σ, σ', ps, hf, _, hn => by
    simp only [aops, Option.some.injEq, Prod.mk.injEq] at hf; obtain ⟨rfl, _⟩ := hf; exact hn
  | i :: is, σ, σ', ps, hf, hp, hn => by
    intro lo w0 E0 a w h
    simp only [aops] at hf
    split at hf
    · cases hf
    · rename_i o ho
      have ho' : ops[i]? = some o := by simpa using ho
      split at hf
      · rename_i hb hw
        have hdo := dstB_ok hb
        split at hf
        · rename_i σ1 ps1 ha
          split at hf
          · rename_i σ2 qs hr
            simp only [Option.some.injEq, Prod.mk.injEq] at hf; obtain ⟨rfl, rfl⟩ := hf
            obtain ⟨hp1, hp2⟩ := allP_append.1 hp
            have hout := aop_sound (C := mkC P n lo w0 E0) ha hp1 h hdo
            have ih := aops_run hds is2 is σ1 σ2 qs hr hp2 hn
            refine wpOps_step ho' (wantedS_eq h (dstsB_ok hds) hw) ?_
            obtain ⟨v, w', hrun, hh⟩ := hout
            unfold Oper.wp
            rcases hrun with hrun | ⟨hrun, rfl⟩
            · have : (execOp a.eval o).run P w = .ok (.value v) w' := hrun
              rw [this]
              exact ih lo w0 E0 _ _ hh
            · have : (execOp a.eval o).run P w = .ok .skip w' := hrun
              rw [this]
              exact ih lo w0 E0 _ _ hh
          · cases hf
        · cases hf
      · rename_i hb hw
        split at hf
        · rename_i σ2 qs hr
          simp only [Option.some.injEq, Prod.mk.injEq] at hf; obtain ⟨rfl, rfl⟩ := hf
          refine wpOps_skip ho' (wantedS_eq h (dstsB_ok hds) hw) ?_
          exact aops_run hds is2 is _ _ _ hr hp hn lo w0 E0 _ _ (holds_u h (dstB_ok hb))
        · cases hf
      · cases hf

theorem aops_nil {P : Program} {n : Nat} {ops : Array Oper} {σ : St} {Q : Exit → St → Prop} (h : Q .normal σ) : AOps P n ops [] σ Q := by
  intro lo w0 E0 a w hh
  exact ⟨σ, h, hh⟩

/-- the state that is known is turned into another that holds too -/
def Imp (P : Program) (n : Nat) (σ σ' : St) : Prop := ∀ lo w0 E0 a w, Holds (mkC P n lo w0 E0) σ a w → Holds (mkC P n lo w0 E0) σ' a w

theorem AOps.imp {P : Program} {n : Nat} {ops : Array Oper} {is : List Nat} {σ σ' : St} {Q : Exit → St → Prop} (h : Imp P n σ σ') (k : AOps P n ops is σ' Q) : AOps P n ops is σ Q :=
  fun lo w0 E0 a w hh => k lo w0 E0 a w (h lo w0 E0 a w hh)
theorem AWP.imp {P : Program} {n : Nat} {c : Code} {σ σ' : St} {Q : Exit → St → Prop} (h : Imp P n σ σ') (k : AWP P n c σ' Q) : AWP P n c σ Q :=
  fun lo w0 E0 a w hh => k lo w0 E0 a w (h lo w0 E0 a w hh)

/-- a bool that is not known is one of two -/
def St.setBool (σ : St) (t : Nat) (b : Bool) : St := ⟨(t, .p (.v (.bool b)) true) :: σ.slots, σ.tab⟩

def boolAt (σ : St) (t : Nat) : Option Bool :=
  match lk σ.slots t with
  | some (.p (.v (.bool b)) _) => some b
  | _ => none

theorem holds_bool {C : Ctx} {σ : St} {a : Act} {w : World} {t : Nat} {b : Bool} (hb : boolAt σ t = some b) (h : Holds C σ a w) : Holds C (σ.setBool t b) a w := by
  obtain ⟨E, h⟩ := h
  unfold boolAt at hb
  split at hb
  · rename_i b' fr hl
    simp only [Option.some.injEq] at hb; subst hb
    refine ⟨E, h.size, h.defers, ?_, h.tab, h.fr, h.lo, h.ids, h.pres⟩
    intro t' s hs
    by_cases he : t' = t
    · subst he
      simp only [St.setBool] at hs
      rw [lk_cons_same] at hs; cases hs
      have := h.slots _ _ hl
      rw [VR_v_eq this]
      exact VR_v true rfl
    · simp only [St.setBool] at hs
      rw [lk_cons_ne _ _ _ _ he] at hs
      exact h.slots t' s hs
  · cases hb

theorem aops_split {P : Program} {n : Nat} {ops : Array Oper} {is : List Nat} {σ : St} {Q : Exit → St → Prop} (t : Nat) (b : Bool) (hb : boolAt σ t = some b)
    (h1 : b = true → AOps P n ops is (σ.setBool t true) Q) (h2 : b = false → AOps P n ops is (σ.setBool t false) Q) : AOps P n ops is σ Q := by
  intro lo w0 E0 a w h
  have := holds_bool hb h
  cases b with
  | true => exact h1 rfl lo w0 E0 a w this
  | false => exact h2 rfl lo w0 E0 a w this

/- code -/

theorem awp_region {P : Program} {n id : Nat} {ops : Array Oper} {σ : St} {Q : Exit → St → Prop} (h : AOps P n ops (List.range ops.size) σ Q) : AWP P n (.region id ops false) σ Q :=
  fun lo w0 E0 a w hh => wp_region (h lo w0 E0 a w hh)

theorem awp_seq {P : Program} {n : Nat} {x y : Code} {σ : St} {Q : Exit → St → Prop} (h : AWP P n x σ fun e s => match e with | .normal => AWP P n y s Q | e => Q e s) : AWP P n (.seq x y) σ Q := by
  intro lo w0 E0 a w hh
  refine wp_seq (wp_mono (h lo w0 E0 a w hh) ?_)
  rintro e a' w' ⟨s, hq, hs⟩
  cases e <;> first | exact ⟨s, hq, hs⟩ | exact hq lo w0 E0 a' w' hs

theorem awp_skip {P : Program} {n : Nat} {σ : St} {Q : Exit → St → Prop} (h : Q .normal σ) : AWP P n .skip σ Q := fun _ _ _ _ _ hh => wp_skip ⟨σ, h, hh⟩
theorem awp_ret {P : Program} {n : Nat} {σ : St} {Q : Exit → St → Prop} (h : Q .ret σ) : AWP P n .ret σ Q := fun _ _ _ _ _ hh => wp_ret ⟨σ, h, hh⟩
theorem awp_exit {P : Program} {n id : Nat} {σ : St} {Q : Exit → St → Prop} (h : Q (.exit id) σ) : AWP P n (.exit id) σ Q := fun _ _ _ _ _ hh => wp_exit ⟨σ, h, hh⟩

theorem awp_block {P : Program} {n id : Nat} {c : Code} {σ : St} {Q : Exit → St → Prop} (h : AWP P n c σ fun e s => match e with | .exit id' => (match Nat.beq id' id with | true => Q .normal s | false => Q (.exit id') s) | e => Q e s) : AWP P n (.block id c) σ Q := by
  intro lo w0 E0 a w hh
  refine wp_block (wp_mono (h lo w0 E0 a w hh) ?_)
  rintro e a' w' ⟨s, hq, hs⟩
  cases e with
  | exit id' =>
    simp only [Exit.inBlock]
    simp only at hq
    cases hb : Nat.beq id' id with
    | true => rw [if_pos (Nat.eq_of_beq_eq_true hb)]; simp only [hb] at hq; exact ⟨s, hq, hs⟩
    | false => rw [if_neg (beq_false hb)]; simp only [hb] at hq; exact ⟨s, hq, hs⟩
  | _ => exact ⟨s, hq, hs⟩

def boolOp (σ : St) (c : Operand) : Option Bool :=
  match ev σ c with
  | .p (.v (.bool b)) _ => some b
  | _ => none

theorem boolOp_ev {C : Ctx} {σ : St} {a : Act} {w : World} {c : Operand} {b : Bool} (h : Holds C σ a w) (hb : boolOp σ c = some b) : a.eval c = .bool b := by
  obtain ⟨E, h⟩ := h
  unfold boolOp at hb
  split at hb
  · rename_i b' fr he
    simp only [Option.some.injEq] at hb; subst hb
    exact ev_v h he
  · cases hb

theorem awp_cond {P : Program} {n : Nat} {c : Operand} {x y : Code} {σ : St} {Q : Exit → St → Prop} (b : Bool) (hb : boolOp σ c = some b) (h1 : b = true → AWP P n x σ Q) (h2 : b = false → AWP P n y σ Q) : AWP P n (.cond c x y) σ Q :=
  fun lo w0 E0 a w hh => wp_cond_split (boolOp_ev hh hb) (fun e => h1 e lo w0 E0 a w hh) (fun e => h2 e lo w0 E0 a w hh)

/-- a loop: what is known at each of its rounds, I x, where C x; a measure -/
theorem awp_loop {P : Program} {n : Nat} {c : Code} {σ : St} {Q : Exit → St → Prop} {α : Type} (I : α → St) (K : α → Prop) (μ : α → Nat) (x0 : α) (h0 : Imp P n σ (I x0)) (hK : K x0)
    (h : ∀ x, K x → AWP P n c (I x) fun e s => match e with | .normal => ∃ x', K x' ∧ μ x' < μ x ∧ Imp P n s (I x') | e => Q e s) : AWP P n (.loop c) σ Q := by
  intro lo w0 E0 a w hh
  intro b k cs
  have key : ∀ m a w x, K x → μ x = m → Holds (mkC P n lo w0 E0) (I x) a w →
      ∃ e a' w', lift (mkC P n lo w0 E0) Q e a' w' ∧ Arrives P (lone (b.at a (.code c :: .inLoop c :: k)) cs w) b k cs e a' w' := by
    intro m
    induction m using Nat.strongRecOn with
    | _ m ih =>
      intro a w x hx hm hs
      obtain ⟨e, a₁, w₁, ⟨s, hq, hs₁⟩, harr⟩ := h x hx lo w0 E0 a w hs b (.inLoop c :: k) cs
      cases e with
      | normal =>
        obtain ⟨x', hx', hlt, himp⟩ := hq
        obtain ⟨e₂, a₂, w₂, hq₂, harr₂⟩ := ih (μ x') (hm ▸ hlt) a₁ w₁ x' hx' rfl (himp lo w0 E0 a₁ w₁ hs₁)
        exact ⟨e₂, a₂, w₂, hq₂, .of_steps (Steps.trans harr (.one step_inLoop)) harr₂⟩
      | exit id => exact ⟨_, a₁, w₁, ⟨s, hq, hs₁⟩, .pass (x := .inLoop c) rfl (fun _ _ => .inl (by simp)) harr⟩
      | goto l => exact ⟨_, a₁, w₁, ⟨s, hq, hs₁⟩, .pass (x := .inLoop c) rfl (fun _ _ => .inl (by simp)) harr⟩
      | ret => exact ⟨_, a₁, w₁, ⟨s, hq, hs₁⟩, .pass (x := .inLoop c) rfl (fun _ _ => .inl (by simp)) harr⟩
      | panic ch => exact ⟨_, a₁, w₁, ⟨s, hq, hs₁⟩, .pass (x := .inLoop c) rfl (fun _ _ => .inl (by simp)) harr⟩
      | outgrown => exact ⟨_, a₁, w₁, ⟨s, hq, hs₁⟩, .pass (x := .inLoop c) rfl (fun _ _ => .inl (by simp)) harr⟩
  obtain ⟨e, a', w', hq, harr⟩ := key _ a w x0 hK rfl (h0 lo w0 E0 a w hh)
  exact ⟨e, a', w', hq, .of_steps (.one step_loop) harr⟩

/- functions -/

/-- function f, called with known values and objects, returns what R says, and leaves all that is not its own -/
def FnS (P : Program) (f : FuncId) (args : List SV) (T : Tab) (R : SV → Tab → Prop) : Prop :=
  ∀ lo w E vals, lo ≤ w.heap.size → TabOK w E lo T → VRs w E lo args vals →
    Calls P f vals.toArray w fun e w' => ∃ r v T' E', e = .returned v ∧ R r T' ∧ Fr w E w' E' ∧ TabOK w' E' lo T' ∧ VR w' E' lo r v ∧ ∀ k x, E.val k = some x → E'.val k = some x ∨ E'.val k = none

def slotsFrom : Nat → List SV → List (Nat × SV)
  | _, [] => []
  | k, x :: xs => (k, x) :: slotsFrom (k + 1) xs

theorem lk_slotsFrom : ∀ (xs : List SV) (k t : Nat), lk (slotsFrom k xs) t = if k ≤ t then xs[t - k]? else none
  | [], k, t => by simp [slotsFrom, lk]
  | x :: xs, k, t => by
    simp only [slotsFrom, lk]
    cases hb : Nat.beq k t with
    | true => have := Nat.eq_of_beq_eq_true hb; subst this; simp
    | false =>
      have hne := beq_false hb
      simp only
      rw [lk_slotsFrom xs (k + 1) t]
      by_cases hle : k ≤ t
      · rw [if_pos (by omega), if_pos hle, show t - k = (t - (k + 1)) + 1 by omega]; rfl
      · rw [if_neg (by omega), if_neg hle]

def idsB (n : Nat) : Tab → Bool
  | [] => true
  | (k, _) :: r => match Nat.ble n k with | true => idsB n r | false => false

theorem idsB_ok {n : Nat} : ∀ {T : Tab}, idsB n T = true → ∀ k, lk T k ≠ none → n ≤ k
  | [], _, k, h => by simp [lk] at h
  | (j, x) :: r, hb, k, h => by
    simp only [idsB] at hb
    cases hq : Nat.ble n j with
    | false => simp [hq] at hb
    | true =>
      simp only [hq] at hb
      simp only [lk] at h
      cases hjk : Nat.beq j k with
      | true => have := Nat.eq_of_beq_eq_true hjk; subst this; exact Nat.le_of_ble_eq_true hq
      | false => simp only [hjk] at h; exact idsB_ok hb k h

/-- a result of a function: a slot, or a variable -/
def resOf (P : Program) (σ : St) : ResultVar → Option SV
  | .tmp t => some (σ.get t)
  | .cell x t => match σ.get x with
    | .ptr k off => match lk σ.tab k with
      | some (.box _ cells) => loadOut P t off cells
      | _ => none
    | _ => none

def resList (P : Program) (σ : St) : List ResultVar → Option (List SV)
  | [] => some []
  | r :: rs => match resOf P σ r, resList P σ rs with
    | some x, some xs => some (x :: xs)
    | _, _ => none

def resAll (P : Program) (σ : St) (rs : List ResultVar) : Option SV :=
  match resList P σ rs with
  | some [x] => some x
  | some xs => some (.tup xs)
  | none => none

def runRes (tmps : Array Value) : ResultVar → Sem Value
  | .tmp t => pure (tmps.getD t undef)
  | .cell a t => do loadVar t (← asAddr (tmps.getD a undef))

theorem resOf_run {C : Ctx} {E : Env} {σ : St} {a : Act} {w : World} {r : ResultVar} {sv : SV} (h : HoldsE C E σ a w) (hr : resOf C.P σ r = some sv) : ∃ v, (runRes a.tmps r).run C.P w = .ok v w ∧ VR w E C.lo sv v := by
  cases r with
  | tmp t => simp only [resOf, Option.some.injEq] at hr; subst hr; exact ⟨_, rfl, ev_rep h (.tmp t)⟩
  | cell x t =>
    simp only [resOf] at hr
    split at hr
    · rename_i k off he
      split at hr
      · rename_i bt cells hl
        have hev := ev_rep h (.tmp x)
        simp only [ev, he, VR] at hev
        obtain ⟨b, hb, hx⟩ := hev
        obtain ⟨b', vs, h1, h2, h3, h4⟩ := h.tab.obj k _ hl
        rw [hb] at h1; simp at h1; subst h1
        obtain ⟨v, hr', hv⟩ := load_rep (P := C.P) (b := b) (o := 0) h4 (fun j v hj => by rw [cell_at h3]; simpa using hj) hr
        refine ⟨v, ?_, hv⟩
        simp only [Nat.zero_add] at hr'
        simp only [Act.eval] at hx
        simp only [runRes, Sem.run_bind, hx, asAddr, Sem.run_pure, Result.andThen_ok]
        simpa [Instr.loadAt, Instr.sureAddr] using hr'
      · cases hr
    · cases hr

theorem resList_run {C : Ctx} {E : Env} {σ : St} {a : Act} {w : World} (h : HoldsE C E σ a w) : ∀ (rs : List ResultVar) (xs : List SV), resList C.P σ rs = some xs → ∃ vs : List Value, (rs.mapM (runRes a.tmps)).run C.P w = .ok vs w ∧ VRs w E C.lo xs vs
  | [], xs, hr => by simp only [resList, Option.some.injEq] at hr; subst hr; exact ⟨[], rfl, VRs_nil⟩
  | r :: rs, xs, hr => by
    simp only [resList] at hr
    split at hr
    · rename_i x ys h1 h2
      simp only [Option.some.injEq] at hr; subst hr
      obtain ⟨v, hv, hvr⟩ := resOf_run h h1
      obtain ⟨vs, hvs, hvrs⟩ := resList_run h rs ys h2
      exact ⟨v :: vs, by simp [List.mapM_cons, hv, hvs], VRs_cons hvr hvrs⟩
    · cases hr

theorem resAll_run {C : Ctx} {E : Env} {σ : St} {a : Act} {w : World} {fn : Func} {sv : SV} (h : HoldsE C E σ a w) (hr : resAll C.P σ fn.results.toList = some sv) : ∃ v, (results fn a.tmps).run C.P w = .ok v w ∧ VR w E C.lo sv v := by
  unfold resAll at hr
  have hres : results fn a.tmps = (fn.results.mapM (runRes a.tmps) >>= fun vs => pure (if h : vs.size = 1 then vs[0] else .tuple vs)) := by
    unfold results
    congr 1
  rw [hres]
  split at hr
  · rename_i x hl
    simp only [Option.some.injEq] at hr; subst hr
    obtain ⟨vs, h1, h2⟩ := resList_run h _ _ hl
    have hlen := VRs_length h2
    match vs, hlen, h2, h1 with
    | [v], _, h2, h1 =>
      refine ⟨v, ?_, (VRs_cons_iff.1 h2).1⟩
      simp [Array.mapM_eq_mapM_toList, h1]
  · rename_i xs hne hl
    simp only [Option.some.injEq] at hr; subst hr
    obtain ⟨vs, h1, h2⟩ := resList_run h _ _ hl
    have hlen := VRs_length h2
    refine ⟨.tuple vs.toArray, ?_, by simp only [VR]; exact ⟨vs, rfl, h2⟩⟩
    have hs : vs.toArray.size ≠ 1 := by
      intro e
      simp at e
      match xs, hlen, hne with
      | [x], _, hne => exact hne x rfl
      | [], hl', _ => simp at hl'; omega
      | x :: y :: r, hl', _ => simp at hl'; omega
    simp at hs
    simp [Array.mapM_eq_mapM_toList, h1, hs]
  · cases hr

/-- what a function's end must give -/
def RetOk (P : Program) (fn : Func) (R : SV → Tab → Prop) (σ : St) : Prop :=
  ∃ σ1, Imp P fn.ntmps σ σ1 ∧ ∃ r, resAll P σ1 fn.results.toList = some r ∧ ∃ σ2, Imp P 1 ⟨[(0, r)], σ1.tab⟩ σ2 ∧ ∃ r', lk σ2.slots 0 = some r' ∧ R r' σ2.tab

def retQ (P : Program) (fn : Func) (R : SV → Tab → Prop) : Exit → St → Prop := fun e σ =>
  match e with
  | .normal => RetOk P fn R σ
  | .ret => RetOk P fn R σ
  | _ => False

theorem retQ_mk {P : Program} {fn : Func} {R : SV → Tab → Prop} {σ : St} {r : SV} (h : resAll P σ fn.results.toList = some r) (hR : R r σ.tab) : retQ P fn R .ret σ :=
  ⟨σ, fun _ _ _ _ _ h => h, r, h, _, fun _ _ _ _ _ h => h, r, rfl, hR⟩
theorem retQ_mk2 {P : Program} {fn : Func} {R : SV → Tab → Prop} {σ σ2 : St} {r r' : SV} (h : resAll P σ fn.results.toList = some r) (himp : Imp P 1 ⟨[(0, r)], σ.tab⟩ σ2) (hl : lk σ2.slots 0 = some r') (hR : R r' σ2.tab) : retQ P fn R .ret σ :=
  ⟨σ, fun _ _ _ _ _ h => h, r, h, σ2, himp, r', hl, hR⟩
theorem retQ_imp {P : Program} {fn : Func} {R : SV → Tab → Prop} {σ σ' : St} (h : Imp P fn.ntmps σ σ') (k : retQ P fn R .ret σ') : retQ P fn R .ret σ := by
  obtain ⟨σ'', h1, r, h2, h3⟩ := k
  exact ⟨σ'', fun lo w0 E0 a w hh => h1 lo w0 E0 a w (h lo w0 E0 a w hh), r, h2, h3⟩
theorem retQ_normal {P : Program} {fn : Func} {R : SV → Tab → Prop} {σ : St} (k : retQ P fn R .ret σ) : retQ P fn R .normal σ := k

theorem fn_of_awp {P : Program} {f : FuncId} {fn : Func} {c : Code} {args : List SV} {T : Tab} {R : SV → Tab → Prop} (hf : P.funcs[f]? = some fn) (hb : fn.body = some c) (hn : Nat.ble args.length fn.ntmps = true)
    (hids : idsB (fn.ntmps + 1) T = true) (h : AWP P fn.ntmps c ⟨slotsFrom 0 args, T⟩ (retQ P fn R)) : FnS P f args T R := by
  intro lo w E vals hlo ht hv
  have hlen := VRs_length hv
  have hn' := Nat.le_of_ble_eq_true hn
  refine calls_of_wp hf hb ?_
  have hold : Holds (mkC P fn.ntmps lo w E) ⟨slotsFrom 0 args, T⟩ { tmps := vals.toArray ++ Array.replicate (fn.ntmps - vals.toArray.size) undef, defers := [] } w := by
    refine ⟨E, by simp [mkC]; omega, rfl, ?_, ht, Fr.refl w E, hlo, ?_, fun k x hk => .inl hk⟩
    · intro t sv hl
      rw [lk_slotsFrom] at hl
      simp at hl
      obtain ⟨v, hv1, hv2⟩ := VRs_get hv hl
      have hlt : t < vals.length := (List.getElem?_eq_some_iff.1 hv1).1
      have : (vals.toArray ++ Array.replicate (fn.ntmps - vals.toArray.size) undef).getD t undef = v := by
        simp only [Array.getD_eq_getD_getElem?, Array.getElem?_append, List.size_toArray, hlt, if_true, List.getElem?_toArray, hv1, Option.getD_some]
      simp only [this]
      exact hv2
    · intro k hk
      exact Nat.le_of_succ_le (idsB_ok hids k fun e => hk (ht.dead k e))
  refine wp_mono (h lo w E _ w hold) ?_
  rintro e a' w' ⟨σ, hq, hs⟩
  have fin : RetOk P fn R σ → a'.defers = [] ∧ ∃ v, (results fn a'.tmps).run P w' = .ok v w' ∧ ∃ r v_1 T' E', Ending.returned v = .returned v_1 ∧ R r T' ∧ Fr w E w' E' ∧ TabOK w' E' lo T' ∧ VR w' E' lo r v_1 ∧ ∀ k x, E.val k = some x → E'.val k = some x ∨ E'.val k = none := by
    rintro ⟨σ', himp, r, hr, σ2, himp2, r', hl, hR⟩
    obtain ⟨E', hs⟩ := himp lo w E a' w' hs
    obtain ⟨v, h1, h2⟩ := resAll_run (fn := fn) hs hr
    have hold2 : Holds (mkC P 1 lo w E) ⟨[(0, r)], σ'.tab⟩ { tmps := #[v], defers := [] } w' := by
      refine ⟨E', rfl, rfl, ?_, hs.tab, hs.fr, hs.lo, fun k hk => Nat.le_trans (Nat.succ_le_succ (Nat.zero_le _)) (idsB_ok hids k fun e => hk (ht.dead k e)), hs.pres⟩
      intro t sv hl
      simp only [lk] at hl
      cases hb : Nat.beq 0 t with
      | true => simp only [hb, Option.some.injEq] at hl; subst hl; have := Nat.eq_of_beq_eq_true hb; subst this; exact h2
      | false => simp [hb] at hl
    obtain ⟨E2, hs2⟩ := himp2 lo w E _ w' hold2
    exact ⟨hs.defers, v, h1, r', v, σ2.tab, E2, rfl, hR, hs2.fr, hs2.tab, hs2.slots 0 r' hl, hs2.pres⟩
  cases e with
  | normal => exact fin hq
  | ret => exact fin hq
  | _ => exact hq.elim

end Go.TL
/- Calls. -/
namespace Go.TL

mutual
/-- no object but those of T is named -/
def SV.inB (T : Tab) : SV → Bool
  | .vec j => (lk T j).isSome
  | .ptr j _ => (lk T j).isSome
  | .vptr j _ _ _ => (lk T j).isSome
  | .ref j => (lk T j).isSome
  | .agg xs => insB T xs
  | .tup xs => insB T xs
  | .fn _ first caps => match insB T first with | true => insB T caps | false => false
  | .ifc _ x => SV.inB T x
  | .u => true
  | .p _ _ => true
  | .pd _ _ _ => true
  | .pc _ _ => true
def insB (T : Tab) : List SV → Bool
  | [] => true
  | x :: xs => match SV.inB T x with | true => insB T xs | false => false
end

/-- what a callee that is handed the objects of T0 knows of the memory -/
def Env.sub (E : Env) (T0 : Tab) : Env :=
  ⟨fun k => if (lk T0 k).isSome then E.val k else none, fun b => match E.own b with | some k => if (lk T0 k).isSome then some k else none | none => none,
    fun b => E.ext b ∨ ∃ k, E.own b = some k ∧ (lk T0 k).isSome = false⟩

theorem sub_bad (E : Env) (T0 : Tab) : (E.sub T0).bad = E.bad := by
  funext b
  apply propext
  unfold Env.bad Env.sub
  simp only
  cases hb : E.own b with
  | none => simp
  | some k =>
    cases hk : (lk T0 k).isSome with
    | true => simp [hk]
    | false =>
      simp only [hk, Bool.false_eq_true, if_false, ne_eq, not_true_eq_false, false_or, reduceCtorEq, not_false_eq_true, true_or, iff_true]
      exact .inr ⟨k, rfl, hk⟩

mutual
theorem VR.sub {w : World} {E : Env} {lo : Nat} {T0 : Tab} : ∀ (sv : SV) (v : Value), sv.inB T0 = true → VR w E lo sv v → VR w (E.sub T0) lo sv v
  | .u, _, _, _ => by simp [VR]
  | .p x fr, v, _, h => by simp only [VR] at h ⊢; rw [sub_bad]; exact h
  | .ptr k off, v, hb, h => by simp only [VR, SV.inB] at h hb ⊢; obtain ⟨b, h1, h2⟩ := h; exact ⟨b, by simp [Env.sub, hb, h1], h2⟩
  | .vec k, v, hb, h => by simp only [VR, SV.inB] at h hb ⊢; exact ⟨by simp [Env.sub, hb, h.1], h.2⟩
  | .vptr k sz i off, v, hb, h => by simp only [VR, SV.inB] at h hb ⊢; obtain ⟨b, n, c, h1, h2⟩ := h; exact ⟨b, n, c, by simp [Env.sub, hb, h1], h2⟩
  | .pd row off fr, v, _, h => by simp only [VR] at h ⊢; rw [sub_bad]; exact h
  | .pc rows fr, v, _, h => by simp only [VR] at h ⊢; rw [sub_bad]; exact h
  | .agg xs, v, hb, h => by simp only [VR, SV.inB] at h hb ⊢; obtain ⟨vs, h1, h2⟩ := h; exact ⟨vs, h1, VRs.sub xs vs hb h2⟩
  | .tup xs, v, hb, h => by simp only [VR, SV.inB] at h hb ⊢; obtain ⟨vs, h1, h2⟩ := h; exact ⟨vs, h1, VRs.sub xs vs hb h2⟩
  | .ref k, v, hb, h => by simp only [VR, SV.inB] at h hb ⊢; exact ⟨by simp [Env.sub, hb, h.1], h.2⟩
  | .fn f first caps, v, hb, h => by
    simp only [VR, SV.inB] at h hb ⊢
    obtain ⟨vs, ws, h1, h2, h3⟩ := h
    cases hf : insB T0 first with
    | false => simp [hf] at hb
    | true => simp only [hf] at hb; exact ⟨vs, ws, h1, VRs.sub first vs hf h2, VRs.sub caps ws hb h3⟩
  | .ifc t x, v, hb, h => by simp only [VR, SV.inB] at h hb ⊢; obtain ⟨y, h1, h2⟩ := h; exact ⟨y, h1, VR.sub x y hb h2⟩
theorem VRs.sub {w : World} {E : Env} {lo : Nat} {T0 : Tab} : ∀ (xs : List SV) (vs : List Value), insB T0 xs = true → VRs w E lo xs vs → VRs w (E.sub T0) lo xs vs
  | [], [], _, _ => by simp [VRs]
  | x :: xs, v :: vs, hb, h => by
    simp only [insB] at hb
    cases hx : x.inB T0 with
    | false => simp [hx] at hb
    | true =>
      simp only [hx] at hb
      exact VRs_cons (VR.sub x v hx (VRs_cons_iff.1 h).1) (VRs.sub xs vs hb (VRs_cons_iff.1 h).2)
  | [], _ :: _, _, h => by simp [VRs] at h
  | _ :: _, [], _, h => by simp [VRs] at h
end

/-- T0's objects are T's, and name no other objects -/
def subB (T0 : Tab) : Tab → Bool
  | [] => true
  | (_, .box _ cells) :: r => match insB T0 cells with | true => subB T0 r | false => false
  | _ :: r => subB T0 r

theorem subB_ok {T0 : Tab} : ∀ {r : Tab}, subB T0 r = true → ∀ k t cells, lk r k = some (.box t cells) → insB T0 cells = true
  | [], _, k, t, cells, h => by simp [lk] at h
  | (j, ov) :: r, hb, k, t, cells, h => by
    simp only [lk] at h
    cases hj : Nat.beq j k with
    | true =>
      simp only [hj, Option.some.injEq] at h; subst h
      simp only [subB] at hb
      cases hi : insB T0 cells with
      | true => rfl
      | false => simp [hi] at hb
    | false =>
      simp only [hj] at h
      have : subB T0 r = true := by
        cases ov with
        | box t' cs =>
          simp only [subB] at hb
          cases hi : insB T0 cs with
          | true => simpa only [hi] using hb
          | false => simp [hi] at hb
        | vec => simpa only [subB] using hb
        | ext => simpa only [subB] using hb
        | arr => simpa only [subB] using hb
      exact subB_ok this k t cells h

theorem TabOK.sub {w : World} {E : Env} {lo : Nat} {T T0 : Tab} (h : TabOK w E lo T) (hs : ∀ k ov, lk T0 k = some ov → lk T k = some ov) (hb : subB T0 T0 = true) : TabOK w (E.sub T0) lo T0 := by
  refine ⟨?_, ?_, ?_, ?_⟩
  · intro k ov hl
    have hor := h.obj k ov (hs k ov hl)
    have hsm : (lk T0 k).isSome = true := by rw [hl]; rfl
    have hown : ∀ b, (E.sub T0).own b = some k ↔ E.own b = some k := by
      intro b
      simp only [Env.sub]
      cases hb : E.own b with
      | none => simp
      | some j =>
        simp only
        cases hj : (lk T0 j).isSome with
        | true => simp
        | false =>
          simp only [Bool.false_eq_true, if_false, reduceCtorEq, false_iff]
          intro e; simp at e; subst e; rw [hsm] at hj; cases hj
    have hval : (E.sub T0).val k = E.val k := by simp [Env.sub, hsm]
    cases ov with
    | box t cells =>
      obtain ⟨b, vs, h1, h2, h3, h4⟩ := hor
      exact ⟨b, vs, by rw [hval]; exact h1, (hown b).2 h2, h3, VRs.sub cells vs (subB_ok hb k t cells hl) h4⟩
    | vec t sz rows fr =>
      obtain ⟨v, xs, h1, h2, h3, h4, h5⟩ := hor
      exact ⟨v, xs, by rw [hval]; exact h1, h2, h3, fun g hg => (hown g).2 (h4 g hg), by rw [sub_bad]; exact h5⟩
    | ext φ =>
      obtain ⟨x, h1, h2, h3, h4⟩ := hor
      have e : (fun b => (E.sub T0).own b = some k) = (fun b => E.own b = some k) := funext fun b => propext (hown b)
      refine ⟨x, by rw [hval]; exact h1, h2, by rw [e]; exact h3, ?_⟩
      rw [e]; intro w' hw; exact h4 w' fun b hb => hw b ((hown b).2 hb)
    | arr t sz rows len m =>
      obtain ⟨b, cs, h1, h2, h3, h4, h5, h6, h7⟩ := hor
      exact ⟨b, cs, by rw [hval]; exact h1, (hown b).2 h2, h3, h4, h5, h6, by rw [sub_bad]; exact h7⟩
  · intro k hl
    simp [Env.sub, hl]
  · intro b k ho
    simp only [Env.sub] at ho
    cases hb : E.own b with
    | none => simp [hb] at ho
    | some j =>
      simp only [hb] at ho
      cases hj : (lk T0 j).isSome with
      | false => simp [hj] at ho
      | true =>
        simp [hj] at ho; subst ho
        have := h.own b j hb
        exact ⟨this.1, this.2.1, by intro e; rw [e] at hj; cases hj⟩
  · intro b hx
    rcases hx with hx | ⟨k, hk, hkn⟩
    · have := h.ext b hx
      exact ⟨this.1, by simp [Env.sub, this.2]⟩
    · exact ⟨(h.own b k hk).1, by simp [Env.sub, hk, hkn]⟩

/-- names of objects that are forgotten -/
def Env.dropV (E : Env) (k : Nat) : Env := ⟨fun j => if j = k then none else E.val j, E.own, E.ext⟩

def Env.dropVs (E : Env) : List Nat → Env
  | [] => E
  | k :: ks => (E.dropV k).dropVs ks

def fzSlotsK : List Nat → List (Nat × SV) → List (Nat × SV)
  | [], l => l
  | k :: ks, l => fzSlotsK ks (fzSlots k .u (fun _ => .u) l)
def fzTabK : List Nat → Tab → Tab
  | [], T => T
  | k :: ks, T => fzTabK ks (fzTab k .u (fun _ => .u) T)
def rmK {α : Type} : List Nat → List (Nat × α) → List (Nat × α)
  | [], T => T
  | k :: ks, T => rmK ks (rm T k)

theorem dropVs_own (E : Env) : ∀ ks : List Nat, (E.dropVs ks).own = E.own ∧ (E.dropVs ks).ext = E.ext
  | [] => ⟨rfl, rfl⟩
  | k :: ks => dropVs_own (E.dropV k) ks

theorem dropVs_val : ∀ (ks : List Nat) (E : Env) (j : Nat) (x : Value), (E.dropVs ks).val j = some x → E.val j = some x ∧ j ∉ ks
  | [], E, j, x, h => ⟨h, by simp⟩
  | k :: ks, E, j, x, h => by
    have := dropVs_val ks (E.dropV k) j x h
    simp only [Env.dropV] at this
    split at this
    · cases this.1
    · rename_i hne; exact ⟨this.1, by simp [hne, this.2]⟩

theorem slots_dropVs {w : World} {lo : Nat} {tmps : Array Value} : ∀ (ks : List Nat) (E : Env) (l : List (Nat × SV)), (∀ t sv, lk l t = some sv → VR w E lo sv (tmps.getD t undef)) →
    ∀ t sv, lk (fzSlotsK ks l) t = some sv → VR w (E.dropVs ks) lo sv (tmps.getD t undef)
  | [], _, _, h => h
  | k :: ks, E, l, h => by
    refine slots_dropVs ks (E.dropV k) _ ?_
    intro t sv hl
    rw [lk_fzSlots] at hl
    cases hq : lk l t with
    | none => simp [hq] at hl
    | some s =>
      simp [hq] at hl; subst hl
      exact VR.fz (E := E) (E' := E.dropV k) ⟨fun _ _ h => ⟨rfl, h⟩, rfl⟩ (fun j x hj hx => by simp [Env.dropV, hj, hx]) (fun _ _ => by simp [VR]) (fun _ _ _ => by simp [VR]) s _ (h t s hq)

theorem tab_dropVs {w : World} {lo : Nat} : ∀ (ks : List Nat) (E : Env) (T : Tab), (∀ k ov, lk T k = some ov → k ∉ ks ∧ OR w E lo k ov) →
    ∀ k ov, lk (fzTabK ks T) k = some ov → OR w (E.dropVs ks) lo k ov
  | [], _, _, h => fun k ov hl => (h k ov hl).2
  | k :: ks, E, T, h => by
    refine tab_dropVs ks (E.dropV k) _ ?_
    intro j ov hl
    rw [lk_fzTab] at hl
    cases hq : lk T j with
    | none => simp [hq] at hl
    | some o =>
      simp [hq] at hl; subst hl
      have := h j o hq
      refine ⟨fun e => this.1 (by simp [e]), ?_⟩
      exact OR.fz (E := E) (E' := E.dropV k) (fun e => this.1 (by simp [e])) ⟨fun _ _ h => ⟨rfl, h⟩, rfl⟩ (fun j x hj hx => by simp [Env.dropV, hj, hx]) (fun _ _ => by simp [VR]) (fun _ _ _ => by simp [VR]) (fun _ => Iff.rfl) (fun _ _ => rfl) this.2

theorem lk_fzTabK_isSome : ∀ (ks : List Nat) (T : Tab) (k : Nat), (lk (fzTabK ks T) k).isSome = (lk T k).isSome
  | [], _, _ => rfl
  | j :: ks, T, k => by rw [fzTabK, lk_fzTabK_isSome ks, lk_fzTab]; simp

theorem lk_rmK {α : Type} : ∀ (ks : List Nat) (T : List (Nat × α)) (k : Nat) (x : α), lk (rmK ks T) k = some x → lk T k = some x ∧ k ∉ ks
  | [], _, _, _, h => ⟨h, by simp⟩
  | j :: ks, T, k, x, h => by
    have := lk_rmK ks (rm T j) k x h
    by_cases he : k = j
    · subst he; rw [lk_rm_same] at this; cases this.1
    · rw [lk_rm_ne _ _ _ he] at this; exact ⟨this.1, by simp [he, this.2]⟩

theorem lk_rmK_not {α : Type} : ∀ (ks : List Nat) (T : List (Nat × α)) (k : Nat), k ∉ ks → lk (rmK ks T) k = lk T k
  | [], _, _, _ => rfl
  | j :: ks, T, k, h => by
    simp only [List.mem_cons, not_or] at h
    rw [rmK, lk_rmK_not ks _ k h.2, lk_rm_ne _ _ _ h.1]

def keys {α : Type} : List (Nat × α) → List Nat
  | [] => []
  | (k, _) :: r => k :: keys r

theorem mem_keys {α : Type} : ∀ (T : List (Nat × α)) (k : Nat), k ∈ keys T ↔ (lk T k).isSome = true
  | [], k => by simp [keys, lk]
  | (j, x) :: r, k => by
    simp only [keys, lk, List.mem_cons]
    cases hb : Nat.beq j k with
    | true => have := Nat.eq_of_beq_eq_true hb; simp [this]
    | false => have := beq_false hb; rw [mem_keys r k]; simp [Ne.symm this]

def app {α : Type} : List (Nat × α) → List (Nat × α) → List (Nat × α)
  | [], b => b
  | x :: a, b => x :: app a b

theorem lk_app {α : Type} : ∀ (a b : List (Nat × α)) (k : Nat), lk (app a b) k = match lk a k with | some x => some x | none => lk b k
  | [], b, k => rfl
  | (j, x) :: a, b, k => by
    simp only [app, lk]
    cases Nat.beq j k with
    | true => rfl
    | false => exact lk_app a b k

/-- the objects of T0 that T' has no more -/
def gone (T' : Tab) : List Nat → List Nat
  | [] => []
  | k :: ks => match (lk T' k).isSome with | true => gone T' ks | false => k :: gone T' ks

theorem mem_gone (T' : Tab) : ∀ (ks : List Nat) (k : Nat), k ∈ gone T' ks ↔ k ∈ ks ∧ (lk T' k).isSome = false
  | [], k => by simp [gone]
  | j :: ks, k => by
    simp only [gone]
    cases hj : (lk T' j).isSome with
    | true =>
      rw [mem_gone T' ks k]
      constructor
      · rintro ⟨h1, h2⟩; exact ⟨by simp [h1], h2⟩
      · rintro ⟨h1, h2⟩
        rcases List.mem_cons.1 h1 with rfl | h1
        · rw [hj] at h2; cases h2
        · exact ⟨h1, h2⟩
    | false =>
      rw [List.mem_cons, mem_gone T' ks k]
      constructor
      · rintro (rfl | ⟨h1, h2⟩)
        · exact ⟨by simp, hj⟩
        · exact ⟨by simp [h1], h2⟩
      · rintro ⟨h1, h2⟩
        rcases List.mem_cons.1 h1 with rfl | h1
        · exact .inl rfl
        · exact .inr ⟨h1, h2⟩

/-- the state behind a call that was handed the objects of T0 and leaves those of T' -/
def St.after (σ : St) (T0 T' : Tab) : St :=
  ⟨fzSlotsK (gone T' (keys T0)) σ.slots, app T' (fzTabK (gone T' (keys T0)) (rmK (keys T0) σ.tab))⟩

/-- new objects bear names that are free -/
def newB (n : Nat) (T0 T : Tab) : Tab → Bool
  | [] => true
  | (k, _) :: r => match (lk T0 k).isSome, (lk T k).isSome, Nat.ble (k + 1) n with
    | true, _, _ => newB n T0 T r
    | false, false, true => newB n T0 T r
    | _, _, _ => false

theorem newB_ok {n : Nat} {T0 T : Tab} : ∀ {r : Tab}, newB n T0 T r = true → ∀ k, (lk r k).isSome = true → (lk T0 k).isSome = true ∨ ((lk T k).isSome = false ∧ k < n)
  | [], _, k, h => by simp [lk] at h
  | (j, x) :: r, hb, k, h => by
    simp only [newB] at hb
    simp only [lk] at h
    split at hb
    · rename_i h0
      cases hj : Nat.beq j k with
      | true => have := Nat.eq_of_beq_eq_true hj; subst this; exact .inl h0
      | false => simp only [hj] at h; exact newB_ok hb k h
    · rename_i h0 h1 h2
      cases hj : Nat.beq j k with
      | true => have := Nat.eq_of_beq_eq_true hj; subst this; exact .inr ⟨h1, Nat.le_of_ble_eq_true h2⟩
      | false => simp only [hj] at h; exact newB_ok hb k h
    · cases hb

theorem after_holds {C : Ctx} {E E' : Env} {σ : St} {a : Act} {w w' : World} {T0 T' : Tab} {r : SV} {v : Value} {dst : Option Nat} (h : HoldsE C E σ a w) (hs : ∀ k ov, lk T0 k = some ov → lk σ.tab k = some ov)
    (hfr : Fr w (E.sub T0) w' E') (ht : TabOK w' E' C.lo T') (hr : VR w' E' C.lo r v) (hp : ∀ k x, (E.sub T0).val k = some x → E'.val k = some x ∨ E'.val k = none)
    (hnew : newB C.n T0 σ.tab T' = true) (hd : ∀ d, dst = some d → d < C.n) : Holds C ((σ.after T0 T').put dst r) (a.put dst v) w' := by
  let F : Env := ⟨fun j => if (lk T' j).isSome then E'.val j else if (lk T0 j).isSome then none else E.val j,
    fun b => match E'.own b with | some j => some j | none => match E.own b with | some j => if (lk T0 j).isSome then none else some j | none => none, E.ext⟩
  -- what the callee left alone
  have hsubown : ∀ b j, E.own b = some j → (lk T0 j).isSome = false → (E.sub T0).own b = none ∧ (E.sub T0).ext b := by
    intro b j hb hj
    exact ⟨by simp [Env.sub, hb, hj], .inr ⟨j, hb, hj⟩⟩
  have hkeepE : ∀ b, b < w.heap.size → E.own b = none → w'.heap[b]? = w.heap[b]? ∧ F.own b = none := by
    intro b hb hn
    have := hfr.keep b hb (by simp [Env.sub, hn])
    refine ⟨this.1, ?_⟩
    simp only [F, this.2, hn]
  have hFbad : F.bad = E'.bad := by
    funext b
    apply propext
    simp only [Env.bad, F]
    rw [hfr.ext]
    simp only [Env.sub]
    cases hb : E'.own b with
    | some j => simp
    | none =>
      simp only [ne_eq, not_true_eq_false, false_or]
      cases hb2 : E.own b with
      | none => simp
      | some j =>
        cases hj : (lk T0 j).isSome with
        | true =>
          simp only [hj, if_true, not_true_eq_false, false_or]
          constructor
          · intro hx; exact .inl hx
          · rintro (hx | ⟨k, hk, hkn⟩)
            · exact hx
            · simp at hk; subst hk; rw [hj] at hkn; cases hkn
        | false =>
          simp only [hj, Bool.false_eq_true, if_false, reduceCtorEq, not_false_eq_true, true_or, true_iff]
          exact .inr ⟨j, rfl, hj⟩
  have hK : Keeps w (E.dropVs (gone T' (keys T0))) w' F := by
    refine ⟨?_, ?_⟩
    · intro b hb hn
      rw [(dropVs_own E _).1] at hn
      exact hkeepE b hb hn
    · rw [(dropVs_own E _).2]
  have hV : ∀ k x, (E.dropVs (gone T' (keys T0))).val k = some x → F.val k = some x := by
    intro k x hk
    obtain ⟨h1, h2⟩ := dropVs_val _ _ _ _ hk
    simp only [F]
    cases hT' : (lk T' k).isSome with
    | true =>
      simp only [if_true]
      have hk0 : (lk T0 k).isSome = true := by
        rcases newB_ok hnew k hT' with h3 | ⟨h3, _⟩
        · exact h3
        · have := h.tab.dead k (by simpa using h3)
          rw [this] at h1; cases h1
      rcases hp k x (by simp [Env.sub, hk0, h1]) with h4 | h4
      · exact h4
      · -- the object is there: it has a place
        cases hq : lk T' k with
        | none => rw [hq] at hT'; cases hT'
        | some ov =>
          have hor := ht.obj k ov hq
          exfalso
          cases ov with
          | box t cells => obtain ⟨b, vs, e, _⟩ := hor; rw [h4] at e; cases e
          | vec t sz rows fr => obtain ⟨v, xs, e, _⟩ := hor; rw [h4] at e; cases e
          | ext φ => obtain ⟨x, e, _⟩ := hor; rw [h4] at e; cases e
          | arr t sz rows len m => obtain ⟨b, cs, e, _⟩ := hor; rw [h4] at e; cases e
    | false =>
      simp only [Bool.false_eq_true, if_false]
      cases hT0 : (lk T0 k).isSome with
      | true => exact absurd ((mem_gone T' (keys T0) k).2 ⟨(mem_keys T0 k).2 hT0, hT'⟩) h2
      | false => simpa using h1
  -- the callee's objects, seen from here
  have hval' : ∀ k x, E'.val k = some x → F.val k = some x := by
    intro k x hk
    have : (lk T' k).isSome = true := by
      cases hq : lk T' k with
      | none => rw [ht.dead k hq] at hk; cases hk
      | some _ => rfl
    simp only [F, this, if_true]; exact hk
  have hR' : KeepR w' E' w' F := fun b o hb hbad => ⟨hb, by rw [hFbad]; exact hbad⟩
  have hpres : ∀ k x, C.E0.val k = some x → F.val k = some x ∨ F.val k = none := by
    intro k x hk
    have hid := h.ids k (by rw [hk]; simp)
    simp only [F]
    cases hT' : (lk T' k).isSome with
    | true =>
      simp only [if_true]
      rcases newB_ok hnew k hT' with h3 | ⟨_, h3⟩
      · rcases h.pres k x hk with h4 | h4
        · exact hp k x (by simp [Env.sub, h3, h4])
        · exfalso
          cases hq : lk T0 k with
          | none => rw [hq] at h3; cases h3
          | some ov =>
            have hor := h.tab.obj k ov (hs k ov hq)
            cases ov with
            | box t cells => obtain ⟨b, vs, e, _⟩ := hor; rw [h4] at e; cases e
            | vec t sz rows fr => obtain ⟨v, xs, e, _⟩ := hor; rw [h4] at e; cases e
            | ext φ => obtain ⟨x, e, _⟩ := hor; rw [h4] at e; cases e
            | arr t sz rows len m => obtain ⟨b, cs, e, _⟩ := hor; rw [h4] at e; cases e
      · omega
    | false =>
      cases hT0 : (lk T0 k).isSome with
      | true => exact .inr (by simp)
      | false => simpa using h.pres k x hk
  refine ⟨F, ?_⟩
  have hslots : ∀ t s, lk (fzSlotsK (gone T' (keys T0)) σ.slots) t = some s → VR w' F C.lo s (a.tmps.getD t undef) := fun t s hl =>
    VR.mono hK hV s _ (slots_dropVs _ E _ h.slots t s hl)
  have htab : TabOK w' F C.lo (σ.after T0 T').tab := by
    refine ⟨?_, ?_, ?_, ?_⟩
    · intro k ov hl
      simp only [St.after] at hl
      rw [lk_app] at hl
      split at hl
      · rename_i x hx
        simp only [Option.some.injEq] at hl; subst hl
        have hor := ht.obj k x hx
        have hsm : (lk T' k).isSome = true := by rw [hx]; rfl
        refine OR.monoR hR' hval' (fun b => ?_) (fun _ _ => rfl) hor
        simp only [F]
        cases hb : E'.own b with
        | some j => simp
        | none =>
          simp only [reduceCtorEq, iff_false]
          cases hb2 : E.own b with
          | none => simp
          | some j =>
            simp only
            cases hj : (lk T0 j).isSome with
            | true => simp
            | false =>
              simp only [Bool.false_eq_true, if_false, Option.some.injEq]
              intro e; subst e
              rcases newB_ok hnew j hsm with h3 | ⟨h3, _⟩
              · rw [hj] at h3; cases h3
              · exact (h.tab.own b j hb2).2.2 (by simpa using h3)
      · rename_i hx
        have hin : k ∉ keys T0 ∧ ∃ o, lk σ.tab k = some o := by
          have h1 : (lk (rmK (keys T0) σ.tab) k).isSome = true := by rw [← lk_fzTabK_isSome, hl]; rfl
          cases hq : lk (rmK (keys T0) σ.tab) k with
          | none => rw [hq] at h1; cases h1
          | some o => have := lk_rmK _ _ _ _ hq; exact ⟨this.2, o, this.1⟩
        have hkT0 : (lk T0 k).isSome = false := by
          cases hq : (lk T0 k).isSome with
          | false => rfl
          | true => exact absurd ((mem_keys T0 k).2 hq) hin.1
        have hor := tab_dropVs (gone T' (keys T0)) E (rmK (keys T0) σ.tab) (fun j o hj => by
          have := lk_rmK _ _ _ _ hj
          exact ⟨fun hg => this.2 ((mem_gone _ _ _).1 hg).1, h.tab.obj j o this.1⟩) k ov hl
        have hde := (dropVs_own E (gone T' (keys T0))).1
        refine OR.mono hK hV (fun b => ?_) (fun b hb => ?_) hor
        · rw [hde]
          simp only [F]
          cases hb : E'.own b with
          | some j =>
            simp only [Option.some.injEq]
            have hj := (ht.own b j hb).2.2
            constructor
            · intro e; subst e; exact absurd hx hj
            · intro e
              exfalso
              have h1 := hsubown b k e hkT0
              have h2 := (hfr.keep b (h.tab.own b k e).1 h1.1).2
              rw [hb] at h2; cases h2
          | none =>
            simp only
            cases hb2 : E.own b with
            | none => simp
            | some j =>
              simp only
              cases hj : (lk T0 j).isSome with
              | true =>
                simp only [if_true, reduceCtorEq, Option.some.injEq, false_iff]
                intro e; subst e; rw [hkT0] at hj; cases hj
              | false => simp
        · rw [hde] at hb
          exact (hfr.keep b (h.tab.own b k hb).1 (hsubown b k hb hkT0).1).1
    · intro k hl
      simp only [St.after] at hl
      rw [lk_app] at hl
      split at hl
      · cases hl
      · rename_i hx
        have hn : (lk (rmK (keys T0) σ.tab) k).isSome = false := by rw [← lk_fzTabK_isSome, hl]; rfl
        simp only [F, hx, Option.isSome_none, Bool.false_eq_true, if_false]
        cases hT0 : (lk T0 k).isSome with
        | true => simp
        | false =>
          simp only [Bool.false_eq_true, if_false]
          have : k ∉ keys T0 := fun hm => by rw [(mem_keys T0 k).1 hm] at hT0; cases hT0
          rw [lk_rmK_not _ _ _ this] at hn
          exact h.tab.dead k (by simpa using hn)
    · intro b k ho
      simp only [F] at ho
      cases hb : E'.own b with
      | some j =>
        simp only [hb, Option.some.injEq] at ho; subst ho
        have := ht.own b j hb
        refine ⟨this.1, this.2.1, ?_⟩
        simp only [St.after]; rw [lk_app]
        cases hq : lk T' j with
        | none => exact absurd hq this.2.2
        | some x => simp
      | none =>
        simp only [hb] at ho
        cases hb2 : E.own b with
        | none => simp [hb2] at ho
        | some j =>
          simp only [hb2] at ho
          cases hj : (lk T0 j).isSome with
          | true => simp [hj] at ho
          | false =>
            simp [hj] at ho; subst ho
            have h1 := h.tab.own b j hb2
            refine ⟨Nat.lt_of_lt_of_le h1.1 hfr.size, h1.2.1, ?_⟩
            simp only [St.after]; rw [lk_app]
            cases hq : lk T' j with
            | some x => simp
            | none =>
              have hnk : j ∉ keys T0 := fun hm => by rw [(mem_keys T0 j).1 hm] at hj; cases hj
              have : (lk (fzTabK (gone T' (keys T0)) (rmK (keys T0) σ.tab)) j).isSome = true := by
                rw [lk_fzTabK_isSome, lk_rmK_not _ _ _ hnk]
                cases hq2 : lk σ.tab j with
                | none => exact absurd hq2 h1.2.2
                | some _ => rfl
              intro e; simp only at e; rw [e] at this; cases this
    · intro b hx
      have h1 := h.tab.ext b hx
      exact ⟨Nat.lt_of_lt_of_le h1.1 hfr.size, (hkeepE b h1.1 h1.2).2⟩
  have hfrF : Fr w E w' F := ⟨hfr.os, hfr.tape, hfr.output, hfr.size, hkeepE, rfl⟩
  have hrF := VR.monoR hR' hval' r v hr
  cases dst with
  | none => exact ⟨h.size, h.defers, hslots, htab, h.fr.trans hfrF, h.lo, h.ids, hpres⟩
  | some d =>
    refine ⟨by simp [Act.put, h.size], h.defers, ?_, htab, h.fr.trans hfrF, h.lo, h.ids, hpres⟩
    intro t s hl
    simp only [St.put] at hl
    by_cases he : t = d
    · subst he
      rw [lk_cons_same] at hl; cases hl
      have : t < a.tmps.size := by rw [h.size]; exact hd t rfl
      simp only [Act.put, Array.getD_eq_getD_getElem?, Array.getElem?_setIfInBounds, if_true, this]
      exact hrF
    · rw [lk_cons_ne _ _ _ _ he] at hl
      simpa [Act.put, Array.getElem?_setIfInBounds, Ne.symm he] using hslots t s hl

def calleeOk (P : Program) (g : FuncId) : Bool :=
  match P.funcs[g]? with
  | some fn => match fn.body with
    | some _ => !(fn.name == "runtime.NumGoroutine")
    | none => false
  | none => false

theorem run_callFunc {P : Program} {w : World} {g : FuncId} {args : Array Value} (h : calleeOk P g = true) : (callFunc g args).run P w = .ok (.enter g args) w := by
  unfold calleeOk at h
  split at h
  · rename_i fn hf
    split at h
    · rename_i c hb
      have hn : ¬ fn.name = "runtime.NumGoroutine" := by simpa using h
      simp [callFunc, hf, hn, hb]
    · cases h
  · cases h

def apps {α : Type} : List α → List α → List α
  | [], b => b
  | x :: a, b => x :: apps a b

theorem apps_eq {α : Type} : ∀ (a b : List α), apps a b = a ++ b
  | [], b => rfl
  | x :: a, b => by simp [apps, apps_eq a b]

/-- whom a call calls, with what -/
def calleeOf (σ : St) (o : Oper) : Option (FuncId × List SV) :=
  match o.op with
  | .call c => match c.callee with
    | .value f => match ev σ f with
      | .fn (.func g) first caps => some (g, apps first (apps (evs σ c.args.toList) caps))
      | _ => none
    | _ => none
  | _ => none

theorem subTab {T0 T : Tab} (h : ∀ k ∈ keys T0, lk T0 k = lk T k) : ∀ k ov, lk T0 k = some ov → lk T k = some ov := by
  intro k ov hk
  rw [← h k ((mem_keys T0 k).2 (by rw [hk]; rfl))]; exact hk

theorem aops_call {P : Program} {n : Nat} {ops : Array Oper} {i : Nat} {is : List Nat} {σ : St} {Q : Exit → St → Prop} {o : Oper} {g : FuncId} {svs : List SV} {R : SV → Tab → Prop} (T0 : Tab)
    (ho : ops.toList[i]? = some o) (hds : dstsB n ops.toList = true) (hw : wantedS σ ops.toList o = some true) (hc : calleeOf σ o = some (g, svs)) (hok : calleeOk P g = true)
    (hs : ∀ k ov, lk T0 k = some ov → lk σ.tab k = some ov) (hsb : subB T0 T0 = true) (hin : insB T0 svs = true) (hspec : FnS P g svs T0 R)
    (hnext : ∀ r T', R r T' → newB n T0 σ.tab T' = true ∧ AOps P n ops is ((σ.after T0 T').put o.dst r) Q) : AOps P n ops (i :: is) σ Q := by
  intro lo w0 E0 a w hh
  have ho' : ops[i]? = some o := by simpa using ho
  refine wpOps_step ho' (wantedS_eq hh (dstsB_ok hds) hw) ?_
  obtain ⟨E, h⟩ := hh
  unfold calleeOf at hc
  split at hc
  · rename_i c hop
    split at hc
    · rename_i f hcv
      split at hc
      · rename_i g' first caps hf
        simp only [Option.some.injEq, Prod.mk.injEq] at hc; obtain ⟨rfl, rfl⟩ := hc
        have hev := ev_rep h f
        rw [hf] at hev; simp only [VR] at hev
        obtain ⟨vs, ws, hfv, hvs, hws⟩ := hev
        have hargs := evs_rep h c.args.toList
        have hall := VRs_append hvs (VRs_append hargs hws)
        rw [apps_eq, apps_eq] at hin hspec
        have hcall := hspec lo w (E.sub T0) _ (Nat.le_trans h.lo h.fr.size) (h.tab.sub hs hsb) (VRs.sub _ _ hin hall)
        have hrun : (execOp a.eval o).run P w = .ok (.enter g' (vs ++ (c.args.toList.map a.eval ++ ws)).toArray) w := by
          unfold execOp
          simp only [hop, resolve, hcv, hfv, Deferred.ofValue, pure_bind, invoke]
          have e : (vs.toArray ++ Array.map a.eval c.args) ++ ws.toArray = (vs ++ (c.args.toList.map a.eval ++ ws)).toArray := by
            apply Array.ext'; simp
          rw [e]
          exact run_callFunc hok
        unfold Oper.wp
        rw [hrun]
        show Calls P g' _ w _
        refine hcall.mono ?_
        rintro e w' ⟨r, v, T', E', rfl, hR, hfr, ht, hr, hp⟩
        obtain ⟨hnew, hnx⟩ := hnext r T' hR
        exact hnx lo w0 E0 _ _ (after_holds (C := mkC P n lo w0 E0) h hs hfr ht hr hp hnew (fun d hd => dstsB_ok hds o (List.mem_of_getElem? ho) d hd))
      · cases hc
    · cases hc
  · cases hc

theorem FnS.mono {P : Program} {f : FuncId} {args : List SV} {T : Tab} {R R' : SV → Tab → Prop} (h : FnS P f args T R) (hr : ∀ r T', R r T' → R' r T') : FnS P f args T R' := by
  intro lo w E vals hlo ht hv
  refine (h lo w E vals hlo ht hv).mono ?_
  rintro e w' ⟨r, v, T', E', rfl, hR, rest⟩
  exact ⟨r, v, T', E', rfl, hr r T' hR, rest⟩

end Go.TL
