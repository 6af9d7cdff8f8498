/- Operations that look at no memory; regions that draw their order. -/
import Derived.Test.YtaaimmmofkldbaaWo06
import Derived.Orders
namespace Go.TL

def OpPure (C : Ctx) (o : Oper) (σ' : St) (a : Act) (w : World) : Prop :=
  ∃ v, (∀ w2, (execOp a.eval o).run C.P w2 = .ok (.value v) w2) ∧ Holds C σ' (a.put o.dst v) w

theorem out_pp {C : Ctx} {E : Env} {σ : St} {a : Act} {w : World} {o : Oper} {sv : SV} {v : Value} (h : HoldsE C E σ a w) (hd : DstOk C o)
    (hrun : ∀ w2, (execOp a.eval o).run C.P w2 = .ok (.value v) w2) (hsv : VR w E C.lo sv v) : OpPure C o (σ.put o.dst sv) a w :=
  ⟨v, hrun, E, h.upd (Fr.refl w E) (fun _ _ h => h) (fun _ _ h => h) h.tab o.dst hd fun _ _ => hsv⟩

theorem opMove_pure {C : Ctx} {E : Env} {σ σ' : St} {a : Act} {w : World} {o : Oper} {x : Operand} {vc : Prop} (ho : o.op = .move x ∨ o.op = .assign x)
    (hf : opMove σ o x = some (σ', vc)) (h : HoldsE C E σ a w) (hd : DstOk C o) : OpPure C o σ' a w := by
  simp only [opMove, Option.some.injEq, Prod.mk.injEq] at hf; obtain ⟨rfl, _⟩ := hf
  refine out_pp h hd (v := a.eval x) ?_ (ev_rep h x)
  rcases ho with ho | ho <;> simp [execOp, ho]


theorem opPick_pure {C : Ctx} {E : Env} {σ σ' : St} {a : Act} {w : World} {o : Oper} {c x y : Operand} {vc : Prop} (ho : o.op = .pick c x y)
    (hf : opPick σ o c x y = some (σ', vc)) (h : HoldsE C E σ a w) (hd : DstOk C o) : OpPure C o σ' a w := by
  unfold opPick at hf
  split at hf
  · rename_i he
    simp only [Option.some.injEq, Prod.mk.injEq] at hf; obtain ⟨rfl, _⟩ := hf
    exact out_pp h hd (v := a.eval x) (by simp [execOp, ho, ev_v h he, asBool]) (ev_rep h x)
  · rename_i he
    simp only [Option.some.injEq, Prod.mk.injEq] at hf; obtain ⟨rfl, _⟩ := hf
    exact out_pp h hd (v := a.eval y) (by simp [execOp, ho, ev_v h he, asBool]) (ev_rep h y)
  · cases hf


theorem opNilCheck_pure {C : Ctx} {E : Env} {σ σ' : St} {a : Act} {w : World} {o : Oper} {x : Operand} {vc : Prop} (ho : o.op = .nilCheck x)
    (hf : opNilCheck σ o x = some (σ', vc)) (h : HoldsE C E σ a w) (hd : DstOk C o) : OpPure C o σ' a w := by
  have hev := ev_rep h x
  unfold opNilCheck at hf
  split at hf <;> (try (cases hf; done)) <;> rename_i he <;> simp only [Option.some.injEq, Prod.mk.injEq] at hf <;> obtain ⟨rfl, _⟩ := hf <;> rw [he] at hev <;>
    refine out_pp h hd (v := a.eval x) ?_ hev <;> simp only [VR] at hev
  · obtain ⟨b, _, hx⟩ := hev; simp [execOp, ho, hx]
  · obtain ⟨b, o', hx, _⟩ := hev; simp [execOp, ho, hx]
  · obtain ⟨b, n, c, _, hx⟩ := hev; simp [execOp, ho, hx]
  · obtain ⟨y', hx, _⟩ := hev; simp [execOp, ho, hx]
  · obtain ⟨vs, ws, hx, _⟩ := hev; simp [execOp, ho, hx]


theorem opFieldAddr_pure {C : Ctx} {E : Env} {σ σ' : St} {a : Act} {w : World} {o : Oper} {s : TypeId} {x : Operand} {f : Nat} {vc : Prop} (ho : o.op = .fieldAddr s x f)
    (hf : opFieldAddr C.P σ o s x f = some (σ', vc)) (h : HoldsE C E σ a w) (hd : DstOk C o) : OpPure C o σ' a w := by
  unfold opFieldAddr at hf
  split at hf
  · rename_i n m hn
    split at hf
    · rename_i sv hsv
      simp only [Option.some.injEq, Prod.mk.injEq] at hf; obtain ⟨rfl, _⟩ := hf
      obtain ⟨b, o', hx, hv⟩ := shift_rep hsv (ev_rep h x)
      unfold fieldOff at hn
      split at hn
      · rename_i fields hu
        split at hn
        · rename_i fd hfd
          split at hn
          · rename_i i hi
            split at hn
            · cases hn
            · rename_i hz
              simp only [Option.some.injEq, Prod.mk.injEq] at hn; obtain ⟨rfl, rfl⟩ := hn
              have hz' : i.size ≠ 0 := fun e => by rw [e] at hz; simp at hz
              have hfd' : fields[f]? = some fd := by simpa using hfd
              refine out_pp h hd (v := .pointer (some ⟨b, o' + fd.offset, none⟩)) ?_ hv
              simp [execOp, ho, hx, Instr.fieldAt, run_underlying hu, hfd', Instr.sureAddr, fieldPlace, sizeOf, typeInfo, hi, hz', Addr.add_lit]
          · cases hn
        · cases hn
      · cases hn
    · cases hf
  · cases hf


theorem opExtract_pure {C : Ctx} {E : Env} {σ σ' : St} {a : Act} {w : World} {o : Oper} {x : Operand} {n : Nat} {vc : Prop} (ho : o.op = .extract x n)
    (hf : opExtract σ o x n = some (σ', vc)) (h : HoldsE C E σ a w) (hd : DstOk C o) : OpPure C o σ' a w := by
  have hev := ev_rep h x
  unfold opExtract at hf
  split at hf
  · rename_i xs he
    split at hf
    · rename_i sv hsv
      simp only [Option.some.injEq, Prod.mk.injEq] at hf; obtain ⟨rfl, _⟩ := hf
      rw [he] at hev; simp only [VR] at hev
      obtain ⟨vs, hx, hvs⟩ := hev
      obtain ⟨v, hv1, hv⟩ := VRs_get hvs hsv
      refine out_pp h hd (v := v) ?_ hv
      simp [execOp, ho, hx, Instr.extract, hv1]
    · cases hf
  · cases hf


theorem opIndexAddr_pure {C : Ctx} {H : Hint} {E : Env} {σ σ' : St} {a : Act} {w : World} {o : Oper} {t : TypeId} {x ix : Operand} {vc : Prop} (ho : o.op = .indexAddr t x ix)
    (hf : opIndexAddr C.P H σ o t x ix = some (σ', vc)) (hvc : vc) (h : HoldsE C E σ a w) (hd : DstOk C o) : OpPure C o σ' a w := by
  have hev := ev_rep h x
  unfold opIndexAddr at hf
  split at hf
  · rename_i n d hn hdst
    obtain ⟨kk, hix⟩ := intOf_ev h hn
    split at hf
    · rename_i rows fr e he hu
      split at hf
      · rename_i row i hrow hi
        split at hf
        · rename_i hlen
          have hlen' := Nat.eq_of_beq_eq_true hlen
          simp only [Option.some.injEq, Prod.mk.injEq] at hf; obtain ⟨rfl, rfl⟩ := hf
          obtain ⟨h0, hr⟩ := hvc
          rw [he] at hev; simp only [VR] at hev
          have hlt : n.toNat < rows.length := (List.getElem?_eq_some_iff.1 hr).1
          generalize hv : a.eval x = v at hev
          cases hev with
          | nil b c => simp at hlt
          | sl _ b off cap cs t' fz sz f hcap hb hbad hlo hfz hl hc hrr =>
            have hsz : sz = i.size := by rw [← hlen', hl _ _ hr]
            subst hsz
            refine out_pp h hd (v := .pointer (some ⟨b, off + n.toNat * i.size, none⟩)) ?_ ?_
            · simp [execOp, ho, hv, hix, run_indexAt_slice (P := C.P) (k := kk) hu hi h0 (show n < (rows.length : Int) by omega), Addr.add_lit]
            · simp only [VR]
              exact ⟨b, off + n.toNat * i.size, rfl, cs, t', fz, f n.toNat, hb, hbad, hlo, fun j y hj => hc _ _ _ _ hr hj, fun j y hj => hrr _ _ _ _ hr hj⟩
        · cases hf
      · cases hf
    · rename_i k e he hu
      split at hf
      · rename_i t' sz rows fr i hl hi
        split at hf
        · rename_i hsz
          have hsz' := Nat.eq_of_beq_eq_true hsz
          simp only [Option.some.injEq, Prod.mk.injEq] at hf; obtain ⟨rfl, rfl⟩ := hf
          obtain ⟨h0, hlt⟩ := hvc
          rw [he] at hev; simp only [VR] at hev
          obtain ⟨v, xs, h1, h2, h3, h4, h5⟩ := h.tab.obj _ _ hl
          rw [hev.1] at h1; cases h1
          rcases h3.2 with ⟨_, hz⟩ | ⟨g, cap, cur, hv, _⟩
          · omega
          · refine out_pp h hd (v := .pointer (some ⟨g, n.toNat * sz, none⟩)) ?_ ?_
            · simp [execOp, ho, hv, hix, run_indexAt_slice (P := C.P) (k := kk) hu hi h0 hlt, Addr.add_lit, hsz']
            · simp only [VR]
              rw [hv] at hev
              exact ⟨g, _, _, hev.1, by simp⟩
        · cases hf
      · cases hf
    · rename_i k off len e he hu
      split at hf
      · rename_i i m hi hm
        split at hf
        · rename_i hle
          have hle' := Nat.le_of_ble_eq_true hle
          simp only [Option.some.injEq, Prod.mk.injEq] at hf; obtain ⟨rfl, _⟩ := hf
          rw [he] at hev; simp only [VR] at hev
          obtain ⟨b, hb, hx⟩ := hev
          have hnm : n = (m : Int) := by
            unfold intLit at hm; split at hm
            · simp only [Option.some.injEq] at hm; subst hm; rfl
            · cases hm
          subst hnm
          refine out_pp h hd (v := .pointer (some ⟨b, off + m * i.size, none⟩)) ?_ (by simp only [VR]; exact ⟨b, hb, rfl⟩)
          have h2 : (m : Int) < (len : Int) := by omega
          have hlt : m < len := hle'
          simp [execOp, ho, hx, hix, Instr.indexAt, asIntOf, run_underlying hu, Instr.sureAddr, hlt, sizeOf, typeInfo, hi, Addr.add_lit]
        · cases hf
      · cases hf
    · cases hf
  · cases hf


theorem opLen_pure {C : Ctx} {E : Env} {σ σ' : St} {a : Act} {w : World} {o : Oper} {x : Operand} {t : TypeId} {vc : Prop} (ho : o.op = .call { callee := .builtin .len, args := #[x], argTypes := #[t] })
    (hf : opLen C.P σ o x t = some (σ', vc)) (h : HoldsE C E σ a w) (hd : DstOk C o) : OpPure C o σ' a w := by
  unfold opLen at hf
  split at hf
  · rename_i n hn
    simp only [Option.some.injEq, Prod.mk.injEq] at hf; obtain ⟨rfl, _⟩ := hf
    have hev := ev_rep h x
    refine out_pp h hd (v := .int .i64 (n : Int)) ?_ (VR_v true rfl)
    intro w2
    rw [exec_builtin ho]
    unfold lenOf at hn
    split at hn
    · rename_i k he
      split at hn
      · rename_i t' sz rows fr d hl hu
        simp only [Option.some.injEq] at hn; subst hn
        rw [he] at hev; simp only [VR] at hev
        obtain ⟨v, xs, h1, h2, h3, h4, h5⟩ := h.tab.obj _ _ hl
        rw [hev.1] at h1; cases h1
        have hv : ∃ p c, a.eval x = .slice p rows.length c := by
          rcases h3.2 with ⟨e, hz⟩ | ⟨g, cap, cur, e, _⟩
          · exact ⟨none, 0, by rw [e, hz]⟩
          · exact ⟨_, cap, e⟩
        obtain ⟨p, c, hv⟩ := hv
        simp [builtin, Builtin.len_, run_underlying hu, hv, goInt]
      · cases hn
    · rename_i rows fr he
      split at hn
      · rename_i d hu
        simp only [Option.some.injEq] at hn; subst hn
        rw [he] at hev; simp only [VR] at hev
        obtain ⟨p, c, hv⟩ := rep_sl_shape hev
        simp [builtin, Builtin.len_, run_underlying hu, hv, goInt]
      · cases hn
    · rename_i rows fr he
      split at hn
      · rename_i d hu
        simp only [Option.some.injEq] at hn; subst hn
        rw [he] at hev; simp only [VR] at hev
        obtain ⟨p, hv, _⟩ := hev
        simp [builtin, Builtin.len_, run_underlying hu, hv, goInt]
      · cases hn
    · rename_i fr he
      split at hn
      · rename_i d hu
        simp only [Option.some.injEq] at hn; subst hn
        simp [builtin, Builtin.len_, run_underlying hu, ev_v h he, goInt]
      · cases hn
    · rename_i s fr he
      split at hn
      · rename_i hu
        simp only [Option.some.injEq] at hn; subst hn
        simp [builtin, Builtin.len_, run_underlying hu, ev_v h he, goInt]
      · cases hn
    · cases hn
  · cases hf


theorem opBin_pure {C : Ctx} {E : Env} {σ σ' : St} {a : Act} {w : World} {o : Oper} {op : BinOp} {tx ty : TypeId} {x y : Operand} {vc : Prop} (ho : o.op = .binOp op tx x y ty)
    (hf : opBin σ o op x y = some (σ', vc)) (hvc : vc) (h : HoldsE C E σ a w) (hd : DstOk C o) : OpPure C o σ' a w := by
  unfold opBin at hf
  split at hf
  · rename_i k m k' n hx hy
    have ex := isInt_ev h hx
    have ey := isInt_ev h hy
    split at hf
    · rename_i hk
      have hk' := of_decide_eq_true hk; subst hk'
      split at hf
      · rename_i r hr
        simp only [Option.some.injEq, Prod.mk.injEq] at hf; obtain ⟨rfl, rfl⟩ := hf
        refine out_pp h hd (v := .int k r) ?_ (VR_v true rfl)
        cases op <;> simp only [arith, Option.some.injEq, reduceCtorEq] at hr <;> subst hr <;> exact fun w2 => exec_bin ho (by rw [ex]; exact eqGuard_at_int _ _ _ _ _ _ _) (by rw [ex, ey]; simp [binOp, Op.intArith, hvc])
      · split at hf
        · rename_i c hc
          simp only [Option.some.injEq, Prod.mk.injEq] at hf; obtain ⟨rfl, _⟩ := hf
          refine out_pp h hd (v := .bool c) ?_ (VR_v true rfl)
          cases op <;> simp only [icmp, Option.some.injEq, reduceCtorEq] at hc <;> subst hc <;> exact fun w2 => exec_bin ho (by rw [ex]; exact eqGuard_at_int _ _ _ _ _ _ _) (by rw [ex, ey]; simp [binOp, Op.intCmp])
        · split at hf
          · simp only [Option.some.injEq, Prod.mk.injEq] at hf; obtain ⟨rfl, rfl⟩ := hf
            refine out_pp h hd (v := .int k (m.tmod n)) ?_ (VR_v true rfl)
            exact fun w2 => exec_bin ho (by rw [ex]; exact eqGuard_at_int _ _ _ _ _ _ _) (by rw [ex, ey]; simp [binOp, Op.intDiv, hvc])
          · simp only [Option.some.injEq, Prod.mk.injEq] at hf; obtain ⟨rfl, rfl⟩ := hf
            refine out_pp h hd (v := .int k (m.tdiv n)) ?_ (VR_v true rfl)
            exact fun w2 => exec_bin ho (by rw [ex]; exact eqGuard_at_int _ _ _ _ _ _ _) (by rw [ex, ey]; simp [binOp, Op.intDiv, hvc.1, hvc.2])
          · cases hf
    · cases hf
  · split at hf
    · rename_i s r hx hy
      have ex := isStr_ev h hx
      have ey := isStr_ev h hy
      split at hf
      · rename_i c hc
        simp only [Option.some.injEq, Prod.mk.injEq] at hf; obtain ⟨rfl, _⟩ := hf
        refine out_pp h hd (v := .bool c) ?_ (VR_v true rfl)
        cases op <;> simp only [scmp, Option.some.injEq, reduceCtorEq] at hc <;> subst hc <;> exact fun w2 => exec_bin ho (by rw [ex]; exact eqGuard_at_string _ _ _ _ _ _) (by rw [ex, ey]; simp [binOp, Op.stringOp])
      · split at hf
        · simp only [Option.some.injEq, Prod.mk.injEq] at hf; obtain ⟨rfl, rfl⟩ := hf
          refine out_pp h hd (v := .string (s ++ r)) ?_ (VR_v true rfl)
          have : ¬ (9223372036854775807 < (s.size : Int) + (r.size : Int)) := by omega
          exact fun w2 => exec_bin ho (by rw [ex]; exact eqGuard_at_string _ _ _ _ _ _) (by rw [ex, ey]; simp [binOp, Op.stringOp, this])
        · cases hf
    · cases hf


theorem opBinW_pure {C : Ctx} {H : Hint} {E : Env} {σ σ' : St} {a : Act} {w : World} {o : Oper} {op : BinOp} {tx ty : TypeId} {x y : Operand} {vc : Prop} (ho : o.op = .binOp op tx x y ty)
    (hf : opBinW H σ o op x y = some (σ', vc)) (hvc : vc) (h : HoldsE C E σ a w) (hd : DstOk C o) : OpPure C o σ' a w := by
  unfold opBinW at hf
  split at hf
  · split at hf
    · rename_i k0 z k m k' n hl hx hy
      have ex := isInt_ev h hx
      have ey := isInt_ev h hy
      split at hf
      · rename_i hk
        obtain ⟨hk', hk0⟩ := of_decide_eq_true hk; subst hk'; subst hk0
        split at hf
        · rename_i r hr
          simp only [Option.some.injEq, Prod.mk.injEq] at hf; obtain ⟨rfl, rfl⟩ := hf
          refine out_pp h hd (v := .int k z) ?_ (VR_v true rfl)
          cases op <;> simp only [arith, Option.some.injEq, reduceCtorEq] at hr <;> subst hr <;> exact fun w2 => exec_bin ho (by rw [ex]; exact eqGuard_at_int _ _ _ _ _ _ _) (by rw [ex, ey]; simp [binOp, Op.intArith, hvc])
        · cases hf
      · cases hf
    · cases hf
  · cases hf


theorem opNil_pure {C : Ctx} {E : Env} {σ σ' : St} {a : Act} {w : World} {o : Oper} {op : BinOp} {tx ty : TypeId} {x y : Operand} {vc : Prop} (ho : o.op = .binOp op tx x y ty)
    (hf : opNil C.P σ o op tx x y = some (σ', vc)) (h : HoldsE C E σ a w) (hd : DstOk C o) : OpPure C o σ' a w := by
  unfold opNil at hf
  have key : ∀ w2 b, nilEq C.P σ tx x y = some b → (∀ op', eqGuard op' tx x y (a.eval x) (a.eval y) = pure ()) ∧
      (binOp .eql tx (a.eval x) (a.eval y)).run C.P w2 = .ok (.bool b) w2 ∧ (binOp .neq tx (a.eval x) (a.eval y)).run C.P w2 = .ok (.bool (!b)) w2 := by
    intro w2 b hb
    unfold nilEq at hb
    split at hb
    · rename_i e hu
      split at hb
      · rename_i p hx hy
        simp only [Option.some.injEq] at hb; subst hb
        obtain ⟨p1, e1, n1⟩ := nilP_ev h hx
        obtain ⟨p2, e2, n2⟩ := nilP_ev h hy
        have : p2 = none := by simpa using n2
        subst this
        rw [e1, e2]
        have hr := run_eq_ptr (P := C.P) (w := w2) hu p1 none (.inr rfl)
        rw [n1, Option.isNone_none, Bool.and_true] at hr
        exact ⟨fun op' => eqGuard_at_pointer _ _ _ _ _ _, run_eql hr (.inl ⟨⟨_, rfl⟩, ⟨_, rfl⟩⟩)⟩
      · rename_i q hne hx hy
        simp only [Option.some.injEq] at hb; subst hb
        obtain ⟨p1, e1, n1⟩ := nilP_ev h hx
        obtain ⟨p2, e2, n2⟩ := nilP_ev h hy
        have : p1 = none := by simpa using n1
        subst this
        rw [e1, e2]
        have hr := run_eq_ptr (P := C.P) (w := w2) hu none p2 (.inl rfl)
        rw [n2, Option.isNone_none, Bool.true_and] at hr
        exact ⟨fun op' => eqGuard_at_pointer _ _ _ _ _ _, run_eql hr (.inl ⟨⟨_, rfl⟩, ⟨_, rfl⟩⟩)⟩
      · cases hb
    · rename_i ps rs v hu
      split at hb
      · rename_i p hx hy
        simp only [Option.some.injEq] at hb; subst hb
        have e2 : a.eval y = .nilFunc := by
          rcases nilF_ev h hy with ⟨_, e⟩ | ⟨e, _⟩
          · exact e
          · cases e
        rcases nilF_ev h hx with ⟨rfl, e1⟩ | ⟨rfl, f, p, q, e1⟩ <;> rw [e1, e2]
        · exact ⟨fun op' => eqGuard_at_nilFunc _ _ _ _ _, run_eql (run_eq_fn hu).1 (.inr ⟨.inr rfl, .inr rfl⟩)⟩
        · exact ⟨fun op' => eqGuard_at_func _ _ _ _ _ _ _ _, run_eql ((run_eq_fn hu).2.1 f p q) (.inr ⟨.inl ⟨_, _, _, rfl⟩, .inr rfl⟩)⟩
      · rename_i q hne hx hy
        simp only [Option.some.injEq] at hb; subst hb
        have e1 : a.eval x = .nilFunc := by
          rcases nilF_ev h hx with ⟨_, e⟩ | ⟨e, _⟩
          · exact e
          · cases e
        rcases nilF_ev h hy with ⟨rfl, e2⟩ | ⟨rfl, f, p, q, e2⟩ <;> rw [e1, e2]
        · exact ⟨fun op' => eqGuard_at_nilFunc _ _ _ _ _, run_eql (run_eq_fn hu).1 (.inr ⟨.inr rfl, .inr rfl⟩)⟩
        · exact ⟨fun op' => eqGuard_at_nilFunc _ _ _ _ _, run_eql ((run_eq_fn hu).2.2 f p q) (.inr ⟨.inr rfl, .inl ⟨_, _, _, rfl⟩⟩)⟩
      · cases hb
    · cases hb
  split at hf
  · rename_i b hb
    simp only [Option.some.injEq, Prod.mk.injEq] at hf; obtain ⟨rfl, _⟩ := hf
    have := fun w2 => key w2 b hb
    exact out_pp h hd (v := .bool b) (fun w2 => exec_bin ho ((this w2).1 _) (this w2).2.1) (VR_v true rfl)
  · rename_i b hb
    simp only [Option.some.injEq, Prod.mk.injEq] at hf; obtain ⟨rfl, _⟩ := hf
    have := fun w2 => key w2 b hb
    exact out_pp h hd (v := .bool (!b)) (fun w2 => exec_bin ho ((this w2).1 _) (this w2).2.2) (VR_v true rfl)
  · cases hf


theorem opIndexArr_pure {C : Ctx} {E : Env} {σ σ' : St} {a : Act} {w : World} {o : Oper} {t : TypeId} {x ix : Operand} {vc : Prop} (ho : o.op = .indexAddr t x ix)
    (hf : opIndexArr C.P σ o t x ix = some (σ', vc)) (hvc : vc) (h : HoldsE C E σ a w) (hd : DstOk C o) : OpPure C o σ' a w := by
  have hev := ev_rep h x
  unfold opIndexArr at hf
  split at hf
  · rename_i k n e he hn hu
    obtain ⟨kk, hix⟩ := intOf_ev h hn
    split at hf
    · rename_i t' sz rows len m i hl hi
      split at hf
      · rename_i hsz
        have hsz' := Nat.eq_of_beq_eq_true hsz
        simp only [Option.some.injEq, Prod.mk.injEq] at hf; obtain ⟨rfl, rfl⟩ := hf
        obtain ⟨h0, hlt⟩ := hvc
        rw [he] at hev; simp only [VR] at hev
        obtain ⟨b, cs, h1, h2, h3, h4, h5, h6, h7⟩ := h.tab.obj _ _ hl
        have hs := hev.1
        rw [h1] at hs
        have hv : a.eval x = .slice (some ⟨b, 0, none⟩) len rows.length := (Option.some.inj hs).symm
        refine out_pp h hd (v := .pointer (some ⟨b, n.toNat * sz, none⟩)) ?_ ?_
        · simp [execOp, ho, hv, hix, run_indexAt_slice (P := C.P) (k := kk) hu hi h0 hlt, Addr.add_lit, hsz']
        · simp only [VR]
          exact ⟨b, _, _, h1, by simp⟩
      · cases hf
    · cases hf
  · cases hf


theorem opLenArr_pure {C : Ctx} {E : Env} {σ σ' : St} {a : Act} {w : World} {o : Oper} {x : Operand} {t : TypeId} {vc : Prop} (ho : o.op = .call { callee := .builtin .len, args := #[x], argTypes := #[t] })
    (hf : opLenArr C.P σ o x t = some (σ', vc)) (h : HoldsE C E σ a w) (hd : DstOk C o) : OpPure C o σ' a w := by
  have hev := ev_rep h x
  unfold opLenArr at hf
  split at hf
  · rename_i k e he hu
    split at hf
    · rename_i t' sz rows len m hl
      simp only [Option.some.injEq, Prod.mk.injEq] at hf; obtain ⟨rfl, _⟩ := hf
      rw [he] at hev; simp only [VR] at hev
      obtain ⟨b, cs, h1, h2, h3, h4, h5, h6, h7⟩ := h.tab.obj _ _ hl
      have hs := hev.1
      rw [h1] at hs
      have hv : a.eval x = .slice (some ⟨b, 0, none⟩) len rows.length := (Option.some.inj hs).symm
      refine out_pp h hd (v := .int .i64 (len : Int)) ?_ (VR_v true rfl)
      intro w2
      rw [exec_builtin ho]
      simp [builtin, Builtin.len_, run_underlying hu, hv, goInt]
    · cases hf
  · cases hf


theorem opRawNil_pure {C : Ctx} {E : Env} {σ σ' : St} {a : Act} {w : World} {o : Oper} {x : Operand} {vc : Prop} (ho : o.op = .nilCheck x)
    (hf : opRawNil σ o x = some (σ', vc)) (h : HoldsE C E σ a w) (hd : DstOk C o) : OpPure C o σ' a w := by
  unfold opRawNil at hf
  split at hf
  · rename_i b o' hr
    simp only [Option.some.injEq, Prod.mk.injEq] at hf; obtain ⟨rfl, _⟩ := hf
    have hx := rawP_ev h hr
    exact out_pp h hd (v := .pointer (some ⟨b, o', none⟩)) (by simp [execOp, ho, hx]) (VR_v true rfl)
  · cases hf


theorem opRawField_pure {C : Ctx} {E : Env} {σ σ' : St} {a : Act} {w : World} {o : Oper} {s : TypeId} {x : Operand} {f : Nat} {vc : Prop} (ho : o.op = .fieldAddr s x f)
    (hf : opRawField C.P σ o s x f = some (σ', vc)) (h : HoldsE C E σ a w) (hd : DstOk C o) : OpPure C o σ' a w := by
  unfold opRawField at hf
  split at hf
  · rename_i n m b o' hn hr
    simp only [Option.some.injEq, Prod.mk.injEq] at hf; obtain ⟨rfl, _⟩ := hf
    have hx := rawP_ev h hr
    unfold fieldOff at hn
    split at hn
    · rename_i fields hu
      split at hn
      · rename_i fd hfd
        split at hn
        · rename_i i hi
          split at hn
          · cases hn
          · rename_i hz
            simp only [Option.some.injEq, Prod.mk.injEq] at hn; obtain ⟨rfl, rfl⟩ := hn
            have hz' : i.size ≠ 0 := fun e => by rw [e] at hz; simp at hz
            have hfd' : fields[f]? = some fd := by simpa using hfd
            refine out_pp h hd (v := .pointer (some ⟨b, o' + fd.offset, none⟩)) ?_ (VR_v true rfl)
            simp [execOp, ho, hx, Instr.fieldAt, run_underlying hu, hfd', Instr.sureAddr, fieldPlace, sizeOf, typeInfo, hi, hz', Addr.add_lit]
        · cases hn
      · cases hn
    · cases hn
  · cases hf


theorem opRawIndex_pure {C : Ctx} {E : Env} {σ σ' : St} {a : Act} {w : World} {o : Oper} {t : TypeId} {x ix : Operand} {vc : Prop} (ho : o.op = .indexAddr t x ix)
    (hf : opRawIndex C.P σ o t x ix = some (σ', vc)) (hvc : vc) (h : HoldsE C E σ a w) (hd : DstOk C o) : OpPure C o σ' a w := by
  unfold opRawIndex at hf
  split at hf
  · rename_i b o' n c i e hr hn hu
    obtain ⟨kk, hix⟩ := intOf_ev h hn
    split at hf
    · rename_i inf hi
      simp only [Option.some.injEq, Prod.mk.injEq] at hf; obtain ⟨rfl, rfl⟩ := hf
      have hx := rawS_ev h hr
      refine out_pp h hd (v := .pointer (some ⟨b, o' + i.toNat * inf.size, none⟩)) ?_ (VR_v true rfl)
      simp [execOp, ho, hx, baseA, hix, run_indexAt_slice (P := C.P) (k := kk) hu hi hvc.1 hvc.2, Addr.add_lit]
    · cases hf
  · cases hf


theorem opRawLen_pure {C : Ctx} {E : Env} {σ σ' : St} {a : Act} {w : World} {o : Oper} {x : Operand} {t : TypeId} {vc : Prop} (ho : o.op = .call { callee := .builtin .len, args := #[x], argTypes := #[t] })
    (hf : opRawLen C.P σ o x t = some (σ', vc)) (h : HoldsE C E σ a w) (hd : DstOk C o) : OpPure C o σ' a w := by
  unfold opRawLen at hf
  split at hf
  · rename_i p n c e hr hu
    simp only [Option.some.injEq, Prod.mk.injEq] at hf; obtain ⟨rfl, _⟩ := hf
    have hx := rawS_ev h hr
    refine out_pp h hd (v := .int .i64 (n : Int)) ?_ (VR_v true rfl)
    intro w2
    rw [exec_builtin ho]
    simp [builtin, Builtin.len_, run_underlying hu, hx, goInt]
  · cases hf



def pureOp (o : Oper) : Bool :=
  match o.op with
  | .move _ => true
  | .assign _ => true
  | .pick _ _ _ => true
  | .nilCheck _ => true
  | .fieldAddr _ _ _ => true
  | .extract _ _ => true
  | .indexAddr _ _ _ => true
  | .binOp _ _ _ _ _ => true
  | .call c => match c.callee, c.args.toList, c.argTypes.toList with
    | .builtin .len, [_], [_] => true
    | _, _, _ => false
  | _ => false

theorem aop_pure {C : Ctx} {H : Hint} {σ σ' : St} {a : Act} {w : World} {o : Oper} {ps : List Prop} (hpure : pureOp o = true) (hf : aop C.P H σ o = some (σ', ps)) (hp : allP ps) (h : Holds C σ a w) (hd : DstOk C o) : OpPure C o σ' a w := by
  obtain ⟨E, h⟩ := h
  unfold pureOp at hpure
  unfold aop at hf
  split at hpure
  · rename_i ho; simp only [ho] at hf; obtain ⟨_, hq⟩ := tr_eq hf; exact opMove_pure (.inl ho) hq h hd
  · rename_i ho; simp only [ho] at hf; obtain ⟨_, hq⟩ := tr_eq hf; exact opMove_pure (.inr ho) hq h hd
  · rename_i ho; simp only [ho] at hf; obtain ⟨_, hq⟩ := tr_eq hf; exact opPick_pure ho hq h hd
  · rename_i ho; simp only [ho] at hf
    split at hf
    · rename_i r hr; obtain ⟨_, hq⟩ := tr_eq hf; rw [hq] at hr; exact opRawNil_pure ho hr h hd
    · obtain ⟨_, hq⟩ := tr_eq hf; exact opNilCheck_pure ho hq h hd
  · rename_i ho; simp only [ho] at hf
    split at hf
    · rename_i r hr; obtain ⟨_, hq⟩ := tr_eq hf; rw [hq] at hr; exact opRawField_pure ho hr h hd
    · obtain ⟨_, hq⟩ := tr_eq hf; exact opFieldAddr_pure ho hq h hd
  · rename_i ho; simp only [ho] at hf; obtain ⟨_, hq⟩ := tr_eq hf; exact opExtract_pure ho hq h hd
  · rename_i ho; simp only [ho] at hf
    split at hf
    · rename_i r hr; obtain ⟨_, hq, hv⟩ := nt_eq hf hp; rw [hq] at hr; exact opIndexArr_pure ho hr hv h hd
    split at hf
    · rename_i r hr; obtain ⟨_, hq, hv⟩ := nt_eq hf hp; rw [hq] at hr; exact opRawIndex_pure ho hr hv h hd
    split at hf
    · rename_i he; obtain ⟨_, hq⟩ := tr_eq hf; exact opIndexAddr_pure ho hq (opIndexAddr_triv he hq) h hd
    · obtain ⟨_, hq, hv⟩ := nt_eq hf hp; exact opIndexAddr_pure ho hq hv h hd
  · rename_i ho; simp only [ho] at hf
    split at hf
    · split at hf
      · rename_i r hr
        obtain ⟨_, hq, hv⟩ := nt_eq hf hp
        rw [hq] at hr
        exact opBinW_pure ho hr hv h hd
      · obtain ⟨_, hq, hv⟩ := nt_eq hf hp; exact opBin_pure ho hq hv h hd
    · rename_i hn
      split at hf
      · rename_i r hr
        obtain ⟨_, hq⟩ := tr_eq hf
        rw [hq] at hr
        exact opBin_pure ho hr (opBin_triv hn hr) h hd
      · obtain ⟨_, hq⟩ := tr_eq hf; exact opNil_pure ho hq h hd
  · rename_i c ho; simp only [ho] at hf
    split at hpure
    · rename_i x t hc ha ht
      simp only [hc, ha, ht] at hf
      have ho' : o.op = .call { callee := .builtin .len, args := #[x], argTypes := #[t] } := by
        rw [ho]; obtain ⟨cc, ca, ct⟩ := c; simp only at hc ha ht; subst hc; rw [toList_one ha, toList_one ht]
      split at hf
      · rename_i r hr; obtain ⟨_, hq⟩ := tr_eq hf; rw [hq] at hr; exact opLenArr_pure ho' hr h hd
      split at hf
      · rename_i r hr; obtain ⟨_, hq⟩ := tr_eq hf; rw [hq] at hr; exact opLen_pure ho' hr h hd
      · obtain ⟨_, hq⟩ := tr_eq hf; exact opRawLen_pure ho' hq h hd
    · cases hpure
  · cases hpure

end Go.TL
/- Regions that draw the order of their operations. -/
namespace Go.TL

/-- from a state on, some operations done: whatever the order of the others, Q comes -/
def AAny (P : Program) (n : Nat) (ops : Array Oper) (fuel : Nat) (listed : Array Bool) (σ : St) (Q : Exit → St → Prop) : Prop :=
  ∀ lo w0 E0 a w, Holds (mkC P n lo w0 E0) σ a w → wpAny P .any ops (lift (mkC P n lo w0 E0) Q) fuel listed a w

theorem holds_drew {C : Ctx} {σ : St} {a : Act} {w : World} (h : Holds C σ a w) : Holds C σ a { w with drawn := w.drawn + 1 } := by
  obtain ⟨E, h⟩ := h
  have hk : Keeps w E { w with drawn := w.drawn + 1 } E := ⟨fun _ _ h => ⟨rfl, h⟩, rfl⟩
  refine ⟨E, h.size, h.defers, fun t sv hl => VR.mono hk (fun _ _ h => h) sv _ (h.slots t sv hl), ⟨?_, h.tab.dead, h.tab.own, h.tab.ext⟩, ⟨h.fr.os, h.fr.tape, h.fr.output, h.fr.size, h.fr.keep, h.fr.ext⟩, h.lo, h.ids, h.pres⟩
  intro k ov hl
  exact OR.mono hk (fun _ _ h => h) (fun _ => Iff.rfl) (fun _ _ => rfl) (h.tab.obj k ov hl)

theorem awp_drawn {P : Program} {n id : Nat} {ops : Array Oper} {σ : St} {Q : Exit → St → Prop} (k : Nat) (l : Array Bool) (hm : P.follows .mixedOrders = true) (hk : ops.size = k) (hl : Array.replicate k false = l)
    (h : AAny P n ops k l σ Q) : AWP P n (.region id ops true) σ Q := by
  subst hk; subst hl
  exact fun lo w0 E0 a w hh => wp_region_any hm (h lo w0 E0 a _ (holds_drew hh))

theorem aany_done {P : Program} {n : Nat} {ops : Array Oper} {fuel : Nat} {listed : Array Bool} {σ : St} {Q : Exit → St → Prop} (hr : (Region.ready .any ops listed).isEmpty = true) (h : Q .normal σ) : AAny P n ops fuel listed σ Q :=
  fun _ _ _ _ _ hh => wpAny_done (by simpa using hr) ⟨σ, h, hh⟩ fuel

theorem aany_imp {P : Program} {n : Nat} {ops : Array Oper} {fuel : Nat} {listed : Array Bool} {σ σ' : St} {Q : Exit → St → Prop} (h : Imp P n σ σ') (k : AAny P n ops fuel listed σ' Q) : AAny P n ops fuel listed σ Q :=
  fun lo w0 E0 a w hh => k lo w0 E0 a w (h lo w0 E0 a w hh)

/-- all that is ready comes next -/
def AllR (P : Program) (n : Nat) (ops : Array Oper) (fuel : Nat) (listed : Array Bool) (σ : St) (Q : Exit → St → Prop) : List Nat → Prop
  | [] => True
  | i :: rs => (∀ lo w0 E0 a w, Holds (mkC P n lo w0 E0) σ a w → wpOp P ops (lift (mkC P n lo w0 E0) Q) i (wpAny P .any ops (lift (mkC P n lo w0 E0) Q) fuel (listed.setIfInBounds i true)) a w) ∧ AllR P n ops fuel listed σ Q rs

theorem AllR_mem {P : Program} {n : Nat} {ops : Array Oper} {fuel : Nat} {listed : Array Bool} {σ : St} {Q : Exit → St → Prop} : ∀ {rs : List Nat}, AllR P n ops fuel listed σ Q rs → ∀ i ∈ rs,
    ∀ lo w0 E0 a w, Holds (mkC P n lo w0 E0) σ a w → wpOp P ops (lift (mkC P n lo w0 E0) Q) i (wpAny P .any ops (lift (mkC P n lo w0 E0) Q) fuel (listed.setIfInBounds i true)) a w
  | [], _, i, hi => by simp at hi
  | j :: rs, h, i, hi => by
    rcases List.mem_cons.1 hi with rfl | hi
    · exact h.1
    · exact AllR_mem h.2 i hi

theorem aany_all {P : Program} {n : Nat} {ops : Array Oper} {fuel : Nat} {listed : Array Bool} {σ : St} {Q : Exit → St → Prop} (rs : List Nat) (hr : Region.ready .any ops listed = rs) (hne : rs.isEmpty = false)
    (h : AllR P n ops fuel listed σ Q rs) : AAny P n ops (fuel + 1) listed σ Q := by
  intro lo w0 E0 a w hh
  refine wpAny_all hr ?_ fun i hi => AllR_mem h i hi lo w0 E0 a w hh
  intro e; rw [e] at hne; simp at hne

/-- one operation that is carried out -/
theorem aany_op {P : Program} {n : Nat} {H : Hint} {ops : Array Oper} {fuel i : Nat} {listed listed' : Array Bool} {σ σ' : St} {Q : Exit → St → Prop} {o : Oper} {ps : List Prop} (ho : ops.toList[i]? = some o) (hds : dstsB n ops.toList = true)
    (hw : wantedS σ ops.toList o = some true) (hf : aop P H σ o = some (σ', ps)) (hp : allP ps) (hl : listed.setIfInBounds i true = listed') (h : AAny P n ops fuel listed' σ' Q) :
    ∀ lo w0 E0 a w, Holds (mkC P n lo w0 E0) σ a w → wpOp P ops (lift (mkC P n lo w0 E0) Q) i (wpAny P .any ops (lift (mkC P n lo w0 E0) Q) fuel (listed.setIfInBounds i true)) a w := by
  intro lo w0 E0 a w hh
  subst hl
  have ho' : ops[i]? = some o := by simpa using ho
  have hd : DstOk (mkC P n lo w0 E0) o := fun d hd => dstsB_ok hds o (List.mem_of_getElem? ho) d hd
  obtain ⟨v, w', hrun, hs⟩ := aop_sound (C := mkC P n lo w0 E0) hf hp hh hd
  unfold wpOp
  simp only [ho', wantedS_eq hh (dstsB_ok hds) hw, if_true]
  refine .inl ?_
  unfold Oper.wp
  rcases hrun with hrun | ⟨hrun, rfl⟩
  · change Sem.run P _ _ = _ at hrun
    rw [hrun]; exact h lo w0 E0 _ _ hs
  · change Sem.run P _ _ = _ at hrun
    rw [hrun]; exact h lo w0 E0 _ _ hs

/-- an operation that is passed over -/
theorem aany_skip {P : Program} {n : Nat} {ops : Array Oper} {fuel i : Nat} {listed listed' : Array Bool} {σ : St} {Q : Exit → St → Prop} {o : Oper} (ho : ops.toList[i]? = some o) (hds : dstsB n ops.toList = true)
    (hw : wantedS σ ops.toList o = some false) (hl : listed.setIfInBounds i true = listed') (h : AAny P n ops fuel listed' (σ.put o.dst .u) Q) :
    ∀ lo w0 E0 a w, Holds (mkC P n lo w0 E0) σ a w → wpOp P ops (lift (mkC P n lo w0 E0) Q) i (wpAny P .any ops (lift (mkC P n lo w0 E0) Q) fuel (listed.setIfInBounds i true)) a w := by
  intro lo w0 E0 a w hh
  subst hl
  have ho' : ops[i]? = some o := by simpa using ho
  unfold wpOp
  simp only [ho', wantedS_eq hh (dstsB_ok hds) hw, Bool.false_eq_true, if_false]
  exact h lo w0 E0 _ _ (holds_u hh fun d hd => dstsB_ok hds o (List.mem_of_getElem? ho) d hd)

/-- an operation that looks at no memory, and stands in nobody's way, may be taken first -/
theorem aany_take {P : Program} {n : Nat} {H : Hint} {ops : Array Oper} {fuel : Nat} (i : Nat) {listed listed' : Array Bool} {σ σ' : St} {Q : Exit → St → Prop} {o : Oper} {ps : List Prop} (ho : ops.toList[i]? = some o) (hds : dstsB n ops.toList = true)
    (hpure : pureOp o = true) (hw : wantedS σ ops.toList o = some true) (hs : Region.noSelect ops = true) (hfree : Region.free .any ops listed i = true) (hr : (Region.ready .any ops listed).contains i = true)
    (hQ : ∀ c s, Q (.panic c) s → False) (hf : aop P H σ o = some (σ', ps)) (hp : allP ps) (hl : listed.setIfInBounds i true = listed') (h : AAny P n ops fuel listed' σ' Q) : AAny P n ops (fuel + 1) listed σ Q := by
  intro lo w0 E0 a w hh
  subst hl
  have ho' : ops[i]? = some o := by simpa using ho
  have hd : DstOk (mkC P n lo w0 E0) o := fun d hd => dstsB_ok hds o (List.mem_of_getElem? ho) d hd
  obtain ⟨v, hrun, hs'⟩ := aop_pure (C := mkC P n lo w0 E0) hpure hf hp hh hd
  refine wpAny_take (v := v) ho' hs hfree hr ?_ (.inl ⟨wantedS_eq hh (dstsB_ok hds) hw, hrun⟩) (h lo w0 E0 _ _ hs')
  rintro c a' w' ⟨s, hq, _⟩
  exact (hQ c s hq).elim

theorem aany_takeSkip {P : Program} {n : Nat} {ops : Array Oper} {fuel : Nat} (i : Nat) {listed : Array Bool} {σ : St} {Q : Exit → St → Prop} {o : Oper} (ho : ops.toList[i]? = some o) (hds : dstsB n ops.toList = true)
    (hw : wantedS σ ops.toList o = some false) (hs : Region.noSelect ops = true) (hfree : Region.free .any ops listed i = true) (hr : (Region.ready .any ops listed).contains i = true)
    (hQ : ∀ c s, Q (.panic c) s → False) (h : AAny P n ops fuel (listed.setIfInBounds i true) (σ.put o.dst .u) Q) : AAny P n ops (fuel + 1) listed σ Q := by
  intro lo w0 E0 a w hh
  have ho' : ops[i]? = some o := by simpa using ho
  refine wpAny_take (v := undef) ho' hs hfree hr ?_ (.inr ⟨wantedS_eq hh (dstsB_ok hds) hw, rfl⟩) (h lo w0 E0 _ _ (holds_u hh fun d hd => dstsB_ok hds o (List.mem_of_getElem? ho) d hd))
  rintro c a' w' ⟨s, hq, _⟩
  exact (hQ c s hq).elim

def oneOf (l : List Nat) (i : Nat) : Bool :=
  match l with
  | [j] => Nat.beq j i
  | _ => false

/-- a run of operations each of which may come next, or must -/
def aanys (P : Program) (n : Nat) (H : Hint) (ops : Array Oper) : List Nat → Array Bool → St → Option (St × Array Bool × List Prop)
  | [], listed, σ => some (σ, listed, [])
  | i :: is, listed, σ => match ops.toList[i]? with
    | none => none
    | some o => match wantedS σ ops.toList o with
      | some true => match aop P H σ o with
        | some (σ', ps) => match (pureOp o && (Region.free .any ops listed i && (Region.ready .any ops listed).contains i)) || oneOf (Region.ready .any ops listed) i with
          | true => match aanys P n H ops is (listed.setIfInBounds i true) σ' with
            | some (σ'', l, qs) => some (σ'', l, ps ++ qs)
            | none => none
          | false => none
        | none => none
      | some false => match (Region.free .any ops listed i && (Region.ready .any ops listed).contains i) || oneOf (Region.ready .any ops listed) i with
        | true => aanys P n H ops is (listed.setIfInBounds i true) (σ.put o.dst .u)
        | false => none
      | none => none

theorem aany_one' {P : Program} {n : Nat} {ops : Array Oper} {fuel i : Nat} {listed : Array Bool} {σ : St} {Q : Exit → St → Prop} (hr : oneOf (Region.ready .any ops listed) i = true)
    (h : ∀ lo w0 E0 a w, Holds (mkC P n lo w0 E0) σ a w → wpOp P ops (lift (mkC P n lo w0 E0) Q) i (wpAny P .any ops (lift (mkC P n lo w0 E0) Q) fuel (listed.setIfInBounds i true)) a w) : AAny P n ops (fuel + 1) listed σ Q := by
  have e : Region.ready .any ops listed = [i] := by
    generalize Region.ready .any ops listed = l at hr
    unfold oneOf at hr
    split at hr
    · rw [Nat.eq_of_beq_eq_true hr]
    · cases hr
  exact aany_all [i] e rfl ⟨h, trivial⟩

theorem aany_run {P : Program} {n : Nat} {H : Hint} {ops : Array Oper} {Q : Exit → St → Prop} (hds : dstsB n ops.toList = true) (hs : Region.noSelect ops = true) (hQ : ∀ c s, Q (.panic c) s → False) (k : Nat) :
    ∀ (is : List Nat) (listed : Array Bool) (σ σ' : St) (l' : Array Bool) (ps : List Prop), aanys P n H ops is listed σ = some (σ', l', ps) → allP ps → AAny P n ops k l' σ' Q → AAny P n ops (is.length + k) listed σ Q
  | [], listed, σ, σ', l', ps, hf, _, h => by
    simp only [aanys, Option.some.injEq, Prod.mk.injEq] at hf; obtain ⟨rfl, rfl, _⟩ := hf
    simpa using h
  | i :: is, listed, σ, σ', l', ps, hf, hp, h => by
    have e : (i :: is).length + k = (is.length + k) + 1 := by simp; omega
    rw [e]
    simp only [aanys] at hf
    split at hf
    · cases hf
    · rename_i o ho
      split at hf
      · rename_i hw
        split at hf
        · rename_i σ1 ps1 ha
          split at hf
          · rename_i hc
            split at hf
            · rename_i σ2 l qs hr
              simp only [Option.some.injEq, Prod.mk.injEq] at hf; obtain ⟨rfl, rfl, rfl⟩ := hf
              have hp' := allP_append.1 hp
              have next := aany_run hds hs hQ k is _ _ _ _ _ hr hp'.2 h
              rcases Bool.or_eq_true _ _ ▸ hc with hc | hc
              · simp only [Bool.and_eq_true] at hc
                exact aany_take i ho hds hc.1 hw hs hc.2.1 hc.2.2 hQ ha hp'.1 rfl next
              · exact aany_one' hc (aany_op ho hds hw ha hp'.1 rfl next)
            · cases hf
          · cases hf
        · cases hf
      · rename_i hw
        split at hf
        · rename_i hc
          have next := aany_run hds hs hQ k is _ _ _ _ _ hf hp h
          rcases Bool.or_eq_true _ _ ▸ hc with hc | hc
          · simp only [Bool.and_eq_true] at hc
            exact aany_takeSkip i ho hds hw hs hc.1 hc.2 hQ next
          · exact aany_one' hc (aany_skip ho hds hw rfl next)
        · cases hf
      · cases hf

def keepA (L LT : List Nat) : Option (St × Array Bool × List Prop) → Option (St × Array Bool × List Prop)
  | some (s, l, ps) => some (s.keep L LT, l, ps)
  | none => none

theorem aany_runK {P : Program} {n : Nat} {H : Hint} {ops : Array Oper} {Q : Exit → St → Prop} (hds : dstsB n ops.toList = true) (hs : Region.noSelect ops = true) (hQ : ∀ c s, Q (.panic c) s → False) (k fuel : Nat)
    (is : List Nat) (hfuel : is.length + k = fuel) (listed : Array Bool) (σ σ' : St) (l' : Array Bool) (ps : List Prop) (L LT : List Nat) (hf : keepA L LT (aanys P n H ops is listed σ) = some (σ', l', ps)) (hp : allP ps)
    (h : AAny P n ops k l' σ' Q) : AAny P n ops fuel listed σ Q := by
  subst hfuel
  unfold keepA at hf
  split at hf
  · rename_i s l qs hs'
    simp only [Option.some.injEq, Prod.mk.injEq] at hf; obtain ⟨rfl, rfl, rfl⟩ := hf
    exact aany_run hds hs hQ k is listed σ s l qs hs' hp (aany_imp (imp_keep L LT rfl) h)
  · cases hf

theorem aany_opK {P : Program} {n : Nat} {H : Hint} {ops : Array Oper} {fuel i : Nat} {listed listed' : Array Bool} {σ σ' : St} {Q : Exit → St → Prop} {o : Oper} {ps : List Prop} (L LT : List Nat) (ho : ops.toList[i]? = some o) (hds : dstsB n ops.toList = true)
    (hw : wantedS σ ops.toList o = some true) (hf : keepR L LT (aop P H σ o) = some (σ', ps)) (hp : allP ps) (hl : listed.setIfInBounds i true = listed') (h : AAny P n ops fuel listed' σ' Q) :
    ∀ lo w0 E0 a w, Holds (mkC P n lo w0 E0) σ a w → wpOp P ops (lift (mkC P n lo w0 E0) Q) i (wpAny P .any ops (lift (mkC P n lo w0 E0) Q) fuel (listed.setIfInBounds i true)) a w := by
  unfold keepR at hf
  split at hf
  · rename_i s qs hs
    simp only [Option.some.injEq, Prod.mk.injEq] at hf; obtain ⟨rfl, rfl⟩ := hf
    exact aany_op ho hds hw hs hp hl (aany_imp (imp_keep L LT rfl) h)
  · cases hf

theorem call_wp {P : Program} {n : Nat} {lo : Nat} {w0 : World} {E0 : Env} {a : Act} {w : World} {σ : St} {K : Act → World → Prop} {Q : Exit → Act → World → Prop} {o : Oper} {g : FuncId} {svs : List SV} {R : SV → Tab → Prop} (T0 : Tab)
    (hd : ∀ d, o.dst = some d → d < n) (hc : calleeOf σ o = some (g, svs)) (hok : calleeOk P g = true)
    (hs : ∀ k ov, lk T0 k = some ov → lk σ.tab k = some ov) (hsb : subB T0 T0 = true) (hin : insB T0 svs = true) (hspec : FnS P g svs T0 R) (hh : Holds (mkC P n lo w0 E0) σ a w)
    (hnext : ∀ r T', R r T' → newB n T0 σ.tab T' = true ∧ ∀ a' w', Holds (mkC P n lo w0 E0) ((σ.after T0 T').put o.dst r) a' w' → K a' w') : o.wp P a w K Q := by
  obtain ⟨E, h⟩ := hh
  unfold calleeOf at hc
  split at hc
  · rename_i c hop
    split at hc
    · rename_i f hcv
      split at hc
      · rename_i g' first caps hf
        simp only [Option.some.injEq, Prod.mk.injEq] at hc; obtain ⟨rfl, rfl⟩ := hc
        have hev := ev_rep h f
        rw [hf] at hev; simp only [VR] at hev
        obtain ⟨vs, ws, hfv, hvs, hws⟩ := hev
        have hargs := evs_rep h c.args.toList
        have hall := VRs_append hvs (VRs_append hargs hws)
        rw [apps_eq, apps_eq] at hin hspec
        have hcall := hspec lo w (E.sub T0) _ (Nat.le_trans h.lo h.fr.size) (h.tab.sub hs hsb) (VRs.sub _ _ hin hall)
        have hrun : (execOp a.eval o).run P w = .ok (.enter g' (vs ++ (c.args.toList.map a.eval ++ ws)).toArray) w := by
          unfold execOp
          simp only [hop, resolve, hcv, hfv, Deferred.ofValue, pure_bind, invoke]
          have e : (vs.toArray ++ Array.map a.eval c.args) ++ ws.toArray = (vs ++ (c.args.toList.map a.eval ++ ws)).toArray := by
            apply Array.ext'; simp
          rw [e]
          exact run_callFunc hok
        unfold Oper.wp
        rw [hrun]
        show Calls P g' _ w _
        refine hcall.mono ?_
        rintro e w' ⟨r, v, T', E', rfl, hR, hfr, ht, hr, hp⟩
        obtain ⟨hnew, hnx⟩ := hnext r T' hR
        exact hnx _ _ (after_holds (C := mkC P n lo w0 E0) h hs hfr ht hr hp hnew hd)
      · cases hc
    · cases hc
  · cases hc

/-- a call -/
theorem aany_call {P : Program} {n : Nat} {ops : Array Oper} {fuel i : Nat} {listed listed' : Array Bool} {σ : St} {Q : Exit → St → Prop} {o : Oper} {g : FuncId} {svs : List SV} {R : SV → Tab → Prop} (T0 : Tab)
    (ho : ops.toList[i]? = some o) (hds : dstsB n ops.toList = true) (hw : wantedS σ ops.toList o = some true) (hc : calleeOf σ o = some (g, svs)) (hok : calleeOk P g = true)
    (hs : ∀ k ov, lk T0 k = some ov → lk σ.tab k = some ov) (hsb : subB T0 T0 = true) (hin : insB T0 svs = true) (hspec : FnS P g svs T0 R) (hl : listed.setIfInBounds i true = listed')
    (hnext : ∀ r T', R r T' → newB n T0 σ.tab T' = true ∧ AAny P n ops fuel listed' ((σ.after T0 T').put o.dst r) Q) :
    ∀ lo w0 E0 a w, Holds (mkC P n lo w0 E0) σ a w → wpOp P ops (lift (mkC P n lo w0 E0) Q) i (wpAny P .any ops (lift (mkC P n lo w0 E0) Q) fuel (listed.setIfInBounds i true)) a w := by
  intro lo w0 E0 a w hh
  subst hl
  have ho' : ops[i]? = some o := by simpa using ho
  unfold wpOp
  simp only [ho', wantedS_eq hh (dstsB_ok hds) hw, if_true]
  refine .inl (call_wp T0 (fun d hd => dstsB_ok hds o (List.mem_of_getElem? ho) d hd) hc hok hs hsb hin hspec hh fun r T' hR => ?_)
  obtain ⟨h1, h2⟩ := hnext r T' hR
  exact ⟨h1, fun a' w' h' => h2 lo w0 E0 a' w' h'⟩

/-- a bool that is not known is one of two -/
theorem aany_split {P : Program} {n : Nat} {ops : Array Oper} {fuel : Nat} {listed : Array Bool} {σ : St} {Q : Exit → St → Prop} (t : Nat) (b : Bool) (hb : boolAt σ t = some b)
    (h1 : b = true → AAny P n ops fuel listed (σ.setBool t true) Q) (h2 : b = false → AAny P n ops fuel listed (σ.setBool t false) Q) : AAny P n ops fuel listed σ Q := by
  intro lo w0 E0 a w h
  have := holds_bool hb h
  cases b with
  | true => exact h1 rfl lo w0 E0 a w this
  | false => exact h2 rfl lo w0 E0 a w this

theorem aany_one {P : Program} {n : Nat} {ops : Array Oper} {fuel i : Nat} {listed : Array Bool} {σ : St} {Q : Exit → St → Prop} (hr : Region.ready .any ops listed = [i])
    (h : ∀ lo w0 E0 a w, Holds (mkC P n lo w0 E0) σ a w → wpOp P ops (lift (mkC P n lo w0 E0) Q) i (wpAny P .any ops (lift (mkC P n lo w0 E0) Q) fuel (listed.setIfInBounds i true)) a w) : AAny P n ops (fuel + 1) listed σ Q :=
  aany_all [i] hr rfl ⟨h, trivial⟩

end Go.TL
/- Data with the room behind their lists: types, lists being filled, erasure. -/
namespace Go.TL

/-- a cell of a kind, the room of its list included -/
inductive WR (P : Program) : CK → PV → Prop
  | int (k : IntKind) (n : Int) (h1 : k.min ≤ n) (h2 : n ≤ k.max) : WR P (.int k) (.v (.int k n))
  | bool (x : Bool) : WR P .bool (.v (.bool x))
  | str (x : ByteArray) (h : x.size ≤ mostStr) : WR P .str (.v (.string x))
  | rm (e : TypeId) (len : Nat) (rows : List (List PV)) (h : len ≤ rows.length) (hm : len ≤ mostLen) (hr : rows.length ≤ len + 2) (hl : ∀ row ∈ rows, row.length = (cks P e).length)
      (hw : ∀ (row : List PV), row ∈ rows → ∀ (j : Nat) (ck : CK) (x : PV), (cks P e)[j]? = some ck → row[j]? = some x → WR P ck x) : WR P (.sl e) (.rm len rows)

def WRs (P : Program) : List CK → List PV → Prop
  | [], [] => True
  | c :: cs, x :: xs => WR P c x ∧ WRs P cs xs
  | _, _ => False

theorem WRs_iff {P : Program} : ∀ (cs : List CK) (xs : List PV), WRs P cs xs ↔ xs.length = cs.length ∧ ∀ (j : Nat) (ck : CK) (x : PV), cs[j]? = some ck → xs[j]? = some x → WR P ck x
  | [], [] => by simp [WRs]
  | c :: cs, x :: xs => by
    simp only [WRs]
    rw [WRs_iff cs xs]
    constructor
    · rintro ⟨h1, h2, h3⟩
      refine ⟨by simp [h2], ?_⟩
      intro j ck y hc hy
      cases j with
      | zero => simp at hc hy; subst hc; subst hy; exact h1
      | succ j => exact h3 j ck y (by simpa using hc) (by simpa using hy)
    · rintro ⟨h1, h2⟩
      exact ⟨h2 0 c x rfl rfl, by simpa using h1, fun j ck y hc hy => h2 (j + 1) ck y (by simpa using hc) (by simpa using hy)⟩
  | [], _ :: _ => by simp [WRs]
  | _ :: _, [] => by simp [WRs]

def TyR (P : Program) (t : TypeId) (row : List PV) : Prop := WRs P (cks P t) row

theorem WRs_cons {P : Program} {c : CK} {cs : List CK} {row : List PV} (h : WRs P (c :: cs) row) : ∃ x xs, row = x :: xs ∧ WR P c x ∧ WRs P cs xs := by
  cases row with
  | nil => simp [WRs] at h
  | cons x xs => exact ⟨x, xs, rfl, h.1, h.2⟩
theorem WRs_nil {P : Program} {row : List PV} (h : WRs P [] row) : row = [] := by
  cases row with
  | nil => rfl
  | cons x xs => simp [WRs] at h

/-- one cell more of a row with room -/
theorem shr_int {P : Program} {cs : List CK} {row : List PV} (h : WRs P (.int .i64 :: cs) row) : ∃ (n : Int) (xs : List PV), row = i n :: xs ∧ -9223372036854775808 ≤ n ∧ n ≤ 9223372036854775807 ∧ WRs P cs xs := by
  obtain ⟨x, xs, rfl, hx, hxs⟩ := WRs_cons h
  cases hx with | int _ n h1 h2 => exact ⟨n, xs, rfl, h1, h2, hxs⟩
theorem shr_str {P : Program} {cs : List CK} {row : List PV} (h : WRs P (.str :: cs) row) : ∃ (n : ByteArray) (xs : List PV), row = s n :: xs ∧ n.size ≤ mostStr ∧ WRs P cs xs := by
  obtain ⟨x, xs, rfl, hx, hxs⟩ := WRs_cons h
  cases hx with | str n h0 => exact ⟨n, xs, rfl, h0, hxs⟩
theorem shr_bool {P : Program} {cs : List CK} {row : List PV} (h : WRs P (.bool :: cs) row) : ∃ (n : Bool) (xs : List PV), row = b n :: xs ∧ WRs P cs xs := by
  obtain ⟨x, xs, rfl, hx, hxs⟩ := WRs_cons h
  cases hx with | bool n => exact ⟨n, xs, rfl, hxs⟩
theorem shr_sl {P : Program} {e : TypeId} {cs : List CK} {row : List PV} (h : WRs P (.sl e :: cs) row) : ∃ (m : Nat) (n : List (List PV)) (xs : List PV), row = .rm m n :: xs ∧ WR P (.sl e) (.rm m n) ∧ WRs P cs xs := by
  obtain ⟨x, xs, rfl, hx, hxs⟩ := WRs_cons h
  cases hx with | rm _ m n h0 hm hr hl hw => exact ⟨m, n, xs, rfl, .rm _ m n h0 hm hr hl hw, hxs⟩
theorem mkr_nil {P : Program} : WRs P [] [] := trivial
theorem mkr_int {P : Program} {cs : List CK} {n : Int} {xs : List PV} (h : -9223372036854775808 ≤ n ∧ n ≤ 9223372036854775807) (k : WRs P cs xs) : WRs P (.int .i64 :: cs) (i n :: xs) := ⟨.int _ _ h.1 h.2, k⟩
theorem mkr_str {P : Program} {cs : List CK} {n : ByteArray} {xs : List PV} (h : n.size ≤ mostStr) (k : WRs P cs xs) : WRs P (.str :: cs) (s n :: xs) := ⟨.str _ h, k⟩
theorem mkr_bool {P : Program} {cs : List CK} {n : Bool} {xs : List PV} (k : WRs P cs xs) : WRs P (.bool :: cs) (b n :: xs) := ⟨.bool _, k⟩
theorem mkr_sl {P : Program} {e : TypeId} {cs : List CK} {m : Nat} {n : List (List PV)} {xs : List PV} (h : WR P (.sl e) (.rm m n)) (k : WRs P cs xs) : WRs P (.sl e :: cs) (.rm m n :: xs) := ⟨h, k⟩
theorem mkr_nl {P : Program} {e : TypeId} {cs : List CK} {xs : List PV} (k : WRs P cs xs) : WRs P (.sl e :: cs) (.rm 0 [] :: xs) :=
  ⟨.rm e 0 [] (Nat.le_refl _) (Nat.zero_le _) (Nat.zero_le _) (by simp) (by simp), k⟩
theorem TyR.of {P : Program} {t : TypeId} {cs : List CK} {row : List PV} (hc : cks P t = cs) (h : WRs P cs row) : TyR P t row := by unfold TyR; rw [hc]; exact h
theorem TyR.to {P : Program} {t : TypeId} {cs : List CK} {row : List PV} (hc : cks P t = cs) (h : TyR P t row) : WRs P cs row := by unfold TyR at h; rw [hc] at h; exact h

mutual
/-- what is left where the room is not looked at -/
def PV.er : PV → PV
  | .v x => .v x
  | .sl rows => .sl rows
  | .rm len rows => .sl (erRows len rows)
def erRow : List PV → List PV
  | [] => []
  | x :: xs => PV.er x :: erRow xs
def erRows : Nat → List (List PV) → List (List PV)
  | _, [] => []
  | 0, _ :: _ => []
  | n + 1, r :: rs => erRow r :: erRows n rs
end

theorem erRow_get : ∀ (row : List PV) (j : Nat), (erRow row)[j]? = (row[j]?).map PV.er
  | [], j => by simp [erRow]
  | x :: xs, 0 => by simp [erRow]
  | x :: xs, j + 1 => by simp [erRow, erRow_get xs j]
theorem erRow_length (row : List PV) : (erRow row).length = row.length := by
  induction row with
  | nil => simp [erRow]
  | cons x xs ih => simp [erRow, ih]
theorem erRows_get : ∀ (n : Nat) (rows : List (List PV)) (i : Nat), (erRows n rows)[i]? = if i < n then (rows[i]?).map erRow else none
  | _, [], i => by simp [erRows]
  | 0, _ :: _, i => by simp [erRows]
  | n + 1, r :: rs, 0 => by simp [erRows]
  | n + 1, r :: rs, i + 1 => by simp [erRows, erRows_get n rs i]
theorem erRows_length (n : Nat) (rows : List (List PV)) : (erRows n rows).length = min n rows.length := by
  induction rows generalizing n with
  | nil => simp [erRows]
  | cons r rs ih => cases n with
    | zero => simp [erRows]
    | succ n => simp only [erRows, List.length_cons, ih]; omega

theorem Rep.er {w : World} {bad : Nat → Prop} {lo : Nat} {x : PV} {v : Value} (h : Rep w bad lo x v) : Rep w bad lo x.er v := by
  induction h with
  | v x hx => exact .v x hx
  | nil b c => exact .nil b c
  | sl rows b off cap cs t fz sz f hcap hb hbad hlo hfz hlen hc hr ih => exact .sl rows b off cap cs t fz sz f hcap hb hbad hlo hfz hlen hc hr
  | rmNil => simp only [PV.er, erRows]; exact .nil none 0
  | rm len rows b off cs t sz f hcap hb hbad hlo hlen hc hr ih =>
    simp only [PV.er]
    have hl : (erRows len rows).length = len := by rw [erRows_length]; omega
    have hget : ∀ (i : Nat) (row : List PV), (erRows len rows)[i]? = some row → ∃ r0, rows[i]? = some r0 ∧ row = erRow r0 := by
      intro i row hi
      rw [erRows_get] at hi
      split at hi
      · cases hq : rows[i]? with
        | none => simp [hq] at hi
        | some r0 => simp [hq] at hi; exact ⟨r0, rfl, hi.symm⟩
      · cases hi
    have hcell : ∀ (r0 : List PV) (j : Nat) (x : PV), (erRow r0)[j]? = some x → ∃ y, r0[j]? = some y ∧ x = y.er := by
      intro r0 j x hj
      rw [erRow_get] at hj
      cases hq : r0[j]? with
      | none => simp [hq] at hj
      | some y => simp [hq] at hj; exact ⟨y, rfl, hj.symm⟩
    have := Rep.sl (w := w) (bad := bad) (lo := lo) (erRows len rows) b off rows.length cs t (0, 0) sz f (by rw [hl]; exact hcap) hb hbad hlo (fun _ => rfl)
      (fun i row hi => by obtain ⟨r0, h1, rfl⟩ := hget i row hi; rw [erRow_length]; exact hlen i r0 h1)
      (fun i row j x hi hj => by
        obtain ⟨r0, h1, rfl⟩ := hget i row hi
        obtain ⟨y, h2, rfl⟩ := hcell r0 j x hj
        exact hc i r0 j y h1 h2)
      (fun i row j x hi hj => by
        obtain ⟨r0, h1, rfl⟩ := hget i row hi
        obtain ⟨y, h2, rfl⟩ := hcell r0 j x hj
        exact ih i r0 j y h1 h2)
    rw [hl] at this
    exact this

theorem WR.er {P : Program} {ck : CK} {x : PV} (h : WR P ck x) : WT P ck x.er := by
  induction h with
  | int k n h1 h2 => exact .int k n h1 h2
  | bool x => exact .bool x
  | str x h => exact .str x h
  | rm e len rows h hm hr hl hw ih =>
    simp only [PV.er]
    have hget : ∀ row ∈ erRows len rows, ∃ r0 ∈ rows, row = erRow r0 := by
      intro row hrow
      obtain ⟨i, hi⟩ := List.getElem?_of_mem hrow
      rw [erRows_get] at hi
      split at hi
      · cases hq : rows[i]? with
        | none => simp [hq] at hi
        | some r0 => simp [hq] at hi; exact ⟨r0, List.mem_of_getElem? hq, hi.symm⟩
      · cases hi
    refine .sl e _ (by rw [erRows_length]; omega) ?_ ?_
    · intro row hrow
      obtain ⟨r0, h0, rfl⟩ := hget row hrow
      rw [erRow_length]; exact hl r0 h0
    · intro row hrow j ck x hc hx
      obtain ⟨r0, h0, rfl⟩ := hget row hrow
      rw [erRow_get] at hx
      cases hq : r0[j]? with
      | none => simp [hq] at hx
      | some y => simp [hq] at hx; subst hx; exact ih r0 h0 j ck y hc hq

theorem TyR.er {P : Program} {t : TypeId} {row : List PV} (h : TyR P t row) : Ty P t (erRow row) := by
  unfold TyR at h; unfold Ty
  rw [WRs_iff] at h; rw [WTs_iff]
  refine ⟨by rw [erRow_length]; exact h.1, ?_⟩
  intro j ck x hc hx
  rw [erRow_get] at hx
  cases hq : row[j]? with
  | none => simp [hq] at hx
  | some y => simp [hq] at hx; subst hx; exact (h.2 j ck y hc hq).er

/-- a list that is being filled: the rows below m and those behind len have room, the others are as they were -/
def ArrTy (P : Program) (e : TypeId) (rows : List (List PV)) (len m B : Nat) : Prop :=
  rows.length = len + 2 ∧ ∀ (j : Nat) (row : List PV), rows[j]? = some row → (j < m ∨ len ≤ j → TyR P e row) ∧ (m ≤ j → j < len → Ty P e row ∧ rz row < B)

theorem ArrTy.get {P : Program} {e : TypeId} {rows : List (List PV)} {len m B : Nat} (h : ArrTy P e rows len m B) {j : Nat} (h1 : m ≤ j) (h2 : j < len) : ∃ row, rows[j]? = some row ∧ Ty P e row ∧ rz row < B := by
  have hlt : j < rows.length := by rw [h.1]; omega
  exact ⟨rows[j], by simp [hlt], (h.2 j rows[j] (by simp [hlt])).2 h1 h2⟩

theorem ArrTy.set {P : Program} {e : TypeId} {rows : List (List PV)} {len m B : Nat} {row : List PV} (h : ArrTy P e rows len m B) (hm : m < len) (hr : TyR P e row) : ArrTy P e (rows.set m row) len (m + 1) B := by
  refine ⟨by simp [h.1], ?_⟩
  intro j r hj
  by_cases he : m = j
  · subst he
    have hlt : m < rows.length := by rw [h.1]; omega
    rw [List.getElem?_set_self hlt] at hj; simp at hj; subst hj
    exact ⟨fun _ => hr, fun h1 => by omega⟩
  · rw [List.getElem?_set_ne he] at hj
    have := h.2 j r hj
    exact ⟨fun h1 => this.1 (by omega), fun h1 h2 => this.2 (by omega) h2⟩

theorem ArrTy.done {P : Program} {e : TypeId} {rows : List (List PV)} {len m B : Nat} (h : ArrTy P e rows len m B) (hm : len ≤ m) (hl : len ≤ mostLen) : WR P (.sl e) (.rm len rows) := by
  have hall : ∀ row ∈ rows, TyR P e row := by
    intro row hrow
    obtain ⟨j, hj⟩ := List.getElem?_of_mem hrow
    exact (h.2 j row hj).1 (by omega)
  exact .rm e len rows (by rw [h.1]; omega) hl (by rw [h.1]; omega) (fun row hrow => ((WRs_iff _ _).1 (hall row hrow)).1) fun row hrow j ck x hc hx => ((WRs_iff _ _).1 (hall row hrow)).2 j ck x hc hx

/-- a copied list, two zero rows behind it -/
theorem ArrTy.copied {P : Program} {e : TypeId} {l : List (List PV)} {zr : List PV} (h : AllTy P e l) (hz : TyR P e zr) :
    ArrTy P e ((List.replicate (l.length + 2) zr).take 0 ++ l ++ (List.replicate (l.length + 2) zr).drop (0 + l.length)) (0 + l.length) 0 (rsz l) := by
  refine ⟨by simp, ?_⟩
  intro j row hj
  rw [List.take_zero, List.nil_append, List.getElem?_append] at hj
  split at hj
  · rename_i hlt
    exact ⟨fun h1 => by omega, fun _ _ => ⟨h row (List.mem_of_getElem? hj), size_mem (List.mem_of_getElem? hj)⟩⟩
  · rename_i hge
    refine ⟨fun _ => ?_, fun _ h2 => by omega⟩
    rw [List.getElem?_drop, List.getElem?_replicate] at hj
    split at hj
    · simp at hj; subst hj; exact hz
    · cases hj

theorem imp_roomI {P : Program} {n : Nat} {σ σ' : St} (k : Nat) {t : TypeId} {sz len m : Nat} {rows : List (List PV)} (hl : lk σ.tab k = some (.arr t sz rows len m)) (hm : len ≤ m) (h : St.fz k (.p (.rm len rows) true) (fun _ => .u) σ = σ') : Imp P n σ σ' :=
  fun _ _ _ _ _ hh => h ▸ imp_room hl hm hh

/-- cells that need no memory are fresh -/
def scalars : List CK → Bool
  | [] => true
  | .int _ :: r => scalars r
  | .bool :: r => scalars r
  | .str :: r => scalars r
  | _ => false

theorem scalars_mem : ∀ {cs : List CK}, scalars cs = true → ∀ c ∈ cs, (∃ k, c = .int k) ∨ c = .bool ∨ c = .str
  | [], _, c, hc => by simp at hc
  | .int k :: r, h, c, hc => by
    rcases List.mem_cons.1 hc with rfl | hc
    · exact .inl ⟨k, rfl⟩
    · exact scalars_mem (cs := r) (by simpa [scalars] using h) c hc
  | .bool :: r, h, c, hc => by
    rcases List.mem_cons.1 hc with rfl | hc
    · exact .inr (.inl rfl)
    · exact scalars_mem (cs := r) (by simpa [scalars] using h) c hc
  | .str :: r, h, c, hc => by
    rcases List.mem_cons.1 hc with rfl | hc
    · exact .inr (.inr rfl)
    · exact scalars_mem (cs := r) (by simpa [scalars] using h) c hc
  | .sl _ :: _, h, _, _ => by simp [scalars] at h
  | .other :: _, h, _, _ => by simp [scalars] at h

theorem WT_scalar {P : Program} {c : CK} {x : PV} (hs : (∃ k, c = .int k) ∨ c = .bool ∨ c = .str) (h : WT P c x) : (∃ v, x = .v v) ∧ WR P c x := by
  cases h with
  | int k n h1 h2 => exact ⟨⟨_, rfl⟩, .int k n h1 h2⟩
  | bool x => exact ⟨⟨_, rfl⟩, .bool x⟩
  | str x h => exact ⟨⟨_, rfl⟩, .str x h⟩
  | sl e rows => rcases hs with ⟨k, e⟩ | e | e <;> cases e

theorem Ty.room {P : Program} {t : TypeId} {row : List PV} (hs : scalars (cks P t) = true) (h : Ty P t row) : TyR P t row := by
  unfold Ty at h; unfold TyR
  rw [WTs_iff] at h; rw [WRs_iff]
  exact ⟨h.1, fun j ck x hc hx => (WT_scalar (scalars_mem hs ck (List.mem_of_getElem? hc)) (h.2 j ck x hc hx)).2⟩

theorem imp_arrM {P : Program} {n : Nat} {σ σ' : St} (k m' : Nat) {t : TypeId} {sz len m : Nat} {rows : List (List PV)} (hl : lk σ.tab k = some (.arr t sz rows len m))
    (hv : ∀ row ∈ rows, ∀ x ∈ row, ∃ v, x = PV.v v) (h : (⟨σ.slots, (k, .arr t sz rows len m') :: rm σ.tab k⟩ : St) = σ') : Imp P n σ σ' := by
  subst h
  rintro lo w0 E0 a w ⟨E, h⟩
  refine ⟨E, h.size, h.defers, h.slots, ⟨?_, ?_, ?_, h.tab.ext⟩, h.fr, h.lo, h.ids, h.pres⟩
  · intro j ov hj
    simp only at hj
    by_cases he : j = k
    · subst he
      rw [lk_cons_same] at hj; cases hj
      obtain ⟨b, cs, h1, h2, h3, h4, h5, h6, f, a1, a2, a3, a4⟩ := h.tab.obj j _ hl
      refine ⟨b, cs, h1, h2, h3, h4, h5, h6, f, a1, a2, a3, fun i row c x hi hc _ => ?_⟩
      obtain ⟨v, rfl⟩ := hv row (List.mem_of_getElem? hi) x (List.mem_of_getElem? hc)
      have := a3 i row c _ hi hc
      cases this with
      | v _ hx => exact .v _ hx
    · rw [lk_cons_ne _ _ _ _ he, lk_rm_ne _ _ _ he] at hj
      exact h.tab.obj j ov hj
  · intro j hj
    simp only at hj
    have he : j ≠ k := fun e => by subst e; rw [lk_cons_same] at hj; cases hj
    rw [lk_cons_ne _ _ _ _ he, lk_rm_ne _ _ _ he] at hj
    exact h.tab.dead j hj
  · intro b j ho
    have := h.tab.own b j ho
    refine ⟨this.1, this.2.1, ?_⟩
    by_cases he : j = k
    · subst he; simp only; rw [lk_cons_same]; simp
    · simp only; rw [lk_cons_ne _ _ _ _ he, lk_rm_ne _ _ _ he]; exact this.2.2

theorem ArrTy.scalar {P : Program} {e : TypeId} {rows : List (List PV)} {len m B : Nat} (hs : scalars (cks P e) = true) (h : ArrTy P e rows len m B) : ArrTy P e rows len len B ∧ ∀ row ∈ rows, ∀ x ∈ row, ∃ v, x = PV.v v := by
  have key : ∀ (j : Nat) (row : List PV), rows[j]? = some row → TyR P e row := by
    intro j row hj
    have h2 := h.2 j row hj
    by_cases h1 : j < m ∨ len ≤ j
    · exact h2.1 h1
    · exact (h2.2 (by omega) (by omega)).1.room hs
  refine ⟨⟨h.1, fun j row hj => ⟨fun _ => key j row hj, fun h1 h2 => by omega⟩⟩, ?_⟩
  intro row hrow x hx
  obtain ⟨j, hj⟩ := List.getElem?_of_mem hrow
  obtain ⟨c, hc⟩ := List.getElem?_of_mem hx
  have hr := key j row hj
  unfold TyR at hr
  rw [WRs_iff] at hr
  have hlt : c < (cks P e).length := by rw [← hr.1]; exact (List.getElem?_eq_some_iff.1 hc).1
  have hw := hr.2 c (cks P e)[c] x (by simp [hlt]) hc
  have hsc := scalars_mem hs (cks P e)[c] (List.getElem_mem hlt)
  generalize (cks P e)[c] = ck at hw hsc
  cases hw with
  | int k n h1 h2 => exact ⟨_, rfl⟩
  | bool x => exact ⟨_, rfl⟩
  | str x h => exact ⟨_, rfl⟩
  | rm e len rows => rcases hsc with ⟨k, e⟩ | e | e <;> cases e

/-- a predicate that follows -/
theorem imp_ext {P : Program} {n : Nat} {σ σ' : St} (k : Nat) {φ : World → Value → (Nat → Prop) → Prop} (ψ : World → Value → (Nat → Prop) → Prop) (hl : lk σ.tab k = some (.ext φ))
    (hψ : ∀ w x B, φ w x B → ψ w x B ∧ ∀ w' : World, (∀ b, B b → w'.heap[b]? = w.heap[b]?) → ψ w' x B) (h : (⟨σ.slots, (k, .ext ψ) :: rm σ.tab k⟩ : St) = σ') : Imp P n σ σ' := by
  subst h
  rintro lo w0 E0 a w ⟨E, h⟩
  refine ⟨E, h.size, h.defers, h.slots, ⟨?_, ?_, ?_, h.tab.ext⟩, h.fr, h.lo, h.ids, h.pres⟩
  · intro j ov hj
    simp only at hj
    by_cases he : j = k
    · subst he
      rw [lk_cons_same] at hj; cases hj
      obtain ⟨x, h1, h2, h3, h4⟩ := h.tab.obj j _ hl
      exact ⟨x, h1, h2, (hψ w x _ h3).1, (hψ w x _ h3).2⟩
    · rw [lk_cons_ne _ _ _ _ he, lk_rm_ne _ _ _ he] at hj
      exact h.tab.obj j ov hj
  · intro j hj
    simp only at hj
    have he : j ≠ k := fun e => by subst e; rw [lk_cons_same] at hj; cases hj
    rw [lk_cons_ne _ _ _ _ he, lk_rm_ne _ _ _ he] at hj
    exact h.tab.dead j hj
  · intro b j ho
    have := h.tab.own b j ho
    refine ⟨this.1, this.2.1, ?_⟩
    by_cases he : j = k
    · subst he; simp only; rw [lk_cons_same]; simp
    · simp only; rw [lk_cons_ne _ _ _ _ he, lk_rm_ne _ _ _ he]; exact this.2.2

def isNl0 : SV → Bool
  | .p (.v x) _ => isNilSl x
  | _ => false

/-- a nil slice in a cell of a variable is a growable list of one's own -/
def St.nilCell (k j K : Nat) (e : TypeId) (sz : Nat) (σ : St) : Option St :=
  match lk σ.tab k with
  | some (.box t cells) => match cells[j]? with
    | some c => match isNl0 c with
      | true => some ⟨σ.slots, (K, .vec e sz [] true) :: (k, .box t (cells.set j (.vec K))) :: rm σ.tab k⟩
      | false => none
    | none => none
  | _ => none

theorem VRs_setNil {w : World} {E : Env} {lo K : Nat} (hK : E.val K = some (.slice none 0 0)) : ∀ (xs : List SV) (vs : List Value) (j : Nat) (c : SV), VRs w E lo xs vs → xs[j]? = some c → isNl0 c = true → VRs w E lo (xs.set j (.vec K)) vs
  | [], _, j, c, _, hj, _ => by simp at hj
  | x :: xs, [], j, c, h, _, _ => by simp [VRs] at h
  | x :: xs, v :: vs, 0, c, h, hj, hc => by
    simp at hj; subst hj
    have h1 := (VRs_cons_iff.1 h).1
    refine VRs_cons ?_ (VRs_cons_iff.1 h).2
    unfold isNl0 at hc
    split at hc
    · rename_i y fr
      have := isNilSl_eq hc; subst this
      have := VR_v_eq h1; subst this
      simp only [VR]
      exact ⟨hK, _, _, _, rfl⟩
    · cases hc
  | x :: xs, v :: vs, j + 1, c, h, hj, hc => VRs_cons (VRs_cons_iff.1 h).1 (VRs_setNil hK xs vs j c (VRs_cons_iff.1 h).2 (by simpa using hj) hc)

theorem imp_nilCell {P : Program} {n : Nat} {σ σ' : St} (k j K : Nat) (e : TypeId) (sz : Nat) (hf : (lk σ.tab K).isSome = false) (hi : Nat.ble (K + 1) n = true) (hz : Nat.ble 1 sz = true) (h : σ.nilCell k j K e sz = some σ') : Imp P n σ σ' := by
  unfold St.nilCell at h
  split at h
  · rename_i t cells hk
    split at h
    · rename_i c hc
      split at h
      · rename_i hn
        simp only [Option.some.injEq] at h; subst h
        rintro lo w0 E0 a w ⟨E, h⟩
        have hK : K < n := Nat.le_of_ble_eq_true hi
        have hf' : lk σ.tab K = none := by simpa using hf
        have hkK : k ≠ K := fun e => by subst e; rw [hf'] at hk; cases hk
        let E' : Env := ⟨fun k => if k = K then some (.slice none 0 0) else E.val k, E.own, E.ext⟩
        have hkp : Keeps w E w E' := ⟨fun _ _ h => ⟨rfl, h⟩, rfl⟩
        have hv : ∀ k x, E.val k = some x → E'.val k = some x := by
          intro k x hx
          have : k ≠ K := fun e => by subst e; rw [h.tab.dead k hf'] at hx; cases hx
          simp [E', this, hx]
        refine ⟨E', h.size, h.defers, fun t' s hl => VR.mono hkp hv s _ (h.slots t' s hl), ⟨?_, ?_, ?_, h.tab.ext⟩, ⟨h.fr.os, h.fr.tape, h.fr.output, h.fr.size, h.fr.keep, h.fr.ext⟩, h.lo, h.ids, ?_⟩
        · intro i ov hl
          by_cases he : i = K
          · subst he
            rw [lk_cons_same] at hl; cases hl
            exact ⟨.slice none 0 0, [], by simp [E'], Nat.le_of_ble_eq_true hz, World.ownsRow_nil w 0 e sz, by simp [Value.ownBlock], fun _ _ => undef, by simp, by simp, by simp⟩
          · rw [lk_cons_ne _ _ _ _ he] at hl
            by_cases hek : i = k
            · subst hek
              rw [lk_cons_same] at hl; cases hl
              obtain ⟨b, vs, h1, h2, h3, h4⟩ := h.tab.obj i _ hk
              exact ⟨b, vs, hv _ _ h1, h2, h3, VRs_setNil (by simp [E']) cells vs j c (VRs.mono hkp hv cells vs h4) hc hn⟩
            · rw [lk_cons_ne _ _ _ _ hek, lk_rm_ne _ _ _ hek] at hl
              exact OR.mono hkp hv (fun _ => Iff.rfl) (fun _ _ => rfl) (h.tab.obj i ov hl)
        · intro i hl
          have he : i ≠ K := fun e => by subst e; rw [lk_cons_same] at hl; cases hl
          rw [lk_cons_ne _ _ _ _ he] at hl
          have hek : i ≠ k := fun e => by subst e; rw [lk_cons_same] at hl; cases hl
          rw [lk_cons_ne _ _ _ _ hek, lk_rm_ne _ _ _ hek] at hl
          simp [E', he, h.tab.dead i hl]
        · intro b i ho
          have := h.tab.own b i ho
          refine ⟨this.1, this.2.1, ?_⟩
          by_cases he : i = K
          · subst he; rw [lk_cons_same]; simp
          · rw [lk_cons_ne _ _ _ _ he]
            by_cases hek : i = k
            · subst hek; rw [lk_cons_same]; simp
            · rw [lk_cons_ne _ _ _ _ hek, lk_rm_ne _ _ _ hek]; exact this.2.2
        · intro i x hj
          have hid : n ≤ i := h.ids i (by rw [hj]; simp)
          have : i ≠ K := by omega
          simpa [E', this] using h.pres i x hj
      · cases h
    · cases h
  · cases h

end Go.TL
