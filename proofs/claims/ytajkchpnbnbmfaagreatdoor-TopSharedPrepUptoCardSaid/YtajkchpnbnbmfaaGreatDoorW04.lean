/- Operations that look at no memory. -/
import Derived.Test.YtajkchpnbnbmfaaGreatDoorW03
namespace Go.TL
def eg (C : Ctx) (o : Oper) (σ' : St) (a : Act) (w : World) : Prop :=
 ∃ v,(∀ w2,(execOp a.eval o).run C.P w2 = .ok (.value v) w2) ∧ Holds C σ' (a.put o.dst v) w
theorem cV {C : Ctx} {E : Env} {σ : St} {a : Act} {w : World} {o : Oper} {sv : SV} {v : Value} (h : au C E σ a w) (hd : aV C o)
  (hrun : ∀ w2,(execOp a.eval o).run C.P w2 = .ok (.value v) w2) (hsv : VR w E C.lo sv v) : eg C o (σ.put o.dst sv) a w :=
 ⟨v,hrun,E,h.upd (Fr.refl w E) (fun _ _ h => h) (fun _ _ h => h) h.tab o.dst hd fun _ _ => hsv⟩
theorem eg.out {C : Ctx} {o : Oper} {σ' : St} {a : Act} {w : World} (h : eg C o σ' a w) : bs C o σ' a w := by
 obtain ⟨v,h1,h2⟩ := h
 exact ⟨v,w,.inl (h1 w),h2⟩
theorem jF {C : Ctx} {E : Env} {σ σ' : St} {a : Act} {w : World} {o : Oper} {x : Operand} {vc : Prop} (ho : o.op = .move x ∨ o.op = .assign x)
  (hf : qN σ o x = some (σ',vc)) (h : au C E σ a w) (hd : aV C o) : eg C o σ' a w := by
 simp only [qN,Option.some.injEq,Prod.mk.injEq] at hf; obtain ⟨rfl,_⟩ := hf
 refine cV h hd (v := a.eval x) ?_ (a7 h x)
 rcases ho with ho | ho <;> simp [execOp,ho]
theorem tQ {C : Ctx} {E : Env} {σ σ' : St} {a : Act} {w : World} {o : Oper} {c x y : Operand} {vc : Prop} (ho : o.op = .pick c x y)
  (hf : qO σ o c x y = some (σ',vc)) (h : au C E σ a w) (hd : aV C o) : eg C o σ' a w := by
 unfold qO at hf
 split at hf
 ·rename_i he
  simp only [Option.some.injEq,Prod.mk.injEq] at hf; obtain ⟨rfl,_⟩ := hf
  exact cV h hd (v := a.eval x) (by simp [execOp,ho,fC h he,asBool]) (a7 h x)
 ·rename_i he
  simp only [Option.some.injEq,Prod.mk.injEq] at hf; obtain ⟨rfl,_⟩ := hf
  exact cV h hd (v := a.eval y) (by simp [execOp,ho,fC h he,asBool]) (a7 h y)
 ·cases hf
theorem mG {C : Ctx} {E : Env} {σ σ' : St} {a : Act} {w : World} {o : Oper} {x : Operand} {vc : Prop} (ho : o.op = .nilCheck x)
  (hf : kz σ o x = some (σ',vc)) (h : au C E σ a w) (hd : aV C o) : eg C o σ' a w := by
 have hev := a7 h x
 unfold kz at hf
 split at hf <;> (try (cases hf; done)) <;> rename_i he <;> simp only [Option.some.injEq,Prod.mk.injEq] at hf <;> obtain ⟨rfl,_⟩ := hf <;> rw [he] at hev <;>
  refine cV h hd (v := a.eval x) ?_ hev <;> simp only [VR] at hev
 ·obtain ⟨b,_,hx⟩ := hev; simp [execOp,ho,hx]
 ·obtain ⟨b,o',hx,_⟩ := hev; simp [execOp,ho,hx]
 ·obtain ⟨b,n,c,_,hx⟩ := hev; simp [execOp,ho,hx]
 ·obtain ⟨y',hx,_⟩ := hev; simp [execOp,ho,hx]
 ·obtain ⟨vs,ws,hx,_⟩ := hev; simp [execOp,ho,hx]
theorem lG {C : Ctx} {E : Env} {σ σ' : St} {a : Act} {w : World} {o : Oper} {s : TypeId} {x : Operand} {f : Nat} {vc : Prop} (ho : o.op = .fieldAddr s x f)
  (hf : jD C.P σ o s x f = some (σ',vc)) (h : au C E σ a w) (hd : aV C o) : eg C o σ' a w := by
 unfold jD at hf
 split at hf
 ·rename_i n m hn
  split at hf
  ·rename_i sv hsv
   simp only [Option.some.injEq,Prod.mk.injEq] at hf; obtain ⟨rfl,_⟩ := hf
   obtain ⟨b,o',hx,hv⟩ := Hu hsv (a7 h x)
   unfold bM at hn
   split at hn
   ·rename_i fields hu
    split at hn
    ·rename_i fd hfd
     split at hn
     ·rename_i i hi
      split at hn
      ·cases hn
      ·rename_i hz
       simp only [Option.some.injEq,Prod.mk.injEq] at hn; obtain ⟨rfl,rfl⟩ := hn
       have hz' : i.size ≠ 0 := fun e => by rw [e] at hz; simp at hz
       have hfd' : fields[f]? = some fd := by simpa using hfd
       refine cV h hd (v := .pointer (some ⟨b,o' + fd.offset,none⟩)) ?_ hv
       simp [execOp,ho,hx,Instr.fieldAt,run_underlying hu,hfd',Instr.sureAddr,fieldPlace,sizeOf,typeInfo,hi,hz',Addr.add_lit]
     ·cases hn
    ·cases hn
   ·cases hn
  ·cases hf
 ·cases hf
theorem nE {C : Ctx} {E : Env} {σ σ' : St} {a : Act} {w : World} {o : Oper} {x : Operand} {n : Nat} {vc : Prop} (ho : o.op = .extract x n)
  (hf : mD σ o x n = some (σ',vc)) (h : au C E σ a w) (hd : aV C o) : eg C o σ' a w := by
 have hev := a7 h x
 unfold mD at hf
 split at hf
 ·rename_i xs he
  split at hf
  ·rename_i sv hsv
   simp only [Option.some.injEq,Prod.mk.injEq] at hf; obtain ⟨rfl,_⟩ := hf
   rw [he] at hev; simp only [VR] at hev
   obtain ⟨vs,hx,hvs⟩ := hev
   obtain ⟨v,hv1,hv⟩ := k8 hvs hsv
   refine cV h hd (v := v) ?_ hv
   simp [execOp,ho,hx,Instr.extract,hv1]
  ·cases hf
 ·cases hf
theorem eX {C : Ctx} {H : Hint} {E : Env} {σ σ' : St} {a : Act} {w : World} {o : Oper} {t : TypeId} {x ix : Operand} {vc : Prop} (ho : o.op = .indexAddr t x ix)
  (hf : cA C.P H σ o t x ix = some (σ',vc)) (hvc : vc) (h : au C E σ a w) (hd : aV C o) : eg C o σ' a w := by
 have hev := a7 h x
 unfold cA at hf
 split at hf
 ·rename_i n d hn hdst
  obtain ⟨kk,hix⟩ := jg h hn
  split at hf
  ·rename_i rows fr e he hu
   split at hf
   ·rename_i row i hrow hi
    split at hf
    ·rename_i hlen
     have hlen' := Nat.eq_of_beq_eq_true hlen
     simp only [Option.some.injEq,Prod.mk.injEq] at hf; obtain ⟨rfl,rfl⟩ := hf
     obtain ⟨h0,hr⟩ := hvc
     rw [he] at hev; simp only [VR] at hev
     have hlt : n.toNat < rows.length := (List.getElem?_eq_some_iff.1 hr).1
     generalize hv : a.eval x = v at hev
     cases hev with
     | nil b c => simp at hlt
     | sl _ b off cap cs t' fz sz f hcap hb hbad hlo hfz hl hc hrr =>
      have hsz : sz = i.size := by rw [← hlen',hl _ _ hr]
      subst hsz
      refine cV h hd (v := .pointer (some ⟨b,off + n.toNat * i.size,none⟩)) ?_ ?_
      ·simp [execOp,ho,hv,hix,run_indexAt_slice (P := C.P) (k := kk) hu hi h0 (show n < (rows.length : Int) by omega),Addr.add_lit]
      ·simp only [VR]
       exact ⟨b,off + n.toNat * i.size,rfl,cs,t',fz,f n.toNat,hb,hbad,hlo,fun j y hj => hc _ _ _ _ hr hj,fun j y hj => hrr _ _ _ _ hr hj⟩
    ·cases hf
   ·cases hf
  ·rename_i k e he hu
   split at hf
   ·rename_i t' sz rows fr i hl hi
    split at hf
    ·rename_i hsz
     have hsz' := Nat.eq_of_beq_eq_true hsz
     simp only [Option.some.injEq,Prod.mk.injEq] at hf; obtain ⟨rfl,rfl⟩ := hf
     obtain ⟨h0,hlt⟩ := hvc
     rw [he] at hev; simp only [VR] at hev
     obtain ⟨v,xs,h1,h2,h3,h4,h5⟩ := h.tab.obj _ _ hl
     rw [hev.1] at h1; cases h1
     rcases h3.2 with ⟨_,hz⟩ | ⟨g,cap,cur,hv,_⟩
     ·omega
     ·refine cV h hd (v := .pointer (some ⟨g,n.toNat * sz,none⟩)) ?_ ?_
      ·simp [execOp,ho,hv,hix,run_indexAt_slice (P := C.P) (k := kk) hu hi h0 hlt,Addr.add_lit,hsz']
      ·simp only [VR]
       rw [hv] at hev
       exact ⟨g,_,_,hev.1,by simp⟩
    ·cases hf
   ·cases hf
  ·rename_i k off len e he hu
   split at hf
   ·rename_i i m hi hm
    split at hf
    ·rename_i hle
     have hle' := Nat.le_of_ble_eq_true hle
     simp only [Option.some.injEq,Prod.mk.injEq] at hf; obtain ⟨rfl,_⟩ := hf
     rw [he] at hev; simp only [VR] at hev
     obtain ⟨b,hb,hx⟩ := hev
     have hnm : n = (m : Int) := by
      unfold nC at hm; split at hm
      ·simp only [Option.some.injEq] at hm; subst hm; rfl
      ·cases hm
     subst hnm
     refine cV h hd (v := .pointer (some ⟨b,off + m * i.size,none⟩)) ?_ (by simp only [VR]; exact ⟨b,hb,rfl⟩)
     have h2 : (m : Int) < (len : Int) := by omega
     have hlt : m < len := hle'
     simp [execOp,ho,hx,hix,Instr.indexAt,asIntOf,run_underlying hu,Instr.sureAddr,hlt,sizeOf,typeInfo,hi,Addr.add_lit]
    ·cases hf
   ·cases hf
  ·cases hf
 ·cases hf
theorem vz {C : Ctx} {E : Env} {σ σ' : St} {a : Act} {w : World} {o : Oper} {x : Operand} {t : TypeId} {vc : Prop} (ho : o.op = .call { callee := .builtin .len,args := #[x],argTypes := #[t] })
  (hf : Ab C.P σ o x t = some (σ',vc)) (h : au C E σ a w) (hd : aV C o) : eg C o σ' a w := by
 unfold Ab at hf
 split at hf
 ·rename_i n hn
  simp only [Option.some.injEq,Prod.mk.injEq] at hf; obtain ⟨rfl,_⟩ := hf
  have hev := a7 h x
  refine cV h hd (v := .int .i64 (n : Int)) ?_ (cT true rfl)
  intro w2
  rw [dK ho]
  unfold lenOf at hn
  split at hn
  ·rename_i k he
   split at hn
   ·rename_i t' sz rows fr d hl hu
    simp only [Option.some.injEq] at hn; subst hn
    rw [he] at hev; simp only [VR] at hev
    obtain ⟨v,xs,h1,h2,h3,h4,h5⟩ := h.tab.obj _ _ hl
    rw [hev.1] at h1; cases h1
    have hv : ∃ p c,a.eval x = .slice p rows.length c := by
     rcases h3.2 with ⟨e,hz⟩ | ⟨g,cap,cur,e,_⟩
     ·exact ⟨none,0,by rw [e,hz]⟩
     ·exact ⟨_,cap,e⟩
    obtain ⟨p,c,hv⟩ := hv
    simp [builtin,Builtin.len_,run_underlying hu,hv,goInt]
   ·cases hn
  ·rename_i rows fr he
   split at hn
   ·rename_i d hu
    simp only [Option.some.injEq] at hn; subst hn
    rw [he] at hev; simp only [VR] at hev
    obtain ⟨p,c,hv⟩ := lE hev
    simp [builtin,Builtin.len_,run_underlying hu,hv,goInt]
   ·cases hn
  ·rename_i rows fr he
   split at hn
   ·rename_i d hu
    simp only [Option.some.injEq] at hn; subst hn
    rw [he] at hev; simp only [VR] at hev
    obtain ⟨p,hv,_⟩ := hev
    simp [builtin,Builtin.len_,run_underlying hu,hv,goInt]
   ·cases hn
  ·rename_i fr he
   split at hn
   ·rename_i d hu
    simp only [Option.some.injEq] at hn; subst hn
    simp [builtin,Builtin.len_,run_underlying hu,fC h he,goInt]
   ·cases hn
  ·rename_i s fr he
   split at hn
   ·rename_i hu
    simp only [Option.some.injEq] at hn; subst hn
    simp [builtin,Builtin.len_,run_underlying hu,fC h he,goInt]
   ·cases hn
  ·cases hn
 ·cases hf
theorem kE {C : Ctx} {E : Env} {σ σ' : St} {a : Act} {w : World} {o : Oper} {op : BinOp} {tx ty : TypeId} {x y : Operand} {vc : Prop} (ho : o.op = .binOp op tx x y ty)
  (hf : gq σ o op x y = some (σ',vc)) (hvc : vc) (h : au C E σ a w) (hd : aV C o) : eg C o σ' a w := by
 unfold gq at hf
 split at hf
 ·rename_i k m k' n hx hy
  have ex := eA h hx
  have ey := eA h hy
  split at hf
  ·rename_i hk
   have hk' := of_decide_eq_true hk; subst hk'
   split at hf
   ·rename_i r hr
    simp only [Option.some.injEq,Prod.mk.injEq] at hf; obtain ⟨rfl,rfl⟩ := hf
    refine cV h hd (v := .int k r) ?_ (cT true rfl)
    cases op <;> simp only [arith,Option.some.injEq,reduceCtorEq] at hr <;> subst hr <;> exact fun w2 => cF ho (by rw [ex]; exact eqGuard_at_int _ _ _ _ _ _ _) (by rw [ex,ey]; simp [binOp,Op.intArith,hvc])
   ·split at hf
    ·rename_i c hc
     simp only [Option.some.injEq,Prod.mk.injEq] at hf; obtain ⟨rfl,_⟩ := hf
     refine cV h hd (v := .bool c) ?_ (cT true rfl)
     cases op <;> simp only [o6,Option.some.injEq,reduceCtorEq] at hc <;> subst hc <;> exact fun w2 => cF ho (by rw [ex]; exact eqGuard_at_int _ _ _ _ _ _ _) (by rw [ex,ey]; simp [binOp,Op.intCmp])
    ·split at hf
     ·simp only [Option.some.injEq,Prod.mk.injEq] at hf; obtain ⟨rfl,rfl⟩ := hf
      refine cV h hd (v := .int k (m.tmod n)) ?_ (cT true rfl)
      exact fun w2 => cF ho (by rw [ex]; exact eqGuard_at_int _ _ _ _ _ _ _) (by rw [ex,ey]; simp [binOp,Op.intDiv,hvc])
     ·simp only [Option.some.injEq,Prod.mk.injEq] at hf; obtain ⟨rfl,rfl⟩ := hf
      refine cV h hd (v := .int k (m.tdiv n)) ?_ (cT true rfl)
      exact fun w2 => cF ho (by rw [ex]; exact eqGuard_at_int _ _ _ _ _ _ _) (by rw [ex,ey]; simp [binOp,Op.intDiv,hvc.1,hvc.2])
     ·cases hf
  ·cases hf
 ·split at hf
  ·rename_i s r hx hy
   have ex := o7 h hx
   have ey := o7 h hy
   split at hf
   ·rename_i c hc
    simp only [Option.some.injEq,Prod.mk.injEq] at hf; obtain ⟨rfl,_⟩ := hf
    refine cV h hd (v := .bool c) ?_ (cT true rfl)
    cases op <;> simp only [kj,Option.some.injEq,reduceCtorEq] at hc <;> subst hc <;> exact fun w2 => cF ho (by rw [ex]; exact eqGuard_at_string _ _ _ _ _ _) (by rw [ex,ey]; simp [binOp,Op.stringOp])
   ·split at hf
    ·simp only [Option.some.injEq,Prod.mk.injEq] at hf; obtain ⟨rfl,rfl⟩ := hf
     refine cV h hd (v := .string (s ++ r)) ?_ (cT true rfl)
     have : ¬ (9223372036854775807 < (s.size : Int) + (r.size : Int)) := by omega
     exact fun w2 => cF ho (by rw [ex]; exact eqGuard_at_string _ _ _ _ _ _) (by rw [ex,ey]; simp [binOp,Op.stringOp,this])
    ·cases hf
  ·cases hf
def dG : BinOp → Bool
 | .add | .sub | .mul | .quo | .rem => true
 | _ => false
def lH (H : Hint) (σ : St) (o : Oper) (op : BinOp) (x y : Operand) : Option (St × Prop) :=
 match o.dst with
 | some d => match lk H.ld d,isInt (ev σ x),isInt (ev σ y) with
  | some [.v (.int k0 z)],some (k,a),some (k',b) => match decide (k = k' ∧ k = k0) with
   | true => match arith op a b with
    | some n => some (σ.put o.dst (.p (.v (.int k z)) true),k.wrap n = z)
    | none => none
   | false => none
  | _,_,_ => none
 | none => none
theorem tR {C : Ctx} {H : Hint} {E : Env} {σ σ' : St} {a : Act} {w : World} {o : Oper} {op : BinOp} {tx ty : TypeId} {x y : Operand} {vc : Prop} (ho : o.op = .binOp op tx x y ty)
  (hf : lH H σ o op x y = some (σ',vc)) (hvc : vc) (h : au C E σ a w) (hd : aV C o) : eg C o σ' a w := by
 unfold lH at hf
 split at hf
 ·split at hf
  ·rename_i k0 z k m k' n hl hx hy
   have ex := eA h hx
   have ey := eA h hy
   split at hf
   ·rename_i hk
    obtain ⟨hk',hk0⟩ := of_decide_eq_true hk; subst hk'; subst hk0
    split at hf
    ·rename_i r hr
     simp only [Option.some.injEq,Prod.mk.injEq] at hf; obtain ⟨rfl,rfl⟩ := hf
     refine cV h hd (v := .int k z) ?_ (cT true rfl)
     cases op <;> simp only [arith,Option.some.injEq,reduceCtorEq] at hr <;> subst hr <;> exact fun w2 => cF ho (by rw [ex]; exact eqGuard_at_int _ _ _ _ _ _ _) (by rw [ex,ey]; simp [binOp,Op.intArith,hvc])
    ·cases hf
   ·cases hf
  ·cases hf
 ·cases hf
theorem kF {C : Ctx} {E : Env} {σ σ' : St} {a : Act} {w : World} {o : Oper} {op : BinOp} {tx ty : TypeId} {x y : Operand} {vc : Prop} (ho : o.op = .binOp op tx x y ty)
  (hf : pe C.P σ o op tx x y = some (σ',vc)) (h : au C E σ a w) (hd : aV C o) : eg C o σ' a w := by
 unfold pe at hf
 have key : ∀ w2 b,jE C.P σ tx x y = some b → (∀ op',eqGuard op' tx x y (a.eval x) (a.eval y) = pure ()) ∧
   (binOp .eql tx (a.eval x) (a.eval y)).run C.P w2 = .ok (.bool b) w2 ∧ (binOp .neq tx (a.eval x) (a.eval y)).run C.P w2 = .ok (.bool (!b)) w2 := by
  intro w2 b hb
  unfold jE at hb
  split at hb
  ·rename_i e hu
   split at hb
   ·rename_i p hx hy
    simp only [Option.some.injEq] at hb; subst hb
    obtain ⟨p1,e1,n1⟩ := sJ h hx
    obtain ⟨p2,e2,n2⟩ := sJ h hy
    have : p2 = none := by simpa using n2
    subst this
    rw [e1,e2]
    have hr := vw (P := C.P) (w := w2) hu p1 none (.inr rfl)
    rw [n1,Option.isNone_none,Bool.and_true] at hr
    exact ⟨fun op' => eqGuard_at_pointer _ _ _ _ _ _,lg hr (.inl ⟨⟨_,rfl⟩,⟨_,rfl⟩⟩)⟩
   ·rename_i q hne hx hy
    simp only [Option.some.injEq] at hb; subst hb
    obtain ⟨p1,e1,n1⟩ := sJ h hx
    obtain ⟨p2,e2,n2⟩ := sJ h hy
    have : p1 = none := by simpa using n1
    subst this
    rw [e1,e2]
    have hr := vw (P := C.P) (w := w2) hu none p2 (.inl rfl)
    rw [n2,Option.isNone_none,Bool.true_and] at hr
    exact ⟨fun op' => eqGuard_at_pointer _ _ _ _ _ _,lg hr (.inl ⟨⟨_,rfl⟩,⟨_,rfl⟩⟩)⟩
   ·cases hb
  ·rename_i ps rs v hu
   split at hb
   ·rename_i p hx hy
    simp only [Option.some.injEq] at hb; subst hb
    have e2 : a.eval y = .nilFunc := by
     rcases sK h hy with ⟨_,e⟩ | ⟨e,_⟩
     ·exact e
     ·cases e
    rcases sK h hx with ⟨rfl,e1⟩ | ⟨rfl,f,p,q,e1⟩ <;> rw [e1,e2]
    ·exact ⟨fun op' => eqGuard_at_nilFunc _ _ _ _ _,lg (mF hu).1 (.inr ⟨.inr rfl,.inr rfl⟩)⟩
    ·exact ⟨fun op' => eqGuard_at_func _ _ _ _ _ _ _ _,lg ((mF hu).2.1 f p q) (.inr ⟨.inl ⟨_,_,_,rfl⟩,.inr rfl⟩)⟩
   ·rename_i q hne hx hy
    simp only [Option.some.injEq] at hb; subst hb
    have e1 : a.eval x = .nilFunc := by
     rcases sK h hx with ⟨_,e⟩ | ⟨e,_⟩
     ·exact e
     ·cases e
    rcases sK h hy with ⟨rfl,e2⟩ | ⟨rfl,f,p,q,e2⟩ <;> rw [e1,e2]
    ·exact ⟨fun op' => eqGuard_at_nilFunc _ _ _ _ _,lg (mF hu).1 (.inr ⟨.inr rfl,.inr rfl⟩)⟩
    ·exact ⟨fun op' => eqGuard_at_nilFunc _ _ _ _ _,lg ((mF hu).2.2 f p q) (.inr ⟨.inr rfl,.inl ⟨_,_,_,rfl⟩⟩)⟩
   ·cases hb
  ·cases hb
 split at hf
 ·rename_i b hb
  simp only [Option.some.injEq,Prod.mk.injEq] at hf; obtain ⟨rfl,_⟩ := hf
  have := fun w2 => key w2 b hb
  exact cV h hd (v := .bool b) (fun w2 => cF ho ((this w2).1 _) (this w2).2.1) (cT true rfl)
 ·rename_i b hb
  simp only [Option.some.injEq,Prod.mk.injEq] at hf; obtain ⟨rfl,_⟩ := hf
  have := fun w2 => key w2 b hb
  exact cV h hd (v := .bool (!b)) (fun w2 => cF ho ((this w2).1 _) (this w2).2.2) (cT true rfl)
 ·cases hf
end Go.TL
namespace Go.TL
def tr : Option (St × Prop) → Option (St × List Prop)
 | some (s,_) => some (s,[])
 | none => none
def nt : Option (St × Prop) → Option (St × List Prop)
 | some (s,p) => some (s,[p])
 | none => none
def ia : List Prop → Prop
 | [] => True
 | p :: ps => p ∧ ia ps
def aop (P : Program) (H : Hint) (σ : St) (o : Oper) : Option (St × List Prop) :=
 match o.op with
 | .move x => tr (qN σ o x)
 | .assign x => tr (qN σ o x)
 | .pick c x y => tr (qO σ o c x y)
 | .alloc t => tr (sE P σ o t)
 | .box t x => tr (Aa σ o t x)
 | .build t ps => tr (sF P σ o t ps)
 | .buildSlice t n ps => tr (iN P σ o t n ps)
 | .load t x => match ev σ x with
  | .vptr _ _ _ _ => nt (fL P H σ o t x)
  | _ => tr (fL P H σ o t x)
 | .store t x y => match ev σ x with
  | .vptr _ _ _ _ => nt (fp P H σ o t x y)
  | _ => tr (fp P H σ o t x y)
 | .makeSlice t l c => nt (vx P H σ o t l c)
 | .fieldAddr s x f => tr (jD P σ o s x f)
 | .field t x f => tr (sG P σ o t x f)
 | .nilCheck x => tr (kz σ o x)
 | .indexAddr t x ix => match ev σ x with
  | .ptr _ _ => tr (cA P H σ o t x ix)
  | _ => nt (cA P H σ o t x ix)
 | .index t x ix => match ev σ x with
  | .agg _ => tr (iw P σ o t x ix)
  | _ => nt (iw P σ o t x ix)
 | .extract x n => tr (mD σ o x n)
 | .makeInterface t x => tr (sH P σ o t x)
 | .makeFunc f first caps => tr (vu σ o f first caps)
 | .slice t x lo hi mx => match lo,hi,mx with
  | none,some h,none => match ev σ x with
   | .vec _ => nt (kC P σ o t x h)
   | _ => nt (eI P σ o t x none (some h) none)
  | lo,some h,some m => nt (lF P σ o t x lo h m)
  | lo,hi,none => nt (eI P σ o t x lo hi none)
  | _,_,_ => none
 | .binOp op t x y _ => match dG op with
  | true => match lH H σ o op x y with
   | some r => nt (some r)
   | none => nt (gq σ o op x y)
  | false => match gq σ o op x y with
   | some r => tr (some r)
   | none => tr (pe P σ o op t x y)
 | .unOp op _ x => match op with
  | .not => tr (qY σ o .not x)
  | op => nt (qY σ o op x)
 | .convert s d x => nt (qZ P σ o s d x)
 | .call c => match c.callee,c.args.toList,c.argTypes.toList with
  | .builtin .len,[x],[t] => tr (Ab P σ o x t)
  | .builtin .min,[x,y],_ => tr (hY σ o false x y)
  | .builtin .max,[x,y],_ => tr (hY σ o true x y)
  | .builtin .append,[s,x],[t,t'] => match Nat.beq t t' with
   | true => match Jq (ev σ s) with
    | true => nt (mB P σ o s x t)
    | false => nt (o4 P σ o s x t)
   | false => none
  | _,_,_ => none
 | _ => none
theorem bV {r : Option (St × Prop)} {σ' : St} {ps : List Prop} (h : tr r = some (σ',ps)) : ∃ vc,r = some (σ',vc) := by
 unfold tr at h; split at h
 ·simp only [Option.some.injEq,Prod.mk.injEq] at h; obtain ⟨rfl,_⟩ := h; exact ⟨_,rfl⟩
 ·cases h
theorem dP {r : Option (St × Prop)} {σ' : St} {ps : List Prop} (h : nt r = some (σ',ps)) (hp : ia ps) : ∃ vc,r = some (σ',vc) ∧ vc := by
 unfold nt at h; split at h
 ·simp only [Option.some.injEq,Prod.mk.injEq] at h; obtain ⟨rfl,rfl⟩ := h; exact ⟨_,rfl,hp.1⟩
 ·cases h
theorem Dl {P : Program} {H : Hint} {σ σ' : St} {o : Oper} {t : TypeId} {x : Operand} {vc : Prop} (hn : ∀ k sz i off,ev σ x ≠ .vptr k sz i off) (hf : fL P H σ o t x = some (σ',vc)) : vc := by
 unfold fL at hf
 split at hf
 ·split at hf
  ·split at hf
   ·simp only [Option.some.injEq,Prod.mk.injEq] at hf; rw [← hf.2]; trivial
   ·cases hf
  ·cases hf
 ·split at hf
  ·simp only [Option.some.injEq,Prod.mk.injEq] at hf; rw [← hf.2]; trivial
  ·cases hf
 ·rename_i he; exact absurd he (hn _ _ _ _)
 ·cases hf
theorem AS {P : Program} {H : Hint} {σ σ' : St} {o : Oper} {t : TypeId} {x y : Operand} {vc : Prop} (hn : ∀ k sz i off,ev σ x ≠ .vptr k sz i off) (hf : fp P H σ o t x y = some (σ',vc)) : vc := by
 unfold fp at hf
 split at hf
 ·split at hf
  ·split at hf
   ·split at hf
    ·split at hf
     ·simp only [Option.some.injEq,Prod.mk.injEq] at hf; rw [← hf.2]; trivial
     ·cases hf
    ·cases hf
   ·rename_i he; exact absurd he (hn _ _ _ _)
   ·cases hf
  ·cases hf
 ·cases hf
theorem lI {P : Program} {H : Hint} {σ σ' : St} {o : Oper} {t : TypeId} {x ix : Operand} {vc : Prop} {k off : Nat} (hn : ev σ x = .ptr k off) (hf : cA P H σ o t x ix = some (σ',vc)) : vc := by
 unfold cA at hf
 split at hf
 ·split at hf
  ·rename_i he _; rw [hn] at he; cases he
  ·rename_i he _; rw [hn] at he; cases he
  ·split at hf
   ·split at hf
    ·simp only [Option.some.injEq,Prod.mk.injEq] at hf; rw [← hf.2]; trivial
    ·cases hf
   ·cases hf
  ·cases hf
 ·cases hf
theorem AT {P : Program} {σ σ' : St} {o : Oper} {t : TypeId} {x ix : Operand} {vc : Prop} {xs : List SV} (hn : ev σ x = .agg xs) (hf : iw P σ o t x ix = some (σ',vc)) : vc := by
 unfold iw at hf
 split at hf
 ·split at hf
  ·split at hf
   ·split at hf
    ·simp only [Option.some.injEq,Prod.mk.injEq] at hf; rw [← hf.2]; trivial
    ·cases hf
   ·cases hf
  ·rename_i he _; rw [hn] at he; cases he
  ·cases hf
 ·cases hf
theorem vA {σ σ' : St} {o : Oper} {op : BinOp} {x y : Operand} {vc : Prop} (hn : dG op = false) (hf : gq σ o op x y = some (σ',vc)) : vc := by
 unfold gq at hf
 split at hf
 ·split at hf
  ·split at hf
   ·rename_i hr; cases op <;> simp [arith,dG] at hr hn
   ·split at hf
    ·simp only [Option.some.injEq,Prod.mk.injEq] at hf; rw [← hf.2]; trivial
    ·split at hf <;> first | (simp [dG] at hn; done) | cases hf
  ·cases hf
 ·split at hf
  ·split at hf
   ·simp only [Option.some.injEq,Prod.mk.injEq] at hf; rw [← hf.2]; trivial
   ·split at hf <;> first | (simp [dG] at hn; done) | cases hf
  ·cases hf
theorem kG {α : Type} {xs : Array α} {x : α} (h : xs.toList = [x]) : xs = #[x] := Array.ext' h
theorem kH {α : Type} {xs : Array α} {x y : α} (h : xs.toList = [x,y]) : xs = #[x,y] := Array.ext' h
theorem Hx {C : Ctx} {H : Hint} {σ σ' : St} {a : Act} {w : World} {o : Oper} {ps : List Prop} (hf : aop C.P H σ o = some (σ',ps)) (hp : ia ps) (h : Holds C σ a w) (hd : aV C o) : bs C o σ' a w := by
 obtain ⟨E,h⟩ := h
 unfold aop at hf
 split at hf
 ·rename_i ho; obtain ⟨_,hq⟩ := bV hf; exact (jF (.inl ho) hq h hd).out
 ·rename_i ho; obtain ⟨_,hq⟩ := bV hf; exact (jF (.inr ho) hq h hd).out
 ·rename_i ho; obtain ⟨_,hq⟩ := bV hf; exact (tQ ho hq h hd).out
 ·rename_i ho; obtain ⟨_,hq⟩ := bV hf; exact zR ho hq h hd
 ·rename_i ho; obtain ⟨_,hq⟩ := bV hf; exact Dg ho hq h hd
 ·rename_i ho; obtain ⟨_,hq⟩ := bV hf; exact zS ho hq h hd
 ·rename_i ho; obtain ⟨_,hq⟩ := bV hf; exact qV ho hq h hd
 ·rename_i ho
  split at hf
  ·obtain ⟨_,hq,hv⟩ := dP hf hp; exact qR ho hq hv h hd
  ·rename_i hn; obtain ⟨_,hq⟩ := bV hf; exact qR ho hq (Dl (fun _ _ _ _ he => hn _ _ _ _ he) hq) h hd
 ·rename_i ho
  split at hf
  ·obtain ⟨_,hq,hv⟩ := dP hf hp; exact qB ho hq hv h hd
  ·rename_i hn; obtain ⟨_,hq⟩ := bV hf; exact qB ho hq (AS (fun _ _ _ _ he => hn _ _ _ _ he) hq) h hd
 ·rename_i ho; obtain ⟨_,hq,hv⟩ := dP hf hp; exact AR ho hq hv h hd
 ·rename_i ho; obtain ⟨_,hq⟩ := bV hf; exact (lG ho hq h hd).out
 ·rename_i ho; obtain ⟨_,hq⟩ := bV hf; exact zT ho hq h hd
 ·rename_i ho; obtain ⟨_,hq⟩ := bV hf; exact (mG ho hq h hd).out
 ·rename_i ho
  split at hf
  ·rename_i he; obtain ⟨_,hq⟩ := bV hf; exact (eX ho hq (lI he hq) h hd).out
  ·obtain ⟨_,hq,hv⟩ := dP hf hp; exact (eX ho hq hv h hd).out
 ·rename_i ho
  split at hf
  ·rename_i he; obtain ⟨_,hq⟩ := bV hf; exact qE ho hq (AT he hq) h hd
  ·obtain ⟨_,hq,hv⟩ := dP hf hp; exact qE ho hq hv h hd
 ·rename_i ho; obtain ⟨_,hq⟩ := bV hf; exact (nE ho hq h hd).out
 ·rename_i ho; obtain ⟨_,hq⟩ := bV hf; exact zU ho hq h hd
 ·rename_i ho; obtain ⟨_,hq⟩ := bV hf; exact AM ho hq h hd
 ·rename_i ho
  split at hf
  ·split at hf
   ·obtain ⟨_,hq,hv⟩ := dP hf hp; exact ur ho hq hv h hd
   ·obtain ⟨_,hq,hv⟩ := dP hf hp; exact qD ho hq hv h hd
  ·obtain ⟨_,hq,hv⟩ := dP hf hp; exact xF ho hq hv h hd
  ·obtain ⟨_,hq,hv⟩ := dP hf hp; exact qD ho hq hv h hd
  ·cases hf
 ·rename_i ho
  split at hf
  ·split at hf
   ·rename_i r hr
    obtain ⟨_,hq,hv⟩ := dP hf hp
    rw [hq] at hr
    exact (tR ho hr hv h hd).out
   ·obtain ⟨_,hq,hv⟩ := dP hf hp; exact (kE ho hq hv h hd).out
  ·rename_i hn
   split at hf
   ·rename_i r hr
    obtain ⟨_,hq⟩ := bV hf
    rw [hq] at hr
    exact (kE ho hr (vA hn hr) h hd).out
   ·obtain ⟨_,hq⟩ := bV hf; exact (kF ho hq h hd).out
 ·rename_i op t x ho
  split at hf
  ·obtain ⟨_,hq⟩ := bV hf; exact vv ho hq (by unfold qY at hq; split at hq <;> simp_all) h hd
  ·obtain ⟨_,hq,hv⟩ := dP hf hp; exact vv ho hq hv h hd
 ·rename_i ho; obtain ⟨_,hq,hv⟩ := dP hf hp; exact AO ho hq hv h hd
 ·rename_i c ho
  split at hf
  ·rename_i x t hc ha ht
   have ho' : o.op = .call { callee := .builtin .len,args := #[x],argTypes := #[t] } := by
    rw [ho]; obtain ⟨cc,ca,ct⟩ := c; simp only at hc ha ht; subst hc; rw [kG ha,kG ht]
   obtain ⟨_,hq⟩ := bV hf; exact (vz ho' hq h hd).out
  ·rename_i x y hc ha
   obtain ⟨_,hq⟩ := bV hf
   refine Dj (ts := c.argTypes) (x := x) (y := y) ?_ hq h hd
   rw [ho]; obtain ⟨cc,ca,ct⟩ := c; simp only at hc ha; subst hc; rw [kH ha]
  ·rename_i x y hc ha
   obtain ⟨_,hq⟩ := bV hf
   refine Dk (ts := c.argTypes) (x := x) (y := y) ?_ hq h hd
   rw [ho]; obtain ⟨cc,ca,ct⟩ := c; simp only at hc ha; subst hc; rw [kH ha]
  ·rename_i s x t t' hc ha ht
   split at hf
   ·rename_i htt
    have := Nat.eq_of_beq_eq_true htt; subst this
    have ho' : o.op = .call { callee := .builtin .append,args := #[s,x],argTypes := #[t,t] } := by
     rw [ho]; obtain ⟨cc,ca,ct⟩ := c; simp only at hc ha ht; subst hc; rw [kH ha,kH ht]
    split at hf
    ·obtain ⟨_,hq,hv⟩ := dP hf hp; exact vt ho' hq hv h hd
    ·obtain ⟨_,hq,hv⟩ := dP hf hp; exact xE ho' hq hv h hd
   ·cases hf
  ·cases hf
 ·cases hf
def dH (σ : St) (ops : List Oper) (o : Oper) : Option Bool :=
 match o.guard with
 | none => some true
 | some (j,want) => match ops[j]? with
  | some oj => match oj.dst with
   | some t => match lk σ.ab t with
    | some (.p (.v (.bool b)) _) => some (b == want)
    | some (.tup []) => some false
    | _ => none
   | none => none
  | none => none
def AU (n : Nat) (o : Oper) : Bool :=
 match o.dst with
 | some d => Nat.ble (d + 1) n
 | none => true
def lift (C : Ctx) (Q : Exit → St → Prop) : Exit → Act → World → Prop := fun e a w => ∃ σ,Q e σ ∧ Holds C σ a w
theorem gu {C : Ctx} {σ : St} {a : Act} {w : World} {ops : Array Oper} {o : Oper} {b : Bool} (h : Holds C σ a w) (hd : ∀ o ∈ ops.toList, ∀ d,o.dst = some d → d < C.n)
  (hb : dH σ ops.toList o = some b) : Region.wanted o (yielded ops a.tmps) = b := by
 obtain ⟨E,h⟩ := h
 unfold dH at hb
 unfold Region.wanted
 split at hb
 ·rename_i hg; rw [hg]; simp at hb; rw [hb]
 ·rename_i j want hg
  rw [hg]
  split at hb
  ·rename_i oj hoj
   split at hb
   ·rename_i t ht
    split at hb
    ·rename_i bb fr hl
     have h1 := cf (h.ab t _ hl)
     have hoj' : ops[j]? = some oj := by simpa using hoj
     have hlt : t < a.tmps.size := by rw [h.size]; exact hd oj (List.mem_of_getElem? hoj) t ht
     have h2 : a.tmps[t]? = some (.bool bb) := by
      rw [Array.getD_eq_getD_getElem?] at h1
      rw [Array.getElem?_eq_getElem hlt] at h1 ⊢
      simpa using h1
     simp only [Option.some.injEq] at hb
     simp only [yielded,hoj',Option.bind_some,ht,h2]
     rw [← hb]; cases bb <;> cases want <;> rfl
    ·rename_i hl
     have h1 := h.ab t _ hl
     simp only [VR] at h1
     obtain ⟨vs,h1,hv⟩ := h1
     have : vs = [] := by cases vs with | nil => rfl | cons _ _ => simp [VRs] at hv
     subst this
     have hoj' : ops[j]? = some oj := by simpa using hoj
     have h2 : yielded ops a.tmps j = none := by
      unfold yielded
      simp only [hoj',Option.bind_some,ht]
      split
      ·rename_i b hb2
       rw [Array.getD_eq_getD_getElem?,hb2] at h1; cases h1
      ·rfl
     simp only [Option.some.injEq] at hb
     simp only [h2, ← hb]; rfl
    ·cases hb
   ·cases hb
  ·cases hb
def mkC (P : Program) (n : Nat) (lo : Nat) (w0 : World) (E0 : Env) : Ctx := ⟨P,lo,w0,E0,n⟩
def xH (P : Program) (n : Nat) (ops : Array Oper) (is : List Nat) (σ : St) (Q : Exit → St → Prop) : Prop :=
 ∀ lo w0 E0 a w,Holds (mkC P n lo w0 E0) σ a w → wpOps P ops (lift (mkC P n lo w0 E0) Q) is a w
def AWP (P : Program) (n : Nat) (c : Code) (σ : St) (Q : Exit → St → Prop) : Prop :=
 ∀ lo w0 E0 a w,Holds (mkC P n lo w0 E0) σ a w → c.wp P (lift (mkC P n lo w0 E0) Q) a w
theorem Fj {P : Program} {ops : Array Oper} {Q : Exit → Act → World → Prop} {i : Nat} {rest : List Nat} {a : Act} {w : World} {o : Oper} (ho : ops[i]? = some o)
  (hw : Region.wanted o (yielded ops a.tmps) = true) (h : o.wp P a w (wpOps P ops Q rest) Q) : wpOps P ops Q (i :: rest) a w := by
 simp only [wpOps,ho,hw,if_true]; exact .inl h
theorem Fk {P : Program} {ops : Array Oper} {Q : Exit → Act → World → Prop} {i : Nat} {rest : List Nat} {a : Act} {w : World} {o : Oper} (ho : ops[i]? = some o)
  (hw : Region.wanted o (yielded ops a.tmps) = false) (h : wpOps P ops Q rest (a.put o.dst undef) w) : wpOps P ops Q (i :: rest) a w := by
 simp only [wpOps,ho,hw,Bool.false_eq_true,if_false]; exact h
theorem D1 {C : Ctx} {σ : St} {a : Act} {w : World} {dst : Option Nat} (h : Holds C σ a w) (hd : ∀ d,dst = some d → d < C.n) : Holds C (σ.put dst (.tup [])) (a.put dst undef) w := by
 obtain ⟨E,h⟩ := h
 exact ⟨E,h.upd (Fr.refl w E) (fun _ _ h => h) (fun _ _ h => h) h.tab dst hd fun _ _ => by simp only [VR]; exact ⟨[],rfl,c6⟩⟩
def gR (n : Nat) : List Oper → Bool
 | [] => true
 | o :: os => match AU n o with | true => gR n os | false => false
theorem MM {n : Nat} {o : Oper} (h : AU n o = true) : ∀ d,o.dst = some d → d < n := by
 intro d hd
 unfold AU at h
 rw [hd] at h
 exact Nat.le_of_ble_eq_true h
theorem dL {n : Nat} : ∀ {os : List Oper},gR n os = true → ∀ o ∈ os, ∀ d,o.dst = some d → d < n
 | [],_,o,ho,_,_ => by simp at ho
 | x :: os,h,o,ho,d,hd => by
  simp only [gR] at h
  cases hx : AU n x with
  | false => simp [hx] at h
  | true =>
   simp only [hx] at h
   rcases List.mem_cons.1 ho with rfl | ho
   ·exact MM hx d hd
   ·exact dL h o ho d hd
theorem Js {P : Program} {n : Nat} {ops : Array Oper} {σ : St} {Q : Exit → St → Prop} (h : Q .normal σ) : xH P n ops [] σ Q := by
 intro lo w0 E0 a w hh
 exact ⟨σ,h,hh⟩
def Imp (P : Program) (n : Nat) (σ σ' : St) : Prop := ∀ lo w0 E0 a w,Holds (mkC P n lo w0 E0) σ a w → Holds (mkC P n lo w0 E0) σ' a w
theorem xH.imp {P : Program} {n : Nat} {ops : Array Oper} {is : List Nat} {σ σ' : St} {Q : Exit → St → Prop} (h : Imp P n σ σ') (k : xH P n ops is σ' Q) : xH P n ops is σ Q :=
 fun lo w0 E0 a w hh => k lo w0 E0 a w (h lo w0 E0 a w hh)
theorem AWP.imp {P : Program} {n : Nat} {c : Code} {σ σ' : St} {Q : Exit → St → Prop} (h : Imp P n σ σ') (k : AWP P n c σ' Q) : AWP P n c σ Q :=
 fun lo w0 E0 a w hh => k lo w0 E0 a w (h lo w0 E0 a w hh)
theorem Fl {P : Program} {n id : Nat} {ops : Array Oper} {σ : St} {Q : Exit → St → Prop} (h : xH P n ops (List.range ops.size) σ Q) : AWP P n (.region id ops false) σ Q :=
 fun lo w0 E0 a w hh => wp_region (h lo w0 E0 a w hh)
theorem MN {P : Program} {n : Nat} {x y : Code} {σ : St} {Q : Exit → St → Prop} (h : AWP P n x σ fun e s => match e with | .normal => AWP P n y s Q | e => Q e s) : AWP P n (.seq x y) σ Q := by
 intro lo w0 E0 a w hh
 refine wp_seq (wp_mono (h lo w0 E0 a w hh) ?_)
 rintro e a' w' ⟨s,hq,hs⟩
 cases e <;> first | exact ⟨s,hq,hs⟩ | exact hq lo w0 E0 a' w' hs
theorem Jt {P : Program} {n : Nat} {σ : St} {Q : Exit → St → Prop} (h : Q .normal σ) : AWP P n .skip σ Q := fun _ _ _ _ _ hh => wp_skip ⟨σ,h,hh⟩
theorem MO {P : Program} {n : Nat} {σ : St} {Q : Exit → St → Prop} (h : Q .ret σ) : AWP P n .ret σ Q := fun _ _ _ _ _ hh => wp_ret ⟨σ,h,hh⟩
theorem Ju {P : Program} {n id : Nat} {σ : St} {Q : Exit → St → Prop} (h : Q (.exit id) σ) : AWP P n (.exit id) σ Q := fun _ _ _ _ _ hh => wp_exit ⟨σ,h,hh⟩
theorem Hy {P : Program} {n id : Nat} {c : Code} {σ : St} {Q : Exit → St → Prop} (h : AWP P n c σ fun e s => match e with | .exit id' => (match Nat.beq id' id with | true => Q .normal s | false => Q (.exit id') s) | e => Q e s) : AWP P n (.block id c) σ Q := by
 intro lo w0 E0 a w hh
 refine wp_block (wp_mono (h lo w0 E0 a w hh) ?_)
 rintro e a' w' ⟨s,hq,hs⟩
 cases e with
 | exit id' =>
  simp only [Exit.inBlock]
  simp only at hq
  cases hb : Nat.beq id' id with
  | true => rw [if_pos (Nat.eq_of_beq_eq_true hb)]; simp only [hb] at hq; exact ⟨s,hq,hs⟩
  | false => rw [if_neg (beq_false hb)]; simp only [hb] at hq; exact ⟨s,hq,hs⟩
 | _ => exact ⟨s,hq,hs⟩
def q9 (σ : St) (c : Operand) : Option Bool :=
 match ev σ c with
 | .p (.v (.bool b)) _ => some b
 | _ => none
theorem jU {C : Ctx} {σ : St} {a : Act} {w : World} {c : Operand} {b : Bool} (h : Holds C σ a w) (hb : q9 σ c = some b) : a.eval c = .bool b := by
 obtain ⟨E,h⟩ := h
 unfold q9 at hb
 split at hb
 ·rename_i b' fr he
  simp only [Option.some.injEq] at hb; subst hb
  exact fC h he
 ·cases hb
theorem Jv {P : Program} {n : Nat} {c : Operand} {x y : Code} {σ : St} {Q : Exit → St → Prop} (b : Bool) (hb : q9 σ c = some b) (h1 : b = true → AWP P n x σ Q) (h2 : b = false → AWP P n y σ Q) : AWP P n (.cond c x y) σ Q :=
 fun lo w0 E0 a w hh => wp_cond_split (jU hh hb) (fun e => h1 e lo w0 E0 a w hh) (fun e => h2 e lo w0 E0 a w hh)
theorem AV {P : Program} {n : Nat} {c : Code} {σ : St} {Q : Exit → St → Prop} {α : Type} (I : α → St) (K : α → Prop) (μ : α → Nat) (x0 : α) (h0 : Imp P n σ (I x0)) (hK : K x0)
  (h : ∀ x,K x → AWP P n c (I x) fun e s => match e with | .normal => ∃ x',K x' ∧ μ x' < μ x ∧ Imp P n s (I x') | e => Q e s) : AWP P n (.loop c) σ Q := by
 intro lo w0 E0 a w hh
 intro b k cs
 have key : ∀ m a w x,K x → μ x = m → Holds (mkC P n lo w0 E0) (I x) a w →
   ∃ e a' w',lift (mkC P n lo w0 E0) Q e a' w' ∧ Arrives P (lone (b.at a (.code c :: .inLoop c :: k)) cs w) b k cs e a' w' := by
  intro m
  induction m using Nat.strongRecOn with
  | _ m ih =>
   intro a w x hx hm hs
   obtain ⟨e,a₁,w₁,⟨s,hq,hs₁⟩,harr⟩ := h x hx lo w0 E0 a w hs b (.inLoop c :: k) cs
   cases e with
   | normal =>
    obtain ⟨x',hx',hlt,himp⟩ := hq
    obtain ⟨e₂,a₂,w₂,hq₂,harr₂⟩ := ih (μ x') (hm ▸ hlt) a₁ w₁ x' hx' rfl (himp lo w0 E0 a₁ w₁ hs₁)
    exact ⟨e₂,a₂,w₂,hq₂,.of_steps (Steps.trans harr (.one step_inLoop)) harr₂⟩
   | exit id => exact ⟨_,a₁,w₁,⟨s,hq,hs₁⟩,.pass (x := .inLoop c) rfl (fun _ _ => .inl (by simp)) harr⟩
   | goto l => exact ⟨_,a₁,w₁,⟨s,hq,hs₁⟩,.pass (x := .inLoop c) rfl (fun _ _ => .inl (by simp)) harr⟩
   | ret => exact ⟨_,a₁,w₁,⟨s,hq,hs₁⟩,.pass (x := .inLoop c) rfl (fun _ _ => .inl (by simp)) harr⟩
   | panic ch => exact ⟨_,a₁,w₁,⟨s,hq,hs₁⟩,.pass (x := .inLoop c) rfl (fun _ _ => .inl (by simp)) harr⟩
   | outgrown => exact ⟨_,a₁,w₁,⟨s,hq,hs₁⟩,.pass (x := .inLoop c) rfl (fun _ _ => .inl (by simp)) harr⟩
 obtain ⟨e,a',w',hq,harr⟩ := key _ a w x0 hK rfl (h0 lo w0 E0 a w hh)
 exact ⟨e,a',w',hq,.of_steps (.one step_loop) harr⟩
def FnS (P : Program) (f : FuncId) (args : List SV) (T : Tab) (R : SV → Tab → Prop) : Prop :=
 ∀ lo w E vals,oU P lo w E → a8 w E lo T → VRs w E lo args vals →
  Calls P f vals.toArray w fun e w' => ∃ r v T' E',e = .returned v ∧ R r T' ∧ Fr w E w' E' ∧ a8 w' E' lo T' ∧ VR w' E' lo r v ∧ ∀ k x,E.val k = some x → E'.val k = some x ∨ E'.val k = none
def c8 : Nat → List SV → List (Nat × SV)
 | _,[] => []
 | k,x :: xs => (k,x) :: c8 (k + 1) xs
theorem iO : ∀ (xs : List SV) (k t : Nat),lk (c8 k xs) t = if k ≤ t then xs[t - k]? else none
 | [],k,t => by simp [c8,lk]
 | x :: xs,k,t => by
  simp only [c8,lk]
  cases hb : Nat.beq k t with
  | true => have := Nat.eq_of_beq_eq_true hb; subst this; simp
  | false =>
   have hne := beq_false hb
   simp only
   rw [iO xs (k + 1) t]
   by_cases hle : k ≤ t
   ·rw [if_pos (by omega),if_pos hle,show t - k = (t - (k + 1)) + 1 by omega]; rfl
   ·rw [if_neg (by omega),if_neg hle]
def xI (n : Nat) : Tab → Bool
 | [] => true
 | (k,_) :: r => match Nat.ble n k with | true => xI n r | false => false
theorem xJ {n : Nat} : ∀ {T : Tab},xI n T = true → ∀ k,lk T k ≠ none → n ≤ k
 | [],_,k,h => by simp [lk] at h
 | (j,x) :: r,hb,k,h => by
  simp only [xI] at hb
  cases hq : Nat.ble n j with
  | false => simp [hq] at hb
  | true =>
   simp only [hq] at hb
   simp only [lk] at h
   cases hjk : Nat.beq j k with
   | true => have := Nat.eq_of_beq_eq_true hjk; subst this; exact Nat.le_of_ble_eq_true hq
   | false => simp only [hjk] at h; exact xJ hb k h
def ph (P : Program) (σ : St) : ResultVar → Option SV
 | .tmp t => some (σ.get t)
 | .cell x t => match σ.get x with
  | .ptr k off => match lk σ.tab k with
   | some (.box _ cells) => fo P t off cells
   | _ => none
  | _ => none
def iy (P : Program) (σ : St) : List ResultVar → Option (List SV)
 | [] => some []
 | r :: rs => match ph P σ r,iy P σ rs with
  | some x,some xs => some (x :: xs)
  | _,_ => none
def fg (tmps : Array Value) : ResultVar → Sem Value
 | .tmp t => pure (tmps.getD t undef)
 | .cell a t => do loadVar t (← asAddr (tmps.getD a undef))
theorem Hz {C : Ctx} {E : Env} {σ : St} {a : Act} {w : World} {r : ResultVar} {sv : SV} (h : au C E σ a w) (hr : ph C.P σ r = some sv) : ∃ v,(fg a.tmps r).run C.P w = .ok v w ∧ VR w E C.lo sv v := by
 cases r with
 | tmp t => simp only [ph,Option.some.injEq] at hr; subst hr; exact ⟨_,rfl,a7 h (.tmp t)⟩
 | cell x t =>
  simp only [ph] at hr
  split at hr
  ·rename_i k off he
   split at hr
   ·rename_i bt cells hl
    have hev := a7 h (.tmp x)
    simp only [ev,he,VR] at hev
    obtain ⟨b,hb,hx⟩ := hev
    obtain ⟨b',vs,h1,h2,h3,h4⟩ := h.tab.obj k _ hl
    rw [hb] at h1; simp at h1; subst h1
    obtain ⟨v,hr',hv⟩ := oY (P := C.P) (b := b) (o := 0) h4 (fun j v hj => by rw [dF h3]; simpa using hj) hr
    refine ⟨v,?_,hv⟩
    simp only [Nat.zero_add] at hr'
    simp only [Act.eval] at hx
    simp only [fg,Sem.run_bind,hx,asAddr,Sem.run_pure,Result.andThen_ok]
    simpa [Instr.loadAt,Instr.sureAddr] using hr'
   ·cases hr
  ·cases hr
theorem tS {C : Ctx} {E : Env} {σ : St} {a : Act} {w : World} (h : au C E σ a w) : ∀ (rs : List ResultVar) (xs : List SV),iy C.P σ rs = some xs → ∃ vs : List Value,(rs.mapM (fg a.tmps)).run C.P w = .ok vs w ∧ VRs w E C.lo xs vs
 | [],xs,hr => by simp only [iy,Option.some.injEq] at hr; subst hr; exact ⟨[],rfl,c6⟩
 | r :: rs,xs,hr => by
  simp only [iy] at hr
  split at hr
  ·rename_i x ys h1 h2
   simp only [Option.some.injEq] at hr; subst hr
   obtain ⟨v,hv,hvr⟩ := Hz h h1
   obtain ⟨vs,hvs,hvrs⟩ := tS h rs ys h2
   exact ⟨v :: vs,by simp [List.mapM_cons,hv,hvs],bC hvr hvrs⟩
  ·cases hr
end Go.TL
