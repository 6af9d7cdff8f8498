/- What one operation makes of the state: lengths, slices, places in lists, numbers. -/
import Derived.Test.YtajkchpnbnbmfaaGreatDoorW02
import Derived.Laws.MakeOwn
namespace Go.TL
theorem dK {a : Act} {o : Oper} {b : Builtin} {args : Array Operand} {ts : Array TypeId} (ho : o.op = .call { callee := .builtin b,args := args,argTypes := ts }) :
  execOp a.eval o = builtin b ts o.type (args.map fun | .const _ => true | _ => false) (args.map a.eval) := by
 unfold execOp
 simp only [ho,resolve,pure_bind,invoke]
 rfl
def lenOf (P : Program) (T : Tab) (t : TypeId) : SV → Option Nat
 | .vec k => match lk T k,P.underlying t with
  | some (.vec _ _ rows _),some (.slice _) => some rows.length
  | _,_ => none
 | .p (.sl rows) _ => match P.underlying t with
  | some (.slice _) => some rows.length
  | _ => none
 | .pc rows _ => match P.underlying t with
  | some (.slice _) => some rows.length
  | _ => none
 | .p (.v (.slice none 0 0)) _ => match P.underlying t with
  | some (.slice _) => some 0
  | _ => none
 | .p (.v (.string s)) _ => match P.underlying t with
  | some .string => some s.size
  | _ => none
 | _ => none
def Ab (P : Program) (σ : St) (o : Oper) (x : Operand) (t : TypeId) : Option (St × Prop) :=
 match lenOf P σ.tab t (ev σ x) with
 | some n => some (σ.put o.dst (.p (.v (.int .i64 (n : Int))) true),True)
 | none => none
theorem lE {w : World} {bad : Nat → Prop} {lo : Nat} {rows : List (List PV)} {v : Value} (h : Rep w bad lo (.sl rows) v) : ∃ p c,v = .slice p rows.length c := by
 cases h with
 | nil b c => exact ⟨b,c,rfl⟩
 | sl _ b off cap => exact ⟨_,cap,rfl⟩
def intOf : SV → Option Int
 | .p (.v (.int _ n)) _ => some n
 | _ => none
theorem jg {C : Ctx} {E : Env} {σ : St} {a : Act} {w : World} {x : Operand} {n : Int} (h : au C E σ a w) (hn : intOf (ev σ x) = some n) : ∃ k,a.eval x = .int k n := by
 unfold intOf at hn
 split at hn
 ·rename_i k m fr he
  simp only [Option.some.injEq] at hn; subst hn
  exact ⟨k,fC h he⟩
 ·cases hn
def gD (σ : St) : Option Operand → Option (Option Int)
 | none => some none
 | some x => match intOf (ev σ x) with
  | some n => some (some n)
  | none => none
theorem jT {P : Program} {w : World} {v : Value} {k : IntKind} {n : Int} {y : Nat} {code : BoundsCode} (hv : v = .int k n) (h0 : 0 ≤ n) (h1 : n ≤ y) : (Instr.sliceBound v y code).run P w = .ok n.toNat w := by
 subst hv
 simp [Instr.sliceBound,asIntOf,h0,h1]
def bg (l : Option Int) : Nat := match l with | some n => n.toNat | none => 0
def cg (len : Nat) (h : Option Int) : Nat := match h with | some n => n.toNat | none => len
def fH (len : Nat) (l h : Option Int) : Prop :=
 (match l with | some n => 0 ≤ n | none => True) ∧ (match h with | some n => 0 ≤ n ∧ n ≤ (len : Int) | none => True) ∧
 (match l,h with | some a,some b => a ≤ b | some a,none => a ≤ (len : Int) | none,_ => True)
theorem kB {P : Program} {w : World} {len cap : Nat} (isSlice : Bool) {lo hi : Option Value} {l h : Option Int} (hlo : ∀ n,l = some n → ∃ k,lo = some (.int k n)) (hlo0 : l = none → lo = none)
  (hhi : ∀ n,h = some n → ∃ k,hi = some (.int k n)) (hhi0 : h = none → hi = none) (hok : fH len l h) (hcap : len ≤ cap) :
  (Instr.sliceBounds isSlice len cap lo hi none).run P w = .ok (bg l,cg len h,cap) w ∧ bg l ≤ cg len h ∧ cg len h ≤ len := by
 obtain ⟨h1,h2,h3⟩ := hok
 have hle : cg len h ≤ len := by
  cases h with
  | none => exact Nat.le_refl _
  | some n => have := h2.2; have := h2.1; simp only [cg]; omega
 have hle2 : bg l ≤ cg len h := by
  cases l with
  | none => exact Nat.zero_le _
  | some m =>
   cases h with
   | none => simp only [bg,cg]; have := h1; simp only at h3; omega
   | some n => simp only [bg,cg]; simp only at h3; omega
 refine ⟨?_,hle2,hle⟩
 have e2 : (match lo with | some v => Instr.sliceBound v (cg len h) .sliceB | none => (pure 0 : Sem Nat)).run P w = .ok (bg l) w := by
  cases l with
  | none => rw [hlo0 rfl]; rfl
  | some m =>
   obtain ⟨k,hk⟩ := hlo m rfl
   rw [hk]
   refine jT (k := k) rfl h1 ?_
   simp only [bg] at hle2
   have := h1
   simp only at this
   omega
 have e1' : (match hi with | some v => Instr.sliceBound v cap (if isSlice then .sliceAcap else .sliceAlen) | none => (pure len : Sem Nat)).run P w = .ok (cg len h) w := by
  cases h with
  | none => rw [hhi0 rfl]; rfl
  | some n =>
   obtain ⟨k,hk⟩ := hhi n rfl
   rw [hk]
   exact jT (k := k) rfl h2.1 (by have := h2.2; omega)
 have key : ∀ (A B : Sem Nat),A.run P w = .ok (cg len h) w → B.run P w = .ok (bg l) w →
   (do let h ← A; let l ← B; pure (l,h,cap) : Sem (Nat × Nat × Nat)).run P w = .ok (bg l,cg len h,cap) w := by
  intro A B hA hB
  rw [Sem.run_bind,hA,Result.andThen_ok,Sem.run_bind,hB]
  rfl
 cases hi with
 | none =>
  have q1 : len = cg len h := by injection e1'
  cases lo with
  | none =>
   have q2 : 0 = bg l := by injection e2
   rw [← q1, ← q2]
   rfl
  | some v =>
   have := key (pure len) (Instr.sliceBound v (cg len h) .sliceB) e1' e2
   rw [← q1] at this ⊢
   exact this
 | some u =>
  cases lo with
  | none =>
   have q2 : 0 = bg l := by injection e2
   have := key (Instr.sliceBound u cap (if isSlice then .sliceAcap else .sliceAlen)) (pure 0) e1' e2
   exact this
  | some v =>
   have e3 : (do let h ← (Instr.sliceBound u cap (if isSlice then .sliceAcap else .sliceAlen)); let l ← Instr.sliceBound v h .sliceB; pure (l,h,cap) : Sem (Nat × Nat × Nat)).run P w = .ok (bg l,cg len h,cap) w := by
    rw [Sem.run_bind,e1',Result.andThen_ok,Sem.run_bind,e2]
    rfl
   exact e3
def eI (P : Program) (σ : St) (o : Oper) (t : TypeId) (x : Operand) (lo hi mx : Option Operand) : Option (St × Prop) :=
 match gD σ lo,gD σ hi,mx with
 | some l,some h,none => match ev σ x,P.underlying t with
  | .p (.sl rows) fr,some (.slice e) => match P.info? e with
   | some i => some (σ.put o.dst (.p (.sl ((rows.take (cg rows.length h)).drop (bg l))) fr),fH rows.length l h ∧ ∀ row ∈ rows,row.length = i.size)
   | none => none
  | .pc rows fr,some (.slice e) => match P.info? e with
   | some i => some (σ.put o.dst (.p (.sl ((rows.take (cg rows.length h)).drop (bg l))) fr),fH rows.length l h ∧ ∀ row ∈ rows,row.length = i.size)
   | none => none
  | .p (.v (.slice none 0 0)) _,some (.slice e) => match P.info? e with
   | some _ => some (σ.put o.dst (.p (.v (.slice none 0 0)) true),fH 0 l h)
   | none => none
  | .p (.v (.string s)) _,some .string => some (σ.put o.dst (.p (.v (.string (s.extract (bg l) (cg s.size h)))) true),fH s.size l h)
  | _,_ => none
 | _,_,_ => none
theorem yQ {w : World} {bad : Nat → Prop} {lo : Nat} {rows : List (List PV)} {p : Option Addr} {n c : Nat} (h : Rep w bad lo (.sl rows) (.slice p n c)) (l hh sz : Nat) (h1 : l ≤ hh) (h2 : hh ≤ rows.length) (m : Nat) (hmm : hh ≤ m)
  (hsz : ∀ (i : Nat) (row : List PV),rows[i]? = some row → row.length = sz) (hnl : m ≠ l ∨ l = hh) :
  Rep w bad lo (.sl ((rows.take hh).drop l)) (.slice (if m = l then p else p.map (·.add (l * sz))) (hh - l) (m - l)) := by
 have hlen : ((rows.take hh).drop l).length = hh - l := by simp; omega
 by_cases he : l = hh
 ·subst he
  have : (rows.take l).drop l = [] := List.eq_nil_of_length_eq_zero (by omega)
  rw [this,Nat.sub_self]
  exact .nil _ _
 ·have hm : m ≠ l := hnl.resolve_right he
  rw [if_neg hm]
  cases h with
  | nil b c => simp at h2; omega
  | sl _ b off cap cs t fz sz' f hcap hb hbad hlo hfz hlen' hc hr =>
   have hs : sz' = sz := by
    have hne : 0 < rows.length := by omega
    have h0 : rows[0]? = some rows[0] := by simp [hne]
    rw [← hlen' 0 _ h0,hsz 0 _ h0]
   subst hs
   have := Rep.sl (w := w) (bad := bad) (lo := lo) ((rows.take hh).drop l) b (off + l * sz') (m - l) cs t fz sz' (fun i j => f (l + i) j) (by rw [hlen]; omega) hb hbad hlo hfz ?_ ?_ ?_
   ·rw [hlen] at this
    simpa [Addr.add_lit] using this
   ·intro i row hi
    rw [List.getElem?_drop,List.getElem?_take] at hi
    split at hi
    ·exact hlen' _ row hi
    ·cases hi
   ·intro i row j x hi hj
    rw [List.getElem?_drop,List.getElem?_take] at hi
    split at hi
    ·have := hc _ row j x hi hj
     rw [show off + l * sz' + i * sz' + j = off + (l + i) * sz' + j by rw [Nat.add_mul]; omega]
     exact this
    ·cases hi
   ·intro i row j x hi hj
    rw [List.getElem?_drop,List.getElem?_take] at hi
    split at hi
    ·exact hr _ row j x hi hj
    ·cases hi
theorem cG {C : Ctx} {E : Env} {σ : St} {a : Act} {w : World} {x : Option Operand} {l : Option Int} (h : au C E σ a w) (hl : gD σ x = some l) :
  (∀ n,l = some n → ∃ k,x.map a.eval = some (.int k n)) ∧ (l = none → x.map a.eval = none) := by
 cases x with
 | none => simp only [gD,Option.some.injEq] at hl; subst hl; exact ⟨fun _ h => (by cases h),fun _ => rfl⟩
 | some y =>
  simp only [gD] at hl
  split at hl
  ·rename_i n hn
   simp only [Option.some.injEq] at hl; subst hl
   obtain ⟨k,hk⟩ := jg h hn
   exact ⟨fun m hm => ⟨k,by simp at hm; subst hm; simp [hk]⟩,fun h => by cases h⟩
  ·cases hl
theorem qC {w : World} {bad : Nat → Prop} {lo : Nat} {rows : List (List PV)} {p : Option Addr} {n c : Nat} (h : Rep w bad lo (.sl rows) (.slice p n c)) : n ≤ c := by
 cases h with
 | nil => exact Nat.zero_le _
 | sl => assumption
theorem qW {C : Ctx} {E : Env} {σ : St} {a : Act} {w : World} {o : Oper} {t e : TypeId} {i : TypeInfo} {x : Operand} {lo hi : Option Operand} {l hh : Option Int} {rows : List (List PV)} {fr : Bool}
  (ho : o.op = .slice t x lo hi none) (h : au C E σ a w) (hd : aV C o) (hl : gD σ lo = some l) (hh' : gD σ hi = some hh) (hu : C.P.underlying t = some (.slice e)) (hi' : C.P.info? e = some i)
  (hr : Rep w E.bad (flo C.lo fr) (.sl rows) (a.eval x)) (hok : fH rows.length l hh) (hsz : ∀ row ∈ rows,row.length = i.size) :
  bs C o (σ.put o.dst (.p (.sl ((rows.take (cg rows.length hh)).drop (bg l))) fr)) a w := by
 obtain ⟨p,c,hv⟩ := lE hr
 rw [hv] at hr
 have hcap := qC hr
 have hb := kB (P := C.P) (w := w) true (cG h hl).1 (cG h hl).2 (cG h hh').1 (cG h hh').2 hok hcap
 obtain ⟨hb1,hb2,hb3⟩ := hb
 have hrs := yQ hr (bg l) (cg rows.length hh) i.size hb2 hb3 c (by omega) (fun n row hn => hsz row (List.mem_of_getElem? hn)) (by
  by_cases hc : c = bg l
  ·exact .inr (by omega)
  ·exact .inl hc)
 refine bn h hd (v := .slice (if c = bg l then p else p.map (·.add (bg l * i.size))) (cg rows.length hh - bg l) (c - bg l)) ?_ (by simpa only [VR] using hrs)
 unfold execOp
 simp only [ho,hv,Instr.sliceAt,Sem.run_bind,run_underlying hu,Result.andThen_ok,Instr.slice,Option.map_none,hb1,sizeOf,typeInfo,run_program,hi',Sem.run_pure]
end Go.TL
namespace Go.TL
theorem qD {C : Ctx} {E : Env} {σ σ' : St} {a : Act} {w : World} {o : Oper} {t : TypeId} {x : Operand} {lo hi mx : Option Operand} {vc : Prop} (ho : o.op = .slice t x lo hi mx)
  (hf : eI C.P σ o t x lo hi mx = some (σ',vc)) (hvc : vc) (h : au C E σ a w) (hd : aV C o) : bs C o σ' a w := by
 have hev := a7 h x
 unfold eI at hf
 split at hf
 ·rename_i l hh hl hh'
  split at hf
  ·rename_i rows fr e he hu
   split at hf
   ·rename_i i hi'
    simp only [Option.some.injEq,Prod.mk.injEq] at hf; obtain ⟨rfl,rfl⟩ := hf
    rw [he] at hev; simp only [VR] at hev
    exact qW ho h hd hl hh' hu hi' hev hvc.1 hvc.2
   ·cases hf
  ·rename_i rows fr e he hu
   split at hf
   ·rename_i i hi'
    simp only [Option.some.injEq,Prod.mk.injEq] at hf; obtain ⟨rfl,rfl⟩ := hf
    rw [he] at hev; simp only [VR] at hev
    obtain ⟨_,_,hev⟩ := hev
    exact qW ho h hd hl hh' hu hi' hev hvc.1 hvc.2
   ·cases hf
  ·rename_i fr e he hu
   split at hf
   ·rename_i i hi'
    simp only [Option.some.injEq,Prod.mk.injEq] at hf; obtain ⟨rfl,rfl⟩ := hf
    have hv := fC h he
    have hb := kB (P := C.P) (w := w) (cap := 0) true (cG h hl).1 (cG h hl).2 (cG h hh').1 (cG h hh').2 hvc (Nat.le_refl _)
    obtain ⟨hb1,hb2,hb3⟩ := hb
    refine bn h hd (v := .slice none 0 0) ?_ (cT true rfl)
    unfold execOp
    have e1 : cg 0 hh - bg l = 0 := by omega
    have e2 : 0 - bg l = 0 := by omega
    simp only [ho,hv,Instr.sliceAt,Sem.run_bind,run_underlying hu,Result.andThen_ok,Instr.slice,Option.map_none,hb1,sizeOf,typeInfo,run_program,hi',Sem.run_pure,e1,e2,ite_self]
   ·cases hf
  ·rename_i s fr he hu
   simp only [Option.some.injEq,Prod.mk.injEq] at hf; obtain ⟨rfl,rfl⟩ := hf
   have hv := fC h he
   have hb := kB (P := C.P) (w := w) (cap := s.size) false (cG h hl).1 (cG h hl).2 (cG h hh').1 (cG h hh').2 hvc (Nat.le_refl _)
   obtain ⟨hb1,hb2,hb3⟩ := hb
   refine bn h hd (v := .string (s.extract (bg l) (cg s.size hh))) ?_ (cT true rfl)
   unfold execOp
   simp only [ho,hv,Instr.sliceAt,Sem.run_bind,run_underlying hu,Result.andThen_ok,Instr.slice,Option.map_none,Option.isSome_none,Bool.false_eq_true,if_false,Sem.run_pure,hb1]
  ·cases hf
 ·cases hf
def kC (P : Program) (σ : St) (o : Oper) (t : TypeId) (x hi : Operand) : Option (St × Prop) :=
 match ev σ x,intOf (ev σ hi),o.dst,P.underlying t with
 | .vec k,some n,some d,some (.slice e) => match lk σ.tab k,P.info? e,lk (rm σ.tab k) d with
  | some (.vec t' sz rows fr),some _i,none => some (σ.re k d (.vec t' sz (rows.take n.toNat) fr),0 ≤ n ∧ n ≤ (rows.length : Int))
  | _,_,_ => none
 | _,_,_,_ => none
theorem ur {C : Ctx} {E : Env} {σ σ' : St} {a : Act} {w : World} {o : Oper} {t : TypeId} {x hi : Operand} {vc : Prop} (ho : o.op = .slice t x none (some hi) none)
  (hf : kC C.P σ o t x hi = some (σ',vc)) (hvc : vc) (h : au C E σ a w) (hd : aV C o) : bs C o σ' a w := by
 have hev := a7 h x
 unfold kC at hf
 split at hf
 ·rename_i k n d e he hn hdst hu
  split at hf
  ·rename_i t' sz rows fr i hl hi' hfresh
   simp only [Option.some.injEq,Prod.mk.injEq] at hf; obtain ⟨rfl,rfl⟩ := hf
   rw [he] at hev; simp only [VR] at hev
   obtain ⟨v,xs,h1,h2,h3,h4,h5⟩ := h.tab.obj _ _ hl
   rw [hev.1] at h1; cases h1
   obtain ⟨kk,hkk⟩ := jg h hn
   have hnl : n.toNat ≤ rows.length := by have := hvc.1; have := hvc.2; omega
   have htl : (rows.take n.toNat).length = n.toNat := by simp; omega
   have hshape : ∃ p c,a.eval x = .slice p rows.length c ∧ rows.length ≤ c := by
    rcases h3.2 with ⟨e,hz⟩ | ⟨g,cap,cur,e,_,_,hle,_⟩
    ·exact ⟨none,0,by rw [e,hz],by rw [hz]; exact Nat.le_refl _⟩
    ·exact ⟨_,cap,e,hle⟩
   obtain ⟨p,c,hv,hle⟩ := hshape
   have hb := kB (P := C.P) (w := w) (len := rows.length) (cap := c) true (lo := none) (l := none) (hi := some (.int kk n)) (h := some n) (fun _ h => by cases h) (fun _ => rfl) (fun m hm => ⟨kk,by simp at hm; subst hm; rfl⟩) (fun h => by cases h)
    ⟨trivial,hvc,trivial⟩ hle
   obtain ⟨hb1,hb2,hb3⟩ := hb
   have hp : (if c = 0 then p else p.map (·.add (0 * i.size))) = p := by cases p <;> simp [Addr.add]
   refine AK h hd hdst hfresh (x := .slice p n.toNat c) (w' := w) ?_ rfl rfl rfl (Nat.le_refl _) (fun _ _ _ => rfl) ?_ ⟨_,_,_,rfl⟩ ?_
   ·unfold execOp
    simp only [bg,cg] at hb1
    simp only [ho,hv,hkk,Instr.sliceAt,Sem.run_bind,run_underlying hu,Result.andThen_ok,Instr.slice,Option.map_none,Option.map_some,hb1,sizeOf,typeInfo,run_program,hi',Sem.run_pure,Nat.sub_zero,hp]
   ·intro g hg
    have : (a.eval x).ownBlock = some g := by rw [hv]; cases p with
     | none => simp [Value.ownBlock] at hg
     | some p => simpa [Value.ownBlock] using hg
    have := h4 g this
    exact ⟨.inl this,(h.tab.own g k this).1⟩
   ·intro hkeep
    refine ⟨.slice p n.toNat c,xs.take (n.toNat * sz),by simp [Env.re],h2,⟨?_,?_⟩,?_,?_⟩
    ·rw [htl,List.length_take,h3.1]; exact Nat.min_eq_left (Nat.mul_le_mul_right _ hnl)
    ·rw [htl]
     rcases h3.2 with ⟨e,hz⟩ | ⟨g,cap,cur,e,hb,hg,hle',hcm,hcs,htk⟩
     ·rw [hv] at e; simp at e
      obtain ⟨rfl,_,rfl⟩ := e
      have : n.toNat = 0 := by omega
      exact .inl ⟨by rw [this],this⟩
     ·rw [hv] at e; simp at e
      obtain ⟨rfl,rfl⟩ := e
      exact .inr ⟨g,c,cur,rfl,hb,hg,by omega,hcm,hcs,by rw [← htk,List.take_take,Nat.min_eq_left (Nat.mul_le_mul_right _ hnl)]⟩
    ·intro g hg; simp [Env.re,hg]
    ·obtain ⟨f,r1,r2,r3⟩ := h5
     have hget : ∀ (i : Nat) (row : List PV),(rows.take n.toNat)[i]? = some row → rows[i]? = some row ∧ i < n.toNat := by
      intro i row hi
      rw [List.getElem?_take] at hi
      split at hi
      ·exact ⟨hi,by assumption⟩
      ·cases hi
     refine ⟨f,fun i row hi => r1 i row (hget i row hi).1,fun i row j y hi hj => ?_,fun i row j y hi hj => (r3 i row j y (hget i row hi).1 hj).mono (Nat.le_refl _) hkeep.rep⟩
     have hh := hget i row hi
     have hjl : j < sz := by rw [← r1 i row hh.1]; exact (List.getElem?_eq_some_iff.1 hj).1
     have : i * sz + j < n.toNat * sz := by
      have : (i + 1) * sz ≤ n.toNat * sz := Nat.mul_le_mul_right _ (by omega)
      rw [Nat.add_mul,Nat.one_mul] at this; omega
     rw [List.getElem?_take,if_pos this]
     exact r2 i row j y hh.1 hj
  ·cases hf
 ·cases hf
def lF (P : Program) (σ : St) (o : Oper) (t : TypeId) (x : Operand) (lo : Option Operand) (hi mx : Operand) : Option (St × Prop) :=
 match ev σ x,gD σ lo,intOf (ev σ hi),intOf (ev σ mx) with
 | .p (.sl rows) fr,some l,some n,some m => match P.underlying t with
  | some (.slice e) => match P.info? e with
   | some i => some (σ.put o.dst (.pc ((rows.take n.toNat).drop (bg l)) fr),n = m ∧ fH rows.length l (some n) ∧ ∀ row ∈ rows,row.length = i.size)
   | none => none
  | _ => none
 | _,_,_,_ => none
theorem xF {C : Ctx} {E : Env} {σ σ' : St} {a : Act} {w : World} {o : Oper} {t : TypeId} {x : Operand} {lo : Option Operand} {hi mx : Operand} {vc : Prop} (ho : o.op = .slice t x lo (some hi) (some mx))
  (hf : lF C.P σ o t x lo hi mx = some (σ',vc)) (hvc : vc) (h : au C E σ a w) (hd : aV C o) : bs C o σ' a w := by
 have hev := a7 h x
 unfold lF at hf
 split at hf
 ·rename_i rows fr l n m he hl hn hm
  split at hf
  ·rename_i e hu
   split at hf
   ·rename_i i hi'
    simp only [Option.some.injEq,Prod.mk.injEq] at hf; obtain ⟨rfl,rfl⟩ := hf
    obtain ⟨rfl,hok,hsz⟩ := hvc
    rw [he] at hev; simp only [VR] at hev
    obtain ⟨p,c,hv⟩ := lE hev
    rw [hv] at hev
    have hcap := qC hev
    obtain ⟨k1,hk1⟩ := jg h hn
    obtain ⟨k2,hk2⟩ := jg h hm
    have h2 := hok.2.1
    simp only at h2
    have hlo : bg l ≤ n.toNat := by
     cases l with
     | none => exact Nat.zero_le _
     | some b => have := hok.2.2; have := hok.1; simp only at this; simp only [bg]; omega
    have e1 := jT (P := C.P) (w := w) (y := c) (code := .slice3Acap) hk2 h2.1 (by omega)
    have e2 := jT (P := C.P) (w := w) (y := n.toNat) (code := .slice3B) hk1 h2.1 (by omega)
    have e3 : (match lo.map a.eval with | some v => Instr.sliceBound v n.toNat .slice3C | none => (pure 0 : Sem Nat)).run C.P w = .ok (bg l) w := by
     cases l with
     | none => rw [(cG h hl).2 rfl]; rfl
     | some b =>
      obtain ⟨k3,hk3⟩ := (cG h hl).1 b rfl
      rw [hk3]
      have := hok.1
      simp only at this
      refine jT (k := k3) rfl this ?_
      simp only [bg] at hlo; omega
    have e4 : (Instr.sliceBounds true rows.length c (lo.map a.eval) (some (a.eval hi)) (some (a.eval mx))).run C.P w = .ok (bg l,n.toNat,n.toNat) w := by
     cases hlv : lo.map a.eval with
     | none =>
      rw [hlv] at e3
      have : (do let m ← Instr.sliceBound (a.eval mx) c .slice3Acap; let h ← Instr.sliceBound (a.eval hi) m .slice3B; let l ← (pure 0 : Sem Nat); pure (l,h,m) : Sem (Nat × Nat × Nat)).run C.P w = .ok (bg l,n.toNat,n.toNat) w := by
       rw [Sem.run_bind,e1,Result.andThen_ok,Sem.run_bind,e2,Result.andThen_ok,Sem.run_bind,e3]
       rfl
      exact this
     | some v =>
      rw [hlv] at e3
      have : (do let m ← Instr.sliceBound (a.eval mx) c .slice3Acap; let h ← Instr.sliceBound (a.eval hi) m .slice3B; let l ← Instr.sliceBound v h .slice3C; pure (l,h,m) : Sem (Nat × Nat × Nat)).run C.P w = .ok (bg l,n.toNat,n.toNat) w := by
       rw [Sem.run_bind,e1,Result.andThen_ok,Sem.run_bind,e2,Result.andThen_ok,Sem.run_bind]
       simp only at e3
       rw [e3]
       rfl
      exact this
    have hrs := yQ hev (bg l) n.toNat i.size hlo (by omega) n.toNat (Nat.le_refl _) (fun n row hn => hsz row (List.mem_of_getElem? hn)) (by
     by_cases hc : n.toNat = bg l
     ·exact .inr hc.symm
     ·exact .inl hc)
    have hlen : ((rows.take n.toNat).drop (bg l)).length = n.toNat - bg l := by simp; omega
    refine bn h hd (v := .slice (if n.toNat = bg l then p else p.map (·.add (bg l * i.size))) (n.toNat - bg l) (n.toNat - bg l)) ?_ ?_
    ·unfold execOp
     simp only [ho,hv,Instr.sliceAt,Sem.run_bind,run_underlying hu,Result.andThen_ok,Instr.slice,Option.map_some,e4,sizeOf,typeInfo,run_program,hi',Sem.run_pure]
    ·simp only [VR]
     exact ⟨_,by rw [hlen],hrs⟩
   ·cases hf
  ·cases hf
 ·cases hf
end Go.TL
namespace Go.TL
def nC : Int → Option Nat
 | .ofNat n => some n
 | _ => none
def cA (P : Program) (H : Hint) (σ : St) (o : Oper) (t : TypeId) (x ix : Operand) : Option (St × Prop) :=
 match intOf (ev σ ix),o.dst with
 | some n,some d => match ev σ x,P.underlying t with
  | .p (.sl rows) fr,some (.slice e) => match lk H.ld d,P.info? e with
   | some row,some i => match Nat.beq row.length i.size with
    | true => some (σ.put o.dst (.pd row 0 fr),0 ≤ n ∧ rows[n.toNat]? = some row)
    | false => none
   | _,_ => none
  | .vec k,some (.slice e) => match lk σ.tab k,P.info? e with
   | some (.vec _ sz rows _),some i => match Nat.beq sz i.size with
    | true => some (σ.put o.dst (.vptr k sz n.toNat 0),0 ≤ n ∧ n < (rows.length : Int))
    | false => none
   | _,_ => none
  | .ptr k off,some (.array len e) => match P.info? e,nC n with
   | some i,some m => match Nat.ble (m + 1) len with
    | true => some (σ.put o.dst (.ptr k (off + m * i.size)),True)
    | false => none
   | _,_ => none
  | _,_ => none
 | _,_ => none
theorem run_indexAt_slice {P : Program} {w : World} {t e : TypeId} {i : TypeInfo} {a : Addr} {len cap : Nat} {k : IntKind} {n : Int} (hu : P.underlying t = some (.slice e)) (hi : P.info? e = some i) (h0 : 0 ≤ n) (h1 : n < (len : Int)) :
  (Instr.indexAt t (.slice (some a) len cap) (.int k n)).run P w = .ok (.pointer (some (a.add (n.toNat * i.size)))) w := by
 simp [Instr.indexAt,asIntOf,run_underlying hu,h0,h1,sizeOf,typeInfo,hi]
def lf (P : Program) (t : TypeId) (off : Nat) (cells : List SV) : Option SV := fo P t off cells
theorem AL {P : Program} {w : World} {E : Env} {lo : Nat} {t : TypeId} {off : Nat} {cells : List SV} {vs : List Value} {sv : SV} (hv : VRs w E lo cells vs) (hf : lf P t off cells = some sv) :
  ∃ v,(part t vs.toArray off).run P w = .ok v w ∧ VR w E lo sv v := by
 unfold lf fo at hf
 split at hf
 ·rename_i i ha hi
  split at hf
  ·rename_i hle
   have hle' := Nat.le_of_ble_eq_true hle
   simp only [Option.some.injEq] at hf; subst hf
   have hlen := bJ hv
   refine ⟨.agg ((vs.drop off).take i.size).toArray,?_,by simp only [VR]; exact ⟨_,rfl,lD _ (je off hv)⟩⟩
   have hr := qQ ha w
   have e : vs.toArray.extract off (off + i.size) = ((vs.drop off).take i.size).toArray := by
    apply Array.ext'; simp [List.extract_eq_take_drop]
   simp [part,hr,sizeOf,typeInfo,hi]
  ·cases hf
 ·rename_i i ha hi
  split at hf
  ·rename_i x xs hsz hdr
   simp only [Option.some.injEq] at hf; subst hf
   have hd := je off hv
   rw [hdr] at hd
   cases hvd : vs.drop off with
   | nil => rw [hvd] at hd; simp [VRs] at hd
   | cons v rest =>
    rw [hvd] at hd
    have hr := qQ ha w
    have hg : vs[off]? = some v := by
     have : (vs.drop off)[0]? = some v := by rw [hvd]; rfl
     simpa [List.getElem?_drop] using this
    refine ⟨v,?_,(ay.1 hd).1⟩
    simp [part,hr,hg]
  ·cases hf
 ·cases hf
def qX (P : Program) (s : TypeId) (f : Nat) : Option (Nat × TypeId) :=
 match P.underlying s with
 | some (.struct fields) => match fields.toList[f]? with
  | some fd => some (fd.offset,fd.type)
  | none => none
 | _ => none
def sG (P : Program) (σ : St) (o : Oper) (t : TypeId) (x : Operand) (f : Nat) : Option (St × Prop) :=
 match ev σ x,qX P t f with
 | .agg xs,some (off,ft) => match lf P ft off xs with
  | some sv => some (σ.put o.dst sv,True)
  | none => none
 | _,_ => none
theorem zT {C : Ctx} {E : Env} {σ σ' : St} {a : Act} {w : World} {o : Oper} {t : TypeId} {x : Operand} {f : Nat} {vc : Prop} (ho : o.op = .field t x f)
  (hf : sG C.P σ o t x f = some (σ',vc)) (h : au C E σ a w) (hd : aV C o) : bs C o σ' a w := by
 have hev := a7 h x
 unfold sG at hf
 split at hf
 ·rename_i xs off ft he hfo
  split at hf
  ·rename_i sv hsv
   simp only [Option.some.injEq,Prod.mk.injEq] at hf; obtain ⟨rfl,_⟩ := hf
   rw [he] at hev; simp only [VR] at hev
   obtain ⟨vs,hx,hvs⟩ := hev
   obtain ⟨v,hr,hv⟩ := AL (P := C.P) hvs hsv
   unfold qX at hfo
   split at hfo
   ·rename_i fields hu
    split at hfo
    ·rename_i fd hfd
     simp only [Option.some.injEq,Prod.mk.injEq] at hfo; obtain ⟨rfl,rfl⟩ := hfo
     have hfd' : fields[f]? = some fd := by simpa using hfd
     refine bn h hd (v := v) ?_ hv
     simp [execOp,ho,hx,Instr.field,run_underlying hu,hfd',asAgg,hr]
    ·cases hfo
   ·cases hfo
  ·cases hf
 ·cases hf
def iw (P : Program) (σ : St) (o : Oper) (t : TypeId) (x ix : Operand) : Option (St × Prop) :=
 match intOf (ev σ ix) with
 | some n => match ev σ x,P.underlying t with
  | .agg xs,some (.array len e) => match nC n,P.info? e with
   | some m,some i => match Nat.ble (m + 1) len,lf P e (m * i.size) xs with
    | true,some sv => some (σ.put o.dst sv,True)
    | _,_ => none
   | _,_ => none
  | .p (.v (.string s)) _,some .string => some (σ.put o.dst (.p (.v (.int .u8 ((s.data.toList.getD n.toNat 0).toNat : Int))) true),0 ≤ n ∧ n < (s.size : Int))
  | _,_ => none
 | none => none
theorem qE {C : Ctx} {E : Env} {σ σ' : St} {a : Act} {w : World} {o : Oper} {t : TypeId} {x ix : Operand} {vc : Prop} (ho : o.op = .index t x ix)
  (hf : iw C.P σ o t x ix = some (σ',vc)) (hvc : vc) (h : au C E σ a w) (hd : aV C o) : bs C o σ' a w := by
 have hev := a7 h x
 unfold iw at hf
 split at hf
 ·rename_i n hn
  obtain ⟨kk,hix⟩ := jg h hn
  split at hf
  ·rename_i xs len e he hu
   split at hf
   ·rename_i m i hm hi
    split at hf
    ·rename_i sv hle hsv
     have hle' := Nat.le_of_ble_eq_true hle
     simp only [Option.some.injEq,Prod.mk.injEq] at hf; obtain ⟨rfl,_⟩ := hf
     rw [he] at hev; simp only [VR] at hev
     obtain ⟨vs,hx,hvs⟩ := hev
     obtain ⟨v,hr,hv⟩ := AL (P := C.P) hvs hsv
     have hnm : n = (m : Int) := by
      unfold nC at hm; split at hm
      ·simp only [Option.some.injEq] at hm; subst hm; rfl
      ·cases hm
     subst hnm
     have hlt : m < len := hle'
     refine bn h hd (v := v) ?_ hv
     simp [execOp,ho,hx,hix,Instr.index,asIntOf,run_underlying hu,hlt,sizeOf,typeInfo,hi,hr]
    ·cases hf
   ·cases hf
  ·rename_i s fr he hu
   simp only [Option.some.injEq,Prod.mk.injEq] at hf; obtain ⟨rfl,rfl⟩ := hf
   have hx := fC h he
   have hlt : n.toNat < s.size := by have := hvc.1; have := hvc.2; omega
   refine bn h hd (v := .int .u8 ((s.data.toList.getD n.toNat 0).toNat : Int)) ?_ (cT true rfl)
   have hg : s[n.toNat]? = some (s.data.toList.getD n.toNat 0) := by
    rw [getElem?_pos s n.toNat hlt]
    congr 1
    have hlt' : n.toNat < s.data.size := hlt
    have e2 : s.data.toList.getD n.toNat 0 = s.data[n.toNat] := by
     rw [List.getD_eq_getElem?_getD,Array.getElem?_toList,Array.getElem?_eq_getElem hlt']; rfl
    rw [e2]; rfl
   simp [execOp,ho,hx,hix,Instr.index,asIntOf,run_underlying hu,hvc.1,hg]
  ·cases hf
 ·cases hf
def mD (σ : St) (o : Oper) (x : Operand) (n : Nat) : Option (St × Prop) :=
 match ev σ x with
 | .tup xs => match xs[n]? with
  | some sv => some (σ.put o.dst sv,True)
  | none => none
 | _ => none
def sH (P : Program) (σ : St) (o : Oper) (t : TypeId) (x : Operand) : Option (St × Prop) :=
 match P.underlying t with
 | some (.interface _) => none
 | some _ => some (σ.put o.dst (.ifc t (ev σ x)),True)
 | none => none
theorem zU {C : Ctx} {E : Env} {σ σ' : St} {a : Act} {w : World} {o : Oper} {t : TypeId} {x : Operand} {vc : Prop} (ho : o.op = .makeInterface t x)
  (hf : sH C.P σ o t x = some (σ',vc)) (h : au C E σ a w) (hd : aV C o) : bs C o σ' a w := by
 have hev := a7 h x
 unfold sH at hf
 cases hu : C.P.underlying t with
 | none => simp [hu] at hf
 | some d =>
  have : (execOp a.eval o).run C.P w = .ok (.value (.iface t (a.eval x))) w ∧ some (σ.put o.dst (.ifc t (ev σ x)),True) = some (σ',vc) := by
   cases d <;> first | (simp [hu] at hf; done) | (simp only [hu] at hf; exact ⟨by simp [execOp,ho,Instr.makeInterface,run_underlying hu],hf⟩)
  obtain ⟨hr,hf'⟩ := this
  simp only [Option.some.injEq,Prod.mk.injEq] at hf'; obtain ⟨rfl,_⟩ := hf'
  exact bn h hd hr (by simp only [VR]; exact ⟨_,rfl,hev⟩)
def evs (σ : St) : List Operand → List SV
 | [] => []
 | x :: xs => ev σ x :: evs σ xs
theorem sI {C : Ctx} {E : Env} {σ : St} {a : Act} {w : World} (h : au C E σ a w) : ∀ xs : List Operand,VRs w E C.lo (evs σ xs) (xs.map a.eval)
 | [] => c6
 | x :: xs => bC (a7 h x) (sI h xs)
def vu (σ : St) (o : Oper) (f : Fn) (first caps : Array Operand) : Option (St × Prop) :=
 some (σ.put o.dst (.fn f (evs σ first.toList) (evs σ caps.toList)),True)
theorem AM {C : Ctx} {E : Env} {σ σ' : St} {a : Act} {w : World} {o : Oper} {f : Fn} {first caps : Array Operand} {vc : Prop} (ho : o.op = .makeFunc f first caps)
  (hf : vu σ o f first caps = some (σ',vc)) (h : au C E σ a w) (hd : aV C o) : bs C o σ' a w := by
 simp only [vu,Option.some.injEq,Prod.mk.injEq] at hf; obtain ⟨rfl,_⟩ := hf
 refine bn h hd (v := .func f (first.map a.eval) (caps.map a.eval)) (by simp [execOp,ho,Instr.makeFunc]) ?_
 simp only [VR]
 refine ⟨_,_,?_,sI h first.toList,sI h caps.toList⟩
 congr 1 <;> exact Array.ext' (by simp)
def arith (op : BinOp) (a b : Int) : Option Int :=
 match op with
 | .add => some (a + b)
 | .sub => some (a - b)
 | .mul => some (a * b)
 | _ => none
def o6 (op : BinOp) (a b : Int) : Option Bool :=
 match op with
 | .eql => some (a == b)
 | .neq => some (a != b)
 | .lss => some (decide (a < b))
 | .leq => some (decide (a ≤ b))
 | .gtr => some (decide (a > b))
 | .geq => some (decide (a ≥ b))
 | _ => none
def kj (op : BinOp) (x y : ByteArray) : Option Bool :=
 match op with
 | .eql => some (x.toList == y.toList)
 | .neq => some (!(x.toList == y.toList))
 | .lss => some (Op.bytesLess x.toList y.toList)
 | .leq => some (Op.bytesLess x.toList y.toList || x.toList == y.toList)
 | .gtr => some (!(Op.bytesLess x.toList y.toList || x.toList == y.toList))
 | .geq => some (!Op.bytesLess x.toList y.toList)
 | _ => none
def isInt : SV → Option (IntKind × Int)
 | .p (.v (.int k n)) _ => some (k,n)
 | _ => none
def isStr : SV → Option ByteArray
 | .p (.v (.string s)) _ => some s
 | _ => none
def gq (σ : St) (o : Oper) (op : BinOp) (x y : Operand) : Option (St × Prop) :=
 match isInt (ev σ x),isInt (ev σ y) with
 | some (k,a),some (k',b) => match decide (k = k') with
  | true => match arith op a b with
   | some n => some (σ.put o.dst (.p (.v (.int k n)) true),k.wrap n = n)
   | none => match o6 op a b with
    | some c => some (σ.put o.dst (.p (.v (.bool c)) true),True)
    | none => match op with
     | .rem => some (σ.put o.dst (.p (.v (.int k (a.tmod b))) true),b ≠ 0)
     | .quo => some (σ.put o.dst (.p (.v (.int k (a.tdiv b))) true),b ≠ 0 ∧ k.wrap (a.tdiv b) = a.tdiv b)
     | _ => none
  | false => none
 | _,_ => match isStr (ev σ x),isStr (ev σ y) with
  | some s,some r => match kj op s r with
   | some c => some (σ.put o.dst (.p (.v (.bool c)) true),True)
   | none => match op with
    | .add => some (σ.put o.dst (.p (.v (.string (s ++ r))) true),s.size + r.size ≤ 4611686018427387904)
    | _ => none
  | _,_ => none
theorem eA {C : Ctx} {E : Env} {σ : St} {a : Act} {w : World} {x : Operand} {k : IntKind} {n : Int} (h : au C E σ a w) (hn : isInt (ev σ x) = some (k,n)) : a.eval x = .int k n := by
 unfold isInt at hn
 split at hn
 ·rename_i k' m fr he
  simp only [Option.some.injEq,Prod.mk.injEq] at hn; obtain ⟨rfl,rfl⟩ := hn
  exact fC h he
 ·cases hn
theorem o7 {C : Ctx} {E : Env} {σ : St} {a : Act} {w : World} {x : Operand} {s : ByteArray} (h : au C E σ a w) (hn : isStr (ev σ x) = some s) : a.eval x = .string s := by
 unfold isStr at hn
 split at hn
 ·rename_i s' fr he
  simp only [Option.some.injEq] at hn; subst hn
  exact fC h he
 ·cases hn
theorem cF {P : Program} {w : World} {a : Act} {o : Oper} {op : BinOp} {tx ty : TypeId} {x y : Operand} {r : Value} (ho : o.op = .binOp op tx x y ty)
  (hg : eqGuard op tx x y (a.eval x) (a.eval y) = pure ()) (hr : (binOp op tx (a.eval x) (a.eval y)).run P w = .ok r w) : (execOp a.eval o).run P w = .ok (.value r) w := by
 unfold execOp
 simp only [ho,hg,Sem.run_bind,Sem.run_pure,Result.andThen_ok,hr]
end Go.TL
namespace Go.TL
def qY (σ : St) (o : Oper) (op : UnOp) (x : Operand) : Option (St × Prop) :=
 match op,ev σ x with
 | .not,.p (.v (.bool b)) _ => some (σ.put o.dst (.p (.v (.bool (!b))) true),True)
 | .neg,.p (.v (.int k n)) _ => some (σ.put o.dst (.p (.v (.int k (0 - n))) true),k.wrap (0 - n) = 0 - n)
 | _,_ => none
theorem vv {C : Ctx} {E : Env} {σ σ' : St} {a : Act} {w : World} {o : Oper} {op : UnOp} {t : TypeId} {x : Operand} {vc : Prop} (ho : o.op = .unOp op t x)
  (hf : qY σ o op x = some (σ',vc)) (hvc : vc) (h : au C E σ a w) (hd : aV C o) : bs C o σ' a w := by
 unfold qY at hf
 split at hf
 ·rename_i b fr he
  simp only [Option.some.injEq,Prod.mk.injEq] at hf; obtain ⟨rfl,_⟩ := hf
  exact bn h hd (v := .bool (!b)) (by simp [execOp,ho,fC h he,Op.unary]) (cT true rfl)
 ·rename_i k n fr he
  simp only [Option.some.injEq,Prod.mk.injEq] at hf; obtain ⟨rfl,rfl⟩ := hf
  have hvc' : k.wrap (-n) = -n := by simpa using hvc
  exact bn h hd (v := .int k (0 - n)) (by simp [execOp,ho,fC h he,Op.unary,Op.intArith,hvc']) (cT true rfl)
 ·cases hf
def qZ (P : Program) (σ : St) (o : Oper) (src dst : TypeId) (x : Operand) : Option (St × Prop) :=
 match ev σ x,P.underlying src,P.underlying dst with
 | .p (.v (.int _ n)) _,some _,some (.int k) => some (σ.put o.dst (.p (.v (.int k n)) true),k.wrap n = n)
 | .p (.v (.string s)) _,some _,some .string => some (σ.put o.dst (.p (.v (.string s)) true),True)
 | _,_,_ => none
theorem AO {C : Ctx} {E : Env} {σ σ' : St} {a : Act} {w : World} {o : Oper} {src dst : TypeId} {x : Operand} {vc : Prop} (ho : o.op = .convert src dst x)
  (hf : qZ C.P σ o src dst x = some (σ',vc)) (hvc : vc) (h : au C E σ a w) (hd : aV C o) : bs C o σ' a w := by
 unfold qZ at hf
 split at hf
 ·rename_i k' n fr d k he hu1 hu2
  simp only [Option.some.injEq,Prod.mk.injEq] at hf; obtain ⟨rfl,rfl⟩ := hf
  have hx := fC h he
  refine bn h hd (v := .int k n) ?_ (cT true rfl)
  cases d <;> simp [execOp,ho,hx,convert,run_underlying hu1,run_underlying hu2,Conv.intToInt,hvc]
 ·rename_i s fr d he hu1 hu2
  simp only [Option.some.injEq,Prod.mk.injEq] at hf; obtain ⟨rfl,rfl⟩ := hf
  have hx := fC h he
  refine bn h hd (v := .string s) ?_ (cT true rfl)
  cases d <;> simp [execOp,ho,hx,convert,run_underlying hu1,run_underlying hu2]
 ·cases hf
def o9 : SV → Option Bool
 | .ptr _ _ => some false
 | .pd _ _ _ => some false
 | .vptr _ _ _ _ => some false
 | .p (.v (.pointer none)) _ => some true
 | .p (.ls []) _ => some true
 | .p (.ls (_ :: _)) _ => some false
 | _ => none
def xG : SV → Option Bool
 | .fn _ _ _ => some false
 | .p (.v .nilFunc) _ => some true
 | _ => none
theorem sJ {C : Ctx} {E : Env} {σ : St} {a : Act} {w : World} {x : Operand} {b : Bool} (h : au C E σ a w) (hb : o9 (ev σ x) = some b) : ∃ p : Option Addr,a.eval x = .pointer p ∧ p.isNone = b := by
 have hev := a7 h x
 unfold o9 at hb
 split at hb <;> (try (cases hb; done)) <;> rename_i he <;> simp only [Option.some.injEq] at hb <;> subst hb <;> rw [he] at hev
 ·simp only [VR] at hev; obtain ⟨b,_,hx⟩ := hev; exact ⟨_,hx,rfl⟩
 ·simp only [VR] at hev; obtain ⟨b,o,hx,_⟩ := hev; exact ⟨_,hx,rfl⟩
 ·simp only [VR] at hev; obtain ⟨b,n,c,_,hx⟩ := hev; exact ⟨_,hx,rfl⟩
 ·exact ⟨none,cf hev,rfl⟩
 ·simp only [VR] at hev; generalize a.eval x = v at hev ⊢; cases hev; exact ⟨none,rfl,rfl⟩
 ·simp only [VR] at hev; generalize a.eval x = v at hev ⊢; cases hev; exact ⟨_,rfl,rfl⟩
theorem sK {C : Ctx} {E : Env} {σ : St} {a : Act} {w : World} {x : Operand} {b : Bool} (h : au C E σ a w) (hb : xG (ev σ x) = some b) : (b = true ∧ a.eval x = .nilFunc) ∨ (b = false ∧ ∃ f p q,a.eval x = .func f p q) := by
 have hev := a7 h x
 unfold xG at hb
 split at hb <;> (try (cases hb; done)) <;> rename_i he <;> simp only [Option.some.injEq] at hb <;> subst hb <;> rw [he] at hev
 ·simp only [VR] at hev; obtain ⟨vs,ws,hx,_⟩ := hev; exact .inr ⟨rfl,_,_,_,hx⟩
 ·exact .inl ⟨rfl,cf hev⟩
def jE (P : Program) (σ : St) (t : TypeId) (x y : Operand) : Option Bool :=
 match P.underlying t with
 | some (.pointer _) => match o9 (ev σ x),o9 (ev σ y) with
  | some p,some true => some p
  | some true,some q => some q
  | _,_ => none
 | some (.func _ _ _) => match xG (ev σ x),xG (ev σ y) with
  | some p,some true => some p
  | some true,some q => some q
  | _,_ => none
 | _ => none
def pe (P : Program) (σ : St) (o : Oper) (op : BinOp) (t : TypeId) (x y : Operand) : Option (St × Prop) :=
 match jE P σ t x y,op with
 | some b,.eql => some (σ.put o.dst (.p (.v (.bool b)) true),True)
 | some b,.neq => some (σ.put o.dst (.p (.v (.bool (!b))) true),True)
 | _,_ => none
theorem vw {P : Program} {w : World} {t e : TypeId} (hu : P.underlying t = some (.pointer e)) (p q : Option Addr) (h : p = none ∨ q = none) : (Op.equal t (.pointer p) (.pointer q)).run P w = .ok (p.isNone && q.isNone) w := by
 show (Op.equalIn (9999 + 1) t _ _).run P w = _
 rw [Op.equalIn]
 rcases h with rfl | rfl
 ·cases q <;> simp [run_underlying hu]
 ·cases p <;> simp [run_underlying hu]
theorem mF {P : Program} {w : World} {t : TypeId} {ps rs : Array TypeId} {v : Bool} (hu : P.underlying t = some (.func ps rs v)) :
  (Op.equal t .nilFunc .nilFunc).run P w = .ok true w ∧ (∀ f p q,(Op.equal t (.func f p q) .nilFunc).run P w = .ok false w) ∧ (∀ f p q,(Op.equal t .nilFunc (.func f p q)).run P w = .ok false w) := by
 refine ⟨?_,fun f p q => ?_,fun f p q => ?_⟩ <;> (show (Op.equalIn (9999 + 1) t _ _).run P w = _; rw [Op.equalIn]; simp [run_underlying hu])
theorem lg {P : Program} {w : World} {t : TypeId} {x y : Value} {b : Bool} (h : (Op.equal t x y).run P w = .ok b w) (hx : (∃ p,x = .pointer p) ∧ (∃ p,y = .pointer p) ∨ ((∃ f p q,x = .func f p q) ∨ x = .nilFunc) ∧ ((∃ f p q,y = .func f p q) ∨ y = .nilFunc)) :
  (binOp .eql t x y).run P w = .ok (.bool b) w ∧ (binOp .neq t x y).run P w = .ok (.bool (!b)) w := by
 rcases hx with ⟨⟨p,rfl⟩,⟨q,rfl⟩⟩ | ⟨⟨f,p,q,rfl⟩ | rfl,⟨f',p',q',rfl⟩ | rfl⟩ <;> simp only [binOp,Sem.run_bind,h,Result.andThen_ok,Sem.run_pure,and_self]
def hY (σ : St) (o : Oper) (isMax : Bool) (x y : Operand) : Option (St × Prop) :=
 match isInt (ev σ x),isInt (ev σ y) with
 | some (k,a),some (_,b) => some (σ.put o.dst (.p (.v (.int k (match isMax with | true => (if b > a then b else a) | false => (if b < a then b else a)))) true),True)
 | _,_ => none
theorem Dj {C : Ctx} {E : Env} {σ σ' : St} {a : Act} {w : World} {o : Oper} {x y : Operand} {ts : Array TypeId} {vc : Prop} (ho : o.op = .call { callee := .builtin .min,args := #[x,y],argTypes := ts })
  (hf : hY σ o false x y = some (σ',vc)) (h : au C E σ a w) (hd : aV C o) : bs C o σ' a w := by
 unfold hY at hf
 split at hf
 ·rename_i k m k' n hx hy
  simp only [Option.some.injEq,Prod.mk.injEq] at hf; obtain ⟨rfl,_⟩ := hf
  refine bn h hd (v := .int k (if n < m then n else m)) ?_ (cT true rfl)
  rw [dK ho]
  simp [builtin,Builtin.min_,Builtin.min2,eA h hx,eA h hy]
 ·cases hf
theorem Dk {C : Ctx} {E : Env} {σ σ' : St} {a : Act} {w : World} {o : Oper} {x y : Operand} {ts : Array TypeId} {vc : Prop} (ho : o.op = .call { callee := .builtin .max,args := #[x,y],argTypes := ts })
  (hf : hY σ o true x y = some (σ',vc)) (h : au C E σ a w) (hd : aV C o) : bs C o σ' a w := by
 unfold hY at hf
 split at hf
 ·rename_i k m k' n hx hy
  simp only [Option.some.injEq,Prod.mk.injEq] at hf; obtain ⟨rfl,_⟩ := hf
  refine bn h hd (v := .int k (if n > m then n else m)) ?_ (cT true rfl)
  rw [dK ho]
  simp [builtin,Builtin.max_,Builtin.max2,eA h hx,eA h hy]
 ·cases hf
end Go.TL
namespace Go.TL
def dW : Value → Bool
 | .slice none 0 0 => true
 | _ => false
theorem kD {x : Value} (h : dW x = true) : x = .slice none 0 0 := by
 unfold dW at h
 split at h
 ·rfl
 ·cases h
def zc (room : Bool) (x : Value) : PV :=
 match dW x with
 | true => match room with | true => .rm 0 [] | false => .sl []
 | false => .v x
theorem AP {w : World} {bad : Nat → Prop} {lo : Nat} {room : Bool} {x : Value} (h : x.oneCell' = true) : Rep w bad lo (zc room x) x := by
 unfold zc
 cases hx : dW x with
 | true =>
  have := kD hx; subst this
  cases room with
  | true => exact .rmNil
  | false => exact .nil none 0
 | false => exact .v x h
def AQ (room : Bool) (z : Value) : Option (List PV) :=
 match z.cells.toList.all (·.oneCell') with
 | true => some (z.cells.toList.map (zc room))
 | false => none
theorem Jr {C : Ctx} {E : Env} {σ : St} {a : Act} {w : World} {o : Oper} {d n c : Nat} {cs : Array Value} {t : TypeId} {ov : OV} (h : au C E σ a w) (hd : aV C o) (hdst : o.dst = some d)
  (hfresh : lk σ.tab d = none) (hrun : (execOp a.eval o).run C.P w = .ok (.value (.slice (some ⟨w.heap.size,0,none⟩) n c)) (w.alloc (.cells cs t)))
  (hor : OR (w.alloc (.cells cs t)) (E.add d (.slice (some ⟨w.heap.size,0,none⟩) n c) w.heap.size) C.lo d ov) :
  bs C o ⟨(d,.vec d) :: σ.ab,(d,ov) :: σ.tab⟩ a w := by
 have hb : ∀ b,b < w.heap.size → (w.alloc (.cells cs t)).heap[b]? = w.heap[b]? := fun b hb => heap_alloc_old w _ b hb
 have hlo : C.lo ≤ w.heap.size := Nat.le_trans h.lo.le h.fr.size
 have hfr : Fr w E (w.alloc (.cells cs t)) (E.add d (.slice (some ⟨w.heap.size,0,none⟩) n c) w.heap.size) := Fr.add rfl rfl rfl (by simp) hb (Nat.le_refl _)
 have hval := Env.k9 (w := w) (b0 := w.heap.size) (x := .slice (some ⟨w.heap.size,0,none⟩) n c) h.tab hfresh
 have htab := a8.add (w' := w.alloc (.cells cs t)) (x := .slice (some ⟨w.heap.size,0,none⟩) n c) (b0 := w.heap.size) (ov := ov) h.tab hfresh (by simp) hb (Nat.le_refl _) (by simp) hlo hor
 refine ⟨_,_,.inl hrun,E.add d (.slice (some ⟨w.heap.size,0,none⟩) n c) w.heap.size,?_⟩
 have hdn : d < C.n := hd d hdst
 have := h.upd hfr hval (fun k hk hn => by simp only [Env.add]; rw [if_neg (by omega)]; exact hn) htab o.dst hd (sv := .vec d) (v := .slice (some ⟨w.heap.size,0,none⟩) n c) (fun _ _ => by simp only [VR]; exact ⟨by simp [Env.add],_,_,_,rfl⟩)
 rw [hdst] at this ⊢
 exact this
def vx (P : Program) (H : Hint) (σ : St) (o : Oper) (t : TypeId) (l c : Operand) : Option (St × Prop) :=
 match isInt (ev σ l),isInt (ev σ c),o.dst,dE P t with
 | some (_,nl),some (_,nc),some d,some (e,i) => match lk σ.tab d,i.zero,Nat.ble 1 i.size with
  | none,some z,true => match Nat.beq z.cells.size i.size,lk H.ld d with
   | true,none => match AQ false z with
    | some zr => some (⟨(d,.vec d) :: σ.ab,(d,.vec e i.size (List.replicate nl.toNat zr) true) :: σ.tab⟩,0 ≤ nl ∧ nl ≤ nc ∧ nc.toNat * max i.bytes 1 ≤ 140737488355328)
    | none => none
   | _,_ => none
  | _,_,_ => none
 | _,_,_,_ => none
theorem qF (z : Array Value) (n j : Nat) (h : j < n) : (madeCells z n)[j]? = some (z[j % z.size]!) := by
 simp [madeCells,h]
theorem Hw {w : World} {bad : Nat → Prop} {lo : Nat} {room : Bool} {z : Value} {zr : List PV} {sz : Nat} (hz : z.cells.size = sz) (_hpos : 0 < sz) (hr : AQ room z = some zr) (n : Nat) :
  zr.length = sz ∧ ∃ f : Nat → Nat → Value,(∀ (i : Nat) (row : List PV),(List.replicate n zr)[i]? = some row → row.length = sz) ∧
   (∀ (i : Nat) (row : List PV) (j : Nat) (x : PV),(List.replicate n zr)[i]? = some row → row[j]? = some x → (∀ m,i < m → (madeCells z.cells (m * sz))[i * sz + j]? = some (f i j))) ∧
   (∀ (i : Nat) (row : List PV) (j : Nat) (x : PV),(List.replicate n zr)[i]? = some row → row[j]? = some x → Rep w bad lo x (f i j)) := by
 unfold AQ at hr
 split at hr
 ·rename_i hall
  simp only [Option.some.injEq] at hr; subst hr
  have hlen : (z.cells.toList.map (zc room)).length = sz := by simp [hz]
  have hrow : ∀ (i : Nat) (row : List PV),(List.replicate n (z.cells.toList.map (zc room)))[i]? = some row → row = z.cells.toList.map (zc room) := by
   intro i row hi
   rw [List.getElem?_replicate] at hi
   split at hi
   ·exact (Option.some.inj hi).symm
   ·cases hi
  refine ⟨hlen,fun _ j => z.cells[j]!,?_,?_,?_⟩
  ·intro i row hi; rw [hrow i row hi]; exact hlen
  ·intro i row j x hi hj m hm
   rw [hrow i row hi] at hj
   have hjl : j < sz := by rw [← hlen]; exact (List.getElem?_eq_some_iff.1 hj).1
   have : i * sz + j < m * sz := by
    have : (i + 1) * sz ≤ m * sz := Nat.mul_le_mul_right _ hm
    rw [Nat.add_mul,Nat.one_mul] at this; omega
   rw [qF _ _ _ this,hz,Nat.mul_comm i sz,Nat.mul_add_mod,Nat.mod_eq_of_lt hjl]
  ·intro i row j x hi hj
   rw [hrow i row hi] at hj
   have hjl : j < z.cells.size := by rw [hz, ← hlen]; exact (List.getElem?_eq_some_iff.1 hj).1
   simp [hjl] at hj; subst hj
   have h1 := List.all_eq_true.1 hall z.cells[j] (by simp)
   simp only [hjl,getElem!_pos]
   exact AP h1
 ·cases hr
theorem AR {C : Ctx} {H : Hint} {E : Env} {σ σ' : St} {a : Act} {w : World} {o : Oper} {t : TypeId} {l c : Operand} {vc : Prop} (ho : o.op = .makeSlice t l c)
  (hf : vx C.P H σ o t l c = some (σ',vc)) (hvc : vc) (h : au C E σ a w) (hd : aV C o) : bs C o σ' a w := by
 unfold vx at hf
 split at hf
 ·rename_i kl nl kc nc d e i hl hc hdst hse
  obtain ⟨hu,hi⟩ := iM hse
  have el := eA h hl
  have ec := eA h hc
  split at hf
  ·rename_i z hfresh hz hpos
   have hpos' := Nat.le_of_ble_eq_true hpos
   have hlo : C.lo ≤ w.heap.size := Nat.le_trans h.lo.le h.fr.size
   have key : (0 ≤ nl ∧ nl ≤ nc ∧ nc.toNat * max i.bytes 1 ≤ 140737488355328) →
     (execOp a.eval o).run C.P w = .ok (.value (.slice (some ⟨w.heap.size,0,none⟩) nl.toNat nc.toNat)) (w.alloc (.cells (madeCells z.cells (nc.toNat * i.size)) e)) := by
    rintro ⟨h1,h2,h3⟩
    have m1 : nc.toNat * 1 ≤ nc.toNat * max i.bytes 1 := Nat.mul_le_mul_left _ (by omega)
    have m2 : nc.toNat * i.bytes ≤ nc.toNat * max i.bytes 1 := Nat.mul_le_mul_left _ (by omega)
    have m3 : (i.bytes : Int) * nc ≤ 281474976710656 := by
     have e1 : ((nc.toNat * i.bytes : Nat) : Int) ≤ 140737488355328 := by omega
     rw [Int.natCast_mul] at e1
     have e2 : (nc.toNat : Int) = nc := by omega
     rw [e2,Int.mul_comm] at e1; omega
    have hr := run_make (P := C.P) w t e i z hu hi hz kl kc nl nc h1 h2 m3 (by omega)
    unfold execOp
    simp only [ho,el,ec,Sem.run_bind,hr,Result.andThen_ok,Sem.run_pure]
   split at hf
   ·rename_i hzs hh
    have hzs' := Nat.eq_of_beq_eq_true hzs
    split at hf
    ·rename_i zr hzr
     simp only [Option.some.injEq,Prod.mk.injEq] at hf; obtain ⟨rfl,rfl⟩ := hf
     have hvc' := hvc
     obtain ⟨h1,h2,h3⟩ := hvc
     refine Jr h hd hdst hfresh (key hvc') ?_
     obtain ⟨g0,f,g1,g2,g3⟩ := Hw (w := w.alloc (.cells (madeCells z.cells (nc.toNat * i.size)) e)) (bad := (E.add d (.slice (some ⟨w.heap.size,0,none⟩) nl.toNat nc.toNat) w.heap.size).bad) (lo := C.lo) hzs' hpos' hzr nl.toNat
     have hlt : ∀ (i : Nat) (row : List PV),(List.replicate nl.toNat zr)[i]? = some row → i < nl.toNat := fun i row hi => by
      have := (List.getElem?_eq_some_iff.1 hi).1; simpa using this
     have m1 : nc.toNat * 1 ≤ nc.toNat * max i.bytes 1 := Nat.mul_le_mul_left _ (by omega)
     have hle : nl.toNat * i.size ≤ nc.toNat * i.size := Nat.mul_le_mul_right _ (by omega)
     refine ⟨.slice (some ⟨w.heap.size,0,none⟩) nl.toNat nc.toNat,(madeCells z.cells (nc.toNat * i.size)).toList.take (nl.toNat * i.size),by simp [Env.add],hpos',⟨?_,.inr ⟨w.heap.size,nc.toNat,madeCells z.cells (nc.toNat * i.size),by simp,Nat.zero_le _,heap_alloc_new w _,by simp; omega,?_,by simp [size_madeCells],by simp⟩⟩,?_,f,g1,?_,g3⟩
     ·rw [List.length_take,Array.length_toList,size_madeCells,List.length_replicate]; exact Nat.min_eq_left hle
     ·simp [maxLen]; omega
     ·intro g hg
      simp only [Value.ownBlock,Option.some.injEq] at hg; subst hg
      simp [Env.add]
     ·intro j row k x hj hk
      have hj' := hlt j row hj
      have hkl : k < i.size := by rw [← g1 j row hj]; exact (List.getElem?_eq_some_iff.1 hk).1
      have : j * i.size + k < nl.toNat * i.size := by
       have : (j + 1) * i.size ≤ nl.toNat * i.size := Nat.mul_le_mul_right _ hj'
       rw [Nat.add_mul,Nat.one_mul] at this; omega
      rw [List.getElem?_take,if_pos this]
      have := g2 j row k x hj hk nc.toNat (by omega)
      simpa using this
    ·cases hf
   ·cases hf
  ·cases hf
 ·cases hf
end Go.TL
namespace Go.TL
theorem vy {P : Program} {w : World} (t ty e : TypeId) (i : TypeInfo) (ht : P.underlying t = some (.slice e)) (hi : P.info? e = some i) (g n cap : Nat) (b : Option Addr) (c : Nat) (hle : n ≤ cap) :
  (Builtin.append_ #[t,t] ty #[.slice (some ⟨g,0,none⟩) n cap,.slice b 0 c]).run P w = .ok (.slice (some ⟨g,0,none⟩) n cap) w := by
 cases b <;> simp [Builtin.append_,run_underlying ht,sizeOf,typeInfo,hi,Builtin.lenOf,hle,Builtin.firstCells,storeCells,loadCells,loadCellsFrom]
theorem nD {P : Program} {w : World} {len cap : Nat} {kk : IntKind} {m : Int} (h0 : 0 ≤ m) (h1 : m ≤ (cap : Int)) :
  (Instr.sliceBounds true len cap none (some (.int kk m)) none).run P w = .ok (0,m.toNat,cap) w := by
 simp [Instr.sliceBounds,Instr.sliceBound,asIntOf,h0,h1]
end Go.TL
