/- A map literal whose entries come in any order: a table of lists and functions. -/
import Derived.Test.YtajkchpnbnbmfaaGreatDoorW25
namespace Go.TL.H
open Go
def IsL (gA gB : Nat) (v : Value) : Prop := ∃ g m,v = .slice (some ⟨g,0,none⟩) m 2 ∧ (g = gA ∨ g = gB) ∧ m ≤ 2
def IsF (v : Value) : Prop := ∃ f a b,v = .func f a b
def IsE (gA gB : Nat) (v : Value) : Prop := ∃ sl fv,v = .agg #[sl,fv] ∧ IsL gA gB sl ∧ IsF fv
def gz (i : Nat) (o : Oper) : Nat := match Nat.ble 50 i,o.op with
 | false,.move _ => 1
 | false,.slice _ _ _ _ _ => 1
 | false,.build _ _ => 2
 | false,.call _ => 3
 | _,_ => 0
def KOk (gA gB : Nat) : Nat → Value → Prop
 | 1,v => IsL gA gB v
 | 2,v => IsE gA gB v
 | 3,v => IsF v
 | _,_ => True
def KZ (gA gB : Nat) (es : Array MapEntry) : Prop := ∀ (i : Nat) (e : MapEntry),es[i]? = some e → ∃ s sl fv,e.key = .string s ∧ s.size ≤ 64 ∧ e.val = .agg #[sl,fv] ∧ IsL gA gB sl ∧ IsF fv
def onB (o : Oper) (j : Nat) : Bool := o.after.toList.any fun e => match Region.binds .any e with | true => Nat.beq e.on j | false => false
def yF (ops : List Oper) (o : Oper) (s k : Nat) : Bool := o.after.toList.any fun e => match Region.binds .any e,ops[e.on]? with
 | true,some o' => match o'.dst with
  | some d => match Nat.beq d s with | true => Nat.beq (gz e.on o') k | false => false
  | none => false
 | _,_ => false
def AF : Op → Option Operand | .move x => some x | _ => none
def yG : Op → Option Operand | .assign x => some x | _ => none
def G8 : Op → Option TypeId | .makeMap t none => some t | _ => none
def C4 : Op → Option (TypeId × Operand × Operand) | .slice t x none (some h) none => some (t,x,h) | _ => none
def C5 : Op → Option (TypeId × Array (Nat × Operand)) | .build t ps => some (t,ps) | _ => none
def G9 : Op → Option (Operand × Array Operand × Array TypeId) | .call ⟨.value f,args,ts⟩ => some (f,args,ts) | _ => none
def yH : Op → Option (TypeId × Operand × Operand × Operand) | .insert t m k v => some (t,m,k,v) | _ => none
def oT : Operand → Option Nat | .tmp t => some t | _ => none
def oF : Operand → Option Nat | .func t => some t | _ => none
def K0 : Operand → Bool | .const (.int .i64 n) => mL n | _ => false
def K4 : Operand → Option ByteArray | .const (.string s) => some s | _ => none
theorem C6 {o : Op} {x : Operand} (h : AF o = some x) : o = .move x := by cases o <;> simp [AF] at h; rw [h]
theorem Ha {o : Op} {x : Operand} (h : yG o = some x) : o = .assign x := by cases o <;> simp [yG] at h; rw [h]
theorem K5 {o : Op} {x : TypeId} (h : G8 o = some x) : o = .makeMap x none := by
 unfold G8 at h; split at h
 ·cases h; rfl
 ·cases h
theorem IY {o : Op} {t : TypeId} {x y : Operand} (h : C4 o = some (t,x,y)) : o = .slice t x none (some y) none := by
 unfold C4 at h; split at h
 ·cases h; rfl
 ·cases h
theorem IZ {o : Op} {t : TypeId} {ps : Array (Nat × Operand)} (h : C5 o = some (t,ps)) : o = .build t ps := by cases o <;> simp [C5] at h; rw [h.1,h.2]
theorem K6 {o : Op} {f : Operand} {args : Array Operand} {ts : Array TypeId} (h : G9 o = some (f,args,ts)) : o = .call ⟨.value f,args,ts⟩ := by
 unfold G9 at h; split at h
 ·cases h; rfl
 ·cases h
theorem Hb {o : Op} {t : TypeId} {m k v : Operand} (h : yH o = some (t,m,k,v)) : o = .insert t m k v := by cases o <;> simp [yH] at h; rw [h.1,h.2.1,h.2.2.1,h.2.2.2]
theorem ql {x : Operand} {t : Nat} (h : oT x = some t) : x = .tmp t := by cases x <;> simp [oT] at h; rw [h]
theorem Hc {x : Operand} {t : Nat} (h : oF x = some t) : x = .func t := by cases x <;> simp [oF] at h; rw [h]
theorem NH {x : Operand} (h : K0 x = true) : x = .const (.int .i64 1) := by
 unfold K0 at h; split at h
 ·rw [JX h]
 ·cases h
theorem NJ {x : Operand} {s : ByteArray} (h : K4 x = some s) : x = .const (.string s) := by
 unfold K4 at h; split at h
 ·cases h; rfl
 ·cases h
def MI (d : Option Nat) (x : Option Operand) : Bool := match d,x.bind oT with | some _,some s => (match Nat.beq s 1 with | true => true | false => Nat.beq s 2) | _,_ => false
def I0 (SL : Nat) (ops : List Oper) (o : Oper) : Bool := match o.dst,C4 o.op with
 | some _,some (t,x,y) => (match Nat.beq t SL,K0 y,oT x with | true,true,some s => yF ops o s 1 | _,_,_ => false)
 | _,_ => false
def I1 (EN : Nat) (ops : List Oper) (o : Oper) : Bool := match o.dst,C5 o.op with
 | some _,some (t,ps) => (match Nat.beq t EN,ps.toList with
  | true,[(0,x),(1,y)] => (match oT x,oF y,oT y with
   | some s,some _,_ => yF ops o s 1
   | some s,none,some c => (match yF ops o s 1 with | true => yF ops o c 3 | false => false)
   | _,_,_ => false)
  | _,_ => false)
 | _,_ => false
def MJ (dv : Nat) (o : Oper) : Bool := match o.dst,G9 o.op with
 | some _,some (f,args,_) => (match oF f,args.toList with | some g,[x] => (match Nat.beq g dv with | true => (oF x).isSome | false => false) | _,_ => false)
 | _,_ => false
def PR (MT : Nat) (ops : List Oper) (o : Oper) : Bool := match o.dst,yH o.op with
 | none,some (t,m,k,v) => (match Nat.beq t MT,onB o 0,oT m,K4 k,oT v with
  | true,true,some 5,some k,some s => (match Nat.ble k.size 64 with | true => yF ops o s 2 | false => false)
  | _,_,_,_,_ => false)
 | _,_ => false
def isD (d : Nat) : Option Nat → Bool | some x => Nat.beq x d | none => false
def c0 (MT : Nat) (o : Oper) : Bool := match isD 5 o.dst,G8 o.op with | true,some t => Nat.beq t MT | _,_ => false
def c50 (o : Oper) : Bool := match isD 40 o.dst,isD 5 ((AF o.op).bind oT) with | true,true => onB o 0 | _,_ => false
def c51 (o : Oper) : Bool := match isD 0 o.dst,isD 40 ((yG o.op).bind oT),onB o 50 with | true,true,true => onB o 0 | _,_,_ => false
def K7 (EN MT SL dv : Nat) (ops : List Oper) (o : Oper) : Bool := match MI o.dst (AF o.op) with
 | true => true
 | false => match I0 SL ops o with
  | true => true
  | false => match I1 EN ops o with
   | true => true
   | false => match MJ dv o with
    | true => true
    | false => PR MT ops o
def chk (EN MT SL dv : Nat) (ops : List Oper) (i : Nat) (o : Oper) : Bool := match o.guard,o.after.toList.all (fun e => Nat.blt e.on i),i with
 | none,true,0 => c0 MT o
 | none,true,i + 1 => (match Nat.beq i 49,Nat.beq i 50,Nat.blt i 49 with | true,_,_ => c50 o | _,true,_ => c51 o | _,_,true => K7 EN MT SL dv ops o | _,_,_ => false)
 | _,_,_ => false
def yI (EN MT SL dv : Nat) (ops : List Oper) : Nat → List Oper → Bool
 | _,[] => true
 | i,o :: r => match chk EN MT SL dv ops i o with | true => yI EN MT SL dv ops (i + 1) r | false => false
theorem yJ {EN MT SL dv : Nat} {ops : List Oper} : ∀ (r : List Oper) (k i : Nat) (o : Oper),yI EN MT SL dv ops k r = true → r[i]? = some o → chk EN MT SL dv ops (k + i) o = true
 | [],_,_,_,_,h => by simp at h
 | x :: r,k,0,o,h,hi => by
  simp only [yI] at h
  split at h
  ·rename_i hc; simp at hi; subst hi; exact hc
  ·cases h
 | x :: r,k,i + 1,o,h,hi => by
  simp only [yI] at h
  split at h
  ·have := yJ r (k + 1) i o h (by simpa using hi)
   rw [show k + (i + 1) = k + 1 + i by omega]; exact this
  ·cases h
def mY (n : Nat) : List Oper → Bool
 | [] => true
 | o :: r => match o.dst with
  | none => mY n r
  | some d => match Nat.beq d 1,Nat.beq d 2,Nat.blt d n,r.all (fun o' => match o'.dst with | some d' => !(Nat.beq d' d) | none => true) with
   | false,false,true,true => mY n r
   | _,_,_,_ => false
theorem qn {n : Nat} : ∀ {r : List Oper},mY n r = true → ∀ (i : Nat) (o : Oper) d,r[i]? = some o → o.dst = some d → d ≠ 1 ∧ d ≠ 2 ∧ d < n ∧ ∀ (j : Nat) (o' : Oper),r[j]? = some o' → o'.dst = some d → i = j
 | [],_,i,o,d,hi,_ => by simp at hi
 | x :: r,h,i,o,d,hi,hd => by
  have tl : mY n r = true ∧ ∀ d,x.dst = some d → d ≠ 1 ∧ d ≠ 2 ∧ d < n ∧ ∀ o' ∈ r,o'.dst ≠ some d := by
   simp only [mY] at h
   split at h
   ·rename_i hx; exact ⟨h,fun d hd => by rw [hx] at hd; cases hd⟩
   ·rename_i d0 hx
    split at h
    ·rename_i h1 h2 h3 h4
     refine ⟨h,fun d hd => ?_⟩
     rw [hx] at hd; cases hd
     refine ⟨fun e => by subst e; simp at h1,fun e => by subst e; simp at h2,by simpa [Nat.blt_eq] using h3,fun o' ho' he => ?_⟩
     have := List.all_eq_true.1 h4 o' ho'
     simp [he] at this
    ·cases h
  cases i with
  | zero =>
   simp at hi; subst hi
   obtain ⟨h1,h2,h3,h4⟩ := tl.2 d hd
   refine ⟨h1,h2,h3,fun j o' hj he => ?_⟩
   cases j with
   | zero => rfl
   | succ j => exact absurd he (h4 o' (List.mem_of_getElem? (by simpa using hj)))
  | succ i =>
   obtain ⟨h1,h2,h3,h4⟩ := qn tl.1 i o d (by simpa using hi) hd
   refine ⟨h1,h2,h3,fun j o' hj he => ?_⟩
   cases j with
   | zero => simp at hj; subst hj; exact absurd hd ((tl.2 d he).2.2.2 o (List.mem_of_getElem? (by simpa using hi)))
   | succ j => rw [h4 j o' (by simpa using hj) he]
theorem cd {a : Act} {d t : Nat} {v : Value} (hd : d < a.tmps.size) : (a.put (some d) v).tmps.getD t undef = if t = d then v else a.tmps.getD t undef := by
 by_cases h : t = d
 ·subst h; simp [Act.put,hd]
 ·simp [Act.put,Ne.symm h,h]
structure TI (gA gB n : Nat) (w0 : World) (ops : Array Oper) (listed : Array Bool) (a : Act) (w : World) : Prop where
 size : a.tmps.size = n
 defers : a.defers = []
 s1 : IsL gA gB (a.tmps.getD 1 undef)
 s2 : IsL gA gB (a.tmps.getD 2 undef)
 sl : ∀ (j : Nat) (o : Oper) (d : Nat),ops[j]? = some o → o.dst = some d → listed.getD j false = true → KOk gA gB (gz j o) (a.tmps.getD d undef)
 ch : Ch (fun _ => False) w0 w
 mp : listed.getD 0 false = true → ∃ b es cl,a.tmps.getD 5 undef = .map (some b) ∧ w0.heap.size ≤ b ∧ w.heap[b]? = some (.map es cl) ∧ KZ gA gB es ∧ es.size + dm listed.toList ≤ 60 ∧
  (listed.getD 50 false = true → a.tmps.getD 40 undef = .map (some b)) ∧ (listed.getD 51 false = true → a.tmps.getD 0 undef = .map (some b))
 l50 : listed.getD 50 false = true → listed.getD 0 false = true
 l51 : listed.getD 51 false = true → listed.getD 0 false = true
 fl : dm listed.toList ≤ 60
theorem xk {listed : Array Bool} {i j : Nat} (h : (listed.setIfInBounds i true).getD j false = true) : j = i ∨ listed.getD j false = true := by
 by_cases hij : i = j
 ·exact .inl hij.symm
 ·rw [getD_set_ne false hij] at h; exact .inr h
section
variable {P : Program} {gA gB n : Nat} {w0 : World} {ops : Array Oper} {listed : Array Bool} {a : Act} {w : World} {i : Nat} {o : Oper} {d : Nat}
theorem oM {s k : Nat} (h : TI gA gB n w0 ops listed a w) (hdep : ∀ e ∈ o.after,Region.binds .any e = true → listed.getD e.on false = true) (hb : yF ops.toList o s k = true) : KOk gA gB k (a.tmps.getD s undef) := by
 obtain ⟨e,he,ht⟩ := List.any_eq_true.1 hb
 split at ht
 ·rename_i o' h1 h2
  split at ht
  ·rename_i d hd
   split at ht
   ·rename_i h3
    rw [← Nat.eq_of_beq_eq_true h3, ← Nat.eq_of_beq_eq_true ht]
    exact h.sl _ o' d (by simpa using h2) hd (hdep e (by simpa using he) h1)
   ·cases ht
  ·cases ht
 ·cases ht
theorem xl {j : Nat} (hdep : ∀ e ∈ o.after,Region.binds .any e = true → listed.getD e.on false = true) (hb : onB o j = true) : listed.getD j false = true := by
 obtain ⟨e,he,ht⟩ := List.any_eq_true.1 hb
 split at ht
 ·rename_i h1
  rw [← Nat.eq_of_beq_eq_true ht]; exact hdep e (by simpa using he) h1
 ·cases ht
theorem TI.val {v : Value} {w' : World} (hu : mY n ops.toList = true) (h : TI gA gB n w0 ops listed a w) (ho : ops[i]? = some o) (hf : dm (listed.setIfInBounds i true).toList + 1 = dm listed.toList) (hd : o.dst = some d)
  (hv : KOk gA gB (gz i o) v) (hch : Ch (fun _ => False) w w') (h5 : d ≠ 5) (h40 : d ≠ 40) (h00 : d ≠ 0) (hi0 : i ≠ 0) (hi50 : i ≠ 50) (hi51 : i ≠ 51) : TI gA gB n w0 ops (listed.setIfInBounds i true) (a.put o.dst v) w' := by
 obtain ⟨u1,u2,u3,u4⟩ := qn hu i o d (by simpa using ho) hd
 have hdn : d < a.tmps.size := by rw [h.size]; exact u3
 rw [hd]
 have old : ∀ j,j ≠ i → (listed.setIfInBounds i true).getD j false = listed.getD j false := fun j hj => getD_set_ne false (Ne.symm hj)
 refine ⟨by simp [Act.put,h.size],h.defers,?_,?_,?_,h.ch.trans hch,?_,?_,?_,by have := h.fl; omega⟩
 ·rw [cd hdn,if_neg (Ne.symm u1)]; exact h.s1
 ·rw [cd hdn,if_neg (Ne.symm u2)]; exact h.s2
 ·intro j o' d' hj hd' hl
  rcases xk hl with rfl | hl
  ·rw [ho] at hj; cases hj
   rw [hd] at hd'; cases hd'
   rw [cd hdn,if_pos rfl]; exact hv
  ·rw [cd hdn]
   split
   ·rename_i e; subst e
    have := u4 j o' (by simpa using hj) hd'
    subst this
    rw [ho] at hj; cases hj; exact hv
   ·exact h.sl j o' d' hj hd' hl
 ·intro h0
  rw [old 0 (Ne.symm hi0)] at h0
  obtain ⟨b,es,cl,m1,m2,m3,m4,m5,m6,m7⟩ := h.mp h0
  refine ⟨b,es,cl,by rw [cd hdn,if_neg (Ne.symm h5)]; exact m1,m2,hch.at m3 fun h => h,m4,by omega,fun h => ?_,fun h => ?_⟩
  ·rw [old 50 (Ne.symm hi50)] at h; rw [cd hdn,if_neg (Ne.symm h40)]; exact m6 h
  ·rw [old 51 (Ne.symm hi51)] at h; rw [cd hdn,if_neg (Ne.symm h00)]; exact m7 h
 ·rw [old 50 (Ne.symm hi50),old 0 (Ne.symm hi0)]; exact h.l50
 ·rw [old 51 (Ne.symm hi51),old 0 (Ne.symm hi0)]; exact h.l51
theorem xm (t : Nat) : a.eval (.tmp t) = a.tmps.getD t undef := rfl
structure K8 (P : Program) (EN MT SL dv ST : Nat) : Prop where
 ok : aE P dv = true
 div : ∀ (w : World) g,Ret P dv [.func (.func g) #[] #[]] w fun v w' => IsF v ∧ Ch (fun _ => False) w w'
 slU : ∃ e inf,P.underlying SL = some (.slice e) ∧ P.info? e = some inf ∧ inf.size = 1
 built : ∀ p m c f x y,P.built EN [(0,.slice p m c),(1,.func f x y)] = some #[.slice p m c,.func f x y]
 mtU : P.underlying MT = some (.map ST EN)
 stU : P.underlying ST = some .string
theorem K9 {SL : TypeId} {g m : Nat} {hU : ∃ e inf,P.underlying SL = some (.slice e) ∧ P.info? e = some inf ∧ inf.size = 1} :
  (Instr.sliceAt SL (.slice (some ⟨g,0,none⟩) m 2) none (some (.int .i64 1)) none).run P w = .ok (.slice (some ⟨g,0,none⟩) 1 2) w := by
 obtain ⟨e,inf,h1,h2,h3⟩ := hU
 have hb := nD (P := P) (w := w) (len := m) (cap := 2) (kk := .i64) (m := 1) (by omega) (by omega)
 simp only [Instr.sliceAt,Sem.run_bind,run_underlying h1,Result.andThen_ok,Instr.slice,hb,sizeOf,typeInfo,run_program,h2,Sem.run_pure]
 simp [Addr.add]
theorem sC {d : Nat} {x : Option Nat} (h : isD d x = true) : x = some d := by
 unfold isD at h; split at h
 ·rw [Nat.eq_of_beq_eq_true h]
 ·cases h
theorem yK {y : Option Operand} {s : Nat} (h : y.bind oT = some s) : y = some (.tmp s) := by
 cases y with
 | none => cases h
 | some x => rw [ql h]
theorem I2 {MT : Nat} (h : c0 MT o = true) : o.dst = some 5 ∧ o.op = .makeMap MT none := by
 unfold c0 at h; split at h
 ·rename_i h1 h2; rw [Nat.eq_of_beq_eq_true h] at h2; exact ⟨sC h1,K5 h2⟩
 ·cases h
theorem E5 (h : c50 o = true) : o.dst = some 40 ∧ o.op = .move (.tmp 5) ∧ onB o 0 = true := by
 unfold c50 at h; split at h
 ·rename_i h1 h2; exact ⟨sC h1,C6 (yK (sC h2)),h⟩
 ·cases h
theorem E6 (h : c51 o = true) : o.dst = some 0 ∧ o.op = .assign (.tmp 40) ∧ onB o 50 = true ∧ onB o 0 = true := by
 unfold c51 at h; split at h
 ·rename_i h1 h2 h3; exact ⟨sC h1,Ha (yK (sC h2)),h3,h⟩
 ·cases h
theorem E7 {EN MT SL dv : Nat} {l : List Oper} (h : chk EN MT SL dv l i o = true) : o.guard = none ∧ (∀ e ∈ o.after,e.on < i) ∧ ((i = 0 ∧ c0 MT o = true) ∨ (i = 50 ∧ c50 o = true) ∨ (i = 51 ∧ c51 o = true) ∨ (0 < i ∧ i < 50 ∧ K7 EN MT SL dv l o = true)) := by
 unfold chk at h
 split at h
 ·rename_i h1 h2
  exact ⟨h1,fun e he => by simpa [Nat.blt_eq] using List.all_eq_true.1 h2 e (by simpa using he),.inl ⟨rfl,h⟩⟩
 ·rename_i i h1 h2
  refine ⟨h1,fun e he => by simpa [Nat.blt_eq] using List.all_eq_true.1 h2 e (by simpa using he),.inr ?_⟩
  split at h
  ·rename_i h3; exact .inl ⟨by rw [Nat.eq_of_beq_eq_true h3],h⟩
  ·rename_i h3 _; exact .inr (.inl ⟨by rw [Nat.eq_of_beq_eq_true h3],h⟩)
  ·rename_i h3 _ _
   have : i < 49 := by simpa [Nat.blt_eq] using h3
   exact .inr (.inr ⟨by omega,by omega,h⟩)
  ·cases h
 ·cases h
theorem NK {EN MT SL dv ST : Nat} {Q : Exit → Act → World → Prop} (H : K8 P EN MT SL dv ST) (hu : mY n ops.toList = true) (hc : yI EN MT SL dv ops.toList 0 ops.toList = true) (hsz : ops.size = 52) (hls : listed.size = ops.size)
  (h : TI gA gB n w0 ops listed a w) (hi : i ∈ Region.ready .any ops listed) : wpOpIn (FW none) 0 P ops Q i (TI gA gB n w0 ops (listed.setIfInBounds i true)) a w := by
 obtain ⟨h0,o,ho,hdep⟩ := mem_ready.1 hi
 have hit : i < ops.size := (Array.getElem?_eq_some_iff.1 ho).1
 have hil : i < listed.size := by omega
 have hfl : listed.toList[i]? = some false := by
  simp only [Array.getD,hil,dif_pos] at h0
  simp [hil]; simpa using h0
 have hf : dm (listed.setIfInBounds i true).toList + 1 = dm listed.toList := by rw [Array.toList_setIfInBounds]; exact qk _ i hfl
 have hl0 : listed.getD i false = false := by
  simp only [Array.getD,hil,dif_pos] at h0 ⊢; exact h0
 have hself : (listed.setIfInBounds i true).getD i false = true := by simp [Array.getD,hil]
 have old : ∀ j,j ≠ i → (listed.setIfInBounds i true).getD j false = listed.getD j false := fun j hj => getD_set_ne false (Ne.symm hj)
 have hck := fun (j : Nat) (o : Oper) (hj : ops[j]? = some o) => by
  have := yJ ops.toList 0 j o hc (by simpa using hj)
  rw [Nat.zero_add] at this
  exact E7 this
 have get : ∀ j,j < 52 → ∃ o,ops[j]? = some o := fun j hj => ⟨ops[j],by simp⟩
 obtain ⟨o0,ho0⟩ := get 0 (by omega)
 obtain ⟨o50,ho50⟩ := get 50 (by omega)
 obtain ⟨o51,ho51⟩ := get 51 (by omega)
 have d0 : o0.dst = some 5 := by
  rcases (hck 0 o0 ho0).2.2 with ⟨_,hc⟩ | ⟨h,_⟩ | ⟨h,_⟩ | ⟨h,_⟩
  ·exact (I2 hc).1
  all_goals omega
 have d50 : o50.dst = some 40 := by
  rcases (hck 50 o50 ho50).2.2 with ⟨h,_⟩ | ⟨_,hc⟩ | ⟨h,_⟩ | ⟨_,h,_⟩
  ·omega
  ·exact (E5 hc).1
  all_goals omega
 have d51 : o51.dst = some 0 := by
  rcases (hck 51 o51 ho51).2.2 with ⟨h,_⟩ | ⟨h,_⟩ | ⟨_,hc⟩ | ⟨_,h,_⟩
  ·omega
  ·omega
  ·exact (E6 hc).1
  ·omega
 have only : ∀ (j : Nat) (o' : Oper) d,ops[j]? = some o' → o'.dst = some d → o.dst = some d → i = j := fun j o' d hj hd' hd => (qn hu i o d (by simpa using ho) hd).2.2.2 j o' (by simpa using hj) hd'
 have hdn : ∀ d,o.dst = some d → d ≠ 1 ∧ d ≠ 2 ∧ d < a.tmps.size := fun d hd => by
  obtain ⟨u1,u2,u3,_⟩ := qn hu i o d (by simpa using ho) hd
  exact ⟨u1,u2,by rw [h.size]; exact u3⟩
 obtain ⟨hg,_,hcase⟩ := hck i o ho
 have ab : ∀ (d : Nat) (v : Value),o.dst = some d → KOk gA gB (gz i o) v → ∀ (j : Nat) (o' : Oper) (d' : Nat),ops[j]? = some o' → o'.dst = some d' → (listed.setIfInBounds i true).getD j false = true → KOk gA gB (gz j o') ((a.put o.dst v).tmps.getD d' undef) := by
  intro d v hd hv j o' d' hj hd' hl
  rw [hd,cd (hdn d hd).2.2]
  rcases xk hl with rfl | hl
  ·rw [ho] at hj; cases hj
   rw [hd] at hd'; cases hd'
   rw [if_pos rfl]; exact hv
  ·split
   ·rename_i e; subst e
    have := only j o' _ hj hd' hd
    subst this
    rw [ho] at hj; cases hj; exact hv
   ·exact h.sl j o' d' hj hd' hl
 rcases hcase with ⟨rfl,hc⟩ | ⟨rfl,hc⟩ | ⟨rfl,hc⟩ | ⟨hi1,hi2,hc⟩
 ·-- the map is made
  obtain ⟨hd,hop⟩ := I2 hc
  obtain ⟨u1,u2,u3⟩ := hdn _ hd
  have hl50 : ¬ listed.getD 50 false = true := fun e => by have := h.l50 e; rw [hl0] at this; cases this
  have hl51 : ¬ listed.getD 51 false = true := fun e => by have := h.l51 e; rw [hl0] at this; cases this
  refine iu (v := .map (some w.heap.size)) (w' := w.alloc (.map #[] 0)) ho hg (by simp [ed,hop]) (by simp [execOp,hop,Instr.makeMap]) ?_
  have sl := ab 5 (.map (some w.heap.size)) hd (by simp [gz,hop,KOk])
  rw [hd] at sl ⊢
  refine ⟨by simp [Act.put,h.size],h.defers,by rw [cd u3,if_neg (by omega)]; exact h.s1,by rw [cd u3,if_neg (by omega)]; exact h.s2,sl,h.ch.trans (Ch.alloc _ _ _),fun _ => ?_,fun _ => hself,fun _ => hself,by have := h.fl; omega⟩
  refine ⟨w.heap.size, #[],0,by rw [cd u3,if_pos rfl],h.ch.size,heap_alloc_new w _,fun i e he => by simp at he,by have := h.fl; have e0 : (#[] : Array MapEntry).size = 0 := rfl; omega,fun e => ?_,fun e => ?_⟩
  ·rw [old 50 (by omega)] at e; exact absurd e hl50
  ·rw [old 51 (by omega)] at e; exact absurd e hl51
 ·-- it is handed on
  obtain ⟨hd,hop,hon⟩ := E5 hc
  obtain ⟨u1,u2,u3⟩ := hdn _ hd
  have hl := xl hdep hon
  obtain ⟨b,es,cl,m1,m2,m3,m4,m5,m6,m7⟩ := h.mp hl
  refine iu (v := .map (some b)) (w' := w) ho hg (by simp [ed,hop]) (by simp [execOp,hop,xm,m1]) ?_
  have sl := ab 40 (.map (some b)) hd (by simp [gz,KOk])
  rw [hd] at sl ⊢
  refine ⟨by simp [Act.put,h.size],h.defers,by rw [cd u3,if_neg (by omega)]; exact h.s1,by rw [cd u3,if_neg (by omega)]; exact h.s2,sl,h.ch,fun _ => ?_,fun _ => by rw [old 0 (by omega)]; exact hl,fun _ => by rw [old 0 (by omega)]; exact hl,by have := h.fl; omega⟩
  exact ⟨b,es,cl,by rw [cd u3,if_neg (by omega)]; exact m1,m2,m3,m4,by omega,fun _ => by rw [cd u3,if_pos rfl],fun e => by rw [old 51 (by omega)] at e; rw [cd u3,if_neg (by omega)]; exact m7 e⟩
 ·obtain ⟨hd,hop,hon,hon0⟩ := E6 hc
  obtain ⟨u1,u2,u3⟩ := hdn _ hd
  have hl := xl hdep hon0
  obtain ⟨b,es,cl,m1,m2,m3,m4,m5,m6,m7⟩ := h.mp hl
  have m8 := m6 (xl hdep hon)
  refine iu (v := .map (some b)) (w' := w) ho hg (by simp [ed,hop]) (by simp [execOp,hop,xm,m8]) ?_
  have sl := ab 0 (.map (some b)) hd (by simp [gz,KOk])
  rw [hd] at sl ⊢
  refine ⟨by simp [Act.put,h.size],h.defers,by rw [cd u3,if_neg (by omega)]; exact h.s1,by rw [cd u3,if_neg (by omega)]; exact h.s2,sl,h.ch,fun _ => ?_,fun _ => by rw [old 0 (by omega)]; exact hl,fun _ => by rw [old 0 (by omega)]; exact hl,by have := h.fl; omega⟩
  exact ⟨b,es,cl,by rw [cd u3,if_neg (by omega)]; exact m1,m2,m3,m4,by omega,fun e => by rw [old 50 (by omega)] at e; rw [cd u3,if_neg (by omega)]; exact m6 e,fun _ => by rw [cd u3,if_pos rfl]⟩
 ·have n5 : ∀ d,o.dst = some d → d ≠ 5 ∧ d ≠ 40 ∧ d ≠ 0 := fun d hd => ⟨fun e => by subst e; have := only 0 o0 _ ho0 d0 hd; omega,fun e => by subst e; have := only 50 o50 _ ho50 d50 hd; omega,fun e => by subst e; have := only 51 o51 _ ho51 d51 hd; omega⟩
  have vl : ∀ (v : Value) (w' : World) (d : Nat),o.dst = some d → KOk gA gB (gz i o) v → Ch (fun _ => False) w w' → TI gA gB n w0 ops (listed.setIfInBounds i true) (a.put o.dst v) w' := fun v w' d hd hv hch => by
   obtain ⟨q1,q2,q3⟩ := n5 d hd
   exact h.val hu ho hf hd hv hch q1 q2 q3 (by omega) (by omega) (by omega)
  have hk : Nat.ble 50 i = false := by
   cases hb : Nat.ble 50 i with
   | false => rfl
   | true => have := Nat.le_of_ble_eq_true hb; omega
  unfold K7 at hc
  split at hc
  ·-- a move
   rename_i hm
   unfold MI at hm
   split at hm
   ·rename_i d s hd hs
    have hop := C6 (yK hs)
    have hL : IsL gA gB (a.tmps.getD s undef) := by
     split at hm
     ·rename_i h1; rw [Nat.eq_of_beq_eq_true h1]; exact h.s1
     ·rw [Nat.eq_of_beq_eq_true hm]; exact h.s2
    exact iu (v := a.tmps.getD s undef) (w' := w) ho hg (by simp [ed,hop]) (by simp only [execOp,hop]; rfl) (vl _ w d hd (by simp only [gz,hk,hop,KOk]; exact hL) (Ch.refl _ _))
   ·cases hm
  ·split at hc
   ·-- a list cut
    rename_i hm
    unfold I0 at hm
    split at hm
    ·rename_i d t x y hd hs
     split at hm
     ·rename_i s h1 h2 h3
      have hop := IY hs
      rw [Nat.eq_of_beq_eq_true h1,NH h2,ql h3] at hop
      obtain ⟨g,m,hv,hgg,hm2⟩ := oM h hdep hm
      exact iu (v := .slice (some ⟨g,0,none⟩) 1 2) (w' := w) ho hg (by simp [ed,hop]) (by simp [execOp,hop,hv,K9 (hU := H.slU),Act.eval]) (vl _ w d hd (by simp only [gz,hk,hop,KOk]; exact ⟨g,1,rfl,hgg,by omega⟩) (Ch.refl _ _))
     ·cases hm
    ·cases hm
   ·split at hc
    ·-- an entry
     rename_i hm
     unfold I1 at hm
     split at hm
     ·rename_i d t ps hd hs
      have hop := IZ hs
      have fin : ∀ s (y : Operand),t = EN → ps.toList = [(0,.tmp s),(1,y)] → IsL gA gB (a.tmps.getD s undef) → IsF (a.eval y) → wpOpIn (FW none) 0 P ops Q i (TI gA gB n w0 ops (listed.setIfInBounds i true)) a w := by
       intro s y ht hps hL hF
       subst ht
       obtain ⟨g,m,hv,hgg,hm2⟩ := hL
       obtain ⟨f,x1,x2,hv2⟩ := hF
       have hb := run_build (P := P) w t #[(0,.slice (some ⟨g,0,none⟩) m 2),(1,.func f x1 x2)] _ (H.built _ _ _ _ _ _)
       have hps' : ps = #[(0,.tmp s),(1,y)] := Array.ext' hps
       exact iu (v := .agg #[.slice (some ⟨g,0,none⟩) m 2,.func f x1 x2]) (w' := w) ho hg (by simp [ed,hop]) (by simp [execOp,hop,hps',xm,hv,hv2,hb]) (vl _ w d hd (by simp only [gz,hk,hop,KOk]; exact ⟨_,_,rfl,⟨g,m,rfl,hgg,hm2⟩,_,_,_,rfl⟩) (Ch.refl _ _))
      split at hm
      ·rename_i x y ht hps
       have ht := Nat.eq_of_beq_eq_true ht
       split at hm
       ·rename_i s f h1 h2
        rw [ql h1] at hps
        exact fin s y ht hps (oM h hdep hm) (by rw [Hc h2]; exact ⟨_,_,_,rfl⟩)
       ·rename_i s c h1 h2 h3
        split at hm
        ·rename_i h4
         rw [ql h1] at hps
         exact fin s y ht hps (oM h hdep h4) (by rw [ql h3,xm]; exact oM h hdep hm)
        ·cases hm
       ·cases hm
      ·cases hm
     ·cases hm
    ·split at hc
     ·-- a function made
      rename_i hm
      unfold MJ at hm
      split at hm
      ·rename_i d f args ts hd hs
       have hop := K6 hs
       split at hm
       ·rename_i g x h1 h2
        split at hm
        ·rename_i h3
         obtain ⟨q,hq⟩ := Option.isSome_iff_exists.1 hm
         rw [Hc hq] at h2
         rw [Hc h1,Nat.eq_of_beq_eq_true h3,show args = #[.func q] from Array.ext' h2] at hop
         have hrun : (execOp a.eval o).run P w = .ok (.enter dv [.func (.func q) #[] #[]].toArray) w := by
          unfold execOp
          simp only [hop,resolve,Act.eval,Deferred.ofValue,pure_bind,invoke]
          have e : (#[] ++ Array.map a.eval #[Operand.func q]) ++ #[] = [.func (.func q) #[] #[]].toArray := by apply Array.ext'; simp [Act.eval]
          rw [e]
          exact fO H.ok
         exact yE ho hg (KY (by simp [hop]) hrun (H.div w q) fun v w' hR => vl v w' d hd (by simp only [gz,hk,hop,KOk]; exact hR.1) hR.2)
        ·cases hm
       ·cases hm
      ·cases hm
     ·-- an entry put in
      unfold PR at hc
      split at hc
      ·rename_i t m k v hd hs
       have hop := Hb hs
       split at hc
       ·rename_i ks s h1 h2 h3 h4 h5
        split at hc
        ·rename_i h6
         rw [Nat.eq_of_beq_eq_true h1,ql h3,NJ h4,ql h5] at hop
         have hl := xl hdep h2
         obtain ⟨b,es,cl,m1,m2,m3,m4,m5,m6,m7⟩ := h.mp hl
         obtain ⟨sl,fv,hv,hL,hF⟩ := oM h hdep hc
         have hks : ∀ x ∈ es.toList,MapKept.IsKey .string x.key := fun x hx => by
          obtain ⟨j,hj⟩ := List.getElem?_of_mem hx
          obtain ⟨s',_,_,hk',_⟩ := m4 j x (by simpa using hj)
          rw [hk']; trivial
         obtain ⟨es',cl',hrun,hes⟩ := gX (P := P) (w := w) (v := .agg #[sl,fv]) (s := ks) H.mtU H.stU m3 hks
         obtain ⟨g1,g2⟩ := jy (w := w) (b := b) (o := .map es' cl') (aJ m3)
         have he : a.put o.dst undef = a := by rw [hd]; rfl
         refine zM (w' := { w with heap := w.heap.setIfInBounds b (.map es' cl') }) ho hg (by simp [ed,hop]) hd (by simp [execOp,hop,m1,hv,Act.eval,hrun]) ?_
         have hks6 := Nat.le_of_ble_eq_true h6
         have hnew : ∀ (j : Nat) (e : MapEntry),es'[j]? = some e → ∃ s sl fv,e.key = .string s ∧ s.size ≤ 64 ∧ e.val = .agg #[sl,fv] ∧ IsL gA gB sl ∧ IsF fv := by
          intro j e he
          rcases hes with rfl | ⟨j',e',hj',rfl⟩
          ·rw [Array.getElem?_push] at he
           split at he
           ·cases he; exact ⟨ks,sl,fv,rfl,hks6,rfl,hL,hF⟩
           ·exact m4 j e he
          ·rw [Array.getElem?_modify] at he
           split at he
           ·obtain ⟨e1,_,rfl⟩ := Option.map_eq_some_iff.1 he; exact ⟨ks,sl,fv,rfl,hks6,rfl,hL,hF⟩
           ·exact m4 j e he
         have hes1 : es'.size ≤ es.size + 1 := by rcases hes with rfl | ⟨j',e',hj',rfl⟩ <;> simp
         refine ⟨h.size,h.defers,h.s1,h.s2,fun j o' d' hj hd' hl' => ?_,h.ch.trans' g1 (fun c hc e => by omega),fun _ => ?_,?_,?_,by have := h.fl; omega⟩
         ·rcases xk hl' with rfl | hl'
          ·rw [ho] at hj; cases hj; rw [hd] at hd'; cases hd'
          ·exact h.sl j o' d' hj hd' hl'
         ·refine ⟨b,es',cl',m1,m2,g2,hnew,by omega,fun e => ?_,fun e => ?_⟩
          ·rw [old 50 (by omega)] at e; exact m6 e
          ·rw [old 51 (by omega)] at e; exact m7 e
         ·rw [old 50 (by omega),old 0 (by omega)]; exact h.l50
         ·rw [old 51 (by omega),old 0 (by omega)]; exact h.l51
        ·cases hc
       ·cases hc
      ·cases hc
end
def I3 (SL : Nat) (ops : List Oper) : Code := .seq (.region 0 ([⟨some 0,.assign (.const (.map none)),0, "", #[],none⟩] : List Oper).toArray false)
 (.seq (.region 0 ([⟨some 3,.buildSlice SL 2 #[(0,.const (.int .i64 1)),(1,.const (.int .i64 1))],0, "", #[],none⟩,⟨some 4,.buildSlice SL 2 #[(0,.const (.int .i64 2)),(1,.const (.int .i64 2))],0, "", #[],none⟩,⟨some 1,.assign (.tmp 3),0, "", #[],none⟩,⟨some 2,.assign (.tmp 4),0, "", #[],none⟩] : List Oper).toArray false)
  (.seq (.region 0 ops.toArray true) .ret))
def PS (P : Program) (f : FuncId) : List Oper := match (P.funcs[f]?).bind (·.body) with
 | some c => (match norm c with | .seq _ (.seq _ (.seq (.region _ ops _) _)) => ops.toList | _ => [])
 | none => []
theorem E8 {P : Program} {w : World} {SL e : TypeId} {n1 n2 : Int} (hs : P.underlying SL = some (.slice e)) (hT : One P e (.int .i64 0)) :
  (Instr.buildSlice SL 2 #[(0,.int .i64 n1),(1,.int .i64 n2)]).run P w = .ok (.slice (some ⟨w.heap.size,0,none⟩) 2 2) (w.alloc (.cells #[.int .i64 n1,.int .i64 n2] e)) := by
 obtain ⟨i,hi,ha,hsz,hz,_⟩ := hT.is
 have hr : Array.range 2 = #[0,1] := rfl
 have hc : ∀ n : Int,(Value.int .i64 n).cells = #[.int .i64 n] := fun _ => rfl
 simp [Instr.buildSlice,run_underlying hs,sizeOf,typeInfo,zeroValue,hi,hz,hsz,newRow,hr,Instr.fill,hc]
theorem I4 {P : Program} {f : FuncId} {EN MT LT dv ST e : Nat} {ops : List Oper} (hB : Body P f 41 [.tmp 0] (I3 LT ops)) (H : K8 P EN MT LT dv ST) (hu : mY 41 ops = true) (hc : yI EN MT LT dv ops 0 ops = true) (hsz : ops.length = 52)
  (hm : P.follows .mixedOrders = true) (hs : P.underlying LT = some (.slice e)) (hT : One P e (.int .i64 0)) (w : World) :
  Ret P f [] w fun v w' => ∃ gA gB b es cl,v = .map (some b) ∧ Ch (fun _ => False) w w' ∧ w.heap.size ≤ gA ∧ gA < b ∧ w.heap.size ≤ gB ∧ gB < b ∧ w'.heap[gA]? = some (.cells #[.int .i64 1,.int .i64 1] e (0,0)) ∧ w'.heap[gB]? = some (.cells #[.int .i64 2,.int .i64 2] e (0,0)) ∧
   w'.heap[b]? = some (.map es cl) ∧ KZ gA gB es ∧ es.size ≤ 60 := by
 refine bW hB ?_
 have hs0 := SL.init (n := 41) [] rfl
 revert hs0
 generalize ({ tmps := _,defers := [] } : Act) = a
 intro h0
 refine ae (aa ?_)
 refine L h0 rfl rfl (ah h0 (.inr rfl) rfl) fun a h0 => ?_
 refine Le (ae (aa ?_))
 refine L (v := .slice (some ⟨w.heap.size,0,none⟩) 2 2) (w' := w.alloc (.cells #[.int .i64 1,.int .i64 1] e)) h0 rfl rfl (by simp [execOp,Act.eval,E8 hs hT]) fun a h0 => ?_
 have g1 := Ch.alloc (fun _ => False) w (.cells #[.int .i64 1,.int .i64 1] e)
 have e1 := heap_alloc_new w (.cells #[.int .i64 1,.int .i64 1] e)
 have z1 : (w.alloc (.cells #[.int .i64 1,.int .i64 1] e)).heap.size = w.heap.size + 1 := by simp
 generalize w.alloc (.cells #[.int .i64 1,.int .i64 1] e) = w1 at g1 e1 z1 h0 ⊢
 refine L (v := .slice (some ⟨w1.heap.size,0,none⟩) 2 2) (w' := w1.alloc (.cells #[.int .i64 2,.int .i64 2] e)) h0 rfl rfl (by simp [execOp,Act.eval,E8 hs hT]) fun a h0 => ?_
 have g2 := Ch.alloc (fun _ => False) w1 (.cells #[.int .i64 2,.int .i64 2] e)
 have e2 := heap_alloc_new w1 (.cells #[.int .i64 2,.int .i64 2] e)
 have e3 := g2.at e1 fun h => h
 have z2 : (w1.alloc (.cells #[.int .i64 2,.int .i64 2] e)).heap.size = w1.heap.size + 1 := by simp
 generalize w1.alloc (.cells #[.int .i64 2,.int .i64 2] e) = w2 at g2 e2 e3 z2 h0 ⊢
 refine L h0 rfl rfl (ah h0 (.inr rfl) rfl) fun a h0 => ?_
 refine L h0 rfl rfl (ah h0 (.inr rfl) rfl) fun a h0 => ?_
 have g3 := g1.trans g2
 refine Le (ae (MH (EZ 52 hsz hm ?_)))
 have g4 : Ch (fun _ => False) w2 { w2 with drawn := w2.drawn + 1 } := Ch.drew _ w2
 refine E4 (I := TI w.heap.size w1.heap.size 41 w2 ops.toArray) (fun i o ho x hx => ?_) (fun listed a w i hls hI hi => NK H (by simpa using hu) (by simpa using hc) (by simpa using hsz) hls hI hi) (fun listed a w3 hall hI => ?_) 52 _ _ _ (by simp [hsz]) (by simp [dm]) ?_
 ·have := yJ ops 0 i o hc (by simpa using ho)
  rw [Nat.zero_add] at this
  exact (E7 this).2.1 x hx
 ·obtain ⟨b,es,cl,m1,m2,m3,m4,m5,m6,m7⟩ := hI.mp (hall 0 (by simp; omega))
  have m8 := m7 (hall 51 (by simp; omega))
  refine cW ⟨hI.defers,.map (some b),⟨[.map (some b)],by simp [fg,m8],rfl⟩,w.heap.size,w1.heap.size,b,es,cl,rfl,g3.trans hI.ch,Nat.le_refl _,by omega,by omega,by omega,hI.ch.at e3 fun h => h,hI.ch.at e2 fun h => h,m3,m4,by omega⟩
 ·refine ⟨h0.size,h0.defers,?_,?_,fun j o d hj hd hl => ?_,g4,fun h => ?_,fun h => ?_,fun h => ?_,by simp [dm]⟩
  ·rw [h0.ab 1 _ rfl]; exact ⟨_,2,rfl,.inl rfl,by omega⟩
  ·rw [h0.ab 2 _ rfl]; exact ⟨_,2,rfl,.inr rfl,by omega⟩
  all_goals (rw [getD_replicate_false] at *; contradiction)
def rowOf (gA : Nat) (x : MapEntry) : List PV := match x.val with
 | .agg cs => match cs.toList with
  | .slice (some p) m _ :: _ => [.v x.key,.sl (List.replicate m [.v (.int .i64 (if p.block = gA then 1 else 2))]),.un]
  | _ => []
 | _ => []
theorem La {w : World} {bad : Nat → Prop} {lo g m : Nat} {e : TypeId} {n : Int} (hb : w.heap[g]? = some (.cells #[.int .i64 n,.int .i64 n] e (0,0))) (hbad : ¬ bad g) (hlo : lo ≤ g) (hm : m ≤ 2) :
  Rep w bad lo (.sl (List.replicate m [.v (.int .i64 n)])) (.slice (some ⟨g,0,none⟩) m 2) := by
 have := Rep.sl (w := w) (bad := bad) (lo := lo) (List.replicate m [.v (.int .i64 n)]) g 0 2 _ e (0,0) 1 (fun _ _ => .int .i64 n) (by simpa using hm) hb hbad hlo (fun _ => rfl)
  (fun i row hi => by have := List.mem_of_getElem? hi; rw [(List.mem_replicate.1 this).2]; rfl)
  (fun i row j x hi hj => by
   have hi2 : i < m := by have := (List.getElem?_eq_some_iff.1 hi).1; simpa using this
   have hr := (List.mem_replicate.1 (List.mem_of_getElem? hi)).2
   subst hr
   match j,hj with
   | 0,_ =>
    match i,hi2 with
    | 0,_ => rfl
    | 1,_ => rfl
    | i + 2,h => omega
   | j + 1,hj => simp at hj)
  (fun i row j x hi hj => by
   have hr := (List.mem_replicate.1 (List.mem_of_getElem? hi)).2
   subst hr
   match j,hj with
   | 0,hj => simp at hj; subst hj; exact .v _ rfl
   | j + 1,hj => simp at hj)
 simpa using this
theorem DS {P : Program} {f : FuncId} {e mt : TypeId} (hmt : 1000000 ≤ mt) (hc : cks P mt = [.str,.sl e,.any]) (he : cks P e = [.int .i64])
  (h : ∀ w : World,Ret P f [] w fun v w' => ∃ gA gB b es cl,v = .map (some b) ∧ Ch (fun _ => False) w w' ∧ w.heap.size ≤ gA ∧ gA < b ∧ w.heap.size ≤ gB ∧ gB < b ∧ w'.heap[gA]? = some (.cells #[.int .i64 1,.int .i64 1] e (0,0)) ∧ w'.heap[gB]? = some (.cells #[.int .i64 2,.int .i64 2] e (0,0)) ∧
   w'.heap[b]? = some (.map es cl) ∧ KZ gA gB es ∧ es.size ≤ 60) :
  aC P aH ⟨f,0,[],[],[],[],[],⟨0,[]⟩,[⟨1,[(0,mt)],[],[],[(11,.mp (some 2) (some 0) true)],[.ref 11]⟩]⟩ := by
 refine gi rfl fun ρ hok => ?_
 intro lo w E vals hlo ht hv
 have hvl := bJ hv
 obtain rfl : vals = [] := List.length_eq_zero_iff.1 (by simpa [dvs] using hvl.symm)
 refine Calls.mono (h w) ?_
 rintro e' w' ⟨v,rfl,gA,gB,b,es,cl,rfl,hch,a1,a2,b1,b2,k1,k2,k3,k4,k5⟩
 have ht' : a8 w E lo [] := ht
 have hne : gA ≠ gB := fun h => by subst h; rw [k1] at k2; simp at k2
 have nb : ∀ g,w.heap.size ≤ g → g < b → ¬ (E.add 11 (.map (some b)) b).bad g := fun g h1 h2 => fm (by
  simp only [Env.add]; rw [if_neg (by omega)]
  cases hq : E.own g with
  | none => rfl
  | some k => have := (ht'.own g k hq).1; omega) fun hx => by have := (ht'.ext g hx).1; omega
 have hrow : ∀ (i : Nat) (x : MapEntry),es[i]? = some x → ∃ s sl fv g m n,x.key = .string s ∧ s.size ≤ 64 ∧ x.val = .agg #[sl,fv] ∧ sl = .slice (some ⟨g,0,none⟩) m 2 ∧ m ≤ 2 ∧ IsF fv ∧ w.heap.size ≤ g ∧ g < b ∧ w'.heap[g]? = some (.cells #[.int .i64 n,.int .i64 n] e (0,0)) ∧ (n = 1 ∨ n = 2) ∧
   rowOf gA x = [.v (.string s),.sl (List.replicate m [.v (.int .i64 n)]),.un] := by
  intro i x hx
  obtain ⟨s,sl,fv,h1,h2,h3,⟨g,m,rfl,h4,h5⟩,h6⟩ := k4 i x hx
  rcases h4 with rfl | rfl
  ·exact ⟨s,_,fv,g,m,1,h1,h2,h3,rfl,h5,h6,a1,a2,k1,.inl rfl,by simp [rowOf,h1,h3]⟩
  ·exact ⟨s,_,fv,g,m,2,h1,h2,h3,rfl,h5,h6,b1,b2,k2,.inr rfl,by simp [rowOf,h1,h3,Ne.symm hne]⟩
 have hM : cn w' (E.add 11 (.map (some b)) b).bad lo (some 2) (es.toList.map (rowOf gA)) es := by
  refine ⟨fun i j => (match es[i]? with | some x => (match bY (some 2) x with | some vs => vs.getD j default | none => default) | none => default),⟨by simp,fun i row x hi hx => ?_⟩,fun i row j x hi hj => ?_⟩
  ·obtain ⟨s,sl,fv,g,m,n,h1,h2,h3,h4,h5,h6,h7,h8,h9,h10,h11⟩ := hrow i x hx
   have he : bY (some 2) x = some [.string s,sl,fv] := by simp [bY,h1,h3]
   refine ⟨_,he,fun j y hj => ?_⟩
   simp only [hx,he]
   have : row = rowOf gA x := by simp [List.getElem?_map,hx] at hi; exact hi.symm
   rw [this,h11] at hj
   have hj3 : j < 3 := by have := (List.getElem?_eq_some_iff.1 hj).1; simpa using this
   rw [List.getD_eq_getElem?_getD,List.getElem?_eq_getElem (by simpa using hj3)]; rfl
  ·simp only [List.getElem?_map,Option.map_eq_some_iff] at hi
   obtain ⟨y,hy,rfl⟩ := hi
   have hy' : es[i]? = some y := by simpa using hy
   obtain ⟨s,sl,fv,g,m,n,h1,h2,h3,h4,h5,h6,h7,h8,h9,h10,h11⟩ := hrow i y hy'
   have he : bY (some 2) y = some [.string s,sl,fv] := by simp [bY,h1,h3]
   simp only [hy',he]
   rw [h11] at hj
   match j,hj with
   | 0,hj => simp at hj; subst hj; exact .v _ rfl
   | 1,hj => simp at hj; subst hj; subst h4; exact La h9 (nb g h7 h8) (Nat.le_trans hlo.le h7) h5
   | 2,hj => simp at hj; subst hj; obtain ⟨_,_,_,rfl⟩ := h6; exact .un _ rfl
   | j + 3,hj => simp at hj
 have hty : aU P mt (es.toList.map (rowOf gA)) := by
  refine .ofC hmt (by simp; omega) fun row hr => ?_
  obtain ⟨x,hx,rfl⟩ := List.mem_map.1 hr
  obtain ⟨i,hi⟩ := List.getElem?_of_mem hx
  obtain ⟨s,sl,fv,g,m,n,h1,h2,h3,h4,h5,h6,h7,h8,h9,h10,h11⟩ := hrow i x (by simpa using hi)
  rw [h11]
  refine Ty.of hc (vF (by unfold bz; omega) (QN (.of (by simp; omega) fun row hr => ?_) ⟨.any,trivial⟩))
  rw [(List.mem_replicate.1 hr).2]
  exact Ty.of he (OD (by rcases h10 with rfl | rfl <;> omega) AX)
 have hlt : b < w'.heap.size := aJ k3
 have hor : OR w' (E.add 11 (.map (some b)) b) lo 11 (.mp (some 2) (es.toList.map (rowOf gA)) true) := ⟨b,es,cl,by simp [Env.add],by simp [Env.add],k3,hM⟩
 have hkeep : ∀ c,c < w.heap.size → w'.heap[c]? = w.heap[c]? := fun c hlt => hch.keep c hlt fun h => h
 refine ⟨.ref 11,_,[(11,.mp (some 2) (es.toList.map (rowOf gA)) true)],E.add 11 (.map (some b)) b,rfl,?_,Fr.add hch.os hch.tape hch.output hch.size hkeep (by omega),a8.add ht' rfl hch.size hkeep (by omega) hlt hlo.le hor,?_,fun k x hx => .inl (Env.k9 ht' rfl k x hx)⟩
 ·exact ⟨_,List.mem_singleton.2 rfl,up ρ 0 (vaL (es.toList.map (rowOf gA))),bR _ _ _ _ (Nat.le_refl _),⟨hok.g.up 0 (ej hty.len),⟨by rw [aI]; exact hty,trivial⟩,trivial,trivial⟩,by simp [dmk,DV.v],by simp [aG,DO.v,lvV,aI,vaL]⟩
 ·simp only [VR]; exact ⟨by simp [Env.add],rfl⟩
end Go.TL.H
