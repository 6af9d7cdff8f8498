/- A small symbolic machine over the operations of the program: pure data, objects of one's own, and what one operation makes of them. -/
import Derived.Calls
import Derived.Laws.Cells
import Derived.Laws.AppendOwn
import Derived.Laws.Tables
namespace Go.TL
inductive PV where
 | v (x : Value)
 | sl (rows : List (List PV))
 | rm (len : Nat) (rows : List (List PV))
 | ls (rows : List (List PV))
 | un
 | mp (a : Option Nat) (rows : List (List PV))
 deriving Inhabited
inductive SV where
 | u
 | p (x : PV) (fr : Bool)
 | ptr (k off : Nat)
 | vec (k : Nat)
 | vptr (k sz i off : Nat)
 | pd (row : List PV) (off : Nat) (fr : Bool)
 | pc (rows : List (List PV)) (fr : Bool)
 | agg (xs : List SV)
 | tup (xs : List SV)
 | ref (k : Nat)
 | fn (f : Fn) (first caps : List SV)
 | ifc (t : TypeId) (x : SV)
 deriving Inhabited
inductive OV where
 | box (t : TypeId) (cells : List SV)
 | vec (t : TypeId) (sz : Nat) (rows : List (List PV)) (fr : Bool)
 | mp (a : Option Nat) (rows : List (List PV)) (fr : Bool)
instance : Inhabited OV := ⟨.box 0 []⟩
abbrev Tab := List (Nat × OV)
structure St where
 ab : List (Nat × SV)
 tab : Tab
 deriving Inhabited
def lk {α : Type} : List (Nat × α) → Nat → Option α
 | [],_ => none
 | (k,x) :: r,n => match Nat.beq k n with
  | true => some x
  | false => lk r n
def rm {α : Type} : List (Nat × α) → Nat → List (Nat × α)
 | [],_ => []
 | (k,x) :: r,n => match Nat.beq k n with
  | true => rm r n
  | false => (k,x) :: rm r n
theorem gk {α : Type} (l : List (Nat × α)) (n : Nat) : lk (rm l n) n = none := by
 induction l with
 | nil => rfl
 | cons h t ih =>
  obtain ⟨k,x⟩ := h
  simp only [rm]
  cases hb : Nat.beq k n with
  | true => exact ih
  | false => simp only [lk,hb]; exact ih
theorem bP {α : Type} (l : List (Nat × α)) (n m : Nat) (h : m ≠ n) : lk (rm l n) m = lk l m := by
 induction l with
 | nil => rfl
 | cons hd t ih =>
  obtain ⟨k,x⟩ := hd
  simp only [rm]
  cases hb : Nat.beq k n with
  | true =>
   have hk : k = n := Nat.eq_of_beq_eq_true hb
   have : Nat.beq k m = false := by
    cases hq : Nat.beq k m with
    | false => rfl
    | true => exact absurd ((Nat.eq_of_beq_eq_true hq).symm.trans hk) h
   simp only [lk,this]; exact ih
  | false =>
   simp only [lk]
   cases Nat.beq k m <;> first | rfl | exact ih
theorem ar {α : Type} (l : List (Nat × α)) (n : Nat) (x : α) : lk ((n,x) :: l) n = some x := by
 simp [lk,Nat.beq_refl]
theorem aq {α : Type} (l : List (Nat × α)) (n m : Nat) (x : α) (h : m ≠ n) : lk ((n,x) :: l) m = lk l m := by
 have : Nat.beq n m = false := by
  cases hq : Nat.beq n m with
  | false => rfl
  | true => exact absurd (Nat.eq_of_beq_eq_true hq).symm h
 simp [lk,this]
structure Env where
 val : Nat → Option Value
 own : Nat → Option Nat
 ext : Nat → Prop
def bY (a : Option Nat) (e : MapEntry) : Option (List Value) :=
 match a,e.val with
 | none,v => some [e.key,v]
 | some n,.agg cs => match decide (cs.size = n) with
  | true => some (e.key :: cs.toList)
  | false => none
 | some _,_ => none
def OB (a : Option Nat) (rows : List (List PV)) (es : Array MapEntry) (f : Nat → Nat → Value) : Prop :=
 es.size = rows.length ∧ ∀ (i : Nat) (row : List PV) (e : MapEntry),rows[i]? = some row → es[i]? = some e → ∃ vs,bY a e = some vs ∧ ∀ (j : Nat) (x : PV),row[j]? = some x → vs[j]? = some (f i j)
inductive Rep (w : World) (bad : Nat → Prop) (lo : Nat) : PV → Value → Prop
 | v (x : Value) (h : x.oneCell' = true) : Rep w bad lo (.v x) x
 | nil (b : Option Addr) (c : Nat) : Rep w bad lo (.sl []) (.slice b 0 c)
 | sl (rows : List (List PV)) (b off cap : Nat) (cs : Array Value) (t : TypeId) (fz : Nat × Nat) (sz : Nat) (f : Nat → Nat → Value)
   (hcap : rows.length ≤ cap) (hb : w.heap[b]? = some (.cells cs t fz)) (hbad : ¬ bad b) (hlo : lo ≤ b) (hfz : 0 < lo → fz = (0,0))
   (hlen : ∀ (i : Nat) (row : List PV),rows[i]? = some row → row.length = sz)
   (hc : ∀ (i : Nat) (row : List PV) (j : Nat) (x : PV),rows[i]? = some row → row[j]? = some x → cs[off + i * sz + j]? = some (f i j))
   (hr : ∀ (i : Nat) (row : List PV) (j : Nat) (x : PV),rows[i]? = some row → row[j]? = some x → Rep w bad lo x (f i j)) :
   Rep w bad lo (.sl rows) (.slice (some ⟨b,off,none⟩) rows.length cap)
 | rmNil : Rep w bad lo (.rm 0 []) (.slice none 0 0)
 | rm (len : Nat) (rows : List (List PV)) (b off : Nat) (cs : Array Value) (t : TypeId) (sz : Nat) (f : Nat → Nat → Value)
   (hcap : len ≤ rows.length) (hb : w.heap[b]? = some (.cells cs t (0,0))) (hbad : ¬ bad b) (hlo : lo ≤ b)
   (hlen : ∀ (i : Nat) (row : List PV),rows[i]? = some row → row.length = sz)
   (hc : ∀ (i : Nat) (row : List PV) (j : Nat) (x : PV),rows[i]? = some row → row[j]? = some x → cs[off + i * sz + j]? = some (f i j))
   (hr : ∀ (i : Nat) (row : List PV) (j : Nat) (x : PV),rows[i]? = some row → row[j]? = some x → Rep w bad lo x (f i j)) :
   Rep w bad lo (.rm len rows) (.slice (some ⟨b,off,none⟩) len rows.length)
 | lsNil : Rep w bad lo (.ls []) (.pointer none)
 | un (x : Value) (h : x.oneCell' = true) : Rep w bad lo .un x
 | ls (row : List PV) (rows : List (List PV)) (b o : Nat) (cs : Array Value) (t : TypeId) (fz : Nat × Nat) (f : Nat → Value)
   (hb : w.heap[b]? = some (.cells cs t fz)) (hbad : ¬ bad b) (hlo : lo ≤ b)
   (hc : ∀ (j : Nat) (x : PV),(row ++ [.ls rows])[j]? = some x → cs[o + j]? = some (f j))
   (hr : ∀ (j : Nat) (x : PV),(row ++ [.ls rows])[j]? = some x → Rep w bad lo x (f j)) : Rep w bad lo (.ls (row :: rows)) (.pointer (some ⟨b,o,none⟩))
 | mpNil (a : Option Nat) : Rep w bad lo (.mp a []) (.map none)
 | mp (a : Option Nat) (rows : List (List PV)) (b : Nat) (es : Array MapEntry) (clock : Nat) (f : Nat → Nat → Value) (hb : w.heap[b]? = some (.map es clock)) (hbad : ¬ bad b) (hlo : lo ≤ b)
   (hc : OB a rows es f) (hr : ∀ (i : Nat) (row : List PV) (j : Nat) (x : PV),rows[i]? = some row → row[j]? = some x → Rep w bad lo x (f i j)) : Rep w bad lo (.mp a rows) (.map (some b))
def Env.bad (E : Env) (b : Nat) : Prop := E.own b ≠ none ∨ E.ext b
def vq (w : World) (bad : Nat → Prop) (lo : Nat) (row : List PV) (b o : Nat) : Prop :=
 ∃ (cs : Array Value) (t : TypeId) (fz : Nat × Nat) (f : Nat → Value),w.heap[b]? = some (.cells cs t fz) ∧ ¬ bad b ∧ lo ≤ b ∧
  (∀ (j : Nat) (x : PV),row[j]? = some x → cs[o + j]? = some (f j)) ∧ (∀ (j : Nat) (x : PV),row[j]? = some x → Rep w bad lo x (f j))
def flo (lo : Nat) : Bool → Nat
 | true => lo
 | false => 0
mutual
def VR (w : World) (E : Env) (lo : Nat) : SV → Value → Prop
 | .u,_ => True
 | .p x fr,v => Rep w E.bad (flo lo fr) x v
 | .ptr k off,v => ∃ b,E.val k = some (.pointer (some ⟨b,0,none⟩)) ∧ v = .pointer (some ⟨b,off,none⟩)
 | .vec k,v => E.val k = some v ∧ ∃ a n c,v = .slice a n c
 | .vptr k sz i off,v => ∃ b n c,E.val k = some (.slice (some ⟨b,0,none⟩) n c) ∧ v = .pointer (some ⟨b,i * sz + off,none⟩)
 | .pd row off fr,v => ∃ b o,v = .pointer (some ⟨b,o + off,none⟩) ∧ vq w E.bad (flo lo fr) row b o
 | .pc rows fr,v => ∃ a,v = .slice a rows.length rows.length ∧ Rep w E.bad (flo lo fr) (.sl rows) v
 | .agg xs,v => ∃ vs : List Value,v = .agg vs.toArray ∧ VRs w E lo xs vs
 | .tup xs,v => ∃ vs : List Value,v = .tuple vs.toArray ∧ VRs w E lo xs vs
 | .ref k,v => E.val k = some v ∧ v.oneCell' = true
 | .fn f first caps,v => ∃ vs ws : List Value,v = .func f vs.toArray ws.toArray ∧ VRs w E lo first vs ∧ VRs w E lo caps ws
 | .ifc t x,v => ∃ y,v = .iface t y ∧ VR w E lo x y
def VRs (w : World) (E : Env) (lo : Nat) : List SV → List Value → Prop
 | [],[] => True
 | x :: xs,v :: vs => VR w E lo x v ∧ VRs w E lo xs vs
 | _,_ => False
end
def bZ (w : World) (bad : Nat → Prop) (lo : Nat) (sz : Nat) (rows : List (List PV)) (xs : List Value) : Prop :=
 ∃ f : Nat → Nat → Value,(∀ (i : Nat) (row : List PV),rows[i]? = some row → row.length = sz) ∧
  (∀ (i : Nat) (row : List PV) (j : Nat) (x : PV),rows[i]? = some row → row[j]? = some x → xs[i * sz + j]? = some (f i j)) ∧
  (∀ (i : Nat) (row : List PV) (j : Nat) (x : PV),rows[i]? = some row → row[j]? = some x → Rep w bad lo x (f i j))
def cn (w : World) (bad : Nat → Prop) (lo : Nat) (a : Option Nat) (rows : List (List PV)) (es : Array MapEntry) : Prop :=
 ∃ f : Nat → Nat → Value,OB a rows es f ∧ ∀ (i : Nat) (row : List PV) (j : Nat) (x : PV),rows[i]? = some row → row[j]? = some x → Rep w bad lo x (f i j)
def OR (w : World) (E : Env) (lo : Nat) (k : Nat) : OV → Prop
 | .box t cells => ∃ b vs,E.val k = some (.pointer (some ⟨b,0,none⟩)) ∧ E.own b = some k ∧
   w.heap[b]? = some (.cells (List.toArray vs) t (0,0)) ∧ VRs w E lo cells vs
 | .vec t sz rows fr => ∃ v xs,E.val k = some v ∧ 0 < sz ∧ w.ownsRow 0 t sz v rows.length xs ∧ (∀ g,v.ownBlock = some g → E.own g = some k) ∧
   bZ w E.bad (flo lo fr) sz rows xs
 | .mp a rows fr => ∃ b es clock,E.val k = some (.map (some b)) ∧ E.own b = some k ∧ w.heap[b]? = some (.map es clock) ∧ cn w E.bad (flo lo fr) a rows es
structure a8 (w : World) (E : Env) (lo : Nat) (T : Tab) : Prop where
 obj : ∀ k ov,lk T k = some ov → OR w E lo k ov
 dead : ∀ k,lk T k = none → E.val k = none
 own : ∀ b k,E.own b = some k → b < w.heap.size ∧ lo ≤ b ∧ lk T k ≠ none
 ext : ∀ b,E.ext b → b < w.heap.size ∧ E.own b = none
structure Fr (w : World) (E : Env) (w' : World) (E' : Env) : Prop where
 os : w'.os = w.os
 tape : w'.tape = w.tape
 output : w'.output = w.output
 size : w.heap.size ≤ w'.heap.size
 keep : ∀ b,b < w.heap.size → E.own b = none → w'.heap[b]? = w.heap[b]? ∧ E'.own b = none
 ext : E'.ext = E.ext
def Fg (P : Program) (lo : Nat) (w : World) : Prop :=
 ∀ g,P.globalNamed "internal/strconv.uint64pow10" = some g → g < lo ∧ ∃ cs t fz,w.heap[g]? = some (.cells cs t fz) ∧ cs = ((List.range 20).map fun i => Value.int .u64 (10 ^ i)).toArray
structure oU (P : Program) (lo : Nat) (w : World) (E : Env) : Prop where
 le : lo ≤ w.heap.size
 laid : Fg P lo w
 own : ∀ b,b < lo → E.own b = none
theorem oU.fr {P : Program} {lo : Nat} {w w' : World} {E E' : Env} (h : oU P lo w E) (k : Fr w E w' E') : oU P lo w' E' :=
 ⟨Nat.le_trans h.le k.size,fun g hg => by
  obtain ⟨h1,cs,t,fz,h2,h3⟩ := h.laid g hg
  exact ⟨h1,cs,t,fz,by rw [(k.keep g (Nat.lt_of_lt_of_le h1 h.le) (h.own g h1)).1]; exact h2,h3⟩,fun b hb => (k.keep b (Nat.lt_of_lt_of_le hb h.le) (h.own b hb)).2⟩
structure Ctx where
 P : Program
 lo : Nat
 w0 : World
 E0 : Env
 n : Nat
structure au (C : Ctx) (E : Env) (σ : St) (a : Act) (w : World) : Prop where
 size : a.tmps.size = C.n
 defers : a.defers = []
 ab : ∀ t sv,lk σ.ab t = some sv → VR w E C.lo sv (a.tmps.getD t undef)
 tab : a8 w E C.lo σ.tab
 fr : Fr C.w0 C.E0 w E
 lo : oU C.P C.lo C.w0 C.E0
 ids : ∀ k,C.E0.val k ≠ none → C.n ≤ k
 gZ : ∀ k x,C.E0.val k = some x → E.val k = some x ∨ E.val k = none
def Holds (C : Ctx) (σ : St) (a : Act) (w : World) : Prop := ∃ E,au C E σ a w
theorem Fr.refl (w : World) (E : Env) : Fr w E w E := ⟨rfl,rfl,rfl,Nat.le_refl _,fun _ _ h => ⟨rfl,h⟩,rfl⟩
theorem Fr.trans {w w1 w2 : World} {E E1 E2 : Env} (h : Fr w E w1 E1) (k : Fr w1 E1 w2 E2) : Fr w E w2 E2 :=
 ⟨k.os.trans h.os,k.tape.trans h.tape,k.output.trans h.output,Nat.le_trans h.size k.size,fun b hb ho =>
  have h1 := h.keep b hb ho
  have h2 := k.keep b (Nat.lt_of_lt_of_le hb h.size) h1.2
  ⟨h2.1.trans h1.1,h2.2⟩,k.ext.trans h.ext⟩
theorem aJ {w : World} {b : Nat} {o : Obj} (h : w.heap[b]? = some o) : b < w.heap.size := (Array.getElem?_eq_some_iff.1 h).1
theorem DX {E : Env} {b : Nat} (h : ¬ E.bad b) : E.own b = none ∧ ¬ E.ext b := by
 unfold Env.bad at h
 refine ⟨?_,fun hx => h (.inr hx)⟩
 cases hb : E.own b with
 | none => rfl
 | some k => exact absurd (.inl (by rw [hb]; simp)) h
theorem fm {E : Env} {b : Nat} (h : E.own b = none) (hx : ¬ E.ext b) : ¬ E.bad b := by
 intro hb; rcases hb with hb | hb
 ·exact hb h
 ·exact hx hb
theorem Rep.mono {w w' : World} {bad bad' : Nat → Prop} {lo lo' : Nat} (hl : lo' ≤ lo)
  (h : ∀ b o,w.heap[b]? = some o → ¬ bad b → w'.heap[b]? = some o ∧ ¬ bad' b) {x : PV} {v : Value} (r : Rep w bad lo x v) : Rep w' bad' lo' x v := by
 induction r with
 | v x hx => exact .v x hx
 | nil b c => exact .nil b c
 | sl rows b off cap cs t fz sz f hcap hb hbad hlo hfz hlen hc hr ih =>
  exact .sl rows b off cap cs t fz sz f hcap (h b _ hb hbad).1 (h b _ hb hbad).2 (Nat.le_trans hl hlo) (fun h0 => hfz (Nat.lt_of_lt_of_le h0 hl)) hlen hc ih
 | rmNil => exact .rmNil
 | rm len rows b off cs t sz f hcap hb hbad hlo hlen hc hr ih =>
  exact .rm len rows b off cs t sz f hcap (h b _ hb hbad).1 (h b _ hb hbad).2 (Nat.le_trans hl hlo) hlen hc ih
 | lsNil => exact .lsNil
 | un x hx => exact .un x hx
 | ls row rows b o cs t fz f hb hbad hlo hc hr ih => exact .ls row rows b o cs t fz f (h b _ hb hbad).1 (h b _ hb hbad).2 (Nat.le_trans hl hlo) hc ih
 | mpNil a => exact .mpNil a
 | mp a rows b es clock f hb hbad hlo hc hr ih => exact .mp a rows b es clock f (h b _ hb hbad).1 (h b _ hb hbad).2 (Nat.le_trans hl hlo) hc ih
theorem vq.mono {w w' : World} {bad bad' : Nat → Prop} {lo lo' : Nat} (hl : lo' ≤ lo)
  (h : ∀ b o,w.heap[b]? = some o → ¬ bad b → w'.heap[b]? = some o ∧ ¬ bad' b) {row : List PV} {b o : Nat} (r : vq w bad lo row b o) : vq w' bad' lo' row b o := by
 obtain ⟨cs,t,fz,f,hb,hbad,hlo,hc,hr⟩ := r
 exact ⟨cs,t,fz,f,(h b _ hb hbad).1,(h b _ hb hbad).2,Nat.le_trans hl hlo,hc,fun j x hx => (hr j x hx).mono hl h⟩
theorem cn.mono {w w' : World} {bad bad' : Nat → Prop} {lo lo' : Nat} (hl : lo' ≤ lo) {a : Option Nat} {rows : List (List PV)} {es : Array MapEntry}
  (h : ∀ b o,w.heap[b]? = some o → ¬ bad b → w'.heap[b]? = some o ∧ ¬ bad' b) (r : cn w bad lo a rows es) : cn w' bad' lo' a rows es := by
 obtain ⟨f,h1,h2⟩ := r
 exact ⟨f,h1,fun i row j x hi hj => (h2 i row j x hi hj).mono hl h⟩
theorem bZ.mono {w w' : World} {bad bad' : Nat → Prop} {lo lo' : Nat} (hl : lo' ≤ lo) {sz : Nat} {rows : List (List PV)} {xs : List Value}
  (h : ∀ b o,w.heap[b]? = some o → ¬ bad b → w'.heap[b]? = some o ∧ ¬ bad' b) (r : bZ w bad lo sz rows xs) : bZ w' bad' lo' sz rows xs := by
 obtain ⟨f,h1,h2,h3⟩ := r
 exact ⟨f,h1,h2,fun i row j x hi hj => (h3 i row j x hi hj).mono hl h⟩
structure cP (w : World) (E : Env) (w' : World) (E' : Env) : Prop where
 keep : ∀ b,b < w.heap.size → E.own b = none → w'.heap[b]? = w.heap[b]? ∧ E'.own b = none
 ext : E'.ext = E.ext
theorem cP.rep {w w' : World} {E E' : Env} (h : cP w E w' E') : ∀ b o,w.heap[b]? = some o → ¬ E.bad b → w'.heap[b]? = some o ∧ ¬ E'.bad b := by
 intro b o hb hbad
 have hn := DX hbad
 have := h.keep b (aJ hb) hn.1
 exact ⟨by rw [this.1]; exact hb,fm this.2 (by rw [h.ext]; exact hn.2)⟩
theorem Fr.keeps {w w' : World} {E E' : Env} (h : Fr w E w' E') : cP w E w' E' := ⟨h.keep,h.ext⟩
def z8 (w : World) (E : Env) (w' : World) (E' : Env) : Prop := ∀ b o,w.heap[b]? = some o → ¬ E.bad b → w'.heap[b]? = some o ∧ ¬ E'.bad b
mutual
theorem VR.eU {w w' : World} {E E' : Env} {lo : Nat} (hk : z8 w E w' E') (hv : ∀ k x,E.val k = some x → E'.val k = some x) :
  ∀ (sv : SV) (v : Value),VR w E lo sv v → VR w' E' lo sv v
 | .u,_,_ => by simp [VR]
 | .p x fr,v,h => by simp only [VR] at h ⊢; exact h.mono (Nat.le_refl _) hk
 | .ptr k off,v,h => by simp only [VR] at h ⊢; obtain ⟨b,h1,h2⟩ := h; exact ⟨b,hv _ _ h1,h2⟩
 | .vec k,v,h => by simp only [VR] at h ⊢; exact ⟨hv _ _ h.1,h.2⟩
 | .vptr k sz i off,v,h => by simp only [VR] at h ⊢; obtain ⟨b,n,c,h1,h2⟩ := h; exact ⟨b,n,c,hv _ _ h1,h2⟩
 | .pd row off fr,v,h => by simp only [VR] at h ⊢; obtain ⟨b,o,h1,h2⟩ := h; exact ⟨b,o,h1,h2.mono (Nat.le_refl _) hk⟩
 | .pc rows fr,v,h => by simp only [VR] at h ⊢; obtain ⟨a,h1,h2⟩ := h; exact ⟨a,h1,h2.mono (Nat.le_refl _) hk⟩
 | .agg xs,v,h => by simp only [VR] at h ⊢; obtain ⟨vs,h1,h2⟩ := h; exact ⟨vs,h1,VRs.eU hk hv xs vs h2⟩
 | .tup xs,v,h => by simp only [VR] at h ⊢; obtain ⟨vs,h1,h2⟩ := h; exact ⟨vs,h1,VRs.eU hk hv xs vs h2⟩
 | .ref k,v,h => by simp only [VR] at h ⊢; exact ⟨hv _ _ h.1,h.2⟩
 | .fn f first caps,v,h => by simp only [VR] at h ⊢; obtain ⟨vs,ws,h1,h2,h3⟩ := h; exact ⟨vs,ws,h1,VRs.eU hk hv first vs h2,VRs.eU hk hv caps ws h3⟩
 | .ifc t x,v,h => by simp only [VR] at h ⊢; obtain ⟨y,h1,h2⟩ := h; exact ⟨y,h1,VR.eU hk hv x y h2⟩
theorem VRs.eU {w w' : World} {E E' : Env} {lo : Nat} (hk : z8 w E w' E') (hv : ∀ k x,E.val k = some x → E'.val k = some x) :
  ∀ (xs : List SV) (vs : List Value),VRs w E lo xs vs → VRs w' E' lo xs vs
 | [],[],_ => by simp [VRs]
 | x :: xs,v :: vs,h => by simp only [VRs] at h ⊢; exact ⟨VR.eU hk hv x v h.1,VRs.eU hk hv xs vs h.2⟩
 | [],_ :: _,h => by simp [VRs] at h
 | _ :: _,[],h => by simp [VRs] at h
end
theorem VR.mono {w w' : World} {E E' : Env} {lo : Nat} (hk : cP w E w' E') (hv : ∀ k x,E.val k = some x → E'.val k = some x) (sv : SV) (v : Value) (h : VR w E lo sv v) : VR w' E' lo sv v :=
 VR.eU hk.rep hv sv v h
theorem VRs.mono {w w' : World} {E E' : Env} {lo : Nat} (hk : cP w E w' E') (hv : ∀ k x,E.val k = some x → E'.val k = some x) (xs : List SV) (vs : List Value) (h : VRs w E lo xs vs) : VRs w' E' lo xs vs :=
 VRs.eU hk.rep hv xs vs h
end Go.TL
namespace Go.TL
mutual
def SV.fz (k : Nat) (vc : SV) (pd : Nat → SV) : SV → SV
 | .vec j => match Nat.beq j k with | true => vc | false => .vec j
 | .ptr j off => match Nat.beq j k with | true => pd off | false => .ptr j off
 | .vptr j sz i off => match Nat.beq j k with | true => .u | false => .vptr j sz i off
 | .ref j => match Nat.beq j k with | true => vc | false => .ref j
 | .agg xs => .agg (fzs k vc pd xs)
 | .tup xs => .tup (fzs k vc pd xs)
 | .fn f first caps => .fn f (fzs k vc pd first) (fzs k vc pd caps)
 | .ifc t x => .ifc t (SV.fz k vc pd x)
 | .u => .u
 | .p x fr => .p x fr
 | .pd row off fr => .pd row off fr
 | .pc rows fr => .pc rows fr
def fzs (k : Nat) (vc : SV) (pd : Nat → SV) : List SV → List SV
 | [] => []
 | x :: xs => SV.fz k vc pd x :: fzs k vc pd xs
end
def dU (k : Nat) (vc : SV) (pd : Nat → SV) : List (Nat × SV) → List (Nat × SV)
 | [] => []
 | (t,x) :: r => (t,SV.fz k vc pd x) :: dU k vc pd r
def OV.fz (k : Nat) (vc : SV) (pd : Nat → SV) : OV → OV
 | .box t cells => .box t (fzs k vc pd cells)
 | o => o
def iK (k : Nat) (vc : SV) (pd : Nat → SV) : Tab → Tab
 | [] => []
 | (t,x) :: r => (t,OV.fz k vc pd x) :: iK k vc pd r
def St.fz (k : Nat) (vc : SV) (pd : Nat → SV) (σ : St) : St := ⟨dU k vc pd σ.ab,iK k vc pd (rm σ.tab k)⟩
def St.kill (k : Nat) (σ : St) : St := St.fz k .u (fun _ => .u) σ
def Env.drop (E : Env) (k : Nat) : Env := ⟨fun j => if j = k then none else E.val j,fun b => if E.own b = some k then none else E.own b,E.ext⟩
theorem oV (k : Nat) (vc : SV) (pd : Nat → SV) (l : List (Nat × SV)) (t : Nat) : lk (dU k vc pd l) t = (lk l t).map (SV.fz k vc pd) := by
 induction l with
 | nil => rfl
 | cons h r ih => obtain ⟨j,x⟩ := h; simp only [dU,lk]; cases Nat.beq j t <;> simp [ih]
theorem eV (k : Nat) (vc : SV) (pd : Nat → SV) (l : Tab) (t : Nat) : lk (iK k vc pd l) t = (lk l t).map (OV.fz k vc pd) := by
 induction l with
 | nil => rfl
 | cons h r ih => obtain ⟨j,x⟩ := h; simp only [iK,lk]; cases Nat.beq j t <;> simp [ih]
theorem Env.ky (w : World) (E : Env) (k : Nat) : cP w E w (E.drop k) := ⟨fun b _ h => ⟨rfl,by simp [Env.drop,h]⟩,rfl⟩
theorem beq_true {a b : Nat} (h : Nat.beq a b = true) : a = b := Nat.eq_of_beq_eq_true h
theorem beq_false {a b : Nat} (h : Nat.beq a b = false) : a ≠ b := fun e => by subst e; rw [Nat.beq_refl] at h; cases h
def But (k : Nat) (E E' : Env) : Prop := ∀ j x,j ≠ k → E.val j = some x → E'.val j = some x
mutual
theorem VR.fz {w w' : World} {E E' : Env} {lo k : Nat} {vc : SV} {pd : Nat → SV} (hk : cP w E w' E') (hv : But k E E')
  (hvc : ∀ v,E.val k = some v → VR w' E' lo vc v) (hpd : ∀ off v,VR w E lo (.ptr k off) v → VR w' E' lo (pd off) v) :
  ∀ (sv : SV) (v : Value),VR w E lo sv v → VR w' E' lo (SV.fz k vc pd sv) v
 | .u,_,_ => by simp [SV.fz,VR]
 | .p x fr,v,h => by simp only [SV.fz,VR] at h ⊢; exact h.mono (Nat.le_refl _) hk.rep
 | .ptr j off,v,h => by
  simp only [SV.fz]
  cases hb : Nat.beq j k with
  | true => have := beq_true hb; subst this; exact hpd off v h
  | false => simp only [VR] at h ⊢; obtain ⟨b,h1,h2⟩ := h; exact ⟨b,hv _ _ (beq_false hb) h1,h2⟩
 | .vec j,v,h => by
  simp only [SV.fz]
  cases hb : Nat.beq j k with
  | true => have := beq_true hb; subst this; simp only [VR] at h; exact hvc v h.1
  | false => simp only [VR] at h ⊢; exact ⟨hv _ _ (beq_false hb) h.1,h.2⟩
 | .vptr j sz i off,v,h => by
  simp only [SV.fz]
  cases hb : Nat.beq j k with
  | true => simp [VR]
  | false => simp only [VR] at h ⊢; obtain ⟨b,n,c,h1,h2⟩ := h; exact ⟨b,n,c,hv _ _ (beq_false hb) h1,h2⟩
 | .pd row off fr,v,h => by simp only [SV.fz,VR] at h ⊢; obtain ⟨b,o,h1,h2⟩ := h; exact ⟨b,o,h1,h2.mono (Nat.le_refl _) hk.rep⟩
 | .pc rows fr,v,h => by simp only [SV.fz,VR] at h ⊢; obtain ⟨a,h1,h2⟩ := h; exact ⟨a,h1,h2.mono (Nat.le_refl _) hk.rep⟩
 | .agg xs,v,h => by simp only [SV.fz,VR] at h ⊢; obtain ⟨vs,h1,h2⟩ := h; exact ⟨vs,h1,VRs.fz hk hv hvc hpd xs vs h2⟩
 | .tup xs,v,h => by simp only [SV.fz,VR] at h ⊢; obtain ⟨vs,h1,h2⟩ := h; exact ⟨vs,h1,VRs.fz hk hv hvc hpd xs vs h2⟩
 | .ref j,v,h => by
  simp only [SV.fz]
  cases hb : Nat.beq j k with
  | true => have := beq_true hb; subst this; simp only [VR] at h; exact hvc v h.1
  | false => simp only [VR] at h ⊢; exact ⟨hv _ _ (beq_false hb) h.1,h.2⟩
 | .fn f first caps,v,h => by
  simp only [SV.fz,VR] at h ⊢
  obtain ⟨vs,ws,h1,h2,h3⟩ := h
  exact ⟨vs,ws,h1,VRs.fz hk hv hvc hpd first vs h2,VRs.fz hk hv hvc hpd caps ws h3⟩
 | .ifc t x,v,h => by simp only [SV.fz,VR] at h ⊢; obtain ⟨y,h1,h2⟩ := h; exact ⟨y,h1,VR.fz hk hv hvc hpd x y h2⟩
theorem VRs.fz {w w' : World} {E E' : Env} {lo k : Nat} {vc : SV} {pd : Nat → SV} (hk : cP w E w' E') (hv : But k E E')
  (hvc : ∀ v,E.val k = some v → VR w' E' lo vc v) (hpd : ∀ off v,VR w E lo (.ptr k off) v → VR w' E' lo (pd off) v) :
  ∀ (xs : List SV) (vs : List Value),VRs w E lo xs vs → VRs w' E' lo (fzs k vc pd xs) vs
 | [],[],_ => by simp [fzs,VRs]
 | x :: xs,v :: vs,h => by simp only [fzs,VRs] at h ⊢; exact ⟨VR.fz hk hv hvc hpd x v h.1,VRs.fz hk hv hvc hpd xs vs h.2⟩
 | [],_ :: _,h => by simp [VRs] at h
 | _ :: _,[],h => by simp [VRs] at h
end
theorem OR.fz {w w' : World} {E E' : Env} {lo k j : Nat} {vc : SV} {pd : Nat → SV} (hjk : j ≠ k) (hk : cP w E w' E') (hv : But k E E')
  (hvc : ∀ v,E.val k = some v → VR w' E' lo vc v) (hpd : ∀ off v,VR w E lo (.ptr k off) v → VR w' E' lo (pd off) v)
  (hown : ∀ b,E'.own b = some j ↔ E.own b = some j) (hheap : ∀ b,E.own b = some j → w'.heap[b]? = w.heap[b]?) {ov : OV} (h : OR w E lo j ov) :
  OR w' E' lo j (OV.fz k vc pd ov) := by
 cases ov with
 | box t cells =>
  obtain ⟨b,vs,h1,h2,h3,h4⟩ := h
  exact ⟨b,vs,hv _ _ hjk h1,(hown b).2 h2,by rw [hheap b h2]; exact h3,VRs.fz hk hv hvc hpd _ _ h4⟩
 | vec t sz rows fr =>
  obtain ⟨v,xs,h1,h2,h3,h4,h5⟩ := h
  refine ⟨v,xs,hv _ _ hjk h1,h2,?_,fun g hg => (hown g).2 (h4 g hg),h5.mono (Nat.le_refl _) hk.rep⟩
  refine ⟨h3.1,?_⟩
  rcases h3.2 with hn | ⟨g,cap,cur,hv',hb,hg,r⟩
  ·exact .inl hn
  ·exact .inr ⟨g,cap,cur,hv',hb,by rw [hheap g (h4 g (by rw [hv']; rfl))]; exact hg,r⟩
 | mp a rows fr =>
  obtain ⟨b,es,cl,h1,h2,h3,h4⟩ := h
  exact ⟨b,es,cl,hv _ _ hjk h1,(hown b).2 h2,by rw [hheap b h2]; exact h3,h4.mono (Nat.le_refl _) hk.rep⟩
theorem St.oW {C : Ctx} {σ : St} {a : Act} {w : World} {E : Env} {k : Nat} {vc : SV} {pd : Nat → SV} (h : au C E σ a w)
  (hvc : ∀ v,E.val k = some v → VR w (E.drop k) C.lo vc v) (hpd : ∀ off v,VR w E C.lo (.ptr k off) v → VR w (E.drop k) C.lo (pd off) v) :
  au C (E.drop k) (St.fz k vc pd σ) a w := by
 have hk := Env.ky w E k
 have hv : But k E (E.drop k) := fun j x hj hx => by simp [Env.drop,hj,hx]
 have howned : ∀ j,j ≠ k → ∀ b,(E.drop k).own b = some j ↔ E.own b = some j := by
  intro j hj b
  simp only [Env.drop]
  split
  ·rename_i hb
   constructor
   ·intro h; cases h
   ·intro h; rw [hb] at h; exact absurd (Option.some.inj h).symm hj
  ·exact Iff.rfl
 refine ⟨h.size,h.defers,?_,⟨?_,?_,?_,?_⟩,⟨h.fr.os,h.fr.tape,h.fr.output,h.fr.size,?_,h.fr.ext⟩,h.lo,h.ids,?_⟩
 ·intro t sv hl
  simp only [St.fz,oV] at hl
  cases hq : lk σ.ab t with
  | none => simp [hq] at hl
  | some s =>
   simp [hq] at hl; subst hl
   exact VR.fz hk hv hvc hpd s _ (h.ab t s hq)
 ·intro j ov hl
  simp only [St.fz,eV] at hl
  by_cases hj : j = k
  ·subst hj; rw [gk] at hl; simp at hl
  ·rw [bP _ _ _ hj] at hl
   cases hq : lk σ.tab j with
   | none => simp [hq] at hl
   | some o =>
    simp [hq] at hl; subst hl
    exact OR.fz hj hk hv hvc hpd (howned j hj) (fun _ _ => rfl) (h.tab.obj j o hq)
 ·intro j hl
  simp only [St.fz,eV] at hl
  by_cases hj : j = k
  ·subst hj; simp [Env.drop]
  ·rw [bP _ _ _ hj] at hl
   have := h.tab.dead j (by simpa using hl)
   simp [Env.drop,hj,this]
 ·intro b j hb
  have hjk : j ≠ k := by
   intro e; subst e
   simp only [Env.drop] at hb
   split at hb
   ·cases hb
   ·rename_i hne; exact hne hb
  have := h.tab.own b j ((howned j hjk b).1 hb)
  refine ⟨this.1,this.2.1,?_⟩
  simp only [St.fz,eV,bP _ _ _ hjk]
  simpa using this.2.2
 ·intro b hb
  have := h.tab.ext b hb
  exact ⟨this.1,by simp [Env.drop,this.2]⟩
 ·intro b hb ho
  have := h.fr.keep b hb ho
  exact ⟨this.1,by simp [Env.drop,this.2]⟩
 ·intro j x hj
  by_cases he : j = k
  ·exact .inr (by simp [Env.drop,he])
  ·rcases h.gZ j x hj with h1 | h1
   ·exact .inl (by simp [Env.drop,he,h1])
   ·exact .inr (by simp [Env.drop,he,h1])
theorem Fh {C : Ctx} {σ : St} {a : Act} {w : World} (k : Nat) (h : Holds C σ a w) : Holds C (σ.kill k) a w := by
 obtain ⟨E,h⟩ := h
 exact ⟨E.drop k,St.oW h (fun _ _ => by simp [VR]) (fun _ _ _ => by simp [VR])⟩
def St.cQ : List Nat → St → St
 | [],σ => σ
 | k :: ks,σ => St.cQ ks (σ.kill k)
theorem tP {C : Ctx} {a : Act} {w : World} : ∀ (ks : List Nat) (σ : St),Holds C σ a w → Holds C (σ.cQ ks) a w
 | [],_,h => h
 | k :: ks,σ,h => tP ks (σ.kill k) (Fh k h)
def qK : SV → Option (PV × Bool)
 | .p (.v (.slice none 0 0)) _ => some (.sl [],true)
 | .p (.v x) _ => some (.v x,true)
 | .p (.sl rows) fr => some (.sl rows,fr)
 | .p (.rm len rows) fr => some (.rm len rows,fr)
 | .p (.ls rows) fr => some (.ls rows,fr)
 | .p .un _ => some (.un,true)
 | .fn _ _ _ => some (.un,true)
 | .p (.mp a rows) fr => some (.mp a rows,fr)
 | .pc rows fr => some (.sl rows,fr)
 | _ => none
def gl : List SV → Option (List PV × Bool)
 | [] => some ([],true)
 | x :: xs => match qK x,gl xs with
  | some (y,f),some (ys,fs) => some (y :: ys,f && fs)
  | _,_ => none
theorem eG (lo : Nat) (a b : Bool) : flo lo (a && b) ≤ flo lo a ∧ flo lo (a && b) ≤ flo lo b := by cases a <;> cases b <;> simp [flo]
theorem vr (lo : Nat) (a : Bool) : flo lo a ≤ lo := by cases a <;> simp [flo]
theorem AI {w : World} {E : Env} {lo : Nat} {sv : SV} {x : PV} {fr : Bool} (h : qK sv = some (x,fr)) {v : Value} (hv : VR w E lo sv v) : Rep w E.bad (flo lo fr) x v := by
 unfold qK at h
 split at h <;> first | (cases h; done) | (simp only [Option.some.injEq,Prod.mk.injEq] at h; obtain ⟨rfl,rfl⟩ := h; simp only [VR] at hv)
 ·cases hv with | v _ hx => exact .nil none 0
 ·cases hv with | v _ hx => exact .v _ hx
 ·exact hv
 ·exact hv
 ·exact hv
 ·cases hv with | un _ hx => exact .un _ hx
 ·obtain ⟨_,_,rfl,_⟩ := hv; exact .un _ rfl
 ·exact hv
 ·obtain ⟨_,_,hv⟩ := hv; exact hv
theorem iv {w : World} {E : Env} {lo : Nat} : ∀ (svs : List SV) (xs : List PV) (fr : Bool) (_ : gl svs = some (xs,fr)) (vs : List Value) (_ : VRs w E lo svs vs),
  svs.length = xs.length ∧ vs.length = xs.length ∧ ∃ f : Nat → Value,(∀ (j : Nat) (x : PV),xs[j]? = some x → vs[j]? = some (f j)) ∧ ∀ (j : Nat) (x : PV),xs[j]? = some x → Rep w E.bad (flo lo fr) x (f j)
 | [],xs,fr,h,vs,hv => by
  simp [gl] at h; obtain ⟨rfl,rfl⟩ := h
  cases vs with
  | nil => exact ⟨rfl,rfl,fun _ => undef,by simp,by simp⟩
  | cons _ _ => simp [VRs] at hv
 | s :: ss,xs,fr,h,vs,hv => by
  cases vs with
  | nil => simp [VRs] at hv
  | cons v vs =>
   have hv' : VR w E lo s v ∧ VRs w E lo ss vs := by simpa only [VRs] using hv
   obtain ⟨hv1,hv2⟩ := hv'
   simp only [gl] at h
   cases h1 : qK s with
   | none => simp [h1] at h
   | some yf =>
    cases h2 : gl ss with
    | none => simp [h1,h2] at h
    | some ysf =>
     obtain ⟨y,f1⟩ := yf; obtain ⟨ys,f2⟩ := ysf
     simp only [h1,h2,Option.some.injEq,Prod.mk.injEq] at h
     obtain ⟨rfl,rfl⟩ := h
     obtain ⟨e1,e2,g,g1,g2⟩ := iv ss ys f2 h2 vs hv2
     have r1 := AI h1 hv1
     refine ⟨by simp [e1],by simp [e2],fun j => match j with | 0 => v | j + 1 => g j,?_,?_⟩
     ·intro j x hx
      cases j with
      | zero => rfl
      | succ j => exact g1 j x (by simpa using hx)
     ·intro j x hx
      cases j with
      | zero =>
       simp at hx; subst hx
       exact r1.mono (eG lo f1 f2).1 (fun b o hb hbad => ⟨hb,hbad⟩)
      | succ j => exact (g2 j x (by simpa using hx)).mono (eG lo f1 f2).2 (fun b o hb hbad => ⟨hb,hbad⟩)
def St.eH (k : Nat) (σ : St) : Option St :=
 match lk σ.tab k with
 | some (.vec _ _ rows fr) => some (St.fz k (.p (.sl rows) fr) (fun _ => .u) σ)
 | some (.mp a rows fr) => some (St.fz k (.p (.mp a rows) fr) (fun _ => .u) σ)
 | some (.box _ cells) => match gl cells with
  | some (row,fr) => some (St.fz k .u (fun off => .pd row off fr) σ)
  | none => none
 | _ => none
def St.freeze : List Nat → St → Option St
 | [],σ => some σ
 | k :: ks,σ => match σ.eH k with
  | some σ' => σ'.freeze ks
  | none => none
theorem DY {w : World} {E E' : Env} {lo k : Nat} {t : TypeId} {sz : Nat} {rows : List (List PV)} {fr : Bool} (hor : OR w E lo k (.vec t sz rows fr))
  (hk : cP w E w E') (hdrop : ∀ b,E.own b = some k → E'.own b = none) (hlo : ∀ b,E.own b = some k → lo ≤ b) (hext : ∀ b,E.own b = some k → ¬ E'.ext b)
  {v : Value} (hv : E.val k = some v) : Rep w E'.bad (flo lo fr) (.sl rows) v := by
 obtain ⟨v',xs,h1,h2,h3,h4,f,f1,f2,f3⟩ := hor
 rw [hv] at h1; cases h1
 rcases h3.2 with ⟨rfl,hn⟩ | ⟨g,cap,cur,rfl,hb,hg,hle,hcm,hsz,htk⟩
 ·have : rows = [] := List.eq_nil_of_length_eq_zero hn
  subst this
  exact .nil _ _
 ·have ho := h4 g rfl
  refine .sl rows g 0 cap cur t (0,0) sz f hle hg (fm (hdrop g ho) (hext g ho)) (Nat.le_trans (vr _ _) (hlo g ho)) (fun _ => rfl) f1 ?_ ?_
  ·intro i row j x hi hj
   have := f2 i row j x hi hj
   rw [← htk,List.getElem?_take] at this
   split at this
   ·simpa using this
   ·cases this
  ·intro i row j x hi hj
   exact (f3 i row j x hi hj).mono (Nat.le_refl _) hk.rep
theorem ML {w : World} {E E' : Env} {lo k : Nat} {a : Option Nat} {rows : List (List PV)} {fr : Bool} (hor : OR w E lo k (.mp a rows fr))
  (hk : cP w E w E') (hdrop : ∀ b,E.own b = some k → E'.own b = none) (hlo : ∀ b,E.own b = some k → lo ≤ b) (hext : ∀ b,E.own b = some k → ¬ E'.ext b)
  {v : Value} (hv : E.val k = some v) : Rep w E'.bad (flo lo fr) (.mp a rows) v := by
 obtain ⟨b,es,cl,h1,h2,h3,f,h4,h6⟩ := hor
 rw [hv] at h1; cases h1
 exact .mp a rows b es cl f h3 (fm (hdrop b h2) (hext b h2)) (Nat.le_trans (vr _ _) (hlo b h2)) h4 fun i row j x hi hj => (h6 i row j x hi hj).mono (Nat.le_refl _) hk.rep
theorem zQ {C : Ctx} {σ σ' : St} {a : Act} {w : World} {k : Nat} (h : Holds C σ a w) (hf : σ.eH k = some σ') : Holds C σ' a w := by
 obtain ⟨E,h⟩ := h
 unfold St.eH at hf
 cases hq : lk σ.tab k with
 | none => simp [hq] at hf
 | some ov =>
  have hor := h.tab.obj k ov hq
  have hdrop : ∀ b,E.own b = some k → (E.drop k).own b = none := fun b hb => by simp [Env.drop,hb]
  have hext : ∀ b,E.own b = some k → ¬ (E.drop k).ext b := fun b hb hx => by have := (h.tab.ext b hx).2; rw [hb] at this; cases this
  cases ov with
  | mp a rows fr =>
   simp only [hq,Option.some.injEq] at hf; subst hf
   refine ⟨E.drop k,St.oW h ?_ (fun _ _ _ => by simp [VR])⟩
   intro v hv
   have := ML hor (Env.ky w E k) hdrop (fun b hb => (h.tab.own b k hb).2.1) hext hv
   simpa only [VR] using this
  | vec t sz rows fr =>
   simp only [hq,Option.some.injEq] at hf; subst hf
   refine ⟨E.drop k,St.oW h ?_ (fun _ _ _ => by simp [VR])⟩
   intro v hv
   have := DY hor (Env.ky w E k) hdrop (fun b hb => (h.tab.own b k hb).2.1) hext hv
   simpa only [VR] using this
  | box t cells =>
   simp only [hq] at hf
   cases hp : gl cells with
   | none => simp [hp] at hf
   | some rf =>
    obtain ⟨row,fr⟩ := rf
    simp only [hp,Option.some.injEq] at hf; subst hf
    refine ⟨E.drop k,St.oW h (fun _ _ => by simp [VR]) ?_⟩
    intro off v hv
    obtain ⟨b,vs,h1,h2,h3,h4⟩ := hor
    simp only [VR] at hv
    obtain ⟨b',e1,e2⟩ := hv
    rw [h1] at e1; simp at e1; subst e1
    obtain ⟨_,l2,f,f1,f2⟩ := iv cells row fr hp vs h4
    simp only [VR]
    refine ⟨b,0,by simpa using e2,_,_,_,f,h3,fm (hdrop b h2) (hext b h2),Nat.le_trans (vr _ _) (h.tab.own b k h2).2.1,?_,?_⟩
    ·intro j x hx; simpa using f1 j x hx
    ·intro j x hx; exact (f2 j x hx).mono (Nat.le_refl _) (Env.ky w E k).rep
theorem qL {C : Ctx} {a : Act} {w : World} : ∀ (ks : List Nat) (σ σ' : St),Holds C σ a w → σ.freeze ks = some σ' → Holds C σ' a w
 | [],σ,σ',h,hf => by simp [St.freeze] at hf; subst hf; exact h
 | k :: ks,σ,σ',h,hf => by
  simp only [St.freeze] at hf
  cases hq : σ.eH k with
  | none => simp [hq] at hf
  | some s => simp only [hq] at hf; exact qL ks s σ' (zQ h hq) hf
end Go.TL
namespace Go.TL
section
variable {w : World} {E : Env} {lo : Nat}
theorem c6 : VRs w E lo [] [] := by simp [VRs]
theorem bC {x : SV} {xs : List SV} {v : Value} {vs : List Value} (h : VR w E lo x v) (k : VRs w E lo xs vs) : VRs w E lo (x :: xs) (v :: vs) := by
 simp only [VRs]; exact ⟨h,k⟩
theorem ay {x : SV} {xs : List SV} {v : Value} {vs : List Value} : VRs w E lo (x :: xs) (v :: vs) ↔ VR w E lo x v ∧ VRs w E lo xs vs := by
 simp only [VRs]
theorem bJ : ∀ {xs : List SV} {vs : List Value},VRs w E lo xs vs → xs.length = vs.length
 | [],[],_ => rfl
 | x :: xs,v :: vs,h => by have := bJ (ay.1 h).2; simp [this]
 | [],_ :: _,h => by simp [VRs] at h
 | _ :: _,[],h => by simp [VRs] at h
theorem gm : ∀ {xs ys : List SV} {vs us : List Value},VRs w E lo xs vs → VRs w E lo ys us → VRs w E lo (xs ++ ys) (vs ++ us)
 | [],_,[],_,_,k => k
 | x :: xs,_,v :: vs,_,h,k => bC (ay.1 h).1 (gm (ay.1 h).2 k)
 | [],_,_ :: _,_,h,_ => by simp [VRs] at h
 | _ :: _,_,[],_,h,_ => by simp [VRs] at h
theorem lD : ∀ {xs : List SV} {vs : List Value} (n : Nat),VRs w E lo xs vs → VRs w E lo (xs.take n) (vs.take n)
 | [],[],n,_ => by simp [c6]
 | x :: xs,v :: vs,0,_ => by simp [c6]
 | x :: xs,v :: vs,n + 1,h => by simp only [List.take_succ_cons]; exact bC (ay.1 h).1 (lD n (ay.1 h).2)
 | [],_ :: _,_,h => by simp [VRs] at h
 | _ :: _,[],_,h => by simp [VRs] at h
theorem je : ∀ {xs : List SV} {vs : List Value} (n : Nat),VRs w E lo xs vs → VRs w E lo (xs.drop n) (vs.drop n)
 | [],[],n,_ => by simp [c6]
 | x :: xs,v :: vs,0,h => by simpa using h
 | x :: xs,v :: vs,n + 1,h => by simp only [List.drop_succ_cons]; exact je n (ay.1 h).2
 | [],_ :: _,_,h => by simp [VRs] at h
 | _ :: _,[],_,h => by simp [VRs] at h
theorem k8 : ∀ {xs : List SV} {vs : List Value} {n : Nat} {x : SV},VRs w E lo xs vs → xs[n]? = some x → ∃ v,vs[n]? = some v ∧ VR w E lo x v
 | [],_,n,x,_,hx => by simp at hx
 | y :: xs,v :: vs,0,x,h,hx => by simp at hx; subst hx; exact ⟨v,rfl,(ay.1 h).1⟩
 | y :: xs,v :: vs,n + 1,x,h,hx => by simpa using k8 (ay.1 h).2 (by simpa using hx)
 | _ :: _,[],_,_,h,_ => by simp [VRs] at h
end
def SV.one : SV → Bool
 | .u | .agg _ | .tup _ => false
 | _ => true
theorem Rep.one {w : World} {bad : Nat → Prop} {lo : Nat} {x : PV} {v : Value} (h : Rep w bad lo x v) : v.oneCell' = true := by
 cases h <;> first | assumption | rfl
theorem Hq {w : World} {E : Env} {lo : Nat} {sv : SV} {v : Value} (h1 : sv.one = true) (h : VR w E lo sv v) : v.oneCell' = true := by
 cases sv <;> simp only [SV.one,Bool.false_eq_true] at h1 <;> simp only [VR] at h
 ·exact h.one
 ·obtain ⟨b,_,rfl⟩ := h; rfl
 ·obtain ⟨_,a,n,c,rfl⟩ := h; rfl
 ·obtain ⟨b,n,c,_,rfl⟩ := h; rfl
 ·obtain ⟨b,o,rfl,_⟩ := h; rfl
 ·obtain ⟨a,rfl,_⟩ := h; rfl
 ·exact h.2
 ·obtain ⟨vs,ws,rfl,_⟩ := h; rfl
 ·obtain ⟨y,rfl,_⟩ := h; rfl
theorem qM {v : Value} (h : v.oneCell' = true) : v.cells = #[v] := by
 cases v <;> first | rfl | (simp [Value.oneCell'] at h)
def uo : List SV → Bool
 | [] => true
 | x :: xs => match x.one with | true => uo xs | false => false
theorem AJ {w : World} {E : Env} {lo : Nat} : ∀ {xs : List SV} {vs : List Value},uo xs = true → VRs w E lo xs vs → ∀ v ∈ vs,v.oneCell' = true
 | [],[],_,_,v,hv => by simp at hv
 | x :: xs,v :: vs,h1,h,u,hu => by
  simp only [uo] at h1
  cases hx : x.one with
  | false => simp [hx] at h1
  | true =>
   simp only [hx] at h1
   rcases List.mem_cons.1 hu with rfl | hu
   ·exact Hq hx (ay.1 h).1
   ·exact AJ h1 (ay.1 h).2 u hu
 | [],_ :: _,_,h,_,_ => by simp [VRs] at h
 | _ :: _,[],_,h,_,_ => by simp [VRs] at h
def cellsOf : SV → Option (List SV)
 | .agg xs => some xs
 | .tup _ => none
 | .u => none
 | x => some [x]
theorem nh {w : World} {E : Env} {lo : Nat} {sv : SV} {xs : List SV} {v : Value} (h : cellsOf sv = some xs) (hv : VR w E lo sv v) : VRs w E lo xs v.cells.toList := by
 cases sv with
 | agg ys =>
  simp only [cellsOf,Option.some.injEq] at h; subst h
  simp only [VR] at hv; obtain ⟨vs,rfl,hv⟩ := hv
  simpa [Value.cells] using hv
 | tup ys => simp [cellsOf] at h
 | u => simp [cellsOf] at h
 | _ =>
  simp only [cellsOf,Option.some.injEq] at h; subst h
  rw [qM (Hq rfl hv)]
  exact bC hv c6
def spl {α : Type} (cs : List α) (off : Nat) (new : List α) : List α := cs.take off ++ (new ++ cs.drop (off + new.length))
theorem DZ {w : World} {E : Env} {lo : Nat} {cs new : List SV} {vs us : List Value} (off : Nat) (h : VRs w E lo cs vs) (k : VRs w E lo new us) : VRs w E lo (spl cs off new) (spl vs off us) := by
 unfold spl
 rw [bJ k]
 exact gm (lD off h) (gm k (je _ h))
def St.put (σ : St) (dst : Option Nat) (sv : SV) : St :=
 match dst with
 | some d => ⟨(d,sv) :: σ.ab,σ.tab⟩
 | none => σ
def St.get (σ : St) (t : Nat) : SV := match lk σ.ab t with | some x => x | none => .u
def ev (σ : St) : Operand → SV
 | .tmp t => σ.get t
 | .const v => match v.oneCell' with | true => .p (.v v) true | false => .u
 | .func f => .fn (.func f) [] []
 | .global _ => .u
theorem cT {w : World} {E : Env} {lo : Nat} {v : Value} (fr : Bool) (h : v.oneCell' = true) : VR w E lo (.p (.v v) fr) v := by simp only [VR]; exact .v v h
theorem a7 {C : Ctx} {E : Env} {σ : St} {a : Act} {w : World} (h : au C E σ a w) (x : Operand) : VR w E C.lo (ev σ x) (a.eval x) := by
 cases x with
 | tmp t =>
  simp only [ev,St.get,Act.eval]
  cases hq : lk σ.ab t with
  | none => simp [VR]
  | some sv => exact h.ab t sv hq
 | const v =>
  simp only [ev,Act.eval]
  cases hq : v.oneCell' with
  | false => simp [VR]
  | true => exact cT true hq
 | global g => simp [ev,VR]
 | func f => simp only [ev,Act.eval,VR]; exact ⟨[],[],rfl,c6,c6⟩
theorem au.upd {C : Ctx} {E E' : Env} {σ : St} {a : Act} {w w' : World} {T' : Tab} {sv : SV} {v : Value} (h : au C E σ a w) (hfr : Fr w E w' E')
  (hval : ∀ k x,E.val k = some x → E'.val k = some x) (hnew : ∀ k,C.n ≤ k → E.val k = none → E'.val k = none) (ht : a8 w' E' C.lo T') (dst : Option Nat) (hd : ∀ d,dst = some d → d < C.n) (hsv : ∀ d,dst = some d → VR w' E' C.lo sv v) :
  au C E' ((⟨σ.ab,T'⟩ : St).put dst sv) (a.put dst v) w' := by
 have hpres : ∀ k x,C.E0.val k = some x → E'.val k = some x ∨ E'.val k = none := by
  intro k x hk
  rcases h.gZ k x hk with h1 | h1
  ·exact .inl (hval k x h1)
  ·exact .inr (hnew k (h.ids k (by rw [hk]; simp)) h1)
 cases dst with
 | none => exact ⟨h.size,h.defers,fun t s hl => VR.mono hfr.keeps hval s _ (h.ab t s hl),ht,h.fr.trans hfr,h.lo,h.ids,hpres⟩
 | some d =>
  refine ⟨by simp [Act.put,h.size],h.defers,?_,ht,h.fr.trans hfr,h.lo,h.ids,hpres⟩
  intro t s hl
  simp only [St.put] at hl
  by_cases he : t = d
  ·subst he
   rw [ar] at hl; cases hl
   have : t < a.tmps.size := by rw [h.size]; exact hd t rfl
   simp only [Act.put,Array.getD_eq_getD_getElem?,Array.getElem?_setIfInBounds,if_true,this]
   exact hsv t rfl
  ·rw [aq _ _ _ _ he] at hl
   have := VR.mono hfr.keeps hval s _ (h.ab t s hl)
   simpa [Act.put,Array.getElem?_setIfInBounds,Ne.symm he] using this
theorem au.Rz {C : Ctx} {E E' : Env} {σ : St} {a : Act} {w w' : World} {T' : Tab} {sv : SV} {v : Value} {k : Nat} (h : au C E σ a w) (hfr : Fr w E w' E')
  (hval : But k E E') (hnew : ∀ j,C.n ≤ j → (E.val j = none ∨ j = k) → E'.val j = none) (ht : a8 w' E' C.lo T') (dst : Option Nat) (hd : ∀ d,dst = some d → d < C.n) (hsv : ∀ d,dst = some d → VR w' E' C.lo sv v) :
  au C E' ((⟨dU k .u (fun _ => .u) σ.ab,T'⟩ : St).put dst sv) (a.put dst v) w' := by
 have hslots : ∀ t s,lk (dU k .u (fun _ => .u) σ.ab) t = some s → VR w' E' C.lo s (a.tmps.getD t undef) := by
  intro t s hl
  rw [oV] at hl
  cases hq : lk σ.ab t with
  | none => simp [hq] at hl
  | some s0 =>
   simp [hq] at hl; subst hl
   exact VR.fz hfr.keeps hval (fun _ _ => by simp [VR]) (fun _ _ _ => by simp [VR]) s0 _ (h.ab t s0 hq)
 have hpres : ∀ j x,C.E0.val j = some x → E'.val j = some x ∨ E'.val j = none := by
  intro j x hj
  have hid := h.ids j (by rw [hj]; simp)
  by_cases he : j = k
  ·exact .inr (hnew j hid (.inr he))
  ·rcases h.gZ j x hj with h1 | h1
   ·exact .inl (hval j x he h1)
   ·exact .inr (hnew j hid (.inl h1))
 cases dst with
 | none => exact ⟨h.size,h.defers,hslots,ht,h.fr.trans hfr,h.lo,h.ids,hpres⟩
 | some d =>
  refine ⟨by simp [Act.put,h.size],h.defers,?_,ht,h.fr.trans hfr,h.lo,h.ids,hpres⟩
  intro t s hl
  simp only [St.put] at hl
  by_cases he : t = d
  ·subst he
   rw [ar] at hl; cases hl
   have : t < a.tmps.size := by rw [h.size]; exact hd t rfl
   simp only [Act.put,Array.getD_eq_getD_getElem?,Array.getElem?_setIfInBounds,if_true,this]
   exact hsv t rfl
  ·rw [aq _ _ _ _ he] at hl
   simpa [Act.put,Array.getElem?_setIfInBounds,Ne.symm he] using hslots t s hl
theorem OR.eU {w w' : World} {E E' : Env} {lo j : Nat} (hk : z8 w E w' E') (hv : ∀ k x,E.val k = some x → E'.val k = some x)
  (hown : ∀ b,E'.own b = some j ↔ E.own b = some j) (hheap : ∀ b,E.own b = some j → w'.heap[b]? = w.heap[b]?) {ov : OV} (h : OR w E lo j ov) : OR w' E' lo j ov := by
 cases ov with
 | box t cells =>
  obtain ⟨b,vs,h1,h2,h3,h4⟩ := h
  exact ⟨b,vs,hv _ _ h1,(hown b).2 h2,by rw [hheap b h2]; exact h3,VRs.eU hk hv _ _ h4⟩
 | vec t sz rows fr =>
  obtain ⟨v,xs,h1,h2,h3,h4,h5⟩ := h
  refine ⟨v,xs,hv _ _ h1,h2,?_,fun g hg => (hown g).2 (h4 g hg),h5.mono (Nat.le_refl _) hk⟩
  refine ⟨h3.1,?_⟩
  rcases h3.2 with hn | ⟨g,cap,cur,hv',hb,hg,r⟩
  ·exact .inl hn
  ·exact .inr ⟨g,cap,cur,hv',hb,by rw [hheap g (h4 g (by rw [hv']; rfl))]; exact hg,r⟩
 | mp a rows fr =>
  obtain ⟨b,es,cl,h1,h2,h3,h4⟩ := h
  exact ⟨b,es,cl,hv _ _ h1,(hown b).2 h2,by rw [hheap b h2]; exact h3,h4.mono (Nat.le_refl _) hk⟩
theorem OR.mono {w w' : World} {E E' : Env} {lo j : Nat} (hk : cP w E w' E') (hv : ∀ k x,E.val k = some x → E'.val k = some x)
  (hown : ∀ b,E'.own b = some j ↔ E.own b = some j) (hheap : ∀ b,E.own b = some j → w'.heap[b]? = w.heap[b]?) {ov : OV} (h : OR w E lo j ov) : OR w' E' lo j ov := OR.eU hk.rep hv hown hheap h
theorem a8.same {w w' : World} {E : Env} {lo : Nat} {T : Tab} (h : a8 w E lo T) (hs : w.heap.size ≤ w'.heap.size) (hb : ∀ b,b < w.heap.size → w'.heap[b]? = w.heap[b]?) : a8 w' E lo T :=
 ⟨fun k ov hl => OR.mono ⟨fun b hlt ho => ⟨hb b hlt,ho⟩,rfl⟩ (fun _ _ h => h) (fun _ => Iff.rfl) (fun b ho => hb b (h.own b k ho).1) (h.obj k ov hl),h.dead,
  fun b k ho => ⟨Nat.lt_of_lt_of_le (h.own b k ho).1 hs,(h.own b k ho).2⟩,fun b hx => ⟨Nat.lt_of_lt_of_le (h.ext b hx).1 hs,(h.ext b hx).2⟩⟩
def Env.add (E : Env) (d : Nat) (x : Value) (b : Nat) : Env := ⟨fun j => if j = d then some x else E.val j,fun c => if c = b then some d else E.own c,E.ext⟩
theorem a8.add {w w' : World} {E : Env} {lo d b0 : Nat} {x : Value} {T : Tab} {ov : OV} (h : a8 w E lo T) (hd : lk T d = none) (_hs : w.heap.size ≤ w'.heap.size)
  (hb : ∀ b,b < w.heap.size → w'.heap[b]? = w.heap[b]?) (h0 : w.heap.size ≤ b0) (h0' : b0 < w'.heap.size) (hlo : lo ≤ w.heap.size) (hor : OR w' (E.add d x b0) lo d ov) :
  a8 w' (E.add d x b0) lo ((d,ov) :: T) := by
 have hne : ∀ b k,E.own b = some k → b ≠ b0 := fun b k ho => by have := (h.own b k ho).1; omega
 refine ⟨?_,?_,?_,?_⟩
 ·intro k o hl
  by_cases he : k = d
  ·subst he; rw [ar] at hl; cases hl; exact hor
  ·rw [aq _ _ _ _ he] at hl
   refine OR.mono (E := E) (E' := E.add d x b0) ⟨fun b hlt ho => ⟨hb b hlt,?_⟩,rfl⟩ (fun j y hj => ?_) (fun b => ?_) (fun b ho => hb b (h.own b k ho).1) (h.obj k o hl)
   ·simp only [Env.add]; rw [if_neg (by omega)]; exact ho
   ·simp only [Env.add]; rw [if_neg (fun e => by subst e; rw [h.dead j hd] at hj; cases hj)]; exact hj
   ·simp only [Env.add]
    by_cases hbb : b = b0
    ·subst hbb; simp only [if_true]
     exact ⟨fun e => by simp at e; exact absurd e.symm he,fun e => absurd rfl (hne b k e)⟩
    ·rw [if_neg hbb]
 ·intro k hl
  have he : k ≠ d := fun e => by subst e; rw [ar] at hl; cases hl
  rw [aq _ _ _ _ he] at hl
  simp only [Env.add]; rw [if_neg he]; exact h.dead k hl
 ·intro b k ho
  simp only [Env.add] at ho
  by_cases hbb : b = b0
  ·subst hbb; simp at ho; subst ho; exact ⟨h0',by omega,by rw [ar]; simp⟩
  ·rw [if_neg hbb] at ho
   have := h.own b k ho
   refine ⟨by omega,this.2.1,?_⟩
   by_cases he : k = d
   ·subst he; rw [ar]; simp
   ·rw [aq _ _ _ _ he]; exact this.2.2
 ·intro b hx
  have := h.ext b hx
  refine ⟨by omega,?_⟩
  simp only [Env.add]; rw [if_neg (by omega)]; exact this.2
theorem Fr.add {w w' : World} {E : Env} {d b0 : Nat} {x : Value} (ho : w'.os = w.os) (ht : w'.tape = w.tape) (hu : w'.output = w.output) (hs : w.heap.size ≤ w'.heap.size)
  (hb : ∀ b,b < w.heap.size → w'.heap[b]? = w.heap[b]?) (h0 : w.heap.size ≤ b0) : Fr w E w' (E.add d x b0) :=
 ⟨ho,ht,hu,hs,fun b hlt hn => ⟨hb b hlt,by simp only [Env.add]; rw [if_neg (by omega)]; exact hn⟩,rfl⟩
theorem Env.k9 {w : World} {E : Env} {lo d b0 : Nat} {x : Value} {T : Tab} (h : a8 w E lo T) (hd : lk T d = none) : ∀ k y,E.val k = some y → (E.add d x b0).val k = some y := by
 intro k y hk
 simp only [Env.add]; rw [if_neg (fun e => by subst e; rw [h.dead k hd] at hk; cases hk)]; exact hk
theorem a8.set {w w' : World} {E : Env} {lo k : Nat} {T : Tab} {ov : OV} (h : a8 w E lo T) (hk : lk T k ≠ none) (hs : w'.heap.size = w.heap.size)
  (hb : ∀ b,E.own b ≠ some k → w'.heap[b]? = w.heap[b]?) (hor : OR w' E lo k ov) : a8 w' E lo ((k,ov) :: rm T k) := by
 refine ⟨?_,?_,?_,fun b hx => ⟨by have := (h.ext b hx).1; omega,(h.ext b hx).2⟩⟩
 ·intro j o hl
  by_cases he : j = k
  ·subst he; rw [ar] at hl; cases hl; exact hor
  ·rw [aq _ _ _ _ he,bP _ _ _ he] at hl
   exact OR.mono ⟨fun b _ ho => ⟨hb b (by rw [ho]; simp),ho⟩,rfl⟩ (fun _ _ h => h) (fun _ => Iff.rfl) (fun b ho => hb b (by rw [ho]; simp [he])) (h.obj j o hl)
 ·intro j hl
  have he : j ≠ k := fun e => by subst e; rw [ar] at hl; cases hl
  rw [aq _ _ _ _ he,bP _ _ _ he] at hl
  exact h.dead j hl
 ·intro b j ho
  have := h.own b j ho
  refine ⟨by omega,this.2.1,?_⟩
  by_cases he : j = k
  ·subst he; rw [ar]; simp
  ·rw [aq _ _ _ _ he,bP _ _ _ he]; exact this.2.2
theorem Fr.set {w w' : World} {E : Env} {k : Nat} (ho : w'.os = w.os) (ht : w'.tape = w.tape) (hu : w'.output = w.output) (hs : w'.heap.size = w.heap.size)
  (hb : ∀ b,E.own b ≠ some k → w'.heap[b]? = w.heap[b]?) : Fr w E w' E :=
 ⟨ho,ht,hu,by omega,fun b _ hn => ⟨hb b (by rw [hn]; simp),hn⟩,rfl⟩
end Go.TL
namespace Go.TL
def bs (C : Ctx) (o : Oper) (σ' : St) (a : Act) (w : World) : Prop :=
 ∃ v w',((execOp a.eval o).run C.P w = .ok (.value v) w' ∨ ((execOp a.eval o).run C.P w = .ok .skip w' ∧ v = undef)) ∧ Holds C σ' (a.put o.dst v) w'
def aV (C : Ctx) (o : Oper) : Prop := ∀ d,o.dst = some d → d < C.n
theorem bn {C : Ctx} {E : Env} {σ : St} {a : Act} {w : World} {o : Oper} {sv : SV} {v : Value} (h : au C E σ a w) (hd : aV C o)
  (hrun : (execOp a.eval o).run C.P w = .ok (.value v) w) (hsv : VR w E C.lo sv v) : bs C o (σ.put o.dst sv) a w :=
 ⟨v,w,.inl hrun,E,h.upd (Fr.refl w E) (fun _ _ h => h) (fun _ _ h => h) h.tab o.dst hd fun _ _ => hsv⟩
def jB (z : Value) : Option (List SV) :=
 match z.cells.toList.all (·.oneCell') with
 | true => some (z.cells.toList.map fun v => .p (.v v) true)
 | false => none
theorem mA {w : World} {E : Env} {lo : Nat} {z : Value} {xs : List SV} (h : jB z = some xs) : VRs w E lo xs z.cells.toList := by
 unfold jB at h
 cases hq : z.cells.toList.all (·.oneCell') with
 | false => simp [hq] at h
 | true =>
  simp only [hq,Option.some.injEq] at h; subst h
  have := List.all_eq_true.1 hq
  generalize z.cells.toList = l at this ⊢
  induction l with
  | nil => exact c6
  | cons x l ih => exact bC (cT true (this x (by simp))) (ih fun y hy => this y (by simp [hy]))
def qN (σ : St) (o : Oper) (x : Operand) : Option (St × Prop) := some (σ.put o.dst (ev σ x),True)
def qO (σ : St) (o : Oper) (c x y : Operand) : Option (St × Prop) :=
 match ev σ c with
 | .p (.v (.bool true)) _ => some (σ.put o.dst (ev σ x),True)
 | .p (.v (.bool false)) _ => some (σ.put o.dst (ev σ y),True)
 | _ => none
theorem eW {w : World} {bad : Nat → Prop} {lo : Nat} {x v : Value} (h : Rep w bad lo (.v x) v) : v = x := by cases h; rfl
theorem cf {w : World} {E : Env} {lo : Nat} {x v : Value} {fr : Bool} (h : VR w E lo (.p (.v x) fr) v) : v = x := by simp only [VR] at h; exact eW h
theorem fC {C : Ctx} {E : Env} {σ : St} {a : Act} {w : World} {x : Operand} {y : Value} {fr : Bool} (h : au C E σ a w) (he : ev σ x = .p (.v y) fr) : a.eval x = y := by
 have := a7 h x; rw [he] at this; exact cf this
theorem D0 {C : Ctx} {E : Env} {σ : St} {a : Act} {w w1 : World} {o : Oper} {d : Nat} {t : TypeId} {xs : List SV} {vs : List Value} (h : au C E σ a w) (hd : aV C o) (hdst : o.dst = some d)
  (hfresh : lk σ.tab d = none) (hw1 : w1 = w.alloc (.cells vs.toArray t))
  (hrun : (execOp a.eval o).run C.P w = .ok (.value (.pointer (some ⟨w.heap.size,0,none⟩))) w1) (hxs : VRs w E C.lo xs vs) :
  bs C o ⟨(d,.ptr d 0) :: σ.ab,(d,.box t xs) :: σ.tab⟩ a w := by
 subst hw1
 have hb : ∀ b,b < w.heap.size → (w.alloc (.cells vs.toArray t)).heap[b]? = w.heap[b]? := fun b hb => heap_alloc_old w _ b hb
 have hlo : C.lo ≤ w.heap.size := Nat.le_trans h.lo.le h.fr.size
 have hfr : Fr w E (w.alloc (.cells vs.toArray t)) (E.add d (.pointer (some ⟨w.heap.size,0,none⟩)) w.heap.size) :=
  Fr.add rfl rfl rfl (by simp) hb (Nat.le_refl _)
 have hval := Env.k9 (w := w) (b0 := w.heap.size) (x := .pointer (some ⟨w.heap.size,0,none⟩)) h.tab hfresh
 have htab := a8.add (w' := w.alloc (.cells vs.toArray t)) (x := .pointer (some ⟨w.heap.size,0,none⟩)) (b0 := w.heap.size) (ov := .box t xs) h.tab hfresh (by simp) hb (Nat.le_refl _) (by simp) hlo
  ⟨w.heap.size,vs,by simp [Env.add],by simp [Env.add],heap_alloc_new w _,VRs.mono hfr.keeps hval _ _ hxs⟩
 refine ⟨_,_,.inl hrun,E.add d (.pointer (some ⟨w.heap.size,0,none⟩)) w.heap.size,?_⟩
 have hdn : d < C.n := hd d hdst
 have := h.upd hfr hval (fun k hk hn => by simp only [Env.add]; rw [if_neg (by omega)]; exact hn) htab o.dst hd (sv := .ptr d 0) (v := .pointer (some ⟨w.heap.size,0,none⟩)) (fun _ _ => by simp only [VR]; exact ⟨w.heap.size,by simp [Env.add],rfl⟩)
 rw [hdst] at this ⊢
 exact this
def sE (P : Program) (σ : St) (o : Oper) (t : TypeId) : Option (St × Prop) :=
 match o.dst,P.info? t with
 | some d,some i => match lk σ.tab d,i.zero with
  | none,some z => match jB z with
   | some xs => some (⟨(d,.ptr d 0) :: σ.ab,(d,.box t xs) :: σ.tab⟩,True)
   | none => none
  | _,_ => none
 | _,_ => none
theorem zR {C : Ctx} {E : Env} {σ σ' : St} {a : Act} {w : World} {o : Oper} {t : TypeId} {vc : Prop} (ho : o.op = .alloc t)
  (hf : sE C.P σ o t = some (σ',vc)) (h : au C E σ a w) (hd : aV C o) : bs C o σ' a w := by
 unfold sE at hf
 split at hf
 ·rename_i d i hdst hi
  split at hf
  ·rename_i z hl hz
   split at hf
   ·rename_i xs hx
    simp only [Option.some.injEq,Prod.mk.injEq] at hf; obtain ⟨rfl,_⟩ := hf
    refine D0 h hd hdst hl rfl (vs := z.cells.toList) ?_ (mA hx)
    simp [execOp,ho,Instr.alloc,zeroValue,typeInfo,hi,hz,newVar,newRow]
   ·cases hf
  ·cases hf
 ·cases hf
def Aa (σ : St) (o : Oper) (t : TypeId) (x : Operand) : Option (St × Prop) :=
 match o.dst,cellsOf (ev σ x) with
 | some d,some xs => match lk σ.tab d with
  | none => some (⟨(d,.ptr d 0) :: σ.ab,(d,.box t xs) :: σ.tab⟩,True)
  | _ => none
 | _,_ => none
theorem Dg {C : Ctx} {E : Env} {σ σ' : St} {a : Act} {w : World} {o : Oper} {t : TypeId} {x : Operand} {vc : Prop} (ho : o.op = .box t x)
  (hf : Aa σ o t x = some (σ',vc)) (h : au C E σ a w) (hd : aV C o) : bs C o σ' a w := by
 unfold Aa at hf
 split at hf
 ·rename_i d xs hdst hx
  split at hf
  ·rename_i hl
   simp only [Option.some.injEq,Prod.mk.injEq] at hf; obtain ⟨rfl,_⟩ := hf
   refine D0 h hd hdst hl rfl (vs := (a.eval x).cells.toList) ?_ (nh hx (a7 h x))
   simp [execOp,ho,Instr.box,newVar,newRow]
  ·cases hf
 ·cases hf
def gn (place : Nat → Option (Nat × Nat)) (cells : List SV) : List (Nat × SV) → Option (List SV)
 | [] => some cells
 | (i,x) :: rest => match place i,cellsOf x with
  | some (off,size),some xs => match Nat.beq xs.length size,Nat.ble (off + xs.length) cells.length with
   | true,true => gn place (spl cells off xs) rest
   | _,_ => none
  | _,_ => none
theorem Hr (l : List Value) : ∀ (k off : Nat) (cs : Array Value),off + k + l.length ≤ cs.size →
  ((l.zipIdx k).foldl (fun cs (x : Value × Nat) => cs.setIfInBounds (off + x.2) x.1) cs).toList = spl cs.toList (off + k) l := by
 induction l with
 | nil => intro k off cs _; simp [spl]
 | cons x l ih =>
  intro k off cs h
  simp only [List.length_cons] at h
  simp only [List.zipIdx_cons,List.foldl_cons]
  rw [ih (k + 1) off _ (by simp; omega)]
  have e := list_seg_step cs.toList (off + k) x l (by simp; omega)
  simp only [spl,Array.toList_setIfInBounds,List.length_cons] at e ⊢
  simpa [List.append_assoc,Nat.add_assoc] using e
theorem oX {w : World} {E : Env} {lo : Nat} (place : Nat → Option (Nat × Nat)) : ∀ (ps : List (Nat × SV)) (qs : List (Nat × Value)) (cells : List SV) (cs : Array Value) (out : List SV),
  ps.length = qs.length → (∀ (n : Nat) p q,ps[n]? = some p → qs[n]? = some q → p.1 = q.1 ∧ VR w E lo p.2 q.2) →
  VRs w E lo cells cs.toList → gn place cells ps = some out → ∃ r,Instr.fill place cs qs = some r ∧ VRs w E lo out r.toList
 | [],[],cells,cs,out,_,_,hc,hf => by simp [gn] at hf; subst hf; exact ⟨cs,rfl,hc⟩
 | [],_ :: _,_,_,_,hl,_,_,_ => by simp at hl
 | _ :: _,[],_,_,_,hl,_,_,_ => by simp at hl
 | (i,x) :: ps,(j,v) :: qs,cells,cs,out,hl,hp,hc,hf => by
  have h0 := hp 0 (i,x) (j,v) rfl rfl
  obtain ⟨e0,r0⟩ := h0
  simp only at e0 r0; subst e0
  simp only [gn] at hf
  split at hf
  ·rename_i off size xs hpl hcx
   split at hf
   ·rename_i hsz hle
    have hsz' := Nat.eq_of_beq_eq_true hsz
    have hle' := Nat.le_of_ble_eq_true hle
    have hvx := nh hcx r0
    have hlen := bJ hvx
    have hlen2 := bJ hc
    simp at hlen hlen2
    simp only [Instr.fill,hpl]
    have c1 : (decide (v.cells.size ≠ size) || decide (off + v.cells.size > cs.size)) = false := by
     simp; omega
    rw [if_neg (by simpa using c1)]
    have hsp := Hr v.cells.toList 0 off cs (by simp; omega)
    simp only [Nat.add_zero] at hsp
    refine oX place ps qs (spl cells off xs) _ out (by simpa using hl) (fun n p q h1 h2 => hp (n + 1) p q (by simpa using h1) (by simpa using h2)) ?_ hf
    have := DZ off hc hvx
    rw [← hsp] at this
    rw [← Array.foldl_toList,Array.toList_zipIdx]
    exact this
   ·cases hf
  ·cases hf
def qP (P : Program) (t : TypeId) (parts : List (Nat × SV)) : Option (List SV) :=
 match P.info? t,P.underlying t with
 | some it,some (.array _ e) =>
  match it.zero,P.info? e with
  | some z,some ie => match jB z with
   | some cs => gn (fun i => some (i * ie.size,ie.size)) cs parts
   | none => none
  | _,_ => none
 | some it,some (.struct fields) =>
  match it.zero,fields.toList.mapM (fun f => (P.info? f.type).map fun i => (f.offset,i.size)) with
  | some z,some places => match jB z with
   | some cs => gn (places.toArray[·]?) cs parts
   | none => none
  | _,_ => none
 | _,_ => none
theorem Hs {P : Program} {w : World} {E : Env} {lo : Nat} {t : TypeId} {ps : List (Nat × SV)} {qs : List (Nat × Value)} {out : List SV}
  (hl : ps.length = qs.length) (hp : ∀ (n : Nat) p q,ps[n]? = some p → qs[n]? = some q → p.1 = q.1 ∧ VR w E lo p.2 q.2)
  (hf : qP P t ps = some out) : ∃ r,P.built t qs = some r ∧ VRs w E lo out r.toList := by
 unfold qP at hf
 unfold Program.built
 cases hi : P.info? t with
 | none => simp [hi] at hf
 | some it =>
  cases hu : P.underlying t with
  | none => simp [hi,hu] at hf
  | some d =>
   cases d with
   | array n e =>
    simp only [hi,hu] at hf ⊢
    cases hz : it.zero with
    | none => simp [hz] at hf
    | some z =>
     cases he : P.info? e with
     | none => simp [hz,he] at hf
     | some ie =>
      simp only [hz,he] at hf ⊢
      cases hq : jB z with
      | none => simp [hq] at hf
      | some cs =>
       simp only [hq] at hf
       exact oX _ ps qs cs z.cells out hl hp (mA hq) hf
   | struct fields =>
    simp only [hi,hu] at hf ⊢
    cases hz : it.zero with
    | none => simp [hz] at hf
    | some z =>
     cases he : fields.toList.mapM (fun f => (P.info? f.type).map fun i => (f.offset,i.size)) with
     | none => simp [hz,he] at hf
     | some places =>
      simp only [hz,he] at hf ⊢
      cases hq : jB z with
      | none => simp [hq] at hf
      | some cs =>
       simp only [hq] at hf
       exact oX _ ps qs cs z.cells out hl hp (mA hq) hf
   | _ => simp [hi,hu] at hf
def dV (σ : St) : List (Nat × Operand) → List (Nat × SV)
 | [] => []
 | (i,x) :: r => (i,ev σ x) :: dV σ r
theorem ni {C : Ctx} {E : Env} {σ : St} {a : Act} {w : World} (h : au C E σ a w) : ∀ l : List (Nat × Operand),
  (dV σ l).length = (l.map fun (i,x) => (i,a.eval x)).length ∧
  ∀ (n : Nat) p q,(dV σ l)[n]? = some p → (l.map fun (i,x) => (i,a.eval x))[n]? = some q → p.1 = q.1 ∧ VR w E C.lo p.2 q.2
 | [] => by simp [dV]
 | (i,x) :: r => by
  have ih := ni h r
  refine ⟨by simp [dV,ih.1],?_⟩
  intro n p q hp hq
  cases n with
  | zero => simp [dV] at hp hq; subst hp; subst hq; exact ⟨rfl,a7 h x⟩
  | succ n => exact ih.2 n p q (by simpa [dV] using hp) (by simpa using hq)
def sF (P : Program) (σ : St) (o : Oper) (t : TypeId) (parts : Array (Nat × Operand)) : Option (St × Prop) :=
 match qP P t (dV σ parts.toList) with
 | some xs => some (σ.put o.dst (.agg xs),True)
 | none => none
theorem zS {C : Ctx} {E : Env} {σ σ' : St} {a : Act} {w : World} {o : Oper} {t : TypeId} {parts : Array (Nat × Operand)} {vc : Prop} (ho : o.op = .build t parts)
  (hf : sF C.P σ o t parts = some (σ',vc)) (h : au C E σ a w) (hd : aV C o) : bs C o σ' a w := by
 unfold sF at hf
 split at hf
 ·rename_i xs hx
  simp only [Option.some.injEq,Prod.mk.injEq] at hf; obtain ⟨rfl,_⟩ := hf
  have hp := ni h parts.toList
  obtain ⟨r,hr,hv⟩ := Hs hp.1 hp.2 hx
  refine bn h hd (v := .agg r) ?_ (by simp only [VR]; exact ⟨r.toList,by simp,hv⟩)
  have := run_build (P := C.P) w t (parts.map fun (i,x) => (i,a.eval x)) r (by simpa using hr)
  simp [execOp,ho,this]
 ·cases hf
end Go.TL
