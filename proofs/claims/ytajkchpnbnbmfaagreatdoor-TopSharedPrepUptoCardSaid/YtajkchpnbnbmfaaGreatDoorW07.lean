/- A zone: blocks of one's own of which all that lies in them is known; data that are well formed there. -/
import Derived.Test.YtajkchpnbnbmfaaGreatDoorW06
import Derived.Test.YtajkchpnbnbmfaaGreatDoorW05
import Derived.Laws.Small
namespace Go.TL
abbrev aP := Nat → Option Obj
def S9 (c : aP) : World → Value → (Nat → Prop) → Prop := fun w _ B => (∀ b,B b ↔ c b ≠ none) ∧ ∀ b o,c b = some o → w.heap[b]? = some o
inductive WF (P : Program) (room : Bool) (c : aP) : Nat → CK → Value → Prop
 | int (d : Nat) (k : IntKind) (n : Int) (h1 : k.min ≤ n) (h2 : n ≤ k.max) : WF P room c d (.int k) (.int k n)
 | bool (d : Nat) (x : Bool) : WF P room c d .bool (.bool x)
 | str (d : Nat) (x : ByteArray) (h : x.size ≤ bz) : WF P room c d .str (.string x)
 | nil (d : Nat) (e : TypeId) : WF P room c d (.sl e) (.slice none 0 0)
 | sl (d : Nat) (e : TypeId) (b o len cap : Nat) (cs : Array Value) (t : TypeId) (g : Nat → Nat → Value) (hb : c b = some (.cells cs t (0,0))) (hle : len ≤ cap) (hl : len ≤ b7) (hm : room = true → cap ≤ len + 2)
   (hc : ∀ i : Nat,i < (if room then cap else len) → ∀ (j : Nat) (ck : CK),(cks P e)[j]? = some ck → cs[o + i * (cks P e).length + j]? = some (g i j))
   (hw : ∀ i : Nat,i < (if room then cap else len) → ∀ (j : Nat) (ck : CK),(cks P e)[j]? = some ck → WF P room c d ck (g i j)) :
   WF P room c (d + 1) (.sl e) (.slice (some ⟨b,o,none⟩) len cap)
theorem WF.up {P : Program} {room : Bool} {c : aP} {d : Nat} {ck : CK} {v : Value} (h : WF P room c d ck v) : ∀ d',d ≤ d' → WF P room c d' ck v := by
 induction h with
 | int d k n h1 h2 => exact fun d' _ => .int d' k n h1 h2
 | bool d x => exact fun d' _ => .bool d' x
 | str d x h => exact fun d' _ => .str d' x h
 | nil d e => exact fun d' _ => .nil d' e
 | sl d e b o len cap cs t g hb hle hl hm hc hw ih =>
  intro d' hd
  obtain ⟨k,rfl⟩ : ∃ k,d' = k + 1 := ⟨d' - 1,by omega⟩
  exact .sl k e b o len cap cs t g hb hle hl hm hc fun i hi j ck hj => ih i hi j ck hj k (by omega)
def uw (v0 v : Value) : Prop :=
 v = v0 ∨ (∃ k n m,v0 = .int k n ∧ v = .int k m ∧ k.min ≤ m ∧ m ≤ k.max) ∨ (∃ x y,v0 = .bool x ∧ v = .bool y) ∨ (∃ x y,v0 = .string x ∧ v = .string y ∧ y.size ≤ bz)
def KEq (c0 c : aP) : Prop :=
 (∀ b,c0 b = none ↔ c b = none) ∧ ∀ b cs t fz,c0 b = some (.cells cs t fz) → ∃ cs',c b = some (.cells cs' t fz) ∧ cs'.size = cs.size ∧ ∀ (j : Nat) (v0 : Value),cs[j]? = some v0 → ∃ v,cs'[j]? = some v ∧ uw v0 v
theorem WF.Fx {P : Program} {room : Bool} {c : aP} {d : Nat} {ck : CK} {v0 v : Value} (h : WF P room c d ck v0) (hk : uw v0 v) : WF P room c d ck v := by
 rcases hk with rfl | ⟨k,n,m,rfl,rfl,h1,h2⟩ | ⟨x,y,rfl,rfl⟩ | ⟨x,y,rfl,rfl,h1⟩
 ·exact h
 ·cases h with | int => exact .int _ _ _ h1 h2
 ·cases h with | bool => exact .bool _ _
 ·cases h with | str => exact .str _ _ h1
theorem WF.keq {P : Program} {room : Bool} {c0 c : aP} (hk : KEq c0 c) {d : Nat} {ck : CK} {v : Value} (h : WF P room c0 d ck v) : WF P room c d ck v := by
 induction h with
 | int d k n h1 h2 => exact .int d k n h1 h2
 | bool d x => exact .bool d x
 | str d x h => exact .str d x h
 | nil d e => exact .nil d e
 | sl d e b o len cap cs t g hb hle hl hm hc hw ih =>
  obtain ⟨cs',h1,h2,h3⟩ := hk.2 b cs t (0,0) hb
  have key : ∀ i : Nat,i < (if room then cap else len) → ∀ (j : Nat) (ck : CK),(cks P e)[j]? = some ck → ∃ v,cs'[o + i * (cks P e).length + j]? = some v ∧ uw (g i j) v :=
   fun i hi j ck hj => h3 _ _ (hc i hi j ck hj)
  refine .sl d e b o len cap cs' t (fun i j => (cs'[o + i * (cks P e).length + j]?).getD undef) h1 hle hl hm (fun i hi j ck hj => ?_) fun i hi j ck hj => ?_
  ·obtain ⟨v,q1,q2⟩ := key i hi j ck hj
   rw [q1]; rfl
  ·obtain ⟨v,q1,q2⟩ := key i hi j ck hj
   simp only [q1,Option.getD_some]
   exact (ih i hi j ck hj).Fx q2
theorem fQ {p : Nat → Nat → Prop} (hm : ∀ i d d',d ≤ d' → p i d → p i d') : ∀ (n : Nat),(∀ i,i < n → ∃ d,p i d) → ∃ d, ∀ i,i < n → p i d
 | 0,_ => ⟨0,fun i hi => absurd hi (Nat.not_lt_zero i)⟩
 | n + 1,h => by
  obtain ⟨d1,h1⟩ := fQ hm n fun i hi => h i (by omega)
  obtain ⟨d2,h2⟩ := h n (by omega)
  refine ⟨max d1 d2,fun i hi => ?_⟩
  by_cases he : i = n
  ·subst he; exact hm i d2 _ (by omega) h2
  ·exact hm i d1 _ (by omega) (h1 i (by omega))
end Go.TL
namespace Go.TL.H
open Go
abbrev cj := List (Nat × Value)
def du : Option Nat → Value → cj → cj
 | some d,v,l => (d,v) :: l
 | none,_,l => l
structure SL (n : Nat) (sl : cj) (a : Act) : Prop where
 size : a.tmps.size = n
 defers : a.defers = []
 ab : ∀ t v,lk sl t = some v → a.tmps.getD t undef = v
def dok (n : Nat) : Option Nat → Bool
 | some d => Nat.ble (d + 1) n
 | none => true
theorem SL.put {n : Nat} {sl : cj} {a : Act} (h : SL n sl a) {dst : Option Nat} (hd : dok n dst = true) (v : Value) : SL n (du dst v sl) (a.put dst v) := by
 cases dst with
 | none => exact h
 | some d =>
  have hdn : d < n := Nat.le_of_ble_eq_true hd
  refine ⟨by simp [Act.put,h.size],h.defers,?_⟩
  intro t x hl
  by_cases he : t = d
  ·subst he
   simp only [du] at hl
   rw [ar] at hl; cases hl
   have : t < a.tmps.size := by rw [h.size]; exact hdn
   simp [Act.put,this]
  ·simp only [du] at hl
   rw [aq _ _ _ _ he] at hl
   have := h.ab t x hl
   simpa [Act.put,Array.getElem?_setIfInBounds,Ne.symm he] using this
theorem SL.OG {n : Nat} {sl : cj} {a : Act} (h : SL n sl a) {dst : Option Nat} (hd : dok n dst = true) : SL n (du dst undef sl) (a.put dst undef) := h.put hd undef
theorem SL.keep {n : Nat} {sl : cj} {a : Act} (h : SL n sl a) (ks : List Nat) : SL n (pick sl ks) a := ⟨h.size,h.defers,fun t v hl => h.ab t v (eJ _ _ _ _ hl)⟩
def slV : Nat → List Value → cj
 | _,[] => []
 | k,x :: xs => (k,x) :: slV (k + 1) xs
theorem HI : ∀ (xs : List Value) (k t : Nat),lk (slV k xs) t = if k ≤ t then xs[t - k]? else none
 | [],k,t => by simp [slV,lk]
 | x :: xs,k,t => by
  simp only [slV,lk]
  cases hb : Nat.beq k t with
  | true => have := Nat.eq_of_beq_eq_true hb; subst this; simp
  | false =>
   have hne := beq_false hb
   simp only
   rw [HI xs (k + 1) t]
   by_cases hle : k ≤ t
   ·rw [if_pos (by omega),if_pos hle,show t - k = (t - (k + 1)) + 1 by omega]; rfl
   ·rw [if_neg (by omega),if_neg hle]
theorem SL.init {n : Nat} (args : List Value) (h : Nat.ble args.length n = true) : SL n (slV 0 args) { tmps := args.toArray ++ Array.replicate (n - args.length) undef,defers := [] } := by
 have hn := Nat.le_of_ble_eq_true h
 refine ⟨by simp; omega,rfl,?_⟩
 intro t v hl
 rw [HI] at hl
 simp at hl
 have hlt : t < args.length := (List.getElem?_eq_some_iff.1 hl).1
 simp only [Array.getD_eq_getD_getElem?,Array.getElem?_append,List.size_toArray,hlt,if_true,List.getElem?_toArray,hl,Option.getD_some]
def ev (sl : cj) : Operand → Option Value
 | .tmp t => lk sl t
 | .const v => some v
 | .func f => some (.func (.func f) #[] #[])
 | .global g => some (.pointer (some ⟨g,0,none⟩))
theorem SL.ev {n : Nat} {sl : cj} {a : Act} (h : SL n sl a) {x : Operand} {v : Value} (e : H.ev sl x = some v) : a.eval x = v := by
 cases x with
 | tmp t => exact h.ab t v e
 | const u => simpa [H.ev,Act.eval] using e
 | func f => simpa [H.ev,Act.eval] using e
 | global g => simpa [H.ev,Act.eval] using e
def evs (sl : cj) : List Operand → Option (List Value)
 | [] => some []
 | x :: xs => match ev sl x,evs sl xs with
  | some v,some vs => some (v :: vs)
  | _,_ => none
theorem SL.evs {n : Nat} {sl : cj} {a : Act} (h : SL n sl a) : ∀ {xs : List Operand} {vs : List Value},H.evs sl xs = some vs → xs.map a.eval = vs
 | [],vs,e => by simp [H.evs] at e; subst e; rfl
 | x :: xs,vs,e => by
  simp only [H.evs] at e
  split at e
  ·rename_i v us h1 h2
   simp only [Option.some.injEq] at e; subst e
   simp [h.ev h1,h.evs h2]
  ·cases e
section
variable {P : Program} {ops : Array Oper} {Q : Exit → Act → World → Prop} {rest : List Oper} {o : Oper} {n : Nat} {sl : cj} {a : Act} {w w' : World} {v : Value}
theorem wg {j t : Nat} {want b : Bool} (h : SL n sl a) (hg : o.guard = some (j,want)) (hj : (ops[j]?).bind (·.dst) = some t) (ht : lk sl t = some (.bool b)) (htn : Nat.ble (t + 1) n = true) :
  Region.wanted o (yielded ops a.tmps) = (b == want) := by
 have hlt : t < a.tmps.size := by rw [h.size]; exact Nat.le_of_ble_eq_true htn
 have h1 := h.ab t _ ht
 have h2 : a.tmps[t]? = some (.bool b) := by
  rw [Array.getD_eq_getD_getElem?] at h1
  rw [Array.getElem?_eq_getElem hlt] at h1 ⊢
  simpa using h1
 unfold Region.wanted
 rw [hg]
 simp only [yielded,hj,Option.bind_some,h2]
 cases b <;> cases want <;> rfl
theorem L (h : SL n sl a) (hw : Region.wanted o (yielded ops a.tmps) = true) (hd : dok n o.dst = true) (hr : (execOp a.eval o).run P w = .ok (.value v) w')
  (k : ∀ a',SL n (du o.dst v sl) a' → wpList P ops Q rest a' w') : wpList P ops Q (o :: rest) a w := by
 unfold wpList
 rw [if_pos hw]
 refine .inl ?_
 unfold Oper.wp
 rw [hr]
 exact k _ (h.put hd v)
theorem Ls (h : SL n sl a) (hw : Region.wanted o (yielded ops a.tmps) = true) (hd : o.dst = none) (hr : (execOp a.eval o).run P w = .ok .skip w')
  (k : SL n sl a → wpList P ops Q rest a w') : wpList P ops Q (o :: rest) a w := by
 unfold wpList
 rw [if_pos hw]
 refine .inl ?_
 unfold Oper.wp
 rw [hr]
 have e : a.put o.dst undef = a := by rw [hd]; rfl
 show wpList P ops Q rest (a.put o.dst undef) w'
 rw [e]; exact k h
theorem Lu (h : SL n sl a) (hw : Region.wanted o (yielded ops a.tmps) = false) (hd : dok n o.dst = true)
  (k : ∀ a',SL n (du o.dst undef sl) a' → wpList P ops Q rest a' w) : wpList P ops Q (o :: rest) a w := by
 unfold wpList
 rw [if_neg (by rw [hw]; simp)]
 exact k _ (h.OG hd)
theorem MU {K : Act → World → Prop} {f : Operand} {args : Array Operand} {ts : Array TypeId} {g : FuncId} {first caps : Array Value} {vs : List Value} {R : Value → World → Prop} (h : SL n sl a) (hd : dok n o.dst = true)
  (ho : o.op = .call ⟨.value f,args,ts⟩) (hf : ev sl f = some (.func (.func g) first caps)) (ha : evs sl args.toList = some vs) (hok : aE P g = true)
  (hret : Ret P g (first.toList ++ (vs ++ caps.toList)) w R) (k : ∀ v w' a',R v w' → SL n (du o.dst v sl) a' → K a' w') : o.wp P a w K Q := by
 have hfv := h.ev hf
 have hav := h.evs ha
 have hrun : (execOp a.eval o).run P w = .ok (.enter g (first.toList ++ (vs ++ caps.toList)).toArray) w := by
  unfold execOp
  simp only [ho,resolve,hfv,Deferred.ofValue,pure_bind,invoke]
  have e : (first ++ Array.map a.eval args) ++ caps = (first.toList ++ (vs ++ caps.toList)).toArray := by
   rw [← hav]
   apply Array.ext'; simp
  rw [e]
  exact fO hok
 unfold Oper.wp
 rw [hrun]
 show Calls P g _ w _
 refine Calls.mono hret ?_
 rintro e w' ⟨v,rfl,hR⟩
 exact k v w' _ hR (h.put hd v)
theorem Lc {f : Operand} {args : Array Operand} {ts : Array TypeId} {g : FuncId} {first caps : Array Value} {vs : List Value} {R : Value → World → Prop} (h : SL n sl a) (hw : Region.wanted o (yielded ops a.tmps) = true) (hd : dok n o.dst = true)
  (ho : o.op = .call ⟨.value f,args,ts⟩) (hf : ev sl f = some (.func (.func g) first caps)) (ha : evs sl args.toList = some vs) (hok : aE P g = true)
  (hret : Ret P g (first.toList ++ (vs ++ caps.toList)) w R) (k : ∀ v w' a',R v w' → SL n (du o.dst v sl) a' → wpList P ops Q rest a' w') : wpList P ops Q (o :: rest) a w := by
 unfold wpList
 rw [if_pos hw]
 exact .inl (MU h hd ho hf ha hok hret k)
theorem Le (h : Q .normal a w) : wpList P ops Q [] a w := h
theorem T {Q : Act → Prop} (h : SL n sl a) (hw : Region.wanted o (yielded ops a.tmps) = true) (hd : dok n o.dst = true) (hr : (execOp a.eval o).run P w = .ok (.value v) w)
  (k : ∀ a',SL n (du o.dst v sl) a' → wpStill P ops w Q rest a') : wpStill P ops w Q (o :: rest) a := by
 unfold wpStill
 rw [if_pos hw]
 unfold Oper.still
 rw [hr,Oper.stillUpon_value]
 exact k _ (h.put hd v)
theorem Tu {Q : Act → Prop} (h : SL n sl a) (hw : Region.wanted o (yielded ops a.tmps) = false) (hd : dok n o.dst = true)
  (k : ∀ a',SL n (du o.dst undef sl) a' → wpStill P ops w Q rest a') : wpStill P ops w Q (o :: rest) a := by
 unfold wpStill
 rw [if_neg (by rw [hw]; simp)]
 exact k _ (h.OG hd)
theorem Te {Q : Act → Prop} (h : Q a) : wpStill P ops w Q [] a := h
theorem Y {fuel i : Nat} {listed : Array Bool} (h : SL n sl a) (hi : ops[i]? = some o) (hg : o.guard = none) (hd : dok n o.dst = true) (hs : Region.noSelect ops = true) (hf : Region.free .any ops listed i = true)
  (hr : (Region.ready .any ops listed).contains i = true) (hQ : ∀ c a w,Q (.panic c) a w → False) (hx : ∀ w,(execOp a.eval o).run P w = .ok (.value v) w)
  (k : ∀ a',SL n (du o.dst v sl) a' → wpAny P .any ops Q fuel (listed.setIfInBounds i true) a' w) : wpAny P .any ops Q (fuel + 1) listed a w :=
 wpAny_take hi hs hf hr (fun c a w h => (hQ c _ _ h).elim) (.inl ⟨by unfold Region.wanted; rw [hg],hx⟩) (k _ (h.put hd v))
theorem bp {i : Nat} {K : Act → World → Prop} (h : SL n sl a) (hi : ops[i]? = some o) (hg : o.guard = none) (hd : dok n o.dst = true) (hr : (execOp a.eval o).run P w = .ok (.value v) w')
  (k : ∀ a',SL n (du o.dst v sl) a' → K a' w') : wpOp P ops Q i K a w := by
 unfold wpOp
 simp only [hi]
 rw [if_pos (by unfold Region.wanted; rw [hg])]
 refine .inl ?_
 unfold Oper.wp
 rw [hr]
 exact k _ (h.put hd v)
theorem rr {i : Nat} {K : Act → World → Prop} (h : SL n sl a) (hi : ops[i]? = some o) (hg : o.guard = none) (hd : o.dst = none) (hr : (execOp a.eval o).run P w = .ok .skip w')
  (k : SL n sl a → K a w') : wpOp P ops Q i K a w := by
 unfold wpOp
 simp only [hi]
 rw [if_pos (by unfold Region.wanted; rw [hg])]
 refine .inl ?_
 unfold Oper.wp
 rw [hr]
 have e : a.put o.dst undef = a := by rw [hd]; rfl
 show K (a.put o.dst undef) w'
 rw [e]; exact k h
theorem Y1 {fuel : Nat} (i : Nat) {listed : Array Bool} (hr : Region.ready .any ops listed = [i]) (k : wpOp P ops Q i (wpAny P .any ops Q fuel (listed.setIfInBounds i true)) a w) : wpAny P .any ops Q (fuel + 1) listed a w :=
 wpAny_all hr (by simp) fun j hj => by simp at hj; subst hj; exact k
theorem Y2 {fuel : Nat} (i j : Nat) {listed : Array Bool} (hr : Region.ready .any ops listed = [i,j]) (k1 : wpOp P ops Q i (wpAny P .any ops Q fuel (listed.setIfInBounds i true)) a w)
  (k2 : wpOp P ops Q j (wpAny P .any ops Q fuel (listed.setIfInBounds j true)) a w) : wpAny P .any ops Q (fuel + 1) listed a w :=
 wpAny_all hr (by simp) fun l hl => by
  simp at hl
  rcases hl with rfl | rfl
  ·exact k1
  ·exact k2
theorem Ye {fuel : Nat} {listed : Array Bool} (hr : Region.ready .any ops listed = []) (h : Q .normal a w) : wpAny P .any ops Q fuel listed a w := wpAny_done hr h fuel
end
structure Ch (S : Nat → Prop) (w w' : World) : Prop where
 os : w'.os = w.os
 tape : w'.tape = w.tape
 output : w'.output = w.output
 size : w.heap.size ≤ w'.heap.size
 keep : ∀ b,b < w.heap.size → ¬ S b → w'.heap[b]? = w.heap[b]?
theorem Ch.refl (S : Nat → Prop) (w : World) : Ch S w w := ⟨rfl,rfl,rfl,Nat.le_refl _,fun _ _ _ => rfl⟩
theorem Ch.drew (S : Nat → Prop) (w : World) : Ch S w { w with drawn := w.drawn + 1 } := ⟨rfl,rfl,rfl,Nat.le_refl _,fun _ _ _ => rfl⟩
theorem Ch.trans {S : Nat → Prop} {w w1 w2 : World} (h : Ch S w w1) (k : Ch S w1 w2) : Ch S w w2 :=
 ⟨k.os.trans h.os,k.tape.trans h.tape,k.output.trans h.output,Nat.le_trans h.size k.size,fun b hb hn => (k.keep b (Nat.lt_of_lt_of_le hb h.size) hn).trans (h.keep b hb hn)⟩
theorem Ch.mono {S S' : Nat → Prop} {w w' : World} (h : Ch S w w') (hs : ∀ b,b < w.heap.size → S b → S' b) : Ch S' w w' :=
 ⟨h.os,h.tape,h.output,h.size,fun b hb hn => h.keep b hb fun hS => hn (hs b hb hS)⟩
theorem Ch.trans' {S S' : Nat → Prop} {w w1 w2 : World} (h : Ch S w w1) (k : Ch S' w1 w2) (hs : ∀ b,b < w.heap.size → S' b → S b) : Ch S w w2 :=
 ⟨k.os.trans h.os,k.tape.trans h.tape,k.output.trans h.output,Nat.le_trans h.size k.size,fun b hb hn => (k.keep b (Nat.lt_of_lt_of_le hb h.size) fun hS => hn (hs b hb hS)).trans (h.keep b hb hn)⟩
theorem Ch.at {S : Nat → Prop} {w w' : World} (h : Ch S w w') {b : Nat} {o : Obj} (hb : w.heap[b]? = some o) (hn : ¬ S b) : w'.heap[b]? = some o := by rw [h.keep b (aJ hb) hn]; exact hb
theorem Ch.alloc (S : Nat → Prop) (w : World) (o : Obj) : Ch S w (w.alloc o) := ⟨rfl,rfl,rfl,by simp,fun b hb _ => heap_alloc_old w o b hb⟩
theorem Ch.setRow (w : World) (b : Nat) (cs : Array Value) : Ch (· = b) w (w.setRow b cs) := ⟨rfl,rfl,rfl,by simp,fun c _ hn => setRow_other w b c cs hn⟩
theorem Ch.ownsRow {S : Nat → Prop} {w w' : World} (h : Ch S w w') {base e size n : Nat} {v : Value} {xs : List Value} (ho : w.ownsRow base e size v n xs) (hn : ∀ g,v.ownBlock = some g → ¬ S g) : w'.ownsRow base e size v n xs := by
 refine ⟨ho.1,?_⟩
 rcases ho.2 with h1 | ⟨g,cap,cur,h1,h2,h3,h4⟩
 ·exact .inl h1
 ·exact .inr ⟨g,cap,cur,h1,h2,h.at h3 (hn g (by rw [h1]; rfl)),h4⟩
end Go.TL.H
namespace Go.TL.H
open Go
structure One (P : Program) (t : TypeId) (z : Value) : Prop where
 is : ∃ i,P.info? t = some i ∧ ew P t = some false ∧ i.size = 1 ∧ i.zero = some z ∧ i.bytes ≤ 24
 zc : z.cells = #[z]
structure Big (P : Program) (t : TypeId) (zs : List Value) : Prop where
 is : ∃ i,P.info? t = some i ∧ ew P t = some true ∧ i.size = zs.length ∧ i.zero = some (.agg zs.toArray) ∧ i.bytes ≤ 1024
section
variable {P : Program} {o : Oper} {n : Nat} {sl : cj} {a : Act} {w w' : World} {v : Value}
theorem ah {x : Operand} (h : SL n sl a) (ho : o.op = .move x ∨ o.op = .assign x) (e : ev sl x = some v) : (execOp a.eval o).run P w = .ok (.value v) w := by
 have := h.ev e
 rcases ho with ho | ho <;> simp [execOp,ho,this]
theorem lM {c x y : Operand} {b : Bool} {u : Value} (h : SL n sl a) (ho : o.op = .pick c x y) (ec : ev sl c = some (.bool b)) (ex : b = true → ev sl x = some u) (ey : b = false → ev sl y = some u) : (execOp a.eval o).run P w = .ok (.value u) w := by
 have hc := h.ev ec
 cases b with
 | true => simp [execOp,ho,hc,asBool,h.ev (ex rfl)]
 | false => simp [execOp,ho,hc,asBool,h.ev (ey rfl)]
theorem bB {x : Operand} {p : Addr} (h : SL n sl a) (ho : o.op = .nilCheck x) (e : ev sl x = some (.pointer (some p))) : (execOp a.eval o).run P w = .ok (.value (.pointer (some p))) w := by
 simp [execOp,ho,h.ev e]
theorem bE {x : Operand} {s : TypeId} {f off sz b o' : Nat} (h : SL n sl a) (ho : o.op = .fieldAddr s x f) (e : ev sl x = some (.pointer (some ⟨b,o',none⟩))) (hf : bM P s f = some (off,sz)) :
  (execOp a.eval o).run P w = .ok (.value (.pointer (some ⟨b,o' + off,none⟩))) w := by
 have hx := h.ev e
 unfold bM at hf
 split at hf
 ·rename_i fields hu
  split at hf
  ·rename_i fd hfd
   split at hf
   ·rename_i i hi
    split at hf
    ·cases hf
    ·rename_i hz
     simp only [Option.some.injEq,Prod.mk.injEq] at hf; obtain ⟨rfl,rfl⟩ := hf
     have hz' : i.size ≠ 0 := fun e => by rw [e] at hz; simp at hz
     have hfd' : fields[f]? = some fd := by simpa using hfd
     simp [execOp,ho,hx,Instr.fieldAt,run_underlying hu,hfd',Instr.sureAddr,fieldPlace,sizeOf,typeInfo,hi,hz',Addr.add_lit]
   ·cases hf
  ·cases hf
 ·cases hf
theorem bG {x : Operand} {t : TypeId} {z : Value} {b o' : Nat} {cs : Array Value} {bt : TypeId} {fz : Nat × Nat} (h : SL n sl a) (ho : o.op = .load t x) (e : ev sl x = some (.pointer (some ⟨b,o',none⟩))) (hT : One P t z)
  (hb : w.heap[b]? = some (.cells cs bt fz)) (hc : cs[o']? = some v) : (execOp a.eval o).run P w = .ok (.value v) w := by
 obtain ⟨i,hi,ha,hs,_⟩ := hT.is
 have := gp (P := P) (w := w) (b := b) (o := o') (vs := [v]) ha hi (fun j u hj => by
  cases j with
  | zero => simp at hj; subst hj; rw [Nat.add_zero,dF hb]; exact hc
  | succ j => simp at hj) (by simp [hs]) (fun _ => rfl)
 simp [execOp,ho,h.ev e,this]
theorem pA {x : Operand} {t : TypeId} {zs : List Value} {b o' : Nat} {cs : Array Value} {bt : TypeId} {fz : Nat × Nat} (vs : List Value) (h : SL n sl a) (ho : o.op = .load t x) (e : ev sl x = some (.pointer (some ⟨b,o',none⟩))) (hT : Big P t zs)
  (hl : vs.length = zs.length) (hb : w.heap[b]? = some (.cells cs bt fz)) (hc : ∀ (j : Nat) v,vs[j]? = some v → cs[o' + j]? = some v) : (execOp a.eval o).run P w = .ok (.value (.agg vs.toArray)) w := by
 obtain ⟨i,hi,ha,hs,_⟩ := hT.is
 have := gp (P := P) (w := w) (b := b) (o := o') (vs := vs) ha hi (fun j u hj => by rw [dF hb]; exact hc j u hj) (by omega) (fun h => by cases h)
 simp [execOp,ho,h.ev e,this]
theorem np {x y : Operand} {t : TypeId} {z : Value} {b o' : Nat} {cs : Array Value} {bt : TypeId} {fz : Nat × Nat} (h : SL n sl a) (ho : o.op = .store t x y) (e : ev sl x = some (.pointer (some ⟨b,o',none⟩))) (ey : ev sl y = some v) (hT : One P t z)
  (hv : v.oneCell' = true) (hvc : v.cells = #[v]) (hb : w.heap[b]? = some (.cells cs bt fz)) (hc : o' < cs.size) (hf : ¬ (fz.1 ≤ o' ∧ o' < fz.2)) :
  (execOp a.eval o).run P w = .ok .skip (w.setRow b (cs.setIfInBounds o' v)) := by
 obtain ⟨i,hi,ha,hs,_⟩ := hT.is
 have hcell : w.cell? ⟨b,o',none⟩ = some cs[o'] := by simp [World.cell?,hb,hc]
 have hfro : w.frozen? ⟨b,o',none⟩ = false := by
  simp only [World.frozen?,hb]
  simp only [Bool.and_eq_false_iff,decide_eq_false_iff_not]
  by_cases h1 : fz.1 ≤ o'
  ·exact .inr fun h2 => hf ⟨h1,h2⟩
  ·exact .inl h1
 have hst : (store (⟨b,o',none⟩ : Addr) v).run P w = .ok () (w.setRow b (cs.setIfInBounds o' v)) := by
  rw [run_store P w _ v _ hv,hcell]
  simp [hfro,setCell_eq_setRow w b o' cs bt fz v hb]
 simp [execOp,ho,h.ev e,h.ev ey,Instr.storeAt,Instr.sureAddr,storeVar,sizeOf,typeInfo,hi,hs,hvc,storeCells,Addr.add_lit,hst]
theorem Ad {x y : Operand} {t : TypeId} {zs : List Value} {b o' : Nat} {cs : Array Value} {bt : TypeId} (vs : List Value) (h : SL n sl a) (ho : o.op = .store t x y) (e : ev sl x = some (.pointer (some ⟨b,o',none⟩))) (ey : ev sl y = some (.agg vs.toArray)) (hT : Big P t zs)
  (hl : vs.length = zs.length) (hv : ∀ u ∈ vs,u.oneCell' = true) (hb : w.heap[b]? = some (.cells cs bt (0,0))) (hc : o' + vs.length ≤ cs.size) :
  (execOp a.eval o).run P w = .ok .skip (w.setRow b (spl cs.toList o' vs).toArray) := by
 obtain ⟨i,hi,ha,hs,_⟩ := hT.is
 have := jC (P := P) (off := o') (v := .agg vs.toArray) hi (by simp [Value.cells]; omega) hb (by simpa [Value.cells] using hc) (by simpa [Value.cells] using hv)
 simp [execOp,ho,h.ev e,h.ev ey,this,Value.cells]
theorem mI {op : BinOp} {tx ty : TypeId} {x y : Operand} {u1 u2 r : Value} (h : SL n sl a) (ho : o.op = .binOp op tx x y ty) (e1 : ev sl x = some u1) (e2 : ev sl y = some u2)
  (hg : eqGuard op tx x y u1 u2 = pure ()) (hr : (binOp op tx u1 u2).run P w = .ok r w) : (execOp a.eval o).run P w = .ok (.value r) w :=
 cF ho (by rw [h.ev e1,h.ev e2]; exact hg) (by rw [h.ev e1,h.ev e2]; exact hr)
theorem b9 {op : BinOp} {tx ty : TypeId} {x y : Operand} {k : IntKind} {m l r : Int} (h : SL n sl a) (ho : o.op = .binOp op tx x y ty) (e1 : ev sl x = some (.int k m)) (e2 : ev sl y = some (.int k l))
  (hr : arith op m l = some r) : (execOp a.eval o).run P w = .ok (.value (.int k (k.wrap r))) w := by
 refine mI h ho e1 e2 (eqGuard_at_int _ _ _ _ _ _ _) ?_
 cases op <;> simp only [arith,Option.some.injEq,reduceCtorEq] at hr <;> subst hr <;> simp [binOp,Op.intArith]
theorem dB {op : BinOp} {tx ty : TypeId} {x y : Operand} {k : IntKind} {m l : Int} {r : Bool} (h : SL n sl a) (ho : o.op = .binOp op tx x y ty) (e1 : ev sl x = some (.int k m)) (e2 : ev sl y = some (.int k l))
  (hr : o6 op m l = some r) : (execOp a.eval o).run P w = .ok (.value (.bool r)) w := by
 refine mI h ho e1 e2 (eqGuard_at_int _ _ _ _ _ _ _) ?_
 cases op <;> simp only [o6,Option.some.injEq,reduceCtorEq] at hr <;> subst hr <;> simp [binOp,Op.intCmp]
theorem QP {tx ty : TypeId} {x y : Operand} {k : IntKind} {m l : Int} (h : SL n sl a) (ho : o.op = .binOp .rem tx x y ty) (e1 : ev sl x = some (.int k m)) (e2 : ev sl y = some (.int k l)) (hl : l ≠ 0) :
  (execOp a.eval o).run P w = .ok (.value (.int k (m.tmod l))) w :=
 mI h ho e1 e2 (eqGuard_at_int _ _ _ _ _ _ _) (by simp [binOp,Op.intDiv,hl])
theorem QQ {tx ty : TypeId} {x y : Operand} {k : IntKind} {m l : Int} (h : SL n sl a) (ho : o.op = .binOp .quo tx x y ty) (e1 : ev sl x = some (.int k m)) (e2 : ev sl y = some (.int k l)) (hl : l ≠ 0) :
  (execOp a.eval o).run P w = .ok (.value (.int k (k.wrap (m.tdiv l)))) w :=
 mI h ho e1 e2 (eqGuard_at_int _ _ _ _ _ _ _) (by simp [binOp,Op.intDiv,hl])
theorem OH {op : BinOp} {tx ty : TypeId} {x y : Operand} {s r : ByteArray} {c : Bool} (h : SL n sl a) (ho : o.op = .binOp op tx x y ty) (e1 : ev sl x = some (.string s)) (e2 : ev sl y = some (.string r))
  (hr : kj op s r = some c) : (execOp a.eval o).run P w = .ok (.value (.bool c)) w := by
 refine mI h ho e1 e2 (eqGuard_at_string _ _ _ _ _ _) ?_
 cases op <;> simp only [kj,Option.some.injEq,reduceCtorEq] at hr <;> subst hr <;> simp [binOp,Op.stringOp]
theorem Mh {tx ty : TypeId} {x y : Operand} {s r : ByteArray} (h : SL n sl a) (ho : o.op = .binOp .add tx x y ty) (e1 : ev sl x = some (.string s)) (e2 : ev sl y = some (.string r))
  (hl : s.size + r.size ≤ 4611686018427387904) : (execOp a.eval o).run P w = .ok (.value (.string (s ++ r))) w := by
 refine mI h ho e1 e2 (eqGuard_at_string _ _ _ _ _ _) ?_
 simp [binOp,Op.stringOp]
 omega
theorem OI {tx ty : TypeId} {x y : Operand} {s r : Bool} (h : SL n sl a) (ho : o.op = .binOp .neq tx x y ty) (e1 : ev sl x = some (.bool s)) (e2 : ev sl y = some (.bool r)) (hu : P.underlying tx = some .bool) :
  (execOp a.eval o).run P w = .ok (.value (.bool (s != r))) w := by
 refine mI h ho e1 e2 (by simp [eqGuard]) ?_
 simp only [binOp,Sem.run_bind,run_equal_bool w tx s r hu,Result.andThen_ok,Sem.run_pure]
 cases s <;> cases r <;> rfl
theorem pB {t : TypeId} {x : Operand} {s : Bool} (h : SL n sl a) (ho : o.op = .unOp .not t x) (e : ev sl x = some (.bool s)) : (execOp a.eval o).run P w = .ok (.value (.bool (!s))) w := by
 simp [execOp,ho,h.ev e,Op.unary]
theorem OJ {src dst : TypeId} {x : Operand} {k k' : IntKind} {m : Int} (h : SL n sl a) (ho : o.op = .convert src dst x) (e : ev sl x = some (.int k' m)) (h1 : ∃ d,P.underlying src = some d) (h2 : P.underlying dst = some (.int k)) :
  (execOp a.eval o).run P w = .ok (.value (.int k (k.wrap m))) w := by
 obtain ⟨d,h1⟩ := h1
 cases d <;> simp [execOp,ho,h.ev e,convert,run_underlying h1,run_underlying h2,Conv.intToInt]
theorem dC {x : Operand} {t e : TypeId} {p : Option Addr} {m c : Nat} (h : SL n sl a) (ho : o.op = .call ⟨.builtin .len, #[x], #[t]⟩) (ex : ev sl x = some (.slice p m c)) (ht : P.underlying t = some (.slice e)) :
  (execOp a.eval o).run P w = .ok (.value (.int .i64 (m : Int))) w := by
 rw [dK ho]
 simp [builtin,Builtin.len_,run_underlying ht,h.ev ex,goInt]
theorem QR {x : Operand} {t e : TypeId} {p : Option Addr} {m c : Nat} (h : SL n sl a) (ho : o.op = .call ⟨.builtin .cap, #[x], #[t]⟩) (ex : ev sl x = some (.slice p m c)) (ht : P.underlying t = some (.slice e)) :
  (execOp a.eval o).run P w = .ok (.value (.int .i64 (c : Int))) w := by
 rw [dK ho]
 simp [builtin,Builtin.cap_,run_underlying ht,h.ev ex,goInt]
theorem OK {x : Operand} {t : TypeId} {s : ByteArray} (h : SL n sl a) (ho : o.op = .call ⟨.builtin .len, #[x], #[t]⟩) (ex : ev sl x = some (.string s)) (ht : P.underlying t = some .string) :
  (execOp a.eval o).run P w = .ok (.value (.int .i64 (s.size : Int))) w := by
 rw [dK ho]
 simp [builtin,Builtin.len_,run_underlying ht,h.ev ex,goInt]
theorem QS {x y : Operand} {ts : Array TypeId} {k k' : IntKind} {m l : Int} (h : SL n sl a) (ho : o.op = .call ⟨.builtin .min, #[x,y],ts⟩) (ex : ev sl x = some (.int k m)) (ey : ev sl y = some (.int k' l)) :
  (execOp a.eval o).run P w = .ok (.value (.int k (if l < m then l else m))) w := by
 rw [dK ho]
 simp [builtin,Builtin.min_,h.ev ex,h.ev ey,Builtin.min2]
theorem ry {x ix : Operand} {t e : TypeId} {b o' m c : Nat} {i : Int} {k : IntKind} {inf : TypeInfo} (h : SL n sl a) (ho : o.op = .indexAddr t x ix) (ex : ev sl x = some (.slice (some ⟨b,o',none⟩) m c)) (ei : ev sl ix = some (.int k i))
  (ht : P.underlying t = some (.slice e)) (hi : P.info? e = some inf) (h0 : 0 ≤ i) (h1 : i < (m : Int)) : (execOp a.eval o).run P w = .ok (.value (.pointer (some ⟨b,o' + i.toNat * inf.size,none⟩))) w := by
 simp [execOp,ho,h.ev ex,h.ev ei,TL.run_indexAt_slice (P := P) (w := w) (k := k) ht hi h0 h1,Addr.add_lit]
theorem OL {x hi : Operand} {t e : TypeId} {p : Option Addr} {m c : Nat} {k : IntKind} {inf : TypeInfo} (h : SL n sl a) (ho : o.op = .slice t x none (some hi) none) (ex : ev sl x = some (.slice p m c)) (ei : ev sl hi = some (.int k (c : Int)))
  (ht : P.underlying t = some (.slice e)) (hi' : P.info? e = some inf) (hp : ∀ a,p = some a → ∃ b o,a = ⟨b,o,none⟩) : (execOp a.eval o).run P w = .ok (.value (.slice p c c)) w := by
 have hb := nD (P := P) (w := w) (len := m) (cap := c) (kk := k) (m := (c : Int)) (by omega) (by omega)
 have hpp : (if c = 0 then p else p.map (·.add (0 * inf.size))) = p := by
  cases p with
  | none => simp
  | some a => obtain ⟨b,o,rfl⟩ := hp a rfl; simp [Addr.add]
 unfold execOp
 simp only [ho,h.ev ex,h.ev ei,Instr.sliceAt,Sem.run_bind,run_underlying ht,Result.andThen_ok,Instr.slice,Option.map_none,Option.map_some,hb,sizeOf,typeInfo,run_program,hi',Sem.run_pure,Nat.sub_zero,hpp,Int.toNat_natCast]
theorem lN {t : TypeId} {zs : List Value} (ho : o.op = .alloc t) (hT : Big P t zs) : (execOp a.eval o).run P w = .ok (.value (.pointer (some ⟨w.heap.size,0,none⟩))) (w.alloc (.cells zs.toArray t)) := by
 obtain ⟨i,hi,ha,hs,hz,_⟩ := hT.is
 simp [execOp,ho,Instr.alloc,zeroValue,typeInfo,hi,hz,newVar,newRow,Value.cells]
theorem gT {t : TypeId} {x : Operand} (h : SL n sl a) (ho : o.op = .box t x) (e : ev sl x = some v) : (execOp a.eval o).run P w = .ok (.value (.pointer (some ⟨w.heap.size,0,none⟩))) (w.alloc (.cells v.cells t)) := by
 simp [execOp,ho,Instr.box,newVar,newRow,h.ev e]
theorem A2 {f : Fn} {first caps : Array Operand} {us vs : List Value} (h : SL n sl a) (ho : o.op = .makeFunc f first caps) (e1 : evs sl first.toList = some us) (e2 : evs sl caps.toList = some vs) :
  (execOp a.eval o).run P w = (((Instr.makeFunc f us.toArray vs.toArray).run P w).andThen fun v w => .ok (.value v) w) := by
 have h1 := h.evs e1
 have h2 := h.evs e2
 have e1' : first.map a.eval = us.toArray := by apply Array.ext'; simp [← h1]
 have e2' : caps.map a.eval = vs.toArray := by apply Array.ext'; simp [← h2]
 simp [execOp,ho,e1',e2']
theorem yT {x : Operand} {i : Nat} {vs : Array Value} (h : SL n sl a) (ho : o.op = .extract x i) (e : ev sl x = some (.tuple vs)) (hv : vs[i]? = some v) : (execOp a.eval o).run P w = .ok (.value v) w := by
 simp [execOp,ho,h.ev e,Instr.extract,hv]
theorem gU {t e : TypeId} {z : Value} {x : Operand} (h : SL n sl a) (ho : o.op = .buildSlice t 1 #[(0,x)]) (ex : ev sl x = some v) (ht : P.underlying t = some (.slice e)) (hT : One P e z) (hv : v.cells = #[v]) :
  (execOp a.eval o).run P w = .ok (.value (.slice (some ⟨w.heap.size,0,none⟩) 1 1)) (w.alloc (.cells #[v] e)) := by
 obtain ⟨i,hi,ha,hs,hz,_⟩ := hT.is
 have hzc := hT.zc
 have hr : Array.range 1 = #[0] := rfl
 simp [execOp,ho,Instr.buildSlice,run_underlying ht,sizeOf,typeInfo,zeroValue,hi,hz,hs,newRow,h.ev ex,hr,hzc,Instr.fill,hv]
theorem Ae {x y : Operand} {t e : TypeId} {z : Value} {u : Value} {m : Nat} {xs : List Value} {b c : Nat} {bt : TypeId} {fz : Nat × Nat} (h : SL n sl a) (ho : o.op = .call ⟨.builtin .append, #[x,y], #[t,t]⟩) (ex : ev sl x = some v)
  (ey : ev sl y = some (.slice (some ⟨b,0,none⟩) 1 c)) (ht : P.underlying t = some (.slice e)) (hT : One P e z) (hown : w.ownsRow 0 e 1 v m xs) (hb : w.heap[b]? = some (.cells #[u] bt fz)) (hu : u.oneCell' = true) (h16 : ∀ i,P.info? e = some i → i.bytes ≤ 16) (hm : m + 1 ≤ 8796093022208) :
  ∃ v' w',(execOp a.eval o).run P w = .ok (.value v') w' ∧ w'.ownsRow 0 e 1 v' (m + 1) (xs ++ [u]) ∧ Ch (fun g => v.ownBlock = some g) w w' ∧ (∀ g,v'.ownBlock = some g → v.ownBlock = some g ∨ w.heap.size ≤ g) := by
 obtain ⟨i,hi,ha,hs,hz,hby⟩ := hT.is
 have h1 : (m + 1) * i.bytes ≤ (m + 1) * 16 := Nat.mul_le_mul_left _ (h16 i hi)
 obtain ⟨v',w',hrun,ho',hg,hbk,_⟩ := iL (P := P) (w := w) t o.type e i z ht hi hz (by rw [hT.zc,hs]; rfl) (by omega) v m xs (by rw [hs]; exact hown) (.slice (some ⟨b,0,none⟩) 1 c) 1 [u]
  (.inr ⟨⟨b,0,none⟩,c,rfl,by simp [hs],fun j u' hj => by
   cases j with
   | zero => simp at hj; subst hj; rw [Addr.add_lit,dF hb]; rfl
   | succ j => simp at hj,by simpa using hu⟩) (by omega) (by omega)
 refine ⟨v',w',?_,by rw [hs] at ho'; exact ho',⟨hg.os,hg.tape,hg.output,hg.size,fun g hl hn => hg.block g hl fun e => hn e.symm⟩,fun g hv => (hbk g hv).1⟩
 have ex' := h.ev ex
 have ey' := h.ev ey
 unfold execOp
 simp only [ho,resolve,invoke,builtin,Sem.run_bind,Sem.run_pure,Result.andThen_ok,List.map_toArray,List.map_cons,List.map_nil,ex',ey',hrun]
theorem xP {x : Operand} {src dst e : TypeId} {b c : Nat} {bt : TypeId} {fz : Nat × Nat} {m : Int} (h : SL n sl a) (ho : o.op = .convert src dst x) (ex : ev sl x = some (.slice (some ⟨b,0,none⟩) 1 c)) (h1 : P.underlying src = some (.slice e)) (h2 : P.underlying dst = some .string)
  (he : P.underlying e = some (.int .u8)) (hb : w.heap[b]? = some (.cells #[.int .u8 m] bt fz)) : (execOp a.eval o).run P w = .ok (.value (.string (ByteArray.empty.push (UInt8.ofNat m.toNat)))) w := by
 have hl := run_loadCells_list (P := P) w ⟨b,0,none⟩ [.int .u8 m] (fun j v hv => by
  cases j with
  | zero => simp at hv; subst hv; rw [Addr.add_lit,dF hb]; rfl
  | succ j => simp at hv)
 simp at hl
 simp [execOp,ho,h.ev ex,convert,run_underlying h1,run_underlying h2,run_underlying he,Conv.bytesToString,hl]
end
end Go.TL.H
namespace Go.TL.H
open Go
structure Eye where
 n : List Int
 s : List ByteArray
 at' : Int
structure TY where
 E : TypeId
 I : TypeId
 B : TypeId
 S : TypeId
 NL : TypeId
 SS : TypeId
 BY : TypeId
 BL : TypeId
def aj : Value := .slice none 0 0
structure Kit (P : Program) (y : TY) : Prop where
 mixed : P.follows .mixedOrders = true
 e0 : bM P y.E 0 = some (0,1)
 e1 : bM P y.E 1 = some (1,1)
 e2 : bM P y.E 2 = some (2,1)
 e3 : bM P y.E 3 = some (3,1)
 e4 : bM P y.E 4 = some (4,1)
 i : One P y.I (.int .i64 0)
 b : One P y.B (.bool false)
 s : One P y.S (.string ⟨#[]⟩)
 nl : One P y.NL aj
 ss : One P y.SS aj
 by' : One P y.BY (.int .u8 0)
 i16 : ∀ i,P.info? y.I = some i → i.bytes ≤ 16
 s16 : ∀ i,P.info? y.S = some i → i.bytes ≤ 16
 iU : P.underlying y.I = some (.int .i64)
 bU : P.underlying y.B = some .bool
 sU : P.underlying y.S = some .string
 nlU : P.underlying y.NL = some (.slice y.I)
 ssU : P.underlying y.SS = some (.slice y.S)
 byU : P.underlying y.BY = some (.int .u8)
 blU : P.underlying y.BL = some (.slice y.BY)
 eB : Big P y.E [aj,aj,.bool false,.int .i64 0,.bool false]
def EB (be : Nat) (vn vs : Value) (b : Nat) : Prop := b = be ∨ vn.ownBlock = some b ∨ vs.ownBlock = some b
def ai (vn vs : Value) (at' : Int) (m r : Bool) : Array Value := #[vn,vs,.bool m,.int .i64 at',.bool r]
structure bX (y : TY) (w : World) (be : Nat) (vn vs : Value) (e : Eye) (m r : Bool) : Prop where
 cell : ∃ t,w.heap[be]? = some (.cells (ai vn vs e.at' m r) t (0,0))
 n : w.ownsRow 0 y.I 1 vn e.n.length (e.n.map (Value.int .i64))
 s : w.ownsRow 0 y.S 1 vs e.s.length (e.s.map Value.string)
 d1 : vn.ownBlock ≠ some be
 d2 : vs.ownBlock ≠ some be
 d3 : ∀ g,vn.ownBlock = some g → vs.ownBlock ≠ some g
theorem bX.keep {y : TY} {w w' : World} {be : Nat} {vn vs : Value} {e : Eye} {m r : Bool} (h : bX y w be vn vs e m r) {S : Nat → Prop} (hc : Ch S w w') (hn : ∀ b,EB be vn vs b → ¬ S b) : bX y w' be vn vs e m r := by
 obtain ⟨t,ht⟩ := h.cell
 exact ⟨⟨t,hc.at ht (hn be (.inl rfl))⟩,hc.ownsRow h.n fun g hg => hn g (.inr (.inl hg)),hc.ownsRow h.s fun g hg => hn g (.inr (.inr hg)),h.d1,h.d2,h.d3⟩
theorem bX.lt {y : TY} {w : World} {be : Nat} {vn vs : Value} {e : Eye} {m r : Bool} (h : bX y w be vn vs e m r) : ∀ b,EB be vn vs b → b < w.heap.size := by
 intro b hb
 rcases hb with rfl | hb | hb
 ·obtain ⟨t,ht⟩ := h.cell; exact aJ ht
 ·exact (h.n.lt b hb).2
 ·exact (h.s.lt b hb).2
def Phi (n : Nat) : Nat := n + 16 * (200000 - n)
def Dd : Nat := 2097300
structure Gr (K : Nat) (hn : Bool) (n s n' s' : Nat) : Prop where
 mono : n ≤ n'
 phi : Phi n' ≤ Phi n + K
 JD : n < 200000 → Phi n' + 16 ≤ Phi n + K ∨ n' = n
 Fy : hn = true → s' + 16 ≤ s + Dd * (n' - n) + K
 Fz : hn = false → n' = n ∧ s' ≤ s + K
theorem Gr.refl (n s : Nat) : Gr 0 false n s n s := ⟨Nat.le_refl _,Nat.le_refl _,fun _ => .inr rfl,fun h => (by cases h),fun _ => ⟨rfl,Nat.le_refl _⟩⟩
theorem Gr.seq {K1 K2 : Nat} {h1 h2 : Bool} {n s n1 s1 n2 s2 : Nat} (a : Gr K1 h1 n s n1 s1) (b : Gr K2 h2 n1 s1 n2 s2) : Gr (K1 + K2) (h1 || h2) n s n2 s2 := by
 have a1 := a.mono; have a2 := a.phi; have a3 := a.JD; have a4 := a.Fy; have a5 := a.Fz
 have b1 := b.mono; have b2 := b.phi; have b3 := b.JD; have b4 := b.Fy; have b5 := b.Fz
 refine ⟨by omega,by omega,?_,?_,?_⟩
 ·intro h
  rcases a3 h with h3 | h3
  ·left; omega
  ·subst h3
   rcases b3 h with h4 | h4
   ·left; omega
   ·right; omega
 ·intro h
  cases h1 with
  | true =>
   have := a4 rfl
   cases h2 with
   | true => have := b4 rfl; simp only [Dd] at *; omega
   | false => have := b5 rfl; simp only [Dd] at *; omega
  | false =>
   have := a5 rfl
   cases h2 with
   | true => have := b4 rfl; simp only [Dd] at *; omega
   | false => cases h
 ·intro h
  cases h1 with
  | true => cases h
  | false => cases h2 with
   | true => cases h
   | false => have := a5 rfl; have := b5 rfl; omega
theorem Gr.num (n s : Nat) : Gr 1 true n s (n + 1) s :=
 ⟨by omega,by simp only [Phi]; omega,fun h => by left; simp only [Phi]; omega,fun _ => by simp only [Dd]; omega,fun h => (by cases h)⟩
theorem Gr.str (n s : Nat) : Gr 1 false n s n (s + 1) :=
 ⟨by omega,by omega,fun _ => .inr rfl,fun h => (by cases h),fun _ => ⟨rfl,by omega⟩⟩
theorem Gr.none (_K : Nat) (n s : Nat) : Gr 0 false n s n s := .refl n s
structure Bd (K : Nat) (n s : Nat) : Prop where
 phi : Phi n + K ≤ 3300000
 str : s + Dd * (3300000 - n) + K ≤ 7000000000000
theorem rA (n : Nat) : n ≤ Phi n := by simp only [Phi]; omega
theorem Bd.le {K K' n s : Nat} (h : Bd K n s) (hk : K' ≤ K) : Bd K' n s := ⟨Nat.le_trans (by omega) h.phi,Nat.le_trans (by omega) h.str⟩
theorem Bd.step {K K1 K2 n s n1 s1 : Nat} {hn : Bool} (h : Bd K n s) (g : Gr K1 hn n s n1 s1) (hk : K1 + K2 ≤ K) : Bd K2 n1 s1 := by
 have h1 := h.phi; have h2 := h.str
 have g1 := g.mono; have g2 := g.phi; have g4 := g.Fy; have g5 := g.Fz
 have l1 := rA n1
 refine ⟨by omega,?_⟩
 cases hn with
 | true => have := g4 rfl; simp only [Dd] at *; omega
 | false => have := g5 rfl; simp only [Dd] at *; omega
structure Rd (n s n' s' i : Nat) : Prop where
 mono : n ≤ n'
 phi : Phi n' ≤ Phi n
 str : s' ≤ s + Dd * (n' - n) + i
theorem Rd.zero (n s : Nat) : Rd n s n s 0 := ⟨by omega,by omega,by omega⟩
theorem Rd.next {n s n1 s1 n2 s2 i K : Nat} {hn : Bool} (h : Rd n s n1 s1 i) (g : Gr K hn n1 s1 n2 s2) (hlt : n1 < 200000) (hK : K ≤ 16) (h1 : hn = false → K = 1) : Rd n s n2 s2 (i + 1) := by
 have a1 := h.mono; have a2 := h.phi; have a3 := h.str
 have g1 := g.mono; have g2 := g.phi; have g3 := g.JD hlt; have g4 := g.Fy; have g5 := g.Fz
 refine ⟨by omega,?_,?_⟩
 ·rcases g3 with g3 | g3
  ·omega
  ·subst g3; omega
 ·cases hn with
  | true => have := g4 rfl; simp only [Dd] at *; omega
  | false => have := g5 rfl; have := h1 rfl; simp only [Dd] at *; omega
theorem Rd.all {n s n' s' m : Nat} (h : Rd (n + 1) s n' s' m) (hm : m ≤ 2097154) : Gr 1 true n s n' s' := by
 have a1 := h.mono; have a2 := h.phi; have a3 := h.str
 refine ⟨by omega,?_,?_,?_,fun h => (by cases h)⟩
 ·have : Phi (n + 1) ≤ Phi n + 1 := by simp only [Phi]; omega
  omega
 ·intro hl
  have : Phi (n + 1) + 16 ≤ Phi n + 1 := by simp only [Phi]; omega
  left; omega
 ·intro _; simp only [Dd] at *; omega
theorem Rd.bd {n s n1 s1 _m i K : Nat} (h : Rd (n + 1) s n1 s1 i) (hi : i ≤ 2097154) (hb : Bd 1 n s) (hlt : n1 < 200000) (hK : K ≤ 16) : Bd K n1 s1 := by
 have h1 := hb.phi; have h2 := hb.str
 have a1 := h.mono; have a2 := h.phi; have a3 := h.str
 refine ⟨by simp only [Phi]; omega,?_⟩
 simp only [Dd] at *; omega
def pl (c : aP) (b o : Nat) : Option Value :=
 match c b with
 | some (.cells cs _ _) => cs[o]?
 | _ => none
inductive WZ (P : Program) (wr room : Bool) (c : aP) : Nat → CK → Value → Prop
 | int (d : Nat) (k : IntKind) (n : Int) (h1 : k.min ≤ n) (h2 : n ≤ k.max) : WZ P wr room c d (.int k) (.int k n)
 | bool (d : Nat) (x : Bool) : WZ P wr room c d .bool (.bool x)
 | str (d : Nat) (x : ByteArray) (h : x.size ≤ bz) : WZ P wr room c d .str (.string x)
 | nil (d : Nat) (e : TypeId) (b : Option Addr) (cap : Nat) (h : room = true → b = none ∧ cap = 0) : WZ P wr room c d (.sl e) (.slice b 0 cap)
 | sl (d : Nat) (e : TypeId) (b o len cap : Nat) (cs : Array Value) (t : TypeId) (fz : Nat × Nat) (g : Nat → Nat → Value) (hb : c b = some (.cells cs t fz)) (hf : wr = true → fz = (0,0)) (hle : len ≤ cap) (hl : len ≤ b7) (hm : room = true → cap ≤ len + 2)
   (hc : ∀ i : Nat,i < (if room then cap else len) → ∀ (j : Nat) (ck : CK),(cks P e)[j]? = some ck → cs[o + i * (cks P e).length + j]? = some (g i j))
   (hbl : ∀ i : Nat,i < (if room then cap else len) → ∀ j : Nat,(cks P e)[j]? = some .bool → ¬ (fz.1 ≤ o + i * (cks P e).length + j ∧ o + i * (cks P e).length + j < fz.2))
   (hw : ∀ i : Nat,i < (if room then cap else len) → ∀ (j : Nat) (ck : CK),(cks P e)[j]? = some ck → WZ P wr room c d ck (g i j)) :
   WZ P wr room c (d + 1) (.sl e) (.slice (some ⟨b,o,none⟩) len cap)
theorem WZ.up {P : Program} {wr room : Bool} {c : aP} {d : Nat} {ck : CK} {v : Value} (h : WZ P wr room c d ck v) : ∀ d',d ≤ d' → WZ P wr room c d' ck v := by
 induction h with
 | int d k n h1 h2 => exact fun d' _ => .int d' k n h1 h2
 | bool d x => exact fun d' _ => .bool d' x
 | str d x h => exact fun d' _ => .str d' x h
 | nil d e b cap h => exact fun d' _ => .nil d' e b cap h
 | sl d e b o len cap cs t fz g hb hf hle hl hm hc hbl hw ih =>
  intro d' hd
  obtain ⟨k,rfl⟩ : ∃ k,d' = k + 1 := ⟨d' - 1,by omega⟩
  exact .sl k e b o len cap cs t fz g hb hf hle hl hm hc hbl fun i hi j ck hj => ih i hi j ck hj k (by omega)
theorem WZ.Fx {P : Program} {wr room : Bool} {c : aP} {d : Nat} {ck : CK} {v0 v : Value} (h : WZ P wr room c d ck v0) (hk : uw v0 v) : WZ P wr room c d ck v := by
 rcases hk with rfl | ⟨k,n,m,rfl,rfl,h1,h2⟩ | ⟨x,y,rfl,rfl⟩ | ⟨x,y,rfl,rfl,h1⟩
 ·exact h
 ·cases h with | int => exact .int _ _ _ h1 h2
 ·cases h with | bool => exact .bool _ _
 ·cases h with | str => exact .str _ _ h1
theorem WZ.keq {P : Program} {wr room : Bool} {c0 c : aP} (hk : KEq c0 c) {d : Nat} {ck : CK} {v : Value} (h : WZ P wr room c0 d ck v) : WZ P wr room c d ck v := by
 induction h with
 | int d k n h1 h2 => exact .int d k n h1 h2
 | bool d x => exact .bool d x
 | str d x h => exact .str d x h
 | nil d e b cap h => exact .nil d e b cap h
 | sl d e b o len cap cs t fz g hb hf hle hl hm hc hbl hw ih =>
  obtain ⟨cs',h1,h2,h3⟩ := hk.2 b cs t fz hb
  have key : ∀ i : Nat,i < (if room then cap else len) → ∀ (j : Nat) (ck : CK),(cks P e)[j]? = some ck → ∃ v,cs'[o + i * (cks P e).length + j]? = some v ∧ uw (g i j) v :=
   fun i hi j ck hj => h3 _ _ (hc i hi j ck hj)
  refine .sl d e b o len cap cs' t fz (fun i j => (cs'[o + i * (cks P e).length + j]?).getD undef) h1 hf hle hl hm (fun i hi j ck hj => ?_) hbl fun i hi j ck hj => ?_
  ·obtain ⟨v,q1,q2⟩ := key i hi j ck hj
   rw [q1]; rfl
  ·obtain ⟨v,q1,q2⟩ := key i hi j ck hj
   simp only [q1,Option.getD_some]
   exact (ih i hi j ck hj).Fx q2
def Pl (P : Program) (wr room : Bool) (c : aP) (d b o : Nat) (ck : CK) : Prop :=
 ∃ cs t fz v,c b = some (.cells cs t fz) ∧ cs[o]? = some v ∧ WZ P wr room c d ck v ∧ (wr = true → fz = (0,0)) ∧ (ck = .bool → ¬ (fz.1 ≤ o ∧ o < fz.2))
theorem Pl.keq {P : Program} {wr room : Bool} {c0 c : aP} (hk : KEq c0 c) {d b o : Nat} {ck : CK} (h : Pl P wr room c0 d b o ck) : Pl P wr room c d b o ck := by
 obtain ⟨cs,t,fz,v,h1,h2,h3,h4,h5⟩ := h
 obtain ⟨cs',k1,k2,k3⟩ := hk.2 b cs t fz h1
 obtain ⟨v',q1,q2⟩ := k3 o v h2
 exact ⟨cs',t,fz,v',k1,q1,(h3.Fx q2).keq hk,h4,h5⟩
theorem pC (c : aP) : KEq c c := ⟨fun _ => Iff.rfl,fun _ cs _ _ h => ⟨cs,h,rfl,fun _ v hv => ⟨v,hv,.inl rfl⟩⟩⟩
theorem HJ {a b c : aP} (h : KEq a b) (k : KEq b c) : KEq a c := by
 refine ⟨fun x => (h.1 x).trans (k.1 x),?_⟩
 intro x cs t fz hx
 obtain ⟨cs1,h1,h2,h3⟩ := h.2 x cs t fz hx
 obtain ⟨cs2,k1,k2,k3⟩ := k.2 x cs1 t fz h1
 refine ⟨cs2,k1,k2.trans h2,?_⟩
 intro j v0 hj
 obtain ⟨v1,e1,r1⟩ := h3 j v0 hj
 obtain ⟨v2,e2,r2⟩ := k3 j v1 e1
 refine ⟨v2,e2,?_⟩
 rcases r1 with rfl | ⟨kk,n,m,rfl,rfl,q1,q2⟩ | ⟨x,y,rfl,rfl⟩ | ⟨x,y,rfl,rfl,q⟩
 ·exact r2
 ·rcases r2 with rfl | ⟨kk',n',m',e,rfl,q1',q2'⟩ | ⟨_,_,e,_⟩ | ⟨_,_,e,_⟩
  ·exact .inr (.inl ⟨_,_,_,rfl,rfl,q1,q2⟩)
  ·simp only [Value.int.injEq] at e; obtain ⟨rfl,_⟩ := e; exact .inr (.inl ⟨_,_,_,rfl,rfl,q1',q2'⟩)
  ·cases e
  ·cases e
 ·rcases r2 with rfl | ⟨_,_,_,e,_⟩ | ⟨_,_,e,rfl⟩ | ⟨_,_,e,_⟩
  ·exact .inr (.inr (.inl ⟨_,_,rfl,rfl⟩))
  ·cases e
  ·exact .inr (.inr (.inl ⟨_,_,rfl,rfl⟩))
  ·cases e
 ·rcases r2 with rfl | ⟨_,_,_,e,_⟩ | ⟨_,_,e,_⟩ | ⟨_,_,e,rfl,q'⟩
  ·exact .inr (.inr (.inr ⟨_,_,rfl,rfl,q⟩))
  ·cases e
  ·cases e
  ·exact .inr (.inr (.inr ⟨_,_,rfl,rfl,q'⟩))
def Zn (c : aP) (w : World) : Prop := ∀ b o,c b = some o → w.heap[b]? = some o
theorem Zn.keep {c : aP} {w w' : World} {S : Nat → Prop} (h : Zn c w) (hc : Ch S w w') (hn : ∀ b,c b ≠ none → ¬ S b) : Zn c w' := fun b o hb => hc.at (h b o hb) (hn b (by rw [hb]; simp))
def stZ (c : aP) (b0 o0 : Nat) (v : Value) : aP := fun b => if b = b0 then (match c b with | some (.cells cs t fz) => some (.cells (cs.setIfInBounds o0 v) t fz) | o => o) else c b
theorem MV {c : aP} {b o : Nat} {v0 v : Value} (h : pl c b o = some v0) (hk : uw v0 v) : KEq c (stZ c b o v) := by
 refine ⟨fun x => ?_,?_⟩
 ·unfold stZ
  split
  ·cases hx : c x with
   | none => simp
   | some ob => cases ob <;> simp
  ·exact Iff.rfl
 ·intro x cs t fz hx
  unfold stZ
  split
  ·rename_i hxb
   subst hxb
   simp only [hx]
   refine ⟨_,rfl,by simp,?_⟩
   intro j v1 hj
   by_cases hjo : o = j
   ·subst hjo
    have e : v1 = v0 := by
     simp only [pl,hx] at h
     rw [hj] at h; exact Option.some.inj h
    subst e
    have hlt := (Array.getElem?_eq_some_iff.1 hj).1
    exact ⟨v,by simp [hlt],hk⟩
   ·exact ⟨v1,by rw [Array.getElem?_setIfInBounds_ne hjo]; exact hj,.inl rfl⟩
  ·exact ⟨cs,hx,rfl,fun j v1 hj => ⟨v1,hj,.inl rfl⟩⟩
theorem JC {c : aP} {b o : Nat} {v : Value} (h : pl c b o = some v) : stZ c b o v = c := by
 funext x
 unfold stZ
 split
 ·rename_i hx; subst hx
  unfold pl at h
  split at h
  ·rename_i cs t fz hc
   simp only [hc]
   congr 2
   apply Array.ext
   ·simp
   ·intro i h1 h2
    rw [Array.getElem_setIfInBounds (by simpa using h1)]
    split
    ·rename_i hi
     subst hi
     obtain ⟨_,e⟩ := Array.getElem?_eq_some_iff.1 h
     exact e.symm
    ·rfl
  ·cases h
 ·rfl
theorem Zn.store {c : aP} {w : World} {b o : Nat} {cs : Array Value} {t : TypeId} {fz : Nat × Nat} {v : Value} (h : Zn c w) (hb : c b = some (.cells cs t fz)) : Zn (stZ c b o v) (w.setRow b (cs.setIfInBounds o v)) := by
 intro x ob hx
 unfold stZ at hx
 split at hx
 ·rename_i hxb
  subst hxb
  simp only [hb,Option.some.injEq] at hx
  subst hx
  exact setRow_heap w x cs _ t fz (h x _ hb)
 ·rename_i hxb
  rw [setRow_other w b x _ hxb]
  exact h x ob hx
structure bh (y : TY) (mark room : Bool) (K : Nat) (hn : Bool) (Sr : Eye → Eye → Prop) (w : World) (be : Nat) (vn vs : Value) (e : Eye) (c : aP) (w' : World) (vn' vs' : Value) (e' : Eye) (c' : aP) : Prop where
 eye : bX y w' be vn' vs' e' mark room
 zn : Zn c' w'
 dis : ∀ b,EB be vn' vs' b → c' b = none
 keq : KEq c c'
 same : mark = false → c' = c ∧ Sr e e'
 ch : Ch (fun b => EB be vn vs b ∨ c b ≠ none) w w'
 new : ∀ b,EB be vn' vs' b → EB be vn vs b ∨ w.heap.size ≤ b
 gr : Gr K hn e.n.length e.s.length e'.n.length e'.s.length
theorem bh.trans {y : TY} {mark room : Bool} {K1 K2 : Nat} {h1 h2 : Bool} {S1 S2 S : Eye → Eye → Prop} {w : World} {be : Nat} {vn vs : Value} {e : Eye} {c : aP} {w1 : World} {vn1 vs1 : Value} {e1 : Eye} {c1 : aP} {w2 : World} {vn2 vs2 : Value} {e2 : Eye} {c2 : aP}
  (a : bh y mark room K1 h1 S1 w be vn vs e c w1 vn1 vs1 e1 c1) (b : bh y mark room K2 h2 S2 w1 be vn1 vs1 e1 c1 w2 vn2 vs2 e2 c2) (hS : mark = false → S1 e e1 → S2 e1 e2 → S e e2) :
  bh y mark room (K1 + K2) (h1 || h2) S w be vn vs e c w2 vn2 vs2 e2 c2 := by
 refine ⟨b.eye,b.zn,b.dis,HJ a.keq b.keq,?_,?_,?_,a.gr.seq b.gr⟩
 ·intro hm
  have p := a.same hm
  have q := b.same hm
  exact ⟨q.1.trans p.1,hS hm p.2 q.2⟩
 ·refine a.ch.trans' b.ch ?_
  intro x hx hs
  rcases hs with hs | hs
  ·rcases a.new x hs with h | h
   ·exact .inl h
   ·exact absurd hx (by omega)
  ·exact .inr fun h0 => hs ((a.keq.1 x).1 h0)
 ·intro x hx
  rcases b.new x hx with h | h
  ·exact a.new x h
  ·exact .inr (Nat.le_trans a.ch.size h)
theorem bh.S {y : TY} {mark room : Bool} {K : Nat} {h : Bool} {S1 S : Eye → Eye → Prop} {w : World} {be : Nat} {vn vs : Value} {e : Eye} {c : aP} {w1 : World} {vn1 vs1 : Value} {e1 : Eye} {c1 : aP}
  (a : bh y mark room K h S1 w be vn vs e c w1 vn1 vs1 e1 c1) (hS : mark = false → S1 e e1 → S e e1) : bh y mark room K h S w be vn vs e c w1 vn1 vs1 e1 c1 :=
 ⟨a.eye,a.zn,a.dis,a.keq,fun hm => ⟨(a.same hm).1,hS hm (a.same hm).2⟩,a.ch,a.new,a.gr⟩
theorem bh.refl {y : TY} {mark room : Bool} {Sr : Eye → Eye → Prop} {w : World} {be : Nat} {vn vs : Value} {e : Eye} {c : aP} (hE : bX y w be vn vs e mark room) (hz : Zn c w) (hd : ∀ b,EB be vn vs b → c b = none) (hS : mark = false → Sr e e) :
  bh y mark room 0 false Sr w be vn vs e c w vn vs e c := ⟨hE,hz,hd,pC c,fun hm => ⟨rfl,hS hm⟩,Ch.refl _ _,fun _ h => .inl h,.refl _ _⟩
theorem bh.pre {y : TY} {mark room : Bool} {K : Nat} {h : Bool} {Sr : Eye → Eye → Prop} {w0 w : World} {be : Nat} {vn vs : Value} {e : Eye} {c : aP} {w1 : World} {vn1 vs1 : Value} {e1 : Eye} {c1 : aP} (h0 : Ch (fun _ => False) w0 w)
  (a : bh y mark room K h Sr w be vn vs e c w1 vn1 vs1 e1 c1) : bh y mark room K h Sr w0 be vn vs e c w1 vn1 vs1 e1 c1 :=
 ⟨a.eye,a.zn,a.dis,a.keq,a.same,(h0.mono fun _ _ h => h.elim).trans' a.ch fun _ _ h => h,fun b hb => (a.new b hb).imp id fun h => Nat.le_trans h0.size h,a.gr⟩
theorem A3 {y : TY} {mark room : Bool} {w w1 w2 : World} {be : Nat} {vn vs v' : Value} {e : Eye} {c : aP} {x : Int} (hE : bX y w be vn vs e mark room) (hz : Zn c w) (hd : ∀ b,EB be vn vs b → c b = none) (h1 : Ch (fun _ => False) w w1)
  (ho : w2.ownsRow 0 y.I 1 v' (e.n.length + 1) (e.n.map (Value.int .i64) ++ [.int .i64 x])) (h2 : Ch (fun g => vn.ownBlock = some g) w1 w2) (hv : ∀ g,v'.ownBlock = some g → vn.ownBlock = some g ∨ w1.heap.size ≤ g) :
  (∃ t,w2.heap[be]? = some (.cells (ai vn vs e.at' mark room) t (0,0))) ∧
  bh y mark room 1 true (fun a b => b = { a with n := a.n ++ [x] }) w be vn vs e c (w2.setRow be (ai v' vs e.at' mark room)) v' vs { e with n := e.n ++ [x] } c := by
 obtain ⟨t,ht⟩ := hE.cell
 have ht1 := h1.at ht (fun h => h)
 have ht2 := h2.at ht1 hE.d1
 refine ⟨⟨t,ht2⟩,?_⟩
 have hch3 := Ch.setRow w2 be (ai v' vs e.at' mark room)
 have hbe : v'.ownBlock ≠ some be := by
  intro h
  rcases hv be h with h | h
  ·exact hE.d1 h
  ·exact absurd (aJ ht) (by have := h1.size; omega)
 have hlt := hE.lt
 have hall : Ch (fun b => EB be vn vs b ∨ c b ≠ none) w (w2.setRow be (ai v' vs e.at' mark room)) :=
  ((h1.mono fun _ _ h => h.elim).trans' h2 fun b _ h => .inl (.inr (.inl h))).trans' hch3 fun b _ h => .inl (.inl h)
 have hnew : ∀ b,EB be v' vs b → EB be vn vs b ∨ w.heap.size ≤ b := by
  rintro b (h | h | h)
  ·exact .inl (.inl h)
  ·rcases hv b h with h | h
   ·exact .inl (.inr (.inl h))
   ·exact .inr (Nat.le_trans h1.size h)
  ·exact .inl (.inr (.inr h))
 refine ⟨⟨⟨t,setRow_heap w2 be _ _ t (0,0) ht2⟩,?_,?_,hbe,hE.d2,?_⟩,?_,?_,pC c,fun _ => ⟨rfl,rfl⟩,hall,hnew,?_⟩
 ·have := hch3.ownsRow ho fun g hg h => hbe (by rw [hg,h])
  simpa using this
 ·have h3 := h1.ownsRow hE.s fun g _ h => h
  have h4 := h2.ownsRow h3 fun g hg h => hE.d3 g h hg
  exact hch3.ownsRow h4 fun g hg h => hE.d2 (by rw [hg,h])
 ·intro g hg hs
  rcases hv g hg with h | h
  ·exact hE.d3 g h hs
  ·exact absurd (hlt g (.inr (.inr hs))) (by have := h1.size; omega)
 ·exact ((hz.keep h1 fun _ _ h => h).keep h2 fun b hb h => hb (hd b (.inr (.inl h)))).keep hch3 fun b hb h => hb (hd b (.inl h))
 ·intro b hb
  rcases hnew b hb with h | h
  ·exact hd b h
  ·cases hcb : c b with
   | none => rfl
   | some o => exact absurd (aJ (hz b o hcb)) (by omega)
 ·simp only [List.length_append,List.length_cons,List.length_nil]; exact .num _ _
theorem OM {y : TY} {mark room : Bool} {w w1 w2 : World} {be : Nat} {vn vs v' : Value} {e : Eye} {c : aP} {x : ByteArray} (hE : bX y w be vn vs e mark room) (hz : Zn c w) (hd : ∀ b,EB be vn vs b → c b = none) (h1 : Ch (fun _ => False) w w1)
  (ho : w2.ownsRow 0 y.S 1 v' (e.s.length + 1) (e.s.map Value.string ++ [.string x])) (h2 : Ch (fun g => vs.ownBlock = some g) w1 w2) (hv : ∀ g,v'.ownBlock = some g → vs.ownBlock = some g ∨ w1.heap.size ≤ g) :
  (∃ t,w2.heap[be]? = some (.cells (ai vn vs e.at' mark room) t (0,0))) ∧
  bh y mark room 1 false (fun a b => b = { a with s := a.s ++ [x] }) w be vn vs e c (w2.setRow be (ai vn v' e.at' mark room)) vn v' { e with s := e.s ++ [x] } c := by
 obtain ⟨t,ht⟩ := hE.cell
 have ht1 := h1.at ht (fun h => h)
 have ht2 := h2.at ht1 hE.d2
 refine ⟨⟨t,ht2⟩,?_⟩
 have hch3 := Ch.setRow w2 be (ai vn v' e.at' mark room)
 have hbe : v'.ownBlock ≠ some be := by
  intro h
  rcases hv be h with h | h
  ·exact hE.d2 h
  ·exact absurd (aJ ht) (by have := h1.size; omega)
 have hlt := hE.lt
 have hall : Ch (fun b => EB be vn vs b ∨ c b ≠ none) w (w2.setRow be (ai vn v' e.at' mark room)) :=
  ((h1.mono fun _ _ h => h.elim).trans' h2 fun b _ h => .inl (.inr (.inr h))).trans' hch3 fun b _ h => .inl (.inl h)
 have hnew : ∀ b,EB be vn v' b → EB be vn vs b ∨ w.heap.size ≤ b := by
  rintro b (h | h | h)
  ·exact .inl (.inl h)
  ·exact .inl (.inr (.inl h))
  ·rcases hv b h with h | h
   ·exact .inl (.inr (.inr h))
   ·exact .inr (Nat.le_trans h1.size h)
 refine ⟨⟨⟨t,setRow_heap w2 be _ _ t (0,0) ht2⟩,?_,?_,hE.d1,hbe,?_⟩,?_,?_,pC c,fun _ => ⟨rfl,rfl⟩,hall,hnew,?_⟩
 ·have h3 := h1.ownsRow hE.n fun g _ h => h
  have h4 := h2.ownsRow h3 fun g hg h => hE.d3 g hg h
  exact hch3.ownsRow h4 fun g hg h => hE.d1 (by rw [hg,h])
 ·have := hch3.ownsRow ho fun g hg h => hbe (by rw [hg,h])
  simpa using this
 ·intro g hg hs
  rcases hv g hs with h | h
  ·exact hE.d3 g hg h
  ·exact absurd (hlt g (.inr (.inl hg))) (by have := h1.size; omega)
 ·exact ((hz.keep h1 fun _ _ h => h).keep h2 fun b hb h => hb (hd b (.inr (.inr h)))).keep hch3 fun b hb h => hb (hd b (.inl h))
 ·intro b hb
  rcases hnew b hb with h | h
  ·exact hd b h
  ·cases hcb : c b with
   | none => rfl
   | some o => exact absurd (aJ (hz b o hcb)) (by omega)
 ·simp only [List.length_append,List.length_cons,List.length_nil]; exact .str _ _
theorem HK {y : TY} {mark room : Bool} {w : World} {be : Nat} {vn vs : Value} {e : Eye} {c : aP} {x : Int} (hE : bX y w be vn vs e mark room) (hz : Zn c w) (hd : ∀ b,EB be vn vs b → c b = none) (hm : mark = true) :
  bh y mark room 0 false (fun _ _ => True) w be vn vs e c (w.setRow be (ai vn vs x mark room)) vn vs { e with at' := x } c := by
 obtain ⟨t,ht⟩ := hE.cell
 have hch := Ch.setRow w be (ai vn vs x mark room)
 exact ⟨⟨⟨t,setRow_heap w be _ _ t (0,0) ht⟩,hch.ownsRow hE.n fun g hg h => hE.d1 (by rw [hg,h]),hch.ownsRow hE.s fun g hg h => hE.d2 (by rw [hg,h]),hE.d1,hE.d2,hE.d3⟩,
  hz.keep hch fun b hb h => hb (hd b (.inl h)),hd,pC c,fun h => (by rw [hm] at h; cases h),hch.mono fun b _ h => .inl (.inl h),fun _ h => .inl h,.refl _ _⟩
theorem vJ {y : TY} {mark room : Bool} {Sr : Eye → Eye → Prop} {w : World} {be : Nat} {vn vs : Value} {e : Eye} {c : aP} {b o : Nat} {cs : Array Value} {t : TypeId} {fz : Nat × Nat} {v0 v : Value} (hE : bX y w be vn vs e mark room) (hz : Zn c w) (hd : ∀ b,EB be vn vs b → c b = none)
  (hb : c b = some (.cells cs t fz)) (hv0 : cs[o]? = some v0) (hk : uw v0 v) (hm : mark = false → v = v0 ∧ Sr e e) :
  bh y mark room 0 false Sr w be vn vs e c (w.setRow b (cs.setIfInBounds o v)) vn vs e (stZ c b o v) := by
 have hpl : pl c b o = some v0 := by simp only [pl,hb]; exact hv0
 have hch := Ch.setRow w b (cs.setIfInBounds o v)
 have hne : ∀ x,EB be vn vs x → ¬ x = b := fun x hx h => by have := hd x hx; rw [h,hb] at this; cases this
 have hkq := MV hpl hk
 refine ⟨hE.keep hch hne,hz.store hb,fun x hx => (hkq.1 x).1 (hd x hx),hkq,fun h => ?_,hch.mono fun x _ h => .inr (by subst h; rw [hb]; simp),fun _ h => .inl h,.refl _ _⟩
 obtain ⟨rfl,hs⟩ := hm h
 exact ⟨JC hpl,hs⟩
end Go.TL.H
