/- Maps of strings, and chains: what operations on them do. -/
import Derived.Test.YtajkchpnbnbmfaaGreatDoorW06
import Derived.MapKept
namespace Go.TL
open Go.MapKept
theorem Gv {a : Option Nat} {e : MapEntry} {vs : List Value} (h : bY a e = some vs) : ∃ us,vs = e.key :: us := by
 unfold bY at h
 split at h
 ·simp only [Option.some.injEq] at h; exact ⟨_,h.symm⟩
 ·split at h
  ·simp only [Option.some.injEq] at h; exact ⟨_,h.symm⟩
  ·cases h
 ·cases h
def qb (rows : List (List PV)) : Prop := ∀ row ∈ rows, ∃ s r,row = .v (.string s) :: r
theorem qb.of {P : Program} {e : TypeId} {cs : List CK} {rows : List (List PV)} (hc : cks P e = .str :: cs) (h : bL P e rows) : qb rows := by
 intro row hr
 have := Ty.to hc (h row hr)
 obtain ⟨s,r,rfl,_⟩ := nI this
 exact ⟨s,r,rfl⟩
theorem cn.at {w : World} {bad : Nat → Prop} {lo : Nat} {a : Option Nat} {rows : List (List PV)} {es : Array MapEntry} (h : cn w bad lo a rows es) {i : Nat} {e : MapEntry} (hi : es[i]? = some e) :
  ∃ row vs,row ∈ rows ∧ bY a e = some vs ∧ ∃ g : Nat → Value, ∀ (j : Nat) (x : PV),row[j]? = some x → vs[j]? = some (g j) ∧ Rep w bad lo x (g j) := by
 obtain ⟨f,⟨h1,h2⟩,h3⟩ := h
 have hlt : i < rows.length := by rw [← h1]; exact (Array.getElem?_eq_some_iff.1 hi).1
 have hr : rows[i]? = some rows[i] := by simp [hlt]
 obtain ⟨vs,h4,h5⟩ := h2 i _ e hr hi
 exact ⟨rows[i],vs,List.getElem_mem hlt,h4,f i,fun j x hx => ⟨h5 j x hx,h3 i _ j x hr hx⟩⟩
theorem cn.keys {w : World} {bad : Nat → Prop} {lo : Nat} {a : Option Nat} {rows : List (List PV)} {es : Array MapEntry} (h : cn w bad lo a rows es) (hk : qb rows) : ∀ x ∈ es.toList,IsKey .string x.key := by
 intro x hx
 obtain ⟨i,hi⟩ := List.getElem?_of_mem hx
 obtain ⟨row,vs,hm,hc,g,hg⟩ := h.at (i := i) (by simpa using hi)
 obtain ⟨s,r,rfl⟩ := hk row hm
 obtain ⟨us,rfl⟩ := Gv hc
 have := hg 0 _ rfl
 have e1 := eW this.2
 simp only [List.getElem?_cons_zero,Option.some.injEq] at this
 rw [this.1,e1]; trivial
def jw (w : World) (bad : Nat → Prop) (lo : Nat) (a : Option Nat) (row : List PV) (key val : Value) : Prop :=
 ∃ vs,bY a { key,val,born := 0 } = some vs ∧ ∃ g : Nat → Value, ∀ (j : Nat) (x : PV),row[j]? = some x → vs[j]? = some (g j) ∧ Rep w bad lo x (g j)
theorem DI {a : Option Nat} {e : MapEntry} : bY a e = bY a { key := e.key,val := e.val,born := 0 } := rfl
theorem cn.push {w : World} {bad : Nat → Prop} {lo : Nat} {a : Option Nat} {rows : List (List PV)} {es : Array MapEntry} (h : cn w bad lo a rows es) {row : List PV} {e : MapEntry} (hr : jw w bad lo a row e.key e.val) :
  cn w bad lo a (rows ++ [row]) (es.push e) := by
 obtain ⟨f,⟨h1,h2⟩,h3⟩ := h
 obtain ⟨vs,hv,g,hg⟩ := hr
 refine ⟨fun i j => if i < rows.length then f i j else g j,⟨by simp [h1],?_⟩,?_⟩
 ·intro i r e' hi he
  rw [List.getElem?_append] at hi
  rw [Array.getElem?_push,h1] at he
  by_cases hlt : i < rows.length
  ·rw [if_pos hlt] at hi
   rw [if_neg (by omega)] at he
   obtain ⟨us,h4,h5⟩ := h2 i r e' hi he
   exact ⟨us,h4,fun j x hx => by simp only [if_pos hlt]; exact h5 j x hx⟩
  ·rw [if_neg hlt] at hi
   have e0 : i = rows.length := by have := (List.getElem?_eq_some_iff.1 hi).1; simp at this; omega
   subst e0
   simp at hi he; subst hi; subst he
   exact ⟨vs,hv,fun j x hx => by simp only [if_neg hlt]; exact (hg j x hx).1⟩
 ·intro i r j x hi hj
  rw [List.getElem?_append] at hi
  by_cases hlt : i < rows.length
  ·rw [if_pos hlt] at hi; simp only [if_pos hlt]; exact h3 i r j x hi hj
  ·rw [if_neg hlt] at hi
   have e0 : i = rows.length := by have := (List.getElem?_eq_some_iff.1 hi).1; simp at this; omega
   subst e0
   simp at hi; subst hi
   simp only [if_neg hlt]; exact (hg j x hj).2
theorem cn.set {w : World} {bad : Nat → Prop} {lo : Nat} {a : Option Nat} {rows : List (List PV)} {es : Array MapEntry} (h : cn w bad lo a rows es) {row : List PV} {k : Nat} {u : MapEntry → MapEntry} {key val : Value}
  (hu : ∀ e,(u e).key = key ∧ (u e).val = val) (hr : jw w bad lo a row key val) : cn w bad lo a (rows.set k row) (es.modify k u) := by
 obtain ⟨f,⟨h1,h2⟩,h3⟩ := h
 obtain ⟨vs,hv,g,hg⟩ := hr
 refine ⟨fun i j => if i = k then g j else f i j,⟨by simp [h1],?_⟩,?_⟩
 ·intro i r e' hi he
  rw [List.getElem?_set] at hi
  rw [Array.getElem?_modify] at he
  by_cases e0 : i = k
  ·subst e0
   simp only [if_true] at hi he
   split at hi
   ·simp only [Option.some.injEq] at hi; subst hi
    obtain ⟨e1,_,rfl⟩ := Option.map_eq_some_iff.1 he
    refine ⟨vs,?_,fun j x hx => by simp only [if_true]; exact (hg j x hx).1⟩
    rw [DI,(hu e1).1,(hu e1).2]; exact hv
   ·cases hi
  ·rw [if_neg (Ne.symm e0)] at hi he
   obtain ⟨us,h4,h5⟩ := h2 i r e' hi he
   exact ⟨us,h4,fun j x hx => by simp only [if_neg e0]; exact h5 j x hx⟩
 ·intro i r j x hi hj
  rw [List.getElem?_set] at hi
  by_cases e0 : i = k
  ·subst e0
   simp only [if_true] at hi
   split at hi
   ·simp only [Option.some.injEq] at hi; subst hi; simp only [if_true]; exact (hg j x hj).2
   ·cases hi
  ·rw [if_neg (Ne.symm e0)] at hi
   simp only [if_neg e0]; exact h3 i r j x hi hj
theorem Gw {P : Program} {w : World} {t kt et : TypeId} {b : Nat} {es : Array MapEntry} {clock : Nat} {z : Value} {s : ByteArray} {c : Bool} (ht : P.underlying t = some (.map kt et)) (hk : P.underlying kt = some .string)
  (hb : w.heap[b]? = some (.map es clock)) (hks : ∀ x ∈ es.toList,IsKey .string x.key) (hz : (zeroValue et).run P w = .ok z w) :
  (∃ (i : Nat) (e : MapEntry),es[i]? = some e ∧ (Instr.lookup t (.map (some b)) (.string s) c).run P w = .ok (if c then .tuple #[e.val,.bool true] else e.val) w) ∨
   (Instr.lookup t (.map (some b)) (.string s) c).run P w = .ok (if c then .tuple #[z,.bool false] else z) w := by
 rcases findNow_spec (d := .string) (k := .string s) trivial es.toList 0 hks with ⟨h1,h2⟩ | ⟨j,e,h1,h2,h3⟩
 ·refine .inr ?_
  simp [Instr.lookup,run_underlying ht,run_getObj_map hb,run_checkKey hk (d := .string) (k := .string s) trivial,run_findKey hk h1,hz,Result.andThen]
 ·refine .inl ⟨j,e,by simpa using h2,?_⟩
  simp [Instr.lookup,run_underlying ht,run_getObj_map hb,run_checkKey hk (d := .string) (k := .string s) trivial,run_findKey hk h1,Result.andThen]
theorem yw {P : Program} {w : World} {t kt et : TypeId} {z : Value} {s : ByteArray} {c : Bool} (ht : P.underlying t = some (.map kt et)) (hk : P.underlying kt = some .string) (hz : (zeroValue et).run P w = .ok z w) :
  (Instr.lookup t (.map none) (.string s) c).run P w = .ok (if c then .tuple #[z,.bool false] else z) w := by
 have h1 : Instr.findNow .string (.string s) [] 0 = some none := rfl
 simp [Instr.lookup,run_underlying ht,run_checkKey hk (d := .string) (k := .string s) trivial,run_findKey hk h1,hz,Result.andThen]
theorem gX {P : Program} {w : World} {t kt et : TypeId} {b : Nat} {es : Array MapEntry} {clock : Nat} {s : ByteArray} {v : Value} (ht : P.underlying t = some (.map kt et)) (hk : P.underlying kt = some .string)
  (hb : w.heap[b]? = some (.map es clock)) (hks : ∀ x ∈ es.toList,IsKey .string x.key) :
  ∃ es' clock',(Instr.mapUpdate t (.map (some b)) (.string s) v).run P w = .ok () { w with heap := w.heap.setIfInBounds b (.map es' clock') } ∧
   (es' = es.push { key := .string s,val := v,born := clock } ∨ ∃ (j : Nat) (e : MapEntry),es[j]? = some e ∧ es' = es.modify j fun e => { e with key := .string s,val := v }) := by
 rcases findNow_spec (d := .string) (k := .string s) trivial es.toList 0 hks with ⟨h1,h2⟩ | ⟨j,e,h1,h2,h3⟩
 ·refine ⟨_,clock + 1,?_,.inl rfl⟩
  simp [Instr.mapUpdate,run_underlying ht,run_getObj_map hb,run_checkKey hk (d := .string) (k := .string s) trivial,run_findKey hk h1,run_setObj_map _ hb,Result.andThen]
 ·have hj : es[j]? = some e := by simpa using h2
  refine ⟨_,clock,?_,.inr ⟨j,e,hj,rfl⟩⟩
  simp [Instr.mapUpdate,run_underlying ht,run_getObj_map hb,run_checkKey hk (d := .string) (k := .string s) trivial,run_findKey hk h1,hj,h3,run_keyThatStays (d := .string) (k := .string s) trivial,run_setObj_map _ hb,Result.andThen]
def mvS (a : Option Nat) (fr : Bool) (row : List PV) : SV :=
 match a,row with
 | none,x :: _ => mkp fr x
 | none,[] => .u
 | some n,row => .agg (row.map (mkp fr) ++ List.replicate (n - row.length) .u)
theorem MA {w : World} {E : Env} {lo : Nat} : ∀ us : List Value,VRs w E lo (List.replicate us.length .u) us
 | [] => by simp [VRs]
 | u :: us => by simp only [List.length_cons,List.replicate_succ,VRs,VR,true_and]; exact MA us
theorem ED {w : World} {E : Env} {lo : Nat} {fr : Bool} : ∀ (row : List PV) (us : List Value),row.length ≤ us.length → (∀ (j : Nat) x,row[j]? = some x → ∃ v,us[j]? = some v ∧ Rep w E.bad (flo lo fr) x v) →
  VRs w E lo (row.map (mkp fr) ++ List.replicate (us.length - row.length) .u) us
 | [],us,_,_ => by simpa only [List.map_nil,List.nil_append,List.length_nil,Nat.sub_zero] using MA us
 | x :: row,[],h,_ => by simp at h
 | x :: row,u :: us,h,hg => by
  obtain ⟨v,h1,h2⟩ := hg 0 x rfl
  simp only [List.getElem?_cons_zero,Option.some.injEq] at h1; subst h1
  simp only [List.map_cons,List.cons_append,List.length_cons,Nat.add_sub_add_right,VRs]
  exact ⟨xB h2,ED row us (by simpa using h) fun j y hy => by have := hg (j + 1) y (by simpa using hy); simpa using this⟩
theorem No {w : World} {E : Env} {lo : Nat} {fr : Bool} {a : Option Nat} {x : PV} {row : List PV} {key u : Value} (h : jw w E.bad (flo lo fr) a (x :: row) key u) : VR w E lo (mvS a fr row) u := by
 obtain ⟨vs,hv,g,hg⟩ := h
 cases a with
 | none =>
  simp only [bY,Option.some.injEq] at hv; subst hv
  cases row with
  | nil => simp [mvS,VR]
  | cons y row =>
   have := hg 1 y rfl
   simp only [List.getElem?_cons_succ,List.getElem?_cons_zero,Option.some.injEq] at this
   rw [← this.1] at this; exact xB this.2
 | some n =>
  unfold bY at hv
  split at hv
  ·rename_i he; cases he
  ·rename_i n' cs he hu
   cases he
   split at hv
   ·rename_i hn
    have hn := of_decide_eq_true hn
    simp only [Option.some.injEq] at hv; subst hv
    simp only at hu; subst hu
    simp only [mvS,VR]
    refine ⟨cs.toList,by simp,?_⟩
    have hlen : row.length ≤ cs.toList.length := by
     rcases Nat.eq_zero_or_pos row.length with h0 | h0
     ·omega
     ·have hj : (x :: row)[row.length]? = some ((x :: row)[row.length]'(by simp)) := by simp
      have := (List.getElem?_eq_some_iff.1 (hg _ _ hj).1).1
      simp only [List.length_cons] at this; omega
    have := ED (w := w) (E := E) (lo := lo) (fr := fr) row cs.toList hlen fun j y hy => ⟨g (j + 1),by
     have := hg (j + 1) y (by simpa using hy)
     exact ⟨by simpa using this.1,this.2⟩⟩
    rw [show cs.toList.length = n by simpa using hn] at this
    exact this
   ·cases hv
  ·cases hv
inductive wW (T : Tab) : SV → Option Nat → List (List PV) → Bool → Prop
 | own {k : Nat} {a : Option Nat} {rows : List (List PV)} {fr : Bool} (h : lk T k = some (.mp a rows fr)) : wW T (.ref k) a rows fr
 | pure (a : Option Nat) (rows : List (List PV)) (fr : Bool) : wW T (.p (.mp a rows) fr) a rows fr
theorem Pu {C : Ctx} {E : Env} {σ : St} {a : Act} {w : World} {m : Operand} {q : Option Nat} {rows : List (List PV)} {fr : Bool} (h : au C E σ a w) (hm : wW σ.tab (ev σ m) q rows fr) :
  (a.eval m = .map none ∧ rows = []) ∨ ∃ b es clock,a.eval m = .map (some b) ∧ w.heap[b]? = some (.map es clock) ∧ cn w E.bad (flo C.lo fr) q rows es := by
 have hev := a7 h m
 generalize ev σ m = sv at hm hev
 cases hm with
 | own hl =>
  obtain ⟨b,es,cl,h1,_,h3,h4⟩ := h.tab.obj _ _ hl
  simp only [VR] at hev
  rw [h1] at hev
  exact .inr ⟨b,es,cl,(Option.some.inj hev.1).symm,h3,h4⟩
 | pure =>
  simp only [VR] at hev
  generalize a.eval m = v at hev ⊢
  cases hev with
  | mpNil => exact .inl ⟨rfl,rfl⟩
  | mp _ _ b es cl f hb _ _ hc hr => exact .inr ⟨b,es,cl,rfl,hb,f,hc,hr⟩
def lkS (c : Bool) (x : SV) (b : Bool) : SV := match c with | true => .tup [x,.p (.v (.bool b)) true] | false => x
theorem IB {C : Ctx} {E : Env} {σ : St} {a : Act} {w : World} {o : Oper} {t kt et : TypeId} {m x : Operand} {c : Bool} {q : Option Nat} {rows : List (List PV)} {fr : Bool} {z : Value} {s : ByteArray} (ho : o.op = .lookup t m x c) (h : au C E σ a w) (hd : aV C o)
  (ht : C.P.underlying t = some (.map kt et)) (hk : C.P.underlying kt = some .string) (hz : (zeroValue et).run C.P w = .ok z w) (hm : wW σ.tab (ev σ m) q rows fr) (hr : qb rows) (hx : isStr (ev σ x) = some s)
  {row0 : List PV} (h0 : jw w E.bad (flo C.lo fr) q (.v (.string s) :: row0) (.string s) z) :
  ∃ y row b,(row = row0 ∨ y :: row ∈ rows) ∧ bs C o (σ.put o.dst (lkS c (mvS q fr row) b)) a w := by
 have ex := o7 h hx
 have key : ∀ (u : Value) (y : PV) (row : List PV) (kv : Value) (b : Bool),jw w E.bad (flo C.lo fr) q (y :: row) kv u → (Instr.lookup t (a.eval m) (a.eval x) c).run C.P w = .ok (if c then .tuple #[u,.bool b] else u) w →
   bs C o (σ.put o.dst (lkS c (mvS q fr row) b)) a w := by
  intro u y row kv b hR hrun
  refine bn h hd (v := if c then .tuple #[u,.bool b] else u) ?_ ?_
  ·simp [execOp,ho,hrun]
  ·have := No hR
   cases c with
   | false => exact this
   | true =>
    simp only [lkS,VR,if_true]
    exact ⟨[u,.bool b],rfl,bC this (bC (cT true rfl) c6)⟩
 rcases Pu h hm with ⟨hv,rfl⟩ | ⟨b,es,cl,hv,hb,hM⟩
 ·exact ⟨.v (.string s),row0,false,.inl rfl,key z _ row0 _ false h0 (by rw [hv,ex]; exact yw ht hk hz)⟩
 ·rcases Gw (P := C.P) (c := c) (s := s) ht hk hb (hM.keys hr) hz with ⟨i,e,hi,hrun⟩ | hrun
  ·obtain ⟨row,vs,hmem,hc,g,hg⟩ := hM.at hi
   obtain ⟨s',r,rfl⟩ := hr row hmem
   exact ⟨_,r,true,.inr hmem,key e.val _ r e.key true ⟨vs,hc,g,hg⟩ (by rw [hv,ex]; exact hrun)⟩
  ·exact ⟨.v (.string s),row0,false,.inl rfl,key z _ row0 _ false h0 (by rw [hv,ex]; exact hrun)⟩
theorem Gx {C : Ctx} {E : Env} {σ : St} {a : Act} {w : World} {o : Oper} {d : Nat} {t : TypeId} (q : Option Nat) (ho : o.op = .makeMap t none) (h : au C E σ a w) (hd : aV C o) (hdst : o.dst = some d) (hfresh : lk σ.tab d = none) :
  bs C o ⟨(d,.ref d) :: σ.ab,(d,.mp q [] true) :: σ.tab⟩ a w := by
 have hb : ∀ b,b < w.heap.size → (w.alloc (.map #[] 0)).heap[b]? = w.heap[b]? := fun b hb => heap_alloc_old w _ b hb
 have hlo : C.lo ≤ w.heap.size := Nat.le_trans h.lo.le h.fr.size
 have hval := Env.k9 (w := w) (b0 := w.heap.size) (x := .map (some w.heap.size)) h.tab hfresh
 have htab := a8.add (w' := w.alloc (.map #[] 0)) (x := .map (some w.heap.size)) (b0 := w.heap.size) (ov := .mp q [] true) h.tab hfresh (by simp) hb (Nat.le_refl _) (by simp) hlo
  ⟨w.heap.size, #[],0,by simp [Env.add],by simp [Env.add],heap_alloc_new w _,fun _ _ => undef,⟨rfl,by simp⟩,by simp⟩
 refine ⟨.map (some w.heap.size),w.alloc (.map #[] 0),.inl (by simp [execOp,ho,Instr.makeMap]),E.add d (.map (some w.heap.size)) w.heap.size,?_⟩
 have hdn : d < C.n := hd d hdst
 have hfr : Fr w E (w.alloc (.map #[] 0)) (E.add d (.map (some w.heap.size)) w.heap.size) := Fr.add rfl rfl rfl (by simp) hb (Nat.le_refl _)
 have := h.upd hfr hval (fun k hk hn => by simp only [Env.add]; rw [if_neg (by omega)]; exact hn) htab o.dst hd (sv := .ref d) (v := .map (some w.heap.size)) (fun _ _ => by simp only [VR]; exact ⟨by simp [Env.add],rfl⟩)
 rw [hdst] at this ⊢
 exact this
theorem Cu {C : Ctx} {E : Env} {σ : St} {a : Act} {w : World} {o : Oper} {t kt et : TypeId} {m x v : Operand} {k : Nat} {q : Option Nat} {rows : List (List PV)} {fr fr' : Bool} {s : ByteArray} {row : List PV} (ho : o.op = .mapUpdate t m x v ∨ o.op = .insert t m x v) (h : au C E σ a w) (hd : aV C o)
  (ht : C.P.underlying t = some (.map kt et)) (hk : C.P.underlying kt = some .string) (hm : ev σ m = .ref k) (hl : lk σ.tab k = some (.mp q rows fr)) (hr : qb rows) (hx : isStr (ev σ x) = some s)
  (hv : jw w E.bad (flo C.lo fr') q (.v (.string s) :: row) (.string s) (a.eval v)) :
  ∃ rows',(rows' = rows ++ [.v (.string s) :: row] ∨ ∃ j,rows' = rows.set j (.v (.string s) :: row)) ∧ bs C o ((⟨σ.ab,(k,.mp q rows' (fr && fr')) :: rm σ.tab k⟩ : St).put o.dst .u) a w := by
 have ex := o7 h hx
 obtain ⟨b,es,cl,h1,h2,h3,h4⟩ := h.tab.obj _ _ hl
 have hev := a7 h m
 rw [hm] at hev; simp only [VR] at hev
 rw [h1] at hev
 have em := (Option.some.inj hev.1).symm
 obtain ⟨es',cl',hrun,hes⟩ := gX (P := C.P) (w := w) (v := a.eval v) (s := s) ht hk h3 (h4.keys hr)
 have hlt := aJ h3
 have hother : ∀ c,E.own c ≠ some k → ({ w with heap := w.heap.setIfInBounds b (.map es' cl') } : World).heap[c]? = w.heap[c]? := fun c hc => (heap_set (w := w) h3).2 c (fun e => hc (by rw [e]; exact h2))
 have hkeep : ∀ c o',w.heap[c]? = some o' → ¬ E.bad c → ({ w with heap := w.heap.setIfInBounds b (.map es' cl') } : World).heap[c]? = some o' ∧ ¬ E.bad c := fun c o' hc hn => ⟨(hother c (by rw [(DX hn).1]; simp)).trans hc,hn⟩
 have g1 := h4.mono (eG C.lo fr fr').1 hkeep
 have g2 : jw { w with heap := w.heap.setIfInBounds b (.map es' cl') } E.bad (flo C.lo (fr && fr')) q (.v (.string s) :: row) (.string s) (a.eval v) := by
  obtain ⟨vs,e1,g,e2⟩ := hv
  exact ⟨vs,e1,g,fun j x hx => ⟨(e2 j x hx).1,(e2 j x hx).2.mono (eG C.lo fr fr').2 hkeep⟩⟩
 have done : ∀ rows',cn { w with heap := w.heap.setIfInBounds b (.map es' cl') } E.bad (flo C.lo (fr && fr')) q rows' es' → bs C o ((⟨σ.ab,(k,.mp q rows' (fr && fr')) :: rm σ.tab k⟩ : St).put o.dst .u) a w := by
  intro rows' hM
  refine xC h hd (by rw [hl]; simp) (w1 := { w with heap := w.heap.setIfInBounds b (.map es' cl') }) ?_ rfl rfl rfl (by simp) hother ⟨b,es',cl',h1,h2,(heap_set h3).1,hM⟩
  rcases ho with ho | ho <;> simp [execOp,ho,em,ex,hrun]
 rcases hes with rfl | ⟨j,e,_,rfl⟩
 ·exact ⟨_,.inl rfl,done _ (g1.push g2)⟩
 ·exact ⟨_,.inr ⟨j,rfl⟩,done _ (g1.set (fun _ => ⟨rfl,rfl⟩) g2)⟩
theorem KA {C : Ctx} {E : Env} {σ : St} {a : Act} {w : World} {o : Oper} {t : TypeId} {x : Operand} {xs : List SV} {row : List PV} {rows : List (List PV)} {fr : Bool} (ho : o.op = .box t x) (h : au C E σ a w) (hd : aV C o)
  (hvs : VRs w E C.lo xs (a.eval x).cells.toList) (hp : gl xs = some (row ++ [.ls rows],fr)) : bs C o (σ.put o.dst (.p (.ls (row :: rows)) fr)) a w := by
 obtain ⟨_,_,f,f1,f2⟩ := iv xs _ fr hp _ hvs
 have hb : ∀ b,b < w.heap.size → (w.alloc (.cells (a.eval x).cells.toList.toArray t)).heap[b]? = w.heap[b]? := fun b hb => heap_alloc_old w _ b hb
 have hfr : Fr w E (w.alloc (.cells (a.eval x).cells.toList.toArray t)) E := ⟨rfl,rfl,rfl,by simp,fun b hlt hn => ⟨hb b hlt,hn⟩,rfl⟩
 have hnew : ¬ E.bad w.heap.size := fm (by
  cases hq : E.own w.heap.size with
  | none => rfl
  | some k => exact absurd (h.tab.own _ _ hq).1 (Nat.lt_irrefl _)) fun he => Nat.lt_irrefl _ (h.tab.ext _ he).1
 refine ⟨.pointer (some ⟨w.heap.size,0,none⟩),_,.inl (by simp [execOp,ho,Instr.box,newVar,newRow]; rfl),E,?_⟩
 refine h.upd hfr (fun _ _ h => h) (fun _ _ h => h) (h.tab.same (by simp) hb) o.dst hd fun _ _ => ?_
 simp only [VR]
 refine .ls row rows w.heap.size 0 _ t (0,0) f (heap_alloc_new w _) hnew (Nat.le_trans (vr _ _) (Nat.le_trans h.lo.le h.fr.size)) (fun j y hy => ?_) fun j y hy => (f2 j y hy).mono (Nat.le_refl _) hfr.keeps.rep
 simpa using f1 j y hy
theorem run_eq_map {P : Program} {w : World} {t k e : TypeId} (hu : P.underlying t = some (.map k e)) (p q : Option Nat) (h : p = none ∨ q = none) : (Op.equal t (.map p) (.map q)).run P w = .ok (p.isNone && q.isNone) w := by
 show (Op.equalIn (9999 + 1) t _ _).run P w = _
 rw [Op.equalIn]
 rcases h with rfl | rfl
 ·cases q <;> simp [run_underlying hu]
 ·cases p <;> simp [run_underlying hu]
def opB (op : BinOp) (b : Bool) : Bool := match op with | .eql => b | _ => !b
theorem zE {C : Ctx} {E : Env} {σ : St} {a : Act} {w : World} {o : Oper} {op : BinOp} {tx ty k e : TypeId} {x y : Operand} {p : Option Nat} (ho : o.op = .binOp op tx x y ty) (hop : op = .eql ∨ op = .neq) (hu : C.P.underlying tx = some (.map k e))
  (hx : a.eval x = .map p) (hy : a.eval y = .map none) (h : au C E σ a w) (hd : aV C o) : bs C o (σ.put o.dst (.p (.v (.bool (opB op p.isNone))) true)) a w := by
 have hr := run_eq_map (P := C.P) (w := w) hu p none (.inr rfl)
 rw [Option.isNone_none,Bool.and_true] at hr
 rcases hop with rfl | rfl
 ·exact bn h hd (v := .bool p.isNone) (cF ho (by rw [hx,hy]; simp [eqGuard]) (by rw [hx,hy]; simp [binOp,hr])) (cT true rfl)
 ·exact bn h hd (v := .bool !p.isNone) (cF ho (by rw [hx,hy]; simp [eqGuard]) (by rw [hx,hy]; simp [binOp,hr])) (cT true rfl)
theorem Np {C : Ctx} {E : Env} {σ : St} {a : Act} {w : World} {o : Oper} {x : Operand} {row : List PV} {rows : List (List PV)} {fr : Bool} (ho : o.op = .nilCheck x) (h : au C E σ a w) (hd : aV C o)
  (hx : ev σ x = .p (.ls (row :: rows)) fr) : bs C o (σ.put o.dst (.pd (row ++ [.ls rows]) 0 fr)) a w := by
 have hev := a7 h x
 rw [hx] at hev; simp only [VR] at hev
 generalize hv : a.eval x = v at hev
 cases hev with
 | ls _ _ b off cs t fz f hb hbad hlo hc hr =>
  refine bn h hd (v := .pointer (some ⟨b,off,none⟩)) (by simp [execOp,ho,hv]) ?_
  simp only [VR]
  exact ⟨b,off,rfl,cs,t,fz,f,hb,hbad,hlo,hc,hr⟩
end Go.TL
