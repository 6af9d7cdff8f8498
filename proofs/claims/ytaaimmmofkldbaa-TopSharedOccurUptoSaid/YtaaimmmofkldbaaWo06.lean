/- Code by its shape: what a run does not look at is struck (places in the text, most types, edges where no order is drawn). -/
import Derived.StillTail
import Derived.Calls
import Derived.Test.YtaaimmmofkldbaaWo05
namespace Go.TL.H
open Go

def stTy (o : Oper) : TypeId := match o.op with
  | .call ⟨.builtin _, _, _⟩ => o.type
  | .go _ => o.type
  | .defer _ => o.type
  | _ => 0
def stOp (o : Op) : Op := match o with
  | .call ⟨.value f, args, _⟩ => .call ⟨.value f, args, #[]⟩
  | o => o
def st (k : Bool) (o : Oper) : Oper := ⟨o.dst, stOp o.op, stTy o, "", match k with | true => o.after | false => #[], o.guard⟩
def norm : Code → Code
  | .region _ ops d => .region 0 (ops.toList.map (st d)).toArray d
  | .seq a b => .seq (norm a) (norm b)
  | .cond c a b => .cond c (norm a) (norm b)
  | .block id c => .block id (norm c)
  | .loop c => .loop (norm c)
  | .scope c => .scope (norm c)
  | .skip => .skip
  | .exit id => .exit id
  | .ret => .ret
  | .label l => .label l
  | .goto l => .goto l
  | .refuse w => .refuse w
  | .rangeFunc f p a b => .rangeFunc f p a b

theorem exec_st (k : Bool) (ρ : Operand → Value) (o : Oper) : execOp ρ (st k o) = execOp ρ o := by
  obtain ⟨dst, op, ty, pos, af, g⟩ := o
  cases op
  case call c =>
    obtain ⟨cal, args, ts⟩ := c
    cases cal <;> rfl
  all_goals rfl

theorem upon_st {P : Program} (k : Bool) (o : Oper) (a : Act) (K : Act → World → Prop) (Q : Exit → Act → World → Prop) : (st k o).upon P a K Q = o.upon P a K Q := rfl
theorem wp_st {P : Program} (k : Bool) (o : Oper) (a : Act) (w : World) (K : Act → World → Prop) (Q : Exit → Act → World → Prop) : (st k o).wp P a w K Q = o.wp P a w K Q := by
  unfold Oper.wp; rw [exec_st, upon_st]
theorem asks_st {P : Program} (k : Bool) (o : Oper) (a : Act) (w : World) : (st k o).asks P a w = o.asks P a w := by
  unfold Oper.asks; rw [exec_st]

theorem get_st {k : Bool} {ops : Array Oper} (j : Nat) : ((ops.toList.map (st k)).toArray)[j]? = (ops[j]?).map (st k) := by simp

theorem yielded_st (k : Bool) (ops : Array Oper) (tmps : Array Value) : yielded (ops.toList.map (st k)).toArray tmps = yielded ops tmps := by
  funext j
  unfold yielded
  rw [get_st]
  cases ops[j]? with
  | none => rfl
  | some o => rfl

theorem wanted_st (k : Bool) (o : Oper) (y : Nat → Option Bool) : Region.wanted (st k o) y = Region.wanted o y := rfl

theorem wpList_st {P : Program} {k : Bool} {ops : Array Oper} {Q : Exit → Act → World → Prop} : ∀ (l : List Oper) (a : Act) (w : World),
    wpList P (ops.toList.map (st k)).toArray Q (l.map (st k)) a w → wpList P ops Q l a w
  | [], a, w, h => h
  | o :: l, a, w, h => by
    simp only [List.map_cons, wpList, wanted_st, yielded_st, wp_st, asks_st] at h ⊢
    split
    · rename_i hw
      rw [if_pos hw] at h
      rcases h with h | h
      · exact .inl (Oper.wp_mono (fun a w h => wpList_st l a w h) h)
      · exact .inr h
    · rename_i hw
      rw [if_neg hw] at h
      exact wpList_st l _ _ h

theorem ready_st (ops : Array Oper) (md : Region.Mode) (listed : Array Bool) : Region.ready md (ops.toList.map (st true)).toArray listed = Region.ready md ops listed := by
  unfold Region.ready
  have e : (ops.toList.map (st true)).toArray.size = ops.size := by simp
  rw [e]
  congr 1
  funext i
  rw [get_st]
  cases ops[i]? with
  | none => rfl
  | some o => rfl

theorem wpAny_st {P : Program} {ops : Array Oper} {md : Region.Mode} {Q : Exit → Act → World → Prop} : ∀ (fuel : Nat) (listed : Array Bool) (a : Act) (w : World),
    wpAny P md (ops.toList.map (st true)).toArray Q fuel listed a w → wpAny P md ops Q fuel listed a w
  | 0, listed, a, w, h => by
    unfold wpAny at h ⊢; rw [ready_st] at h; exact h
  | fuel + 1, listed, a, w, h => by
    unfold wpAny at h ⊢
    rw [ready_st] at h
    refine ⟨h.1, fun i hi => ?_⟩
    have := h.2 i hi
    unfold wpOp at this ⊢
    rw [get_st] at this
    cases ho : ops[i]? with
    | none => simp only [ho, Option.map_none] at this ⊢; exact wpAny_st fuel _ _ _ this
    | some o =>
      simp only [ho, Option.map_some, wanted_st, yielded_st, wp_st, asks_st] at this ⊢
      split
      · rename_i hw
        rw [if_pos hw] at this
        rcases this with h | h
        · exact .inl (Oper.wp_mono (fun a w h => wpAny_st fuel _ a w h) h)
        · exact .inr h
      · rename_i hw
        rw [if_neg hw] at this
        exact wpAny_st fuel _ _ _ this

/-- every code of this shape -/
def NW (P : Program) (c' : Code) (Q : Exit → Act → World → Prop) (a : Act) (w : World) : Prop := ∀ c, norm c = c' → c.wp P Q a w

section
variable {P : Program} {Q : Exit → Act → World → Prop} {a : Act} {w : World}

theorem NW.mono {c : Code} {Q' : Exit → Act → World → Prop} (h : NW P c Q a w) (hq : ∀ e a w, Q e a w → Q' e a w) : NW P c Q' a w := fun c0 hc => wp_mono (h c0 hc) hq

theorem nw_skip (h : Q .normal a w) : NW P .skip Q a w := by
  intro c hc; cases c <;> simp only [norm, reduceCtorEq] at hc; exact wp_skip h
theorem nw_ret (h : Q .ret a w) : NW P .ret Q a w := by
  intro c hc; cases c <;> simp only [norm, reduceCtorEq] at hc; exact wp_ret h
theorem nw_exit {id : Nat} (h : Q (.exit id) a w) : NW P (.exit id) Q a w := by
  intro c hc; cases c <;> simp only [norm, reduceCtorEq, Code.exit.injEq] at hc; subst hc; exact wp_exit h

theorem nw_seq {x y : Code} (h : NW P x (fun e a w => match e with | .normal => NW P y Q a w | e => Q e a w) a w) : NW P (.seq x y) Q a w := by
  intro c hc
  cases c <;> simp only [norm, reduceCtorEq, Code.seq.injEq] at hc
  obtain ⟨h1, h2⟩ := hc
  refine wp_seq (wp_mono (h _ h1) ?_)
  intro e a w hq
  cases e <;> first | exact hq | exact hq _ h2

theorem nw_cond {c : Operand} {x y : Code} {t : Bool} (hc : a.eval c = .bool t) (h1 : t = true → NW P x Q a w) (h2 : t = false → NW P y Q a w) : NW P (.cond c x y) Q a w := by
  intro c0 h0
  cases c0 <;> simp only [norm, reduceCtorEq, Code.cond.injEq] at h0
  obtain ⟨rfl, e1, e2⟩ := h0
  exact wp_cond_split hc (fun e => h1 e _ e1) (fun e => h2 e _ e2)

theorem nw_block {id : Nat} {x : Code} (h : NW P x (fun e a w => match e with | .exit id' => (match Nat.beq id' id with | true => Q .normal a w | false => Q (.exit id') a w) | e => Q e a w) a w) : NW P (.block id x) Q a w := by
  intro c hc
  cases c <;> simp only [norm, reduceCtorEq, Code.block.injEq] at hc
  obtain ⟨rfl, h1⟩ := hc
  refine wp_block (wp_mono (h _ h1) ?_)
  intro e a w hq
  cases e with
  | exit id' =>
    simp only [Exit.inBlock]
    simp only at hq
    cases hb : Nat.beq id' _ with
    | true => rw [if_pos (Nat.eq_of_beq_eq_true hb)]; simp only [hb] at hq; exact hq
    | false => rw [if_neg (beq_false hb)]; simp only [hb] at hq; exact hq
  | _ => exact hq

theorem nw_loop {x : Code} (I : Nat → Act → World → Prop) (m : Nat) (h0 : I m a w)
    (h : ∀ m a w, I m a w → NW P x (fun e a' w' => match e with | .normal => ∃ m', m' < m ∧ I m' a' w' | e => Q e a' w') a w) : NW P (.loop x) Q a w := by
  intro c hc
  cases c <;> simp only [norm, reduceCtorEq, Code.loop.injEq] at hc
  rename_i c
  intro b k cs
  have key : ∀ m a w, I m a w → ∃ e a' w', Q e a' w' ∧ Arrives P (lone (b.at a (.code c :: .inLoop c :: k)) cs w) b k cs e a' w' := by
    intro m
    induction m using Nat.strongRecOn with
    | _ m ih =>
      intro a w hI
      obtain ⟨e, a₁, w₁, hq, harr⟩ := h m a w hI _ hc b (.inLoop c :: k) cs
      cases e with
      | normal =>
        obtain ⟨m', hlt, hI'⟩ := hq
        obtain ⟨e₂, a₂, w₂, hq₂, harr₂⟩ := ih m' hlt a₁ w₁ hI'
        exact ⟨e₂, a₂, w₂, hq₂, .of_steps (Steps.trans harr (.one step_inLoop)) harr₂⟩
      | exit id => exact ⟨_, a₁, w₁, hq, .pass (x := .inLoop c) rfl (fun _ _ => .inl (by simp)) harr⟩
      | goto l => exact ⟨_, a₁, w₁, hq, .pass (x := .inLoop c) rfl (fun _ _ => .inl (by simp)) harr⟩
      | ret => exact ⟨_, a₁, w₁, hq, .pass (x := .inLoop c) rfl (fun _ _ => .inl (by simp)) harr⟩
      | panic ch => exact ⟨_, a₁, w₁, hq, .pass (x := .inLoop c) rfl (fun _ _ => .inl (by simp)) harr⟩
      | outgrown => exact ⟨_, a₁, w₁, hq, .pass (x := .inLoop c) rfl (fun _ _ => .inl (by simp)) harr⟩
  obtain ⟨e, a', w', hq, harr⟩ := key m a w h0
  exact ⟨e, a', w', hq, .of_steps (.one step_loop) harr⟩

theorem nw_region {l : List Oper} (h : wpList P l.toArray Q l a w) : NW P (.region 0 l.toArray false) Q a w := by
  intro c hc
  cases c <;> simp only [norm, reduceCtorEq, Code.region.injEq] at hc
  rename_i id ops d
  obtain ⟨_, h1, rfl⟩ := hc
  have h1' : ops.toList.map (st false) = l := by
    have := congrArg Array.toList h1
    simpa using this
  subst h1'
  exact wp_region_list (wpList_st _ _ _ h)

theorem nw_draw' {l : List Oper} (k : Nat) (hk : l.length = k) (hm : P.follows .mixedOrders = true) (h : wpAny P .any l.toArray Q k (Array.replicate k false) a { w with drawn := w.drawn + 1 }) : NW P (.region 0 l.toArray true) Q a w := by
  subst hk
  intro c hc
  cases c <;> simp only [norm, reduceCtorEq, Code.region.injEq] at hc
  rename_i id ops d
  obtain ⟨_, h1, rfl⟩ := hc
  have h1' : ops.toList.map (st true) = l := by
    have := congrArg Array.toList h1
    simpa using this
  subst h1'
  refine wp_region_any hm (wpAny_st _ _ _ _ ?_)
  simpa using h

theorem nw_draw {l : List Oper} (hm : P.follows .mixedOrders = true) (h : wpAny P .any l.toArray Q l.length (Array.replicate l.length false) a { w with drawn := w.drawn + 1 }) : NW P (.region 0 l.toArray true) Q a w := by
  intro c hc
  cases c <;> simp only [norm, reduceCtorEq, Code.region.injEq] at hc
  rename_i id ops d
  obtain ⟨_, h1, rfl⟩ := hc
  have h1' : ops.toList.map (st true) = l := by
    have := congrArg Array.toList h1
    simpa using this
  subst h1'
  refine wp_region_any hm (wpAny_st _ _ _ _ ?_)
  simpa using h

/-- reads first, in whatever order; then a chain -/
theorem nw_tail {l : List Oper} (n : Nat) (hm : P.follows .mixedOrders = true) (hB : Region.lexTailB .any l.toArray n = true)
    (h : wpStill P l.toArray { w with drawn := w.drawn + 1 } (fun a' => wpList P l.toArray Q (l.drop n) a' { w with drawn := w.drawn + 1 }) (l.take n) a) : NW P (.region 0 l.toArray true) Q a w := by
  refine nw_draw hm ?_
  simp only [Region.lexTailB, Bool.and_eq_true, decide_eq_true_eq] at hB
  obtain ⟨⟨⟨⟨hsel, hn⟩, hs⟩, hc⟩, hlex⟩ := hB
  have hn' : n < l.length := by simpa using hn
  have htl : (l.take n).length = n := by simp; omega
  have hdl : (l.drop n).length = l.toArray.size - n := by simp
  have inv0 : HeadInv .any l.toArray n (Array.replicate l.toArray.size false) :=
    ⟨by simp, fun j oj _ hl => (by rw [getD_replicate_false] at hl; cases hl), fun t _ ht => getD_in (by simpa using ht) (getD_replicate_false _ _)⟩
  have H := wpAnyL_lex (md := .any) (g := l.toArray.size - n) hsel hs hc hn (l.take n) 0 _ a (fun j hj => by
    have hj' : j < n := by rw [htl] at hj; exact hj
    simp [hj']) (by simpa using htl) inv0 (by rw [htl]; exact hlex) h
  have := wpAny_of_head (Q' := Q) (g := l.toArray.size - n) (fun listed a' hL => by
    have := wpAny_of_seq (md := .any) (Q' := Q) (l.drop n) n listed a' { w with drawn := w.drawn + 1 } (fun j => by simp [List.getElem?_drop]) (by rw [hdl]; exact hL.1) hL.2
    rwa [hdl] at this) _ _ _ H
  rw [htl, show n + (l.toArray.size - n) = l.toArray.size by omega] at this
  simpa using this

/-- reads alone, in whatever order -/
theorem nw_still {l : List Oper} (hm : P.follows .mixedOrders = true) (hB : Region.lexB .any l.toArray = true)
    (h : wpStill P l.toArray { w with drawn := w.drawn + 1 } (fun a' => Q .normal a' { w with drawn := w.drawn + 1 }) l a) : NW P (.region 0 l.toArray true) Q a w := by
  refine nw_draw hm ?_
  simp only [Region.lexB, Bool.and_eq_true] at hB
  have h2 := wpAnyS_lex (md := .any) (ops := l.toArray) hB.1 l 0 (Array.replicate l.toArray.size false) a (by simp) (by simpa using hB.2) h
  have := wpAny_of_still (Q' := Q) (fun a h => h) _ _ _ h2
  simpa using this
end

/-- what a function is -/
structure Body (P : Program) (f : FuncId) (n : Nat) (res : List ResultVar) (c' : Code) : Prop where
  ok : calleeOk P f = true
  is : ∃ fn c, P.funcs[f]? = some fn ∧ fn.body = some c ∧ norm c = c' ∧ fn.ntmps = n ∧ fn.results.toList = res

/-- what a run hands back -/
def RV (P : Program) (res : List ResultVar) (tmps : Array Value) (w : World) (v : Value) : Prop :=
  ∃ vs, (res.mapM (runRes tmps)).run P w = .ok vs w ∧ v = (match vs with | [x] => x | xs => .tuple xs.toArray)

def fin (P : Program) (res : List ResultVar) (R : Value → World → Prop) : Exit → Act → World → Prop
  | .normal, a, w => a.defers = [] ∧ ∃ v, RV P res a.tmps w v ∧ R v w
  | .ret, a, w => a.defers = [] ∧ ∃ v, RV P res a.tmps w v ∧ R v w
  | _, _, _ => False

def Ret (P : Program) (f : FuncId) (args : List Value) (w : World) (R : Value → World → Prop) : Prop :=
  Calls P f args.toArray w fun e w' => ∃ v, e = .returned v ∧ R v w'

theorem Ret.mono {P : Program} {f : FuncId} {args : List Value} {w : World} {R R' : Value → World → Prop} (h : Ret P f args w R) (hr : ∀ v w', R v w' → R' v w') : Ret P f args w R' :=
  Calls.mono h fun _ _ ⟨v, he, hR⟩ => ⟨v, he, hr _ _ hR⟩

theorem results_of {P : Program} {fn : Func} {tmps : Array Value} {w : World} {v : Value} (h : RV P fn.results.toList tmps w v) : (results fn tmps).run P w = .ok v w := by
  obtain ⟨vs, h1, rfl⟩ := h
  have hres : results fn tmps = (fn.results.mapM (runRes tmps) >>= fun vs => pure (if h : vs.size = 1 then vs[0] else .tuple vs)) := by
    unfold results
    congr 1
  rw [hres, Array.mapM_eq_mapM_toList]
  match vs, h1 with
  | [], h1 => simp [h1]
  | [x], h1 => simp [h1]
  | x :: y :: r, h1 => simp [h1]

theorem ret_of {P : Program} {f : FuncId} {n : Nat} {res : List ResultVar} {c' : Code} {args : List Value} {w : World} {R : Value → World → Prop} (hB : Body P f n res c')
    (h : NW P c' (fin P res R) { tmps := args.toArray ++ Array.replicate (n - args.length) undef, defers := [] } w) : Ret P f args w R := by
  obtain ⟨fn, c, hf, hb, hc, rfl, rfl⟩ := hB.is
  refine calls_of_wp hf hb ?_
  have := h c hc
  refine wp_mono (by simpa using this) ?_
  intro e a w hq
  cases e with
  | normal => obtain ⟨hd, v, hr, hR⟩ := hq; exact ⟨hd, v, results_of hr, v, rfl, hR⟩
  | ret => obtain ⟨hd, v, hr, hR⟩ := hq; exact ⟨hd, v, results_of hr, v, rfl, hR⟩
  | _ => exact hq.elim

end Go.TL.H
/- Rules for walks. -/
namespace Go.TL

/-- the ids of the table that are not on a list -/
def others (LT : List Nat) : Tab → List Nat
  | [] => []
  | (k, _) :: r => match LT.any (Nat.beq k) with | true => others LT r | false => k :: others LT r

def pick {α : Type} (l : List (Nat × α)) : List Nat → List (Nat × α)
  | [] => []
  | k :: ks => match lk l k with | some x => (k, x) :: pick l ks | none => pick l ks

theorem lk_pick {α : Type} (l : List (Nat × α)) : ∀ (ks : List Nat) (t : Nat) (x : α), lk (pick l ks) t = some x → lk l t = some x
  | [], t, x, h => by simp [pick, lk] at h
  | k :: ks, t, x, h => by
    simp only [pick] at h
    cases hk : lk l k with
    | none => simp only [hk] at h; exact lk_pick l ks t x h
    | some y =>
      simp only [hk, lk] at h
      cases hb : Nat.beq k t with
      | true => have := Nat.eq_of_beq_eq_true hb; subst this; simp only [hb, Option.some.injEq] at h; subst h; exact hk
      | false => simp only [hb] at h; exact lk_pick l ks t x h

theorem lk_pick_mem {α : Type} (l : List (Nat × α)) : ∀ (ks : List Nat) (t : Nat), t ∈ ks → lk (pick l ks) t = lk l t
  | [], t, h => by simp at h
  | k :: ks, t, h => by
    simp only [pick]
    by_cases he : k = t
    · subst he
      cases hk : lk l k with
      | none =>
        simp only
        cases hq : lk (pick l ks) k with
        | none => rfl
        | some y => rw [lk_pick l ks k y hq] at hk; cases hk
      | some y => simp [lk, Nat.beq_refl]
    · have ht : t ∈ ks := by rcases List.mem_cons.1 h with rfl | h; exact absurd rfl he; exact h
      cases hk : lk l k with
      | none => exact lk_pick_mem l ks t ht
      | some y => simp only; rw [lk_cons_ne _ _ _ _ (Ne.symm he)]; exact lk_pick_mem l ks t ht

/-- only the slots L and the objects LT are kept -/
def St.keep (L LT : List Nat) (σ : St) : St :=
  let σ1 := σ.kills (others LT σ.tab)
  ⟨pick σ1.slots L, pick σ1.tab LT⟩

theorem kills_tab : ∀ (ks : List Nat) (σ : St) (k : Nat), lk (σ.kills ks).tab k ≠ none → lk σ.tab k ≠ none ∧ k ∉ ks
  | [], _, _, h => ⟨h, by simp⟩
  | j :: ks, σ, k, h => by
    have := kills_tab ks (σ.kill j) k h
    simp only [St.kill, St.fz, lk_fzTab] at this
    by_cases he : k = j
    · subst he; rw [lk_rm_same] at this; simp at this
    · rw [lk_rm_ne _ _ _ he] at this
      exact ⟨by simpa using this.1, by simp [he, this.2]⟩

theorem mem_others (LT : List Nat) : ∀ (T : Tab) (k : Nat), lk T k ≠ none → k ∉ LT → k ∈ others LT T
  | [], k, h, _ => by simp [lk] at h
  | (j, x) :: r, k, h, hn => by
    simp only [others]
    simp only [lk] at h
    cases hb : Nat.beq j k with
    | true =>
      have := Nat.eq_of_beq_eq_true hb; subst this
      have : LT.any (Nat.beq j) = false := by
        cases hq : LT.any (Nat.beq j) with
        | false => rfl
        | true =>
          obtain ⟨y, hy, he⟩ := List.any_eq_true.1 hq
          have := Nat.eq_of_beq_eq_true he; subst this
          exact absurd hy hn
      simp [this]
    | false =>
      simp only [hb] at h
      have := mem_others LT r k h hn
      split <;> simp [this]

theorem keep_holds {C : Ctx} {σ : St} {a : Act} {w : World} (L LT : List Nat) (h : Holds C σ a w) : Holds C (σ.keep L LT) a w := by
  obtain ⟨E, h1⟩ := kills_holds (others LT σ.tab) σ h
  refine ⟨E, h1.size, h1.defers, fun t sv hl => h1.slots t sv (lk_pick _ _ _ _ hl), ⟨fun k ov hl => h1.tab.obj k ov (lk_pick _ _ _ _ hl), ?_, ?_, h1.tab.ext⟩, h1.fr, h1.lo, h1.ids, h1.pres⟩
  · intro k hl
    cases hq : lk (σ.kills (others LT σ.tab)).tab k with
    | none => exact h1.tab.dead k hq
    | some ov =>
      exfalso
      have hm := kills_tab _ _ k (by rw [hq]; simp)
      by_cases hk : k ∈ LT
      · have := lk_pick_mem (σ.kills (others LT σ.tab)).tab LT k hk
        simp only [St.keep] at hl
        rw [this, hq] at hl; cases hl
      · exact hm.2 (mem_others LT _ k hm.1 hk)
  · intro b k ho
    have := h1.tab.own b k ho
    refine ⟨this.1, this.2.1, ?_⟩
    have hm := kills_tab _ _ k this.2.2
    have hk : k ∈ LT := by
      by_cases hk : k ∈ LT
      · exact hk
      · exact absurd (mem_others LT _ k hm.1 hk) hm.2
    simp only [St.keep]
    rw [lk_pick_mem _ LT k hk]; exact this.2.2

theorem imp_keep {P : Program} {n : Nat} {σ σ' : St} (L LT : List Nat) (h : σ.keep L LT = σ') : Imp P n σ σ' := fun _ _ _ _ _ hh => h ▸ keep_holds L LT hh
theorem imp_freeze {P : Program} {n : Nat} {σ σ' : St} (ks : List Nat) (h : σ.freeze ks = some σ') : Imp P n σ σ' := fun _ _ _ _ _ hh => freeze_holds ks σ σ' hh h
theorem Imp.refl {P : Program} {n : Nat} {σ : St} : Imp P n σ σ := fun _ _ _ _ _ h => h
theorem Imp.trans {P : Program} {n : Nat} {σ σ1 σ2 : St} (h : Imp P n σ σ1) (k : Imp P n σ1 σ2) : Imp P n σ σ2 := fun lo w0 E0 a w hh => k lo w0 E0 a w (h lo w0 E0 a w hh)

/-- objects are frozen, then slots and objects kept -/
def St.fk (ks L LT : List Nat) (σ : St) : Option St :=
  match σ.freeze ks with
  | some s => some (s.keep L LT)
  | none => none

theorem imp_fk {P : Program} {n : Nat} {σ σ' : St} (ks L LT : List Nat) (h : σ.fk ks L LT = some σ') : Imp P n σ σ' := by
  unfold St.fk at h
  split at h
  · rename_i s hs
    simp only [Option.some.injEq] at h; subst h
    exact Imp.trans (imp_freeze ks hs) (imp_keep L LT rfl)
  · cases h

def keepR (L LT : List Nat) : Option (St × List Prop) → Option (St × List Prop)
  | some (s, ps) => some (s.keep L LT, ps)
  | none => none

/-- a run of operations, then what is kept -/
theorem aops_runK {P : Program} {n : Nat} {H : Hint} {ops : Array Oper} {Q : Exit → St → Prop} (hds : dstsB n ops.toList = true) (is2 is : List Nat) (σ σ' : St) (ps : List Prop) (L LT : List Nat)
    (hf : keepR L LT (aops P n H ops.toList is σ) = some (σ', ps)) (hp : allP ps) (hn : AOps P n ops is2 σ' Q) : AOps P n ops (is ++ is2) σ Q := by
  unfold keepR at hf
  split at hf
  · rename_i s qs hs
    simp only [Option.some.injEq, Prod.mk.injEq] at hf; obtain ⟨rfl, rfl⟩ := hf
    exact aops_run hds is2 is σ s qs hs hp (hn.imp (imp_keep L LT rfl))
  · cases hf

theorem awp_cond_t {P : Program} {n : Nat} {c : Operand} {x y : Code} {σ : St} {Q : Exit → St → Prop} (hb : boolOp σ c = some true) (h1 : AWP P n x σ Q) : AWP P n (.cond c x y) σ Q :=
  awp_cond true hb (fun _ => h1) (fun h => by cases h)
theorem awp_cond_f {P : Program} {n : Nat} {c : Operand} {x y : Code} {σ : St} {Q : Exit → St → Prop} (hb : boolOp σ c = some false) (h1 : AWP P n y σ Q) : AWP P n (.cond c x y) σ Q :=
  awp_cond false hb (fun h => by cases h) (fun _ => h1)

/-- two ways meet -/
theorem awp_join {P : Program} {n : Nat} {x y : Code} {σ : St} {Q : Exit → St → Prop} {α : Type} (I : α → St) (K : α → Prop)
    (h : AWP P n x σ fun e s => match e with | .normal => ∃ a, K a ∧ Imp P n s (I a) | e => Q e s) (k : ∀ a, K a → AWP P n y (I a) Q) : AWP P n (.seq x y) σ Q := by
  refine awp_seq ?_
  intro lo w0 E0 a w hh
  refine wp_mono (h lo w0 E0 a w hh) ?_
  rintro e a' w' ⟨s, hq, hs⟩
  cases e with
  | normal =>
    obtain ⟨x, hK, himp⟩ := hq
    exact ⟨s, fun lo' w0' E0' a'' w'' h'' => k x hK lo' w0' E0' a'' w'' (himp lo' w0' E0' a'' w'' h''), hs⟩
  | _ => exact ⟨s, hq, hs⟩

theorem hs_nil {T : Tab} : ∀ k ov, lk ([] : Tab) k = some ov → lk T k = some ov := fun _ _ h => by cases h
theorem hs_of {T0 T : Tab} (h : (keys T0).map (lk T) = (keys T0).map (lk T0)) : ∀ k ov, lk T0 k = some ov → lk T k = some ov := by
  intro k ov hk
  have hm : k ∈ keys T0 := (mem_keys T0 k).2 (by rw [hk]; rfl)
  have : ∀ (l : List Nat), l.map (lk T) = l.map (lk T0) → ∀ k ∈ l, lk T k = lk T0 k := by
    intro l
    induction l with
    | nil => intro _ k hk; simp at hk
    | cons x l ih =>
      intro h k hk
      simp only [List.map_cons, List.cons.injEq] at h
      rcases List.mem_cons.1 hk with rfl | hk
      · exact h.1
      · exact ih h.2 k hk
  rw [this _ h k hm]; exact hk

/- words -/
abbrev I (n : Int) : SV := .p (.v (.int .i64 n)) true
abbrev B (b : Bool) : SV := .p (.v (.bool b)) true
abbrev S (s : ByteArray) : SV := .p (.v (.string s)) true
abbrev L (rows : List (List PV)) (fr : Bool) : SV := .p (.sl rows) fr
abbrev Nl : SV := .p (.v (.slice none 0 0)) true
abbrev i (n : Int) : PV := .v (.int .i64 n)
abbrev b (b : Bool) : PV := .v (.bool b)
abbrev s (s : ByteArray) : PV := .v (.string s)

end Go.TL
/- Data that are of a type of the program, cell by cell, of bounded length. -/
namespace Go.TL

/-- the kinds of cells -/
inductive CK where
  | int (k : IntKind)
  | bool
  | str
  | sl (e : TypeId)
  | other
  deriving DecidableEq

def mostLen : Nat := 2097152
def mostStr : Nat := 1073741824

def flat (f : TypeId → List CK) : List Field → List CK
  | [] => []
  | x :: xs => f x.type ++ flat f xs

/-- the cells of a type -/
def cksOf (P : Program) : Nat → TypeId → List CK
  | 0, _ => [.other]
  | n + 1, t => match P.underlying t with
    | some (.int k) => [.int k]
    | some .bool => [.bool]
    | some .string => [.str]
    | some (.slice e) => [.sl e]
    | some (.struct fs) => flat (cksOf P n) fs.toList
    | _ => [.other]

def cks (P : Program) (t : TypeId) : List CK := cksOf P 8 t

inductive WT (P : Program) : CK → PV → Prop
  | int (k : IntKind) (n : Int) (h1 : k.min ≤ n) (h2 : n ≤ k.max) : WT P (.int k) (.v (.int k n))
  | bool (x : Bool) : WT P .bool (.v (.bool x))
  | str (x : ByteArray) (h : x.size ≤ mostStr) : WT P .str (.v (.string x))
  | sl (e : TypeId) (rows : List (List PV)) (h : rows.length ≤ mostLen) (hl : ∀ row ∈ rows, row.length = (cks P e).length)
      (hw : ∀ (row : List PV), row ∈ rows → ∀ (j : Nat) (ck : CK) (x : PV), (cks P e)[j]? = some ck → row[j]? = some x → WT P ck x) : WT P (.sl e) (.sl rows)

/-- cells of these kinds -/
def WTs (P : Program) : List CK → List PV → Prop
  | [], [] => True
  | c :: cs, x :: xs => WT P c x ∧ WTs P cs xs
  | _, _ => False

theorem WTs_iff {P : Program} : ∀ (cs : List CK) (xs : List PV), WTs P cs xs ↔ xs.length = cs.length ∧ ∀ (j : Nat) (ck : CK) (x : PV), cs[j]? = some ck → xs[j]? = some x → WT P ck x
  | [], [] => by simp [WTs]
  | c :: cs, x :: xs => by
    simp only [WTs]
    rw [WTs_iff cs xs]
    constructor
    · rintro ⟨h1, h2, h3⟩
      refine ⟨by simp [h2], ?_⟩
      intro j ck y hc hy
      cases j with
      | zero => simp at hc hy; subst hc; subst hy; exact h1
      | succ j => exact h3 j ck y (by simpa using hc) (by simpa using hy)
    · rintro ⟨h1, h2⟩
      exact ⟨h2 0 c x rfl rfl, by simpa using h1, fun j ck y hc hy => h2 (j + 1) ck y (by simpa using hc) (by simpa using hy)⟩
  | [], _ :: _ => by simp [WTs]
  | _ :: _, [] => by simp [WTs]

/-- a row of type t -/
def Ty (P : Program) (t : TypeId) (row : List PV) : Prop := WTs P (cks P t) row

def AllTy (P : Program) (e : TypeId) (rows : List (List PV)) : Prop := ∀ row ∈ rows, Ty P e row

/-- the elements of a slice of elements of type e -/
def TyRows (P : Program) (e : TypeId) (rows : List (List PV)) : Prop := rows.length ≤ mostLen ∧ AllTy P e rows

theorem WT_sl {P : Program} {e : TypeId} {x : PV} (h : WT P (.sl e) x) : ∃ rows, x = .sl rows ∧ TyRows P e rows := by
  cases h with
  | sl _ rows h hl hw => exact ⟨rows, rfl, h, fun row hr => (WTs_iff _ _).2 ⟨hl row hr, fun j ck x hc hx => hw row hr j ck x hc hx⟩⟩
theorem TyRows.wt {P : Program} {e : TypeId} {rows : List (List PV)} (h : TyRows P e rows) : WT P (.sl e) (.sl rows) :=
  .sl e rows h.1 (fun row hr => ((WTs_iff _ _).1 (h.2 row hr)).1) (fun row hr j ck x hc hx => ((WTs_iff _ _).1 (h.2 row hr)).2 j ck x hc hx)
theorem WT_int {P : Program} {k : IntKind} {x : PV} (h : WT P (.int k) x) : ∃ n, x = .v (.int k n) ∧ k.min ≤ n ∧ n ≤ k.max := by
  cases h with | int _ n h1 h2 => exact ⟨n, rfl, h1, h2⟩
theorem WT_str {P : Program} {x : PV} (h : WT P .str x) : ∃ n, x = .v (.string n) ∧ n.size ≤ mostStr := by
  cases h with | str n h => exact ⟨n, rfl, h⟩
theorem WT_bool {P : Program} {x : PV} (h : WT P .bool x) : ∃ n, x = .v (.bool n) := by
  cases h with | bool n => exact ⟨n, rfl⟩

theorem WTs_cons {P : Program} {c : CK} {cs : List CK} {row : List PV} (h : WTs P (c :: cs) row) : ∃ x xs, row = x :: xs ∧ WT P c x ∧ WTs P cs xs := by
  cases row with
  | nil => simp [WTs] at h
  | cons x xs => exact ⟨x, xs, rfl, h.1, h.2⟩
theorem WTs_nil {P : Program} {row : List PV} (h : WTs P [] row) : row = [] := by
  cases row with
  | nil => rfl
  | cons x xs => simp [WTs] at h

/-- one cell more of a row -/
theorem sh_int {P : Program} {cs : List CK} {row : List PV} (h : WTs P (.int .i64 :: cs) row) : ∃ (n : Int) (xs : List PV), row = i n :: xs ∧ -9223372036854775808 ≤ n ∧ n ≤ 9223372036854775807 ∧ WTs P cs xs := by
  obtain ⟨x, xs, rfl, hx, hxs⟩ := WTs_cons h
  obtain ⟨n, rfl, h1, h2⟩ := WT_int hx
  exact ⟨n, xs, rfl, h1, h2, hxs⟩
theorem sh_str {P : Program} {cs : List CK} {row : List PV} (h : WTs P (.str :: cs) row) : ∃ (n : ByteArray) (xs : List PV), row = s n :: xs ∧ n.size ≤ mostStr ∧ WTs P cs xs := by
  obtain ⟨x, xs, rfl, hx, hxs⟩ := WTs_cons h
  obtain ⟨n, rfl, h1⟩ := WT_str hx
  exact ⟨n, xs, rfl, h1, hxs⟩
theorem sh_bool {P : Program} {cs : List CK} {row : List PV} (h : WTs P (.bool :: cs) row) : ∃ (n : Bool) (xs : List PV), row = b n :: xs ∧ WTs P cs xs := by
  obtain ⟨x, xs, rfl, hx, hxs⟩ := WTs_cons h
  obtain ⟨n, rfl⟩ := WT_bool hx
  exact ⟨n, xs, rfl, hxs⟩
theorem sh_sl {P : Program} {e : TypeId} {cs : List CK} {row : List PV} (h : WTs P (.sl e :: cs) row) : ∃ (n : List (List PV)) (xs : List PV), row = .sl n :: xs ∧ TyRows P e n ∧ WTs P cs xs := by
  obtain ⟨x, xs, rfl, hx, hxs⟩ := WTs_cons h
  obtain ⟨n, rfl, h1⟩ := WT_sl hx
  exact ⟨n, xs, rfl, h1, hxs⟩

/-- and a row built -/
theorem mk_nil {P : Program} : WTs P [] [] := trivial
theorem mk_int {P : Program} {cs : List CK} {n : Int} {xs : List PV} (h : -9223372036854775808 ≤ n ∧ n ≤ 9223372036854775807) (k : WTs P cs xs) : WTs P (.int .i64 :: cs) (i n :: xs) := ⟨.int _ _ h.1 h.2, k⟩
theorem mk_str {P : Program} {cs : List CK} {n : ByteArray} {xs : List PV} (h : n.size ≤ mostStr) (k : WTs P cs xs) : WTs P (.str :: cs) (s n :: xs) := ⟨.str _ h, k⟩
theorem mk_bool {P : Program} {cs : List CK} {n : Bool} {xs : List PV} (k : WTs P cs xs) : WTs P (.bool :: cs) (b n :: xs) := ⟨.bool _, k⟩
theorem mk_sl {P : Program} {e : TypeId} {cs : List CK} {n : List (List PV)} {xs : List PV} (h : TyRows P e n) (k : WTs P cs xs) : WTs P (.sl e :: cs) (.sl n :: xs) := ⟨h.wt, k⟩
theorem Ty.of {P : Program} {t : TypeId} {cs : List CK} {row : List PV} (hc : cks P t = cs) (h : WTs P cs row) : Ty P t row := by unfold Ty; rw [hc]; exact h
theorem Ty.to {P : Program} {t : TypeId} {cs : List CK} {row : List PV} (hc : cks P t = cs) (h : Ty P t row) : WTs P cs row := by unfold Ty at h; rw [hc] at h; exact h

theorem AllTy.nil {P : Program} {e : TypeId} : AllTy P e [] := by intro r h; simp at h
theorem AllTy.one {P : Program} {e : TypeId} {row : List PV} (h : Ty P e row) : AllTy P e [row] := by intro r hr; simp at hr; subst hr; exact h
theorem AllTy.cons {P : Program} {e : TypeId} {row : List PV} {rows : List (List PV)} (h : Ty P e row) (k : AllTy P e rows) : AllTy P e (row :: rows) := by
  intro r hr; rcases List.mem_cons.1 hr with rfl | hr; exact h; exact k r hr
theorem AllTy.append {P : Program} {e : TypeId} {a b : List (List PV)} (h : AllTy P e a) (k : AllTy P e b) : AllTy P e (a ++ b) := by
  intro r hr; rcases List.mem_append.1 hr with hr | hr; exact h r hr; exact k r hr
theorem AllTy.take {P : Program} {e : TypeId} {a : List (List PV)} (h : AllTy P e a) (n : Nat) : AllTy P e (a.take n) := fun r hr => h r (List.mem_of_mem_take hr)
theorem AllTy.drop {P : Program} {e : TypeId} {a : List (List PV)} (h : AllTy P e a) (n : Nat) : AllTy P e (a.drop n) := fun r hr => h r (List.mem_of_mem_drop hr)
theorem TyRows.nil {P : Program} {e : TypeId} : TyRows P e [] := ⟨Nat.zero_le _, .nil⟩
theorem AllTy.len {P : Program} {e : TypeId} {rows : List (List PV)} {n : Nat} (h : AllTy P e rows) (hn : (cks P e).length = n) : ∀ row ∈ rows, row.length = n := fun row hr => by rw [← hn]; exact ((WTs_iff _ _).1 (h row hr)).1

theorem TyRows.of {P : Program} {e : TypeId} {rows : List (List PV)} (h : rows.length ≤ 2097152) (k : AllTy P e rows) : TyRows P e rows := ⟨h, k⟩
theorem TyRows.len {P : Program} {e : TypeId} {rows : List (List PV)} (h : TyRows P e rows) : rows.length ≤ 2097152 := h.1

/-- a row at an index -/
theorem row_at {rows : List (List PV)} {n : Int} (h0 : 0 ≤ n) (h1 : n < (rows.length : Int)) : ∃ row, rows[n.toNat]? = some row ∧ row ∈ rows := by
  have : n.toNat < rows.length := by omega
  exact ⟨rows[n.toNat], by simp [this], List.getElem_mem this⟩

mutual
/-- how great a cell, a row, a list of rows is: places, and letters -/
def pz : PV → Nat
  | .v (.string x) => 1 + x.size
  | .v _ => 1
  | .sl rows => 1 + rsz rows
  | .rm _ rows => 1 + rsz rows
def rz : List PV → Nat
  | [] => 0
  | x :: xs => pz x + rz xs
def rsz : List (List PV) → Nat
  | [] => 0
  | r :: rs => 1 + rz r + rsz rs
end

theorem pz_i (n : Int) : pz (i n) = 1 := by simp [pz]
theorem pz_b (x : Bool) : pz (b x) = 1 := by simp [pz]
theorem pz_s (x : ByteArray) : pz (s x) = 1 + x.size := by simp [pz]
theorem pz_sl (rows : List (List PV)) : pz (.sl rows) = 1 + rsz rows := by simp [pz]
theorem rz_nil : rz [] = 0 := by simp [rz]
theorem rz_cons (x : PV) (xs : List PV) : rz (x :: xs) = pz x + rz xs := by simp [rz]
theorem rsz_nil : rsz [] = 0 := by simp [rsz]
theorem rsz_cons (r : List PV) (rs : List (List PV)) : rsz (r :: rs) = 1 + rz r + rsz rs := by simp [rsz]
theorem rsz_append (a c : List (List PV)) : rsz (a ++ c) = rsz a + rsz c := by
  induction a with
  | nil => simp [rsz_nil]
  | cons x a ih => simp only [List.cons_append, rsz_cons, ih]; omega
theorem size_mem {rows : List (List PV)} {row : List PV} (h : row ∈ rows) : rz row < rsz rows := by
  induction rows with
  | nil => simp at h
  | cons x xs ih =>
    rw [rsz_cons]
    rcases List.mem_cons.1 h with rfl | h
    · omega
    · have := ih h; omega
theorem length_le_rsz (rows : List (List PV)) : rows.length ≤ rsz rows := by
  induction rows with
  | nil => simp
  | cons x xs ih => rw [rsz_cons, List.length_cons]; omega
theorem rsz_drop_le (rows : List (List PV)) (n : Nat) : rsz (rows.drop n) ≤ rsz rows := by
  induction rows generalizing n with
  | nil => simp
  | cons x xs ih =>
    cases n with
    | zero => simp
    | succ n => simp only [List.drop_succ_cons, rsz_cons]; have := ih n; omega
theorem rsz_drop_get : ∀ {rows : List (List PV)} {n : Nat} {row : List PV}, rows[n]? = some row → rsz (rows.drop n) = 1 + rz row + rsz (rows.drop (n + 1))
  | [], n, row, h => by simp at h
  | x :: xs, 0, row, h => by simp at h; subst h; simp [rsz_cons]
  | x :: xs, n + 1, row, h => by
    simp only [List.drop_succ_cons]
    exact rsz_drop_get (by simpa using h)
theorem drop_at {rows : List (List PV)} {n : Int} {row : List PV} (h0 : 0 ≤ n) (h : rows[n.toNat]? = some row) : rsz (rows.drop (n + 1).toNat) + 1 + rz row = rsz (rows.drop n.toNat) := by
  have := rsz_drop_get h
  have e : (n + 1).toNat = n.toNat + 1 := by omega
  rw [e]; omega
theorem drop_len (rows : List (List PV)) (n : Nat) : rows.length ≤ rsz (rows.drop n) + n := by
  have := length_le_rsz (rows.drop n)
  rw [List.length_drop] at this; omega
theorem drop0 (rows : List (List PV)) : rsz (rows.drop (Int.toNat 0)) = rsz rows := by simp

theorem wrap_ok {n : Int} (h1 : -9223372036854775808 ≤ n) (h2 : n ≤ 9223372036854775807) : IntKind.wrap .i64 n = n := by
  unfold IntKind.wrap; simp [IntKind.bits, IntKind.signed]; omega

theorem room_ok {a b n c : Nat} (h : a + b ≤ c) (hc : c * n ≤ 140737488355328) : (a + b) * n ≤ 140737488355328 := Nat.le_trans (Nat.mul_le_mul_right _ h) hc

theorem TyRows.sub {P : Program} {e : TypeId} {rows : List (List PV)} (h : TyRows P e rows) (m k : Nat) : TyRows P e ((rows.take m).drop k) :=
  ⟨Nat.le_trans (by simp; omega) h.1, (h.2.take m).drop k⟩
theorem extract_le (x : ByteArray) (a c : Nat) : (x.extract a c).size ≤ x.size := by
  simp [ByteArray.size_extract]; omega
theorem wrap_range (n : Int) : -9223372036854775808 ≤ IntKind.wrap .i64 n ∧ IntKind.wrap .i64 n ≤ 9223372036854775807 := by
  unfold IntKind.wrap; simp [IntKind.bits, IntKind.signed]; omega
/-- a byte of a string -/
def byteAt (x : ByteArray) (n : Int) : Int := (((x.data.toList.getD n.toNat 0).toNat : Nat) : Int)
theorem byteAt_range (x : ByteArray) (n : Int) : 0 ≤ byteAt x n ∧ byteAt x n ≤ 255 := by
  unfold byteAt
  have := UInt8.toNat_lt (x.data.toList.getD n.toNat 0)
  omega
theorem str0 : (⟨#[]⟩ : ByteArray).size ≤ mostStr := by decide

end Go.TL
/- Objects under other names. -/
namespace Go.TL

def sw (a b k : Nat) : Nat :=
  match Nat.beq k a with
  | true => b
  | false => match Nat.beq k b with
    | true => a
    | false => k

theorem sw_eq (a b k : Nat) : sw a b k = if k = a then b else if k = b then a else k := by
  unfold sw
  cases h : Nat.beq k a with
  | true => simp [Nat.eq_of_beq_eq_true h]
  | false =>
    have h1 := beq_false h
    cases h2 : Nat.beq k b with
    | true => have := Nat.eq_of_beq_eq_true h2; simp [h1, this]; intro e; exact absurd (this.trans e) h1
    | false => have h3 := beq_false h2; simp [h1, h3]

theorem sw_sw (a b k : Nat) : sw a b (sw a b k) = k := by
  simp only [sw_eq]; split <;> (try split) <;> (try split) <;> simp_all

mutual
def SV.rn (π : Nat → Nat) : SV → SV
  | .vec j => .vec (π j)
  | .ptr j off => .ptr (π j) off
  | .vptr j sz i off => .vptr (π j) sz i off
  | .ref j => .ref (π j)
  | .agg xs => .agg (rns π xs)
  | .tup xs => .tup (rns π xs)
  | .fn f first caps => .fn f (rns π first) (rns π caps)
  | .ifc t x => .ifc t (SV.rn π x)
  | .u => .u
  | .p x fr => .p x fr
  | .pd row off fr => .pd row off fr
  | .pc rows fr => .pc rows fr
def rns (π : Nat → Nat) : List SV → List SV
  | [] => []
  | x :: xs => SV.rn π x :: rns π xs
end

def OV.rn (π : Nat → Nat) : OV → OV
  | .box t cells => .box t (rns π cells)
  | o => o

def rnTab (π : Nat → Nat) : Tab → Tab
  | [] => []
  | (k, x) :: r => (π k, OV.rn π x) :: rnTab π r

def rnSlots (π : Nat → Nat) : List (Nat × SV) → List (Nat × SV)
  | [] => []
  | (t, x) :: r => (t, SV.rn π x) :: rnSlots π r

theorem lk_rnSlots (π : Nat → Nat) (l : List (Nat × SV)) (t : Nat) : lk (rnSlots π l) t = (lk l t).map (SV.rn π) := by
  induction l with
  | nil => rfl
  | cons h r ih => obtain ⟨j, x⟩ := h; simp only [rnSlots, lk]; cases Nat.beq j t <;> simp [ih]

theorem lk_rnTab (a b : Nat) (l : Tab) (k : Nat) : lk (rnTab (sw a b) l) k = (lk l (sw a b k)).map (OV.rn (sw a b)) := by
  induction l with
  | nil => rfl
  | cons h r ih =>
    obtain ⟨j, x⟩ := h
    simp only [rnTab, lk]
    have : Nat.beq (sw a b j) k = Nat.beq j (sw a b k) := by
      cases h1 : Nat.beq (sw a b j) k with
      | true => have := Nat.eq_of_beq_eq_true h1; rw [← this, sw_sw]; exact (Nat.beq_refl j).symm
      | false =>
        cases h2 : Nat.beq j (sw a b k) with
        | false => rfl
        | true => have := Nat.eq_of_beq_eq_true h2; subst this; rw [sw_sw, Nat.beq_refl] at h1; cases h1
    rw [this]
    cases Nat.beq j (sw a b k) <;> simp [ih]

/-- the memory under the names that are swapped -/
def Env.sw (E : Env) (a b : Nat) : Env := ⟨fun k => E.val (Go.TL.sw a b k), fun c => (E.own c).map (Go.TL.sw a b), E.ext⟩

theorem Env.sw_bad (E : Env) (a b : Nat) : (E.sw a b).bad = E.bad := by
  funext c; apply propext; simp [Env.bad, Env.sw]

theorem Env.sw_own (E : Env) (a b c k : Nat) : (E.sw a b).own c = some k ↔ E.own c = some (Go.TL.sw a b k) := by
  simp only [Env.sw]
  cases hc : E.own c with
  | none => simp
  | some j =>
    simp only [Option.map_some, Option.some.injEq]
    constructor
    · intro e; rw [← e, sw_sw]
    · intro e; rw [e, sw_sw]

theorem Env.sw_sw (E : Env) (a b : Nat) : (E.sw a b).sw a b = E := by
  cases E with
  | mk v o x =>
    simp only [Env.sw, Go.TL.sw_sw, Option.map_map]
    congr 1
    funext c
    cases o c with
    | none => rfl
    | some j => simp [Go.TL.sw_sw]

mutual
theorem VR.sw {w : World} {E : Env} {lo a b : Nat} : ∀ (sv : SV) (v : Value), VR w E lo sv v → VR w (E.sw a b) lo (SV.rn (Go.TL.sw a b) sv) v
  | .u, _, _ => by simp [SV.rn, VR]
  | .p x fr, v, h => by simp only [SV.rn, VR] at h ⊢; rw [Env.sw_bad]; exact h
  | .ptr k off, v, h => by simp only [SV.rn, VR] at h ⊢; obtain ⟨c, h1, h2⟩ := h; exact ⟨c, by simp [Env.sw, Go.TL.sw_sw, h1], h2⟩
  | .vec k, v, h => by simp only [SV.rn, VR] at h ⊢; exact ⟨by simp [Env.sw, Go.TL.sw_sw, h.1], h.2⟩
  | .vptr k sz i off, v, h => by simp only [SV.rn, VR] at h ⊢; obtain ⟨c, n, m, h1, h2⟩ := h; exact ⟨c, n, m, by simp [Env.sw, Go.TL.sw_sw, h1], h2⟩
  | .pd row off fr, v, h => by simp only [SV.rn, VR] at h ⊢; rw [Env.sw_bad]; exact h
  | .pc rows fr, v, h => by simp only [SV.rn, VR] at h ⊢; rw [Env.sw_bad]; exact h
  | .agg xs, v, h => by simp only [SV.rn, VR] at h ⊢; obtain ⟨vs, h1, h2⟩ := h; exact ⟨vs, h1, VRs.sw xs vs h2⟩
  | .tup xs, v, h => by simp only [SV.rn, VR] at h ⊢; obtain ⟨vs, h1, h2⟩ := h; exact ⟨vs, h1, VRs.sw xs vs h2⟩
  | .ref k, v, h => by simp only [SV.rn, VR] at h ⊢; exact ⟨by simp [Env.sw, Go.TL.sw_sw, h.1], h.2⟩
  | .fn f first caps, v, h => by simp only [SV.rn, VR] at h ⊢; obtain ⟨vs, ws, h1, h2, h3⟩ := h; exact ⟨vs, ws, h1, VRs.sw first vs h2, VRs.sw caps ws h3⟩
  | .ifc t x, v, h => by simp only [SV.rn, VR] at h ⊢; obtain ⟨y, h1, h2⟩ := h; exact ⟨y, h1, VR.sw x y h2⟩
theorem VRs.sw {w : World} {E : Env} {lo a b : Nat} : ∀ (xs : List SV) (vs : List Value), VRs w E lo xs vs → VRs w (E.sw a b) lo (rns (Go.TL.sw a b) xs) vs
  | [], [], _ => by simp [rns, VRs]
  | x :: xs, v :: vs, h => by simp only [rns]; exact VRs_cons (VR.sw x v (VRs_cons_iff.1 h).1) (VRs.sw xs vs (VRs_cons_iff.1 h).2)
  | [], _ :: _, h => by simp [VRs] at h
  | _ :: _, [], h => by simp [VRs] at h
end

theorem OR.sw {w : World} {E : Env} {lo a b k : Nat} {ov : OV} (h : OR w E lo k ov) : OR w (E.sw a b) lo (Go.TL.sw a b k) (OV.rn (Go.TL.sw a b) ov) := by
  have hv : (E.sw a b).val (Go.TL.sw a b k) = E.val k := by simp [Env.sw, Go.TL.sw_sw]
  have ho : ∀ c, (E.sw a b).own c = some (Go.TL.sw a b k) ↔ E.own c = some k := fun c => by rw [Env.sw_own, Go.TL.sw_sw]
  cases ov with
  | box t cells => obtain ⟨c, vs, h1, h2, h3, h4⟩ := h; exact ⟨c, vs, hv.trans h1, (ho c).2 h2, h3, VRs.sw cells vs h4⟩
  | vec t sz rows fr => obtain ⟨v, xs, h1, h2, h3, h4, h5⟩ := h; exact ⟨v, xs, hv.trans h1, h2, h3, fun g hg => (ho g).2 (h4 g hg), by rw [Env.sw_bad]; exact h5⟩
  | ext φ =>
    obtain ⟨x, h1, h2, h3, h4⟩ := h
    have e : (fun c => (E.sw a b).own c = some (Go.TL.sw a b k)) = (fun c => E.own c = some k) := funext fun c => propext (ho c)
    exact ⟨x, hv.trans h1, h2, by rw [e]; exact h3, by rw [e]; intro w' hw; exact h4 w' fun c hc => hw c ((ho c).2 hc)⟩
  | arr t sz rows len m => obtain ⟨c, cs, h1, h2, h3, h4, h5, h6, h7⟩ := h; exact ⟨c, cs, hv.trans h1, (ho c).2 h2, h3, h4, h5, h6, by rw [Env.sw_bad]; exact h7⟩

theorem TabOK.sw {w : World} {E : Env} {lo a b : Nat} {T : Tab} (h : TabOK w E lo T) : TabOK w (E.sw a b) lo (rnTab (Go.TL.sw a b) T) := by
  refine ⟨?_, ?_, ?_, ?_⟩
  · intro k ov hl
    rw [lk_rnTab] at hl
    cases hq : lk T (Go.TL.sw a b k) with
    | none => simp [hq] at hl
    | some o =>
      simp [hq] at hl; subst hl
      have := OR.sw (a := a) (b := b) (h.obj _ _ hq)
      rwa [Go.TL.sw_sw] at this
  · intro k hl
    rw [lk_rnTab] at hl
    exact h.dead _ (by simpa using hl)
  · intro c k ho
    have := h.own c _ ((Env.sw_own E a b c k).1 ho)
    refine ⟨this.1, this.2.1, ?_⟩
    rw [lk_rnTab]; simpa using this.2.2
  · intro c hx
    have := h.ext c hx
    exact ⟨this.1, by simp [Env.sw, this.2]⟩

theorem Fr.sw {w w' : World} {E E' : Env} {a b : Nat} (h : Fr w E w' E') : Fr w (E.sw a b) w' (E'.sw a b) :=
  ⟨h.os, h.tape, h.output, h.size, fun c hc hn => by
    have hn' : E.own c = none := by simpa [Env.sw] using hn
    have := h.keep c hc hn'
    exact ⟨this.1, by simp [Env.sw, this.2]⟩, h.ext⟩

theorem rns_rns (a b : Nat) : ∀ xs : List SV, rns (sw a b) (rns (sw a b) xs) = xs := by
  have key : ∀ n, ∀ x : SV, SizeOf.sizeOf x < n → SV.rn (sw a b) (SV.rn (sw a b) x) = x := by
    intro n
    induction n with
    | zero => intro x h; omega
    | succ n ih =>
      have ihs : ∀ xs : List SV, SizeOf.sizeOf xs ≤ n → rns (sw a b) (rns (sw a b) xs) = xs := by
        intro xs
        induction xs with
        | nil => intro _; rfl
        | cons x xs ihx =>
          intro h
          simp at h
          simp only [rns]
          rw [ih x (by omega), ihx (by omega)]
      intro x h
      cases x <;> simp only [SV.rn, sw_sw] <;> simp at h
      · rw [ihs _ (by omega)]
      · rw [ihs _ (by omega)]
      · rw [ihs _ (by omega), ihs _ (by omega)]
      · rw [ih _ (by omega)]
  intro xs
  induction xs with
  | nil => rfl
  | cons x xs ih => simp only [rns]; rw [key _ x (Nat.lt_succ_self _), ih]

theorem FnS.sw {P : Program} {f : FuncId} {args : List SV} {T : Tab} {R : SV → Tab → Prop} (a b : Nat) (h : FnS P f args T R) :
    FnS P f (rns (Go.TL.sw a b) args) (rnTab (Go.TL.sw a b) T) fun r T' => ∃ r0 T0, R r0 T0 ∧ r = SV.rn (Go.TL.sw a b) r0 ∧ T' = rnTab (Go.TL.sw a b) T0 := by
  intro lo w E vals hlo ht hv
  have ht' := TabOK.sw (a := a) (b := b) ht
  have hv' := VRs.sw (a := a) (b := b) _ _ hv
  rw [rns_rns] at hv'
  have hT : rnTab (Go.TL.sw a b) (rnTab (Go.TL.sw a b) T) = T := by
    clear ht ht' h
    induction T with
    | nil => rfl
    | cons x T ih =>
      obtain ⟨k, ov⟩ := x
      simp only [rnTab, sw_sw, ih]
      congr 1
      congr 1
      cases ov <;> simp [OV.rn, rns_rns]
  rw [hT] at ht'
  refine (h lo w (E.sw a b) vals hlo ht' hv').mono ?_
  rintro e w' ⟨r, v, T', E', rfl, hR, hfr, htt, hr, hp⟩
  refine ⟨_, v, _, E'.sw a b, rfl, ⟨r, T', hR, rfl, rfl⟩, ?_, TabOK.sw htt, VR.sw r v hr, ?_⟩
  · have := Fr.sw (a := a) (b := b) hfr
    rwa [Env.sw_sw] at this
  · intro k x hk
    have := hp (Go.TL.sw a b k) x (by simpa [Env.sw, Go.TL.sw_sw] using hk)
    simpa [Env.sw] using this

/-- a state under another name of an object -/
def St.rn (σ : St) (k k' : Nat) : St := ⟨rnSlots (sw k k') σ.slots, rnTab (sw k k') σ.tab⟩

def freeId (n k : Nat) : Bool := Nat.ble (k + 1) n || Nat.ble 5000 k

theorem rn_holds {P : Program} {n lo : Nat} {w0 : World} {E0 : Env} {σ : St} {a : Act} {w : World} {k k' : Nat} (h : Holds (mkC P n lo w0 E0) σ a w) (hf : lk σ.tab k' = none) (hi : Nat.ble (k' + 1) n = true) : Holds (mkC P n lo w0 E0) (σ.rn k k') a w := by
  obtain ⟨E, h⟩ := h
  have hk' : k' < n := Nat.le_of_ble_eq_true hi
  refine ⟨E.sw k k', h.size, h.defers, ?_, TabOK.sw h.tab, ?_, h.lo, h.ids, ?_⟩
  · intro t s hl
    simp only [St.rn, lk_rnSlots] at hl
    cases hq : lk σ.slots t with
    | none => simp [hq] at hl
    | some s0 => simp [hq] at hl; subst hl; exact VR.sw s0 _ (h.slots t s0 hq)
  · exact ⟨h.fr.os, h.fr.tape, h.fr.output, h.fr.size, fun c hc hn => by
      have := h.fr.keep c hc hn
      exact ⟨this.1, by simp [Env.sw, this.2]⟩, h.fr.ext⟩
  · intro j x hj
    have hid : n ≤ j := h.ids j (by rw [hj]; simp)
    simp only [Env.sw]
    rw [sw_eq]
    by_cases h1 : j = k
    · rw [if_pos h1]; exact .inr (h.tab.dead k' hf)
    · rw [if_neg h1, if_neg (by omega)]; exact h.pres j x hj

theorem imp_rn {P : Program} {n : Nat} {σ σ' : St} (k k' : Nat) (hf : (lk σ.tab k').isSome = false) (hi : Nat.ble (k' + 1) n = true) (h : σ.rn k k' = σ') : Imp P n σ σ' :=
  fun _ _ _ _ _ hh => h ▸ rn_holds hh (by simpa using hf) hi

/-- a nil slice in slot t is a growable list of one's own that has no block yet -/
def St.nilVec (t K : Nat) (e : TypeId) (sz : Nat) (σ : St) : St := ⟨(t, .vec K) :: rm σ.slots t, (K, .vec e sz [] true) :: σ.tab⟩

def isNl (σ : St) (t : Nat) : Bool :=
  match lk σ.slots t with
  | some (.p (.v (.slice none 0 0)) _) => true
  | _ => false

theorem imp_nilvec {P : Program} {n : Nat} {σ σ' : St} (t K : Nat) (e : TypeId) (sz : Nat) (ht : isNl σ t = true) (hf : (lk σ.tab K).isSome = false) (hi : Nat.ble (K + 1) n = true) (hz : Nat.ble 1 sz = true) (h : σ.nilVec t K e sz = σ') : Imp P n σ σ' := by
  subst h
  rintro lo w0 E0 a w ⟨E, h⟩
  have hK : K < n := Nat.le_of_ble_eq_true hi
  have hf' : lk σ.tab K = none := by simpa using hf
  have hval : a.tmps.getD t undef = .slice none 0 0 := by
    unfold isNl at ht
    split at ht
    · rename_i hl; exact VR_v_eq (h.slots t _ hl)
    · cases ht
  let E' : Env := ⟨fun k => if k = K then some (.slice none 0 0) else E.val k, E.own, E.ext⟩
  have hk : Keeps w E w E' := ⟨fun _ _ h => ⟨rfl, h⟩, rfl⟩
  have hv : ∀ k x, E.val k = some x → E'.val k = some x := by
    intro k x hx
    have : k ≠ K := fun e => by subst e; rw [h.tab.dead k hf'] at hx; cases hx
    simp [E', this, hx]
  refine ⟨E', h.size, h.defers, ?_, ⟨?_, ?_, ?_, ?_⟩, ⟨h.fr.os, h.fr.tape, h.fr.output, h.fr.size, h.fr.keep, h.fr.ext⟩, h.lo, h.ids, ?_⟩
  · intro t' s hl
    simp only [St.nilVec] at hl
    by_cases he : t' = t
    · subst he
      rw [lk_cons_same] at hl; cases hl
      simp only [VR]
      exact ⟨by simp [E', hval], _, _, _, hval⟩
    · rw [lk_cons_ne _ _ _ _ he, lk_rm_ne _ _ _ he] at hl
      exact VR.mono hk hv s _ (h.slots t' s hl)
  · intro k ov hl
    simp only [St.nilVec] at hl
    by_cases he : k = K
    · subst he
      rw [lk_cons_same] at hl; cases hl
      exact ⟨.slice none 0 0, [], by simp [E'], Nat.le_of_ble_eq_true hz, World.ownsRow_nil w 0 e sz, by simp [Value.ownBlock], fun _ _ => undef, by simp, by simp, by simp⟩
    · rw [lk_cons_ne _ _ _ _ he] at hl
      exact OR.mono hk hv (fun _ => Iff.rfl) (fun _ _ => rfl) (h.tab.obj k ov hl)
  · intro k hl
    have he : k ≠ K := fun e => by subst e; simp only [St.nilVec] at hl; rw [lk_cons_same] at hl; cases hl
    simp only [St.nilVec] at hl
    rw [lk_cons_ne _ _ _ _ he] at hl
    simp [E', he, h.tab.dead k hl]
  · intro c k ho
    have := h.tab.own c k ho
    refine ⟨this.1, this.2.1, ?_⟩
    simp only [St.nilVec]
    by_cases he : k = K
    · subst he; rw [lk_cons_same]; simp
    · rw [lk_cons_ne _ _ _ _ he]; exact this.2.2
  · exact h.tab.ext
  · intro j x hj
    have hid : n ≤ j := h.ids j (by rw [hj]; simp)
    have : j ≠ K := by omega
    simpa [E', this] using h.pres j x hj

/-- a nil slice that is handed over as a growable list -/
def nilAt (K : Nat) : List SV → List SV
  | [] => []
  | x :: xs => (match x with | .vec j => (match Nat.beq j K with | true => .p (.v (.slice none 0 0)) true | false => .vec j) | x => x) :: nilAt K xs

theorem VRs_nilAt {w : World} {E E' : Env} {lo K : Nat} (hk : Keeps w E w E') (hv : ∀ k x, E.val k = some x → E'.val k = some x) (hK : E'.val K = some (.slice none 0 0)) :
    ∀ (xs : List SV) (vs : List Value), VRs w E lo (nilAt K xs) vs → VRs w E' lo xs vs
  | [], [], _ => by simp [VRs]
  | x :: xs, v :: vs, h => by
    simp only [nilAt] at h
    have h2 := VRs_nilAt hk hv hK xs vs (VRs_cons_iff.1 h).2
    refine VRs_cons ?_ h2
    have h1 := (VRs_cons_iff.1 h).1
    cases x with
    | vec j =>
      simp only at h1
      cases hj : Nat.beq j K with
      | true =>
        have := Nat.eq_of_beq_eq_true hj; subst this
        simp only [hj] at h1
        have := VR_v_eq h1; subst this
        simp only [VR]
        exact ⟨hK, _, _, _, rfl⟩
      | false => simp only [hj] at h1; exact VR.mono hk hv _ _ h1
    | _ => exact VR.mono hk hv _ _ h1
  | [], _ :: _, h => by simp [nilAt, VRs] at h
  | _ :: _, [], h => by simp [nilAt, VRs] at h

theorem FnS.nilArg {P : Program} {g : FuncId} {T : Tab} {R : SV → Tab → Prop} (K : Nat) (e : TypeId) (sz : Nat) (svs : List SV) {svs' : List SV} (hsv : nilAt K svs = svs') (hf : (lk T K).isSome = false) (hz : Nat.ble 1 sz = true)
    (h : FnS P g svs ((K, .vec e sz [] true) :: T) R) : FnS P g svs' T R := by
  subst hsv
  intro lo w E vals hlo ht hv
  have hf' : lk T K = none := by simpa using hf
  let E' : Env := ⟨fun k => if k = K then some (.slice none 0 0) else E.val k, E.own, E.ext⟩
  have hk : Keeps w E w E' := ⟨fun _ _ h => ⟨rfl, h⟩, rfl⟩
  have hvE : ∀ k x, E.val k = some x → E'.val k = some x := by
    intro k x hx
    have : k ≠ K := fun e => by subst e; rw [ht.dead k hf'] at hx; cases hx
    simp [E', this, hx]
  have ht' : TabOK w E' lo ((K, .vec e sz [] true) :: T) := by
    refine ⟨?_, ?_, ?_, ht.ext⟩
    · intro k ov hl
      by_cases he : k = K
      · subst he
        rw [lk_cons_same] at hl; cases hl
        exact ⟨.slice none 0 0, [], by simp [E'], Nat.le_of_ble_eq_true hz, World.ownsRow_nil w 0 e sz, by simp [Value.ownBlock], fun _ _ => undef, by simp, by simp, by simp⟩
      · rw [lk_cons_ne _ _ _ _ he] at hl
        exact OR.mono hk hvE (fun _ => Iff.rfl) (fun _ _ => rfl) (ht.obj k ov hl)
    · intro k hl
      have he : k ≠ K := fun e => by subst e; rw [lk_cons_same] at hl; cases hl
      rw [lk_cons_ne _ _ _ _ he] at hl
      simp [E', he, ht.dead k hl]
    · intro c k ho
      have := ht.own c k ho
      refine ⟨this.1, this.2.1, ?_⟩
      by_cases he : k = K
      · subst he; rw [lk_cons_same]; simp
      · rw [lk_cons_ne _ _ _ _ he]; exact this.2.2
  refine (h lo w E' vals hlo ht' (VRs_nilAt hk hvE (by simp [E']) svs vals hv)).mono ?_
  rintro e' w' ⟨r, v, T', E'', rfl, hR, hfr, hto, hr, hp⟩
  refine ⟨r, v, T', E'', rfl, hR, ⟨hfr.os, hfr.tape, hfr.output, hfr.size, hfr.keep, hfr.ext⟩, hto, hr, ?_⟩
  intro k x hx
  exact hp k x (hvE k x hx)

end Go.TL
/- What is fresh may be handed on as what is not. -/
namespace Go.TL

mutual
def SV.dull : SV → SV
  | .p (.sl rows) _ => .p (.sl rows) false
  | .p (.rm len rows) _ => .p (.rm len rows) false
  | .pd row off _ => .pd row off false
  | .pc rows _ => .pc rows false
  | .agg xs => .agg (dulls xs)
  | .tup xs => .tup (dulls xs)
  | .p (.v x) fr => match isNilSl x with
    | true => .p (.sl []) false
    | false => .p (.v x) fr
  | .u => .u
  | .ptr k off => .ptr k off
  | .vec k => .vec k
  | .vptr k sz i off => .vptr k sz i off
  | .ref k => .ref k
  | .fn f first caps => .fn f first caps
  | .ifc t x => .ifc t (SV.dull x)
def dulls : List SV → List SV
  | [] => []
  | x :: xs => SV.dull x :: dulls xs
end

theorem Rep.weak {w : World} {bad : Nat → Prop} {lo : Nat} {x : PV} {v : Value} (h : Rep w bad lo x v) : Rep w bad 0 x v := h.mono (Nat.zero_le _) fun _ _ h k => ⟨h, k⟩

mutual
theorem VR.dull {w : World} {E : Env} {lo : Nat} : ∀ (sv : SV) (v : Value), VR w E lo sv v → VR w E lo sv.dull v
  | .p (.sl rows) fr, v, h => by simp only [SV.dull, VR, flo] at h ⊢; exact h.weak
  | .p (.rm len rows) fr, v, h => by simp only [SV.dull, VR, flo] at h ⊢; exact h.weak
  | .pd row off fr, v, h => by
    simp only [SV.dull, VR, flo] at h ⊢
    obtain ⟨b, o, h1, h2⟩ := h
    exact ⟨b, o, h1, h2.mono (Nat.zero_le _) fun _ _ h k => ⟨h, k⟩⟩
  | .pc rows fr, v, h => by
    simp only [SV.dull, VR, flo] at h ⊢
    obtain ⟨a, h1, h2⟩ := h
    exact ⟨a, h1, h2.weak⟩
  | .agg xs, v, h => by simp only [SV.dull, VR] at h ⊢; obtain ⟨vs, h1, h2⟩ := h; exact ⟨vs, h1, VRs.dull xs vs h2⟩
  | .tup xs, v, h => by simp only [SV.dull, VR] at h ⊢; obtain ⟨vs, h1, h2⟩ := h; exact ⟨vs, h1, VRs.dull xs vs h2⟩
  | .p (.v x) fr, v, h => by
    simp only [SV.dull]
    cases hx : isNilSl x with
    | true =>
      have := isNilSl_eq hx; subst this
      rw [VR_v_eq h]
      simp only [VR]
      exact .nil none 0
    | false => exact h
  | .u, _, h => by simpa only [SV.dull] using h
  | .ptr k off, _, h => by simpa only [SV.dull] using h
  | .vec k, _, h => by simpa only [SV.dull] using h
  | .vptr k sz i off, _, h => by simpa only [SV.dull] using h
  | .ref k, _, h => by simpa only [SV.dull] using h
  | .fn f first caps, _, h => by simpa only [SV.dull] using h
  | .ifc t x, v, h => by simp only [SV.dull, VR] at h ⊢; obtain ⟨y, h1, h2⟩ := h; exact ⟨y, h1, VR.dull x y h2⟩
theorem VRs.dull {w : World} {E : Env} {lo : Nat} : ∀ (xs : List SV) (vs : List Value), VRs w E lo xs vs → VRs w E lo (dulls xs) vs
  | [], [], _ => by simp [dulls, VRs]
  | x :: xs, v :: vs, h => by simp only [dulls]; exact VRs_cons (VR.dull x v (VRs_cons_iff.1 h).1) (VRs.dull xs vs (VRs_cons_iff.1 h).2)
  | [], _ :: _, h => by simp [VRs] at h
  | _ :: _, [], h => by simp [VRs] at h
end

/-- the arguments at the places of the mask are handed on as not fresh -/
def dullM : List Bool → List SV → List SV
  | true :: m, x :: xs => x.dull :: dullM m xs
  | false :: m, x :: xs => x :: dullM m xs
  | _, xs => xs

theorem VRs.dullM {w : World} {E : Env} {lo : Nat} : ∀ (m : List Bool) (xs : List SV) (vs : List Value), VRs w E lo xs vs → VRs w E lo (Go.TL.dullM m xs) vs
  | [], xs, vs, h => by simpa only [Go.TL.dullM] using h
  | b :: m, [], vs, h => by cases b <;> simpa only [Go.TL.dullM] using h
  | true :: m, x :: xs, v :: vs, h => by simp only [Go.TL.dullM]; exact VRs_cons (VR.dull x v (VRs_cons_iff.1 h).1) (VRs.dullM m xs vs (VRs_cons_iff.1 h).2)
  | false :: m, x :: xs, v :: vs, h => by simp only [Go.TL.dullM]; exact VRs_cons (VRs_cons_iff.1 h).1 (VRs.dullM m xs vs (VRs_cons_iff.1 h).2)
  | true :: m, x :: xs, [], h => by simp [VRs] at h
  | false :: m, x :: xs, [], h => by simp [VRs] at h

theorem FnS.dull {P : Program} {g : FuncId} {T : Tab} {R : SV → Tab → Prop} (m : List Bool) (svs : List SV) {svs' : List SV} (e : dullM m svs = svs') (h : FnS P g svs' T R) : FnS P g svs T R := by
  subst e
  intro lo w E vals hlo ht hv
  exact h lo w E vals hlo ht (VRs.dullM m svs vals hv)

def St.nl (t : Nat) (fr : Bool) (σ : St) : St := ⟨(t, .p (.sl []) fr) :: rm σ.slots t, σ.tab⟩

theorem imp_nl {P : Program} {n : Nat} {σ σ' : St} (t : Nat) (fr : Bool) (ht : isNl σ t = true) (h : σ.nl t fr = σ') : Imp P n σ σ' := by
  subst h
  rintro lo w0 E0 a w ⟨E, h⟩
  have hval : a.tmps.getD t undef = .slice none 0 0 := by
    unfold isNl at ht
    split at ht
    · rename_i hl; exact VR_v_eq (h.slots t _ hl)
    · cases ht
  refine ⟨E, h.size, h.defers, ?_, h.tab, h.fr, h.lo, h.ids, h.pres⟩
  intro t' s hl
  simp only [St.nl] at hl
  by_cases he : t' = t
  · subst he
    rw [lk_cons_same] at hl; cases hl
    simp only [VR]
    rw [hval]
    exact .nil none 0
  · rw [lk_cons_ne _ _ _ _ he, lk_rm_ne _ _ _ he] at hl
    exact h.slots t' s hl

mutual
/-- nil slices as empty lists -/
def SV.nlf : SV → SV
  | .p (.v x) fr => match isNilSl x with
    | true => .p (.sl []) true
    | false => .p (.v x) fr
  | .agg xs => .agg (nlfs xs)
  | .tup xs => .tup (nlfs xs)
  | .p (.sl rows) fr => .p (.sl rows) fr
  | .p (.rm len rows) fr => .p (.rm len rows) fr
  | .pd row off fr => .pd row off fr
  | .pc rows fr => .pc rows fr
  | .u => .u
  | .ptr k off => .ptr k off
  | .vec k => .vec k
  | .vptr k sz i off => .vptr k sz i off
  | .ref k => .ref k
  | .fn f first caps => .fn f first caps
  | .ifc t x => .ifc t x
def nlfs : List SV → List SV
  | [] => []
  | x :: xs => SV.nlf x :: nlfs xs
end

mutual
theorem VR.nlf {w : World} {E : Env} {lo : Nat} : ∀ (sv : SV) (v : Value), VR w E lo sv v → VR w E lo sv.nlf v
  | .p (.v x) fr, v, h => by
    simp only [SV.nlf]
    cases hx : isNilSl x with
    | true =>
      have := isNilSl_eq hx; subst this
      rw [VR_v_eq h]
      simp only [VR]
      exact .nil none 0
    | false => exact h
  | .agg xs, v, h => by simp only [SV.nlf, VR] at h ⊢; obtain ⟨vs, h1, h2⟩ := h; exact ⟨vs, h1, VRs.nlf xs vs h2⟩
  | .tup xs, v, h => by simp only [SV.nlf, VR] at h ⊢; obtain ⟨vs, h1, h2⟩ := h; exact ⟨vs, h1, VRs.nlf xs vs h2⟩
  | .p (.sl rows) fr, v, h => by simpa only [SV.nlf] using h
  | .p (.rm len rows) fr, v, h => by simpa only [SV.nlf] using h
  | .pd row off fr, v, h => by simpa only [SV.nlf] using h
  | .pc rows fr, v, h => by simpa only [SV.nlf] using h
  | .u, _, h => by simpa only [SV.nlf] using h
  | .ptr k off, _, h => by simpa only [SV.nlf] using h
  | .vec k, _, h => by simpa only [SV.nlf] using h
  | .vptr k sz i off, _, h => by simpa only [SV.nlf] using h
  | .ref k, _, h => by simpa only [SV.nlf] using h
  | .fn f first caps, _, h => by simpa only [SV.nlf] using h
  | .ifc t x, v, h => by simpa only [SV.nlf] using h
theorem VRs.nlf {w : World} {E : Env} {lo : Nat} : ∀ (xs : List SV) (vs : List Value), VRs w E lo xs vs → VRs w E lo (nlfs xs) vs
  | [], [], _ => by simp [nlfs, VRs]
  | x :: xs, v :: vs, h => by simp only [nlfs]; exact VRs_cons (VR.nlf x v (VRs_cons_iff.1 h).1) (VRs.nlf xs vs (VRs_cons_iff.1 h).2)
  | [], _ :: _, h => by simp [VRs] at h
  | _ :: _, [], h => by simp [VRs] at h
end

def nlfM : List Bool → List SV → List SV
  | true :: m, x :: xs => x.nlf :: nlfM m xs
  | false :: m, x :: xs => x :: nlfM m xs
  | _, xs => xs

theorem VRs.nlfM {w : World} {E : Env} {lo : Nat} : ∀ (m : List Bool) (xs : List SV) (vs : List Value), VRs w E lo xs vs → VRs w E lo (Go.TL.nlfM m xs) vs
  | [], xs, vs, h => by simpa only [Go.TL.nlfM] using h
  | b :: m, [], vs, h => by cases b <;> simpa only [Go.TL.nlfM] using h
  | true :: m, x :: xs, v :: vs, h => by simp only [Go.TL.nlfM]; exact VRs_cons (VR.nlf x v (VRs_cons_iff.1 h).1) (VRs.nlfM m xs vs (VRs_cons_iff.1 h).2)
  | false :: m, x :: xs, v :: vs, h => by simp only [Go.TL.nlfM]; exact VRs_cons (VRs_cons_iff.1 h).1 (VRs.nlfM m xs vs (VRs_cons_iff.1 h).2)
  | true :: m, x :: xs, [], h => by simp [VRs] at h
  | false :: m, x :: xs, [], h => by simp [VRs] at h

theorem FnS.nlf {P : Program} {g : FuncId} {T : Tab} {R : SV → Tab → Prop} (m : List Bool) (svs : List SV) {svs' : List SV} (e : nlfM m svs = svs') (h : FnS P g svs' T R) : FnS P g svs T R := by
  subst e
  intro lo w E vals hlo ht hv
  exact h lo w E vals hlo ht (VRs.nlfM m svs vals hv)

/-- all that is known, seen otherwise -/
def mapSlots (f : SV → SV) : List (Nat × SV) → List (Nat × SV)
  | [] => []
  | (t, x) :: r => (t, f x) :: mapSlots f r
def mapL (f : SV → SV) : List SV → List SV
  | [] => []
  | x :: r => f x :: mapL f r
def mapTab (f : SV → SV) : Tab → Tab
  | [] => []
  | (k, .box t cells) :: r => (k, .box t (mapL f cells)) :: mapTab f r
  | (k, o) :: r => (k, o) :: mapTab f r
def St.mapS (f : SV → SV) (σ : St) : St := ⟨mapSlots f σ.slots, mapTab f σ.tab⟩

theorem lk_mapSlots (f : SV → SV) (l : List (Nat × SV)) (t : Nat) : lk (mapSlots f l) t = (lk l t).map f := by
  induction l with
  | nil => rfl
  | cons h r ih => obtain ⟨j, x⟩ := h; simp only [mapSlots, lk]; cases Nat.beq j t <;> simp [ih]

def OV.mapO (f : SV → SV) : OV → OV
  | .box t cells => .box t (mapL f cells)
  | o => o

theorem lk_mapTab (f : SV → SV) (l : Tab) (t : Nat) : lk (mapTab f l) t = (lk l t).map (OV.mapO f) := by
  induction l with
  | nil => rfl
  | cons h r ih =>
    obtain ⟨j, x⟩ := h
    cases x <;> simp only [mapTab, lk] <;> cases Nat.beq j t <;> simp [ih, OV.mapO]

theorem VRs_mapL {w : World} {E : Env} {lo : Nat} {f : SV → SV} (hf : ∀ sv v, VR w E lo sv v → VR w E lo (f sv) v) : ∀ (xs : List SV) (vs : List Value), VRs w E lo xs vs → VRs w E lo (mapL f xs) vs
  | [], [], _ => by simp [mapL, VRs]
  | x :: xs, v :: vs, h => by simp only [mapL]; exact VRs_cons (hf x v (VRs_cons_iff.1 h).1) (VRs_mapL hf xs vs (VRs_cons_iff.1 h).2)
  | [], _ :: _, h => by simp [VRs] at h
  | _ :: _, [], h => by simp [VRs] at h

theorem imp_map {P : Program} {n : Nat} {σ σ' : St} (f : SV → SV) (hf : ∀ w E lo sv v, VR w E lo sv v → VR w E lo (f sv) v) (h : σ.mapS f = σ') : Imp P n σ σ' := by
  subst h
  rintro lo w0 E0 a w ⟨E, h⟩
  refine ⟨E, h.size, h.defers, ?_, ⟨?_, ?_, ?_, h.tab.ext⟩, h.fr, h.lo, h.ids, h.pres⟩
  · intro t s hl
    simp only [St.mapS, lk_mapSlots] at hl
    cases hq : lk σ.slots t with
    | none => simp [hq] at hl
    | some y => simp [hq] at hl; subst hl; exact hf _ _ _ _ _ (h.slots t y hq)
  · intro k ov hl
    simp only [St.mapS, lk_mapTab] at hl
    cases hq : lk σ.tab k with
    | none => simp [hq] at hl
    | some y =>
      simp [hq] at hl; subst hl
      have := h.tab.obj k y hq
      cases y with
      | box t cells =>
        obtain ⟨b, vs, h1, h2, h3, h4⟩ := this
        exact ⟨b, vs, h1, h2, h3, VRs_mapL (fun sv v => hf _ _ _ sv v) cells vs h4⟩
      | vec => exact this
      | ext => exact this
      | arr => exact this
  · intro k hl
    simp only [St.mapS, lk_mapTab] at hl
    exact h.tab.dead k (by cases hq : lk σ.tab k with | none => rfl | some y => simp [hq] at hl)
  · intro b k ho
    have := h.tab.own b k ho
    refine ⟨this.1, this.2.1, ?_⟩
    simp only [St.mapS, lk_mapTab]
    intro e
    exact this.2.2 (by cases hq : lk σ.tab k with | none => rfl | some y => simp [hq] at e)

theorem imp_nlf {P : Program} {n : Nat} {σ σ' : St} (h : σ.mapS SV.nlf = σ') : Imp P n σ σ' := imp_map SV.nlf (fun _ _ _ sv v h => VR.nlf sv v h) h
theorem imp_dull {P : Program} {n : Nat} {σ σ' : St} (h : σ.mapS SV.dull = σ') : Imp P n σ σ' := imp_map SV.dull (fun _ _ _ sv v h => VR.dull sv v h) h

end Go.TL
