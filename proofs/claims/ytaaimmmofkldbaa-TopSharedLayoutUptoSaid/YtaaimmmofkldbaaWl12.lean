/- The functions that copy values: structs; all of them, by a table. -/
import Derived.Test.YtaaimmmofkldbaaWl11
namespace Go.TL.H
open Go
structure OPart where
  i : Nat
  off : Nat
  n : Nat
  T : TypeId
  ag : Bool
  g : FuncId
def osReg (T : TypeId) (k : Nat) (p : OPart) : Code :=
  rg [p1 k (.fieldAddr T (t 1) p.i), p1 (k + 1) (.load p.T (t k)), p1 (k + 2) (.call ⟨.value (.func p.g), #[t (k + 1)], #[]⟩), p1 (k + 3) (.fieldAddr T (t 1) p.i), p0 (.store p.T (t (k + 3)) (t (k + 2)))]
def osC (T : TypeId) (k : Nat) : List OPart → Code
  | [] => .seq (rg [p1 k (.load T (t 1)), p0 (.store T (t 2) (t k))]) .ret
  | p :: l => .seq (osReg T k p) (osC T (k + 4) l)
def ownStC (T : TypeId) (ps : List OPart) : Code := .seq (rg [p1 1 (.box T (t 0)), p1 2 (.alloc T)]) (osC T 3 ps)
theorem x_allocz {P : Program} {o : Oper} {a : Act} {w : World} {T : TypeId} {sz : Nat} {zs : List Value} (ho : o.op = .alloc T) (hE : El P T sz zs) : (execOp a.eval o).run P w = .ok (.value (Ptr w.heap.size 0)) (w.alloc (.cells zs.toArray T)) := by
  obtain ⟨i, z, hi, hs, hz, hzc, _⟩ := hE.is
  simp [execOp, ho, Instr.alloc, zeroValue, typeInfo, hi, hz, newVar, newRow, hzc]
theorem rz_split (row : List PV) (k : Nat) : rz row = rz (row.take k) + rz (row.drop k) := by
  induction row generalizing k with
  | nil => simp [rz_nil]
  | cons x xs ih =>
    cases k with
    | zero => simp [rz_nil]
    | succ k => simp only [List.take_succ_cons, List.drop_succ_cons, rz_cons]; have := ih k; omega
theorem rz_sub (row : List PV) (off n : Nat) : rz ((row.drop off).take n) ≤ rz row := by
  have h1 := rz_split row off
  have h2 := rz_split (row.drop off) n
  omega
structure OInv (P : Program) (w w1 : World) (T : TypeId) (row : List PV) (zs : List Value) (rowc : List PV) (cur : List Value) (S : Nat → Prop) (bnd : Nat) : Prop where
  ch : Ch (fun _ => False) w w1
  b1 : w1.heap[w.heap.size]? = some (.cells cur.toArray T (0, 0))
  b2 : w1.heap[w.heap.size + 1]? = some (.cells zs.toArray T (0, 0))
  len : cur.length = row.length
  lenc : rowc.length = row.length
  at' : ∀ (j : Nat) (x : PV), rowc[j]? = some x → ∃ u, cur[j]? = some u ∧ ((S j ∧ Rep w1 NB (w.heap.size + 2) x u ∧ (∀ ck, (cks P T)[j]? = some ck → WR P ck x) ∧ row[j]? = some x.er) ∨ (¬ S j ∧ row[j]? = some x ∧ Rep w NB 0 x u))
  bnd : ∀ j, S j → j < bnd
theorem runRes_cell {P : Program} {T : TypeId} {n : Nat} {tmps : Array Value} {w : World} {b : Nat} {cs : List Value} {bt : TypeId} {fz : Nat × Nat} {x : Nat} (hT : Tp P T true n) (hx : tmps.getD x undef = Ptr b 0) (hl : cs.length = n) (hb : w.heap[b]? = some (.cells cs.toArray bt fz)) :
    (runRes tmps (.cell x T)).run P w = .ok (.agg cs.toArray) w := by
  obtain ⟨i, hi, ha, hs⟩ := hT.is
  have hr' := run_loadAt (P := P) (w := w) (b := b) (o := 0) (vs := cs) ha hi (fun j u hj => by rw [cell_at hb]; simpa using hj) (by omega) (fun h => by cases h)
  simp only [runRes, Sem.run_bind, hx, asAddr, Sem.run_pure, Result.andThen_ok]
  simpa [Instr.loadAt, Instr.sureAddr] using hr'
section
variable {P : Program} {O : FuncId → TypeId → Bool → Prop} {w : World} {T : TypeId} {row : List PV} {vs zs : List Value} {N sz n : Nat}
def OPartsOk (P : Program) (T : TypeId) : Nat → List OPart → Prop
  | _, [] => True
  | bnd, p :: l => bnd ≤ p.off ∧ p.off + p.n ≤ (cks P T).length ∧ (∃ sz, fieldOff P T p.i = some (p.off, sz)) ∧ Tp P p.T p.ag p.n ∧ (cks P p.T).length = p.n ∧ (∀ j, j < p.n → (cks P T)[p.off + j]? = (cks P p.T)[j]?) ∧ OPartsOk P T (p.off + p.n) l
theorem osC_ok (hE : El P T sz zs) (hTp : Tp P T true sz) (hsz : (cks P T).length = sz) (hty : Ty P T row) (hN : rz row ≤ N) :
    ∀ (l : List OPart) (k bnd : Nat) (rowc : List PV) (cur : List Value) (S : Nat → Prop) (a : Act) (w1 : World) (sl : Slots), OPartsOk P T bnd l → (∀ p ∈ l, calleeOk P p.g = true ∧ OwnC P p.g p.T p.ag N) → OInv P w w1 T row zs rowc cur S bnd → SL n sl a →
      lk sl 1 = some (Ptr w.heap.size 0) → lk sl 2 = some (Ptr (w.heap.size + 1) 0) → 3 ≤ k → k + 4 * l.length + 1 ≤ n → (∀ (j : Nat) (e : TypeId), (cks P T)[j]? = some (.sl e) → S j ∨ ∃ p ∈ l, p.off ≤ j ∧ j < p.off + p.n) →
      NW P (osC T k l) (fin P [.cell 2 T] fun v' w' => Ch (fun _ => False) w w' ∧ ∃ row' vs', v' = pk true vs' ∧ Cw w' w.heap.size row' vs' ∧ TyR P T row' ∧ erRow row' = row) a w1
  | [], k, bnd, rowc, cur, S, a, w1, sl, _, _, hI, hs, h1, h2, hk, hkn, hcov => by
    have hd : dok n (some k) = true := Nat.ble_eq_true_of_le (by simp at hkn; omega)
    have htl := ((WTs_iff _ _).1 hty).1
    have hcl : cur.length = sz := by rw [hI.len, htl, hsz]
    refine nw_seq (nw_region ?_)
    refine L hs rfl hd (x_ldp (ag := true) cur hs rfl h1 hTp hcl hI.b1 (fun j u hj => by simpa using hj)) fun a hs => ?_
    have hones : ∀ u ∈ cur, u.oneCell' = true := by
      intro u hu
      obtain ⟨j, hj, rfl⟩ := List.mem_iff_getElem.1 hu
      have hjc : j < rowc.length := by rw [hI.lenc, ← hI.len]; exact hj
      obtain ⟨u', e1, e2⟩ := hI.at' j rowc[j] (by simp)
      simp [hj] at e1
      rw [e1]
      rcases e2 with ⟨_, h, _⟩ | ⟨_, _, h⟩
      · exact h.one
      · exact h.one
    have hzl : zs.length = sz := hE.len
    refine Ls hs rfl rfl (x_stp (ag := true) cur hs rfl (by simp only [ev, putl]; rw [lk_cons_ne _ _ _ _ (by omega)]; exact h2) (lk_cons_same _ _ _) hTp hcl hones hI.b2 (by simp [hzl])) fun hs => ?_
    have hfull : (spl zs.toArray.toList 0 cur).toArray = cur.toArray := by simp [spl, hzl, hcl]
    rw [hfull]
    have hch := Ch.setRow w1 (w.heap.size + 1) cur.toArray
    have hb2 := setRow_heap w1 (w.heap.size + 1) _ cur.toArray _ _ hI.b2
    have hx2 : a.tmps.getD 2 undef = Ptr (w.heap.size + 1) 0 := hs.slots 2 _ (by simp only [putl]; rw [lk_cons_ne _ _ _ _ (by omega)]; exact h2)
    refine Le (nw_ret ⟨hs.defers, _, ⟨[.agg cur.toArray], by simp [runRes_cell hTp hx2 hcl hb2], rfl⟩, hI.ch.trans' hch fun b hb h => by omega, rowc, cur, rfl, ⟨by rw [hI.len, hI.lenc], fun j x hj => ?_⟩, ?_, ?_⟩)
    · obtain ⟨u, e1, e2⟩ := hI.at' j x hj
      refine ⟨u, e1, ?_⟩
      rcases e2 with ⟨_, h, _⟩ | ⟨hn, hr, h⟩
      · exact Rep.down (Rep.ch h hch fun b hb h => by omega) (by omega)
      · have hjl : j < (cks P T).length := by rw [← htl]; exact (List.getElem?_eq_some_iff.1 hr).1
        have hck : (cks P T)[j]? = some (cks P T)[j] := by simp [hjl]
        have hw := ((WTs_iff _ _).1 hty).2 j _ x hck hr
        generalize (cks P T)[j] = ck at hck hw
        cases hw with
        | int k m _ _ => have := rep_v h; subst this; exact .v _ rfl
        | bool y => have := rep_v h; subst this; exact .v _ rfl
        | str y _ => have := rep_v h; subst this; exact .v _ rfl
        | sl e rows _ _ _ =>
          rcases hcov j e hck with h' | ⟨p, hp, _⟩
          · exact absurd h' hn
          · simp at hp
    · unfold TyR
      rw [WRs_iff]
      refine ⟨by rw [hI.lenc, htl], fun j ck x hck hx => ?_⟩
      obtain ⟨u, e1, e2⟩ := hI.at' j x hx
      rcases e2 with ⟨_, _, h, _⟩ | ⟨hn, hr, h⟩
      · exact h ck hck
      · have hw := ((WTs_iff _ _).1 hty).2 j _ x hck hr
        cases hw with
        | int k m q1 q2 => exact .int k m q1 q2
        | bool y => exact .bool y
        | str y q => exact .str y q
        | sl e rows _ _ _ =>
          rcases hcov j e hck with h' | ⟨p, hp, _⟩
          · exact absurd h' hn
          · simp at hp
    · apply List.ext_getElem?
      intro j
      rw [erRow_get]
      cases hj : rowc[j]? with
      | none =>
        have : row.length ≤ j := by rw [← hI.lenc]; exact List.getElem?_eq_none_iff.1 hj
        rw [List.getElem?_eq_none this]; rfl
      | some x =>
        obtain ⟨u, e1, e2⟩ := hI.at' j x hj
        rcases e2 with ⟨_, _, _, h⟩ | ⟨hn, hr, h⟩
        · rw [h]; rfl
        · rw [hr]
          have hjl : j < (cks P T).length := by rw [← htl]; exact (List.getElem?_eq_some_iff.1 hr).1
          have hck : (cks P T)[j]? = some (cks P T)[j] := by simp [hjl]
          have hw := ((WTs_iff _ _).1 hty).2 j _ x hck hr
          generalize (cks P T)[j] = ck at hck hw
          cases hw with
          | int k m _ _ => rfl
          | bool y => rfl
          | str y _ => rfl
          | sl e rows _ _ _ =>
            rcases hcov j e hck with h' | ⟨p, hp, _⟩
            · exact absurd h' hn
            · simp at hp
  | p :: l, k, bnd, rowc, cur, S, a, w1, sl, hP, hO, hI, hs, h1, h2, hk, hkn, hcov => by
    obtain ⟨q1, q2, ⟨fsz, q3⟩, q4, q5, q6, q7⟩ := hP
    obtain ⟨hok, hC⟩ := hO p (by simp)
    simp only [List.length_cons] at hkn
    have hd : ∀ j, j < 4 → dok n (some (k + j)) = true := fun j hj => Nat.ble_eq_true_of_le (by omega)
    have htl := ((WTs_iff _ _).1 hty).1
    have hrl : p.off + p.n ≤ rowc.length := by rw [hI.lenc, htl]; exact q2
    have hcl : p.off + p.n ≤ cur.length := by rw [hI.len, htl]; exact q2
    have hsub : ∀ (j : Nat) (x : PV), ((rowc.drop p.off).take p.n)[j]? = some x → j < p.n ∧ row[p.off + j]? = some x ∧ ∃ u, cur[p.off + j]? = some u ∧ Rep w NB 0 x u := by
      intro j x hj
      rw [List.getElem?_take] at hj
      split at hj
      · rename_i hjn
        rw [List.getElem?_drop] at hj
        obtain ⟨u, e1, e2⟩ := hI.at' _ x hj
        rcases e2 with ⟨hS, _⟩ | ⟨_, hr, h⟩
        · have := hI.bnd _ hS; omega
        · exact ⟨hjn, hr, u, e1, h⟩
      · cases hj
    have hcw : Cw w1 0 ((rowc.drop p.off).take p.n) ((cur.drop p.off).take p.n) := by
      refine ⟨by simp; omega, fun j x hj => ?_⟩
      obtain ⟨hjn, _, u, e1, e2⟩ := hsub j x hj
      exact ⟨u, by rw [List.getElem?_take, if_pos hjn, List.getElem?_drop]; exact e1, Rep.ch e2 hI.ch fun _ _ h => h⟩
    have hrow : (rowc.drop p.off).take p.n = (row.drop p.off).take p.n := by
      apply List.ext_getElem?
      intro j
      rw [List.getElem?_take, List.getElem?_take]
      split
      · rename_i hjn
        rw [List.getElem?_drop, List.getElem?_drop]
        have hx : rowc[p.off + j]? = some (rowc[p.off + j]'(by omega)) := by simp
        have := hsub j _ (by rw [List.getElem?_take, if_pos hjn, List.getElem?_drop]; exact hx)
        rw [hx, this.2.1]
      · rfl
    have hpty : Ty P p.T ((rowc.drop p.off).take p.n) := by
      unfold Ty
      rw [WTs_iff]
      refine ⟨by rw [q5]; simp; omega, fun j ck x hck hx => ?_⟩
      obtain ⟨hjn, hr, _⟩ := hsub j x hx
      exact ((WTs_iff _ _).1 hty).2 (p.off + j) ck x (by rw [q6 j hjn]; exact hck) hr
    have hprz : rz ((rowc.drop p.off).take p.n) ≤ N := by rw [hrow]; exact Nat.le_trans (rz_sub _ _ _) hN
    refine nw_seq (nw_region ?_)
    refine L hs rfl (hd 0 (by omega)) (x_fa hs rfl h1 q3) fun a hs => ?_
    rw [Nat.zero_add] at hs
    refine L hs rfl (hd 1 (by omega)) (x_ldp ((cur.drop p.off).take p.n) hs rfl (lk_cons_same _ _ _) q4 (by simp; omega) hI.b1 (fun j u hj => by
      rw [List.getElem?_take] at hj
      split at hj
      · rw [List.getElem?_drop] at hj; simpa using hj
      · cases hj)) fun a hs => ?_
    refine Lc hs rfl (hd 2 (by omega)) rfl rfl (vs := [pk p.ag ((cur.drop p.off).take p.n)]) (by simp only [evs, ev, putl, Array.toList]; rw [lk_cons_same]) hok (hC w1 _ _ hcw hpty hprz) fun v2 w2 a hR hs => ?_
    obtain ⟨hch2, row2, vs2, rfl, hcw2, hty2, her2⟩ := hR
    have hl2r : row2.length = p.n := by
      unfold TyR at hty2
      rw [WRs_iff] at hty2
      rw [hty2.1, q5]
    have hl2 : vs2.length = p.n := by rw [hcw2.len, hl2r]
    refine L hs rfl (hd 3 (by omega)) (x_fa (x := t 1) (b := w.heap.size) (o' := 0) hs rfl (by simp only [ev, putl]; rw [lk_cons_ne _ _ _ _ (by omega), lk_cons_ne _ _ _ _ (by omega), lk_cons_ne _ _ _ _ (by omega)]; exact h1) q3) fun a hs => ?_
    rw [Nat.zero_add] at hs
    have hb1 := hch2.at hI.b1 fun h => h
    have hfit : p.off + vs2.length ≤ cur.length := by omega
    refine Ls hs rfl rfl (x_stp vs2 hs rfl (lk_cons_same _ _ _) (by simp only [ev, putl]; rw [lk_cons_ne _ _ _ _ (by omega), lk_cons_same]) q4 hl2 hcw2.one hb1 (by simp; omega)) fun hs => ?_
    have hget := spl_get cur p.off vs2 hfit
    have hgetr := spl_get rowc p.off row2 (by omega)
    have hch3 := Ch.setRow w2 w.heap.size (spl cur.toArray.toList p.off vs2).toArray
    have hlt1 := heap_lt hI.b1
    have hlt2 := heap_lt hI.b2
    have hI' : OInv P w (w2.setRow w.heap.size (spl cur.toArray.toList p.off vs2).toArray) T row zs (spl rowc p.off row2) (spl cur p.off vs2) (fun j => S j ∨ (p.off ≤ j ∧ j < p.off + p.n)) (p.off + p.n) := by
      refine ⟨(hI.ch.trans hch2).trans' hch3 fun b hb h => by omega, setRow_heap _ _ _ _ _ _ hb1, ?_, by rw [spl_length _ _ _ hfit]; exact hI.len, by rw [spl_length _ _ _ (by omega)]; exact hI.lenc, ?_, ?_⟩
      · rw [setRow_other _ _ _ _ (by omega)]; exact hch2.at hI.b2 fun h => h
      · intro j x hj
        rw [hgetr] at hj
        rw [hget]
        split at hj
        · rename_i hr
          rw [if_pos (by omega)]
          obtain ⟨u, e1, e2⟩ := hcw2.rep _ x hj
          refine ⟨u, e1, .inl ⟨.inr (by omega), Rep.ch (Rep.down e2 (by omega)) hch3 fun b hb h => by omega, fun ck hck => ?_, ?_⟩⟩
          · unfold TyR at hty2
            rw [WRs_iff] at hty2
            have := q6 (j - p.off) (by omega)
            rw [show p.off + (j - p.off) = j by omega] at this
            exact hty2.2 (j - p.off) ck x (by rw [← this]; exact hck) hj
          · have he : (erRow row2)[j - p.off]? = some x.er := by rw [erRow_get, hj]; rfl
            rw [her2, hrow, List.getElem?_take, if_pos (by omega), List.getElem?_drop, show p.off + (j - p.off) = j by omega] at he
            exact he
        · rename_i hr
          rw [if_neg (by omega)]
          obtain ⟨u, e1, e2⟩ := hI.at' j x hj
          refine ⟨u, e1, ?_⟩
          rcases e2 with ⟨hS, h, h3, h4⟩ | ⟨hn, hr', h⟩
          · exact .inl ⟨.inl hS, Rep.ch (Rep.ch h hch2 fun _ _ h => h) hch3 fun b hb h => by omega, h3, h4⟩
          · exact .inr ⟨by rintro (h | h); exact hn h; omega, hr', h⟩
      · rintro j (h | h)
        · have := hI.bnd j h; omega
        · exact h.2
    refine Le (osC_ok hE hTp hsz hty hN l (k + 4) _ _ _ _ a _ _ q7 (fun p' hp' => hO p' (by simp [hp'])) hI' hs ?_ ?_ (by omega) (by omega) ?_)
    · simp only [putl]
      rw [lk_cons_ne _ _ _ _ (by omega), lk_cons_ne _ _ _ _ (by omega), lk_cons_ne _ _ _ _ (by omega), lk_cons_ne _ _ _ _ (by omega)]; exact h1
    · simp only [putl]
      rw [lk_cons_ne _ _ _ _ (by omega), lk_cons_ne _ _ _ _ (by omega), lk_cons_ne _ _ _ _ (by omega), lk_cons_ne _ _ _ _ (by omega)]; exact h2
    · intro j e hj
      rcases hcov j e hj with h | ⟨p', hp', h⟩
      · exact .inl (.inl h)
      · rcases List.mem_cons.1 hp' with rfl | hp'
        · exact .inl (.inr h)
        · exact .inr ⟨p', hp', h⟩
end
theorem own_st {P : Program} {f : FuncId} {T : TypeId} {sz N : Nat} {zs : List Value} {ps : List OPart} (hB : Body P f (4 + 4 * ps.length) [.cell 2 T] (ownStC T ps)) (hE : El P T sz zs) (hTp : Tp P T true sz) (hsz : (cks P T).length = sz) (hP : OPartsOk P T 0 ps)
    (hO : ∀ p ∈ ps, calleeOk P p.g = true ∧ OwnC P p.g p.T p.ag N) (hcov : ∀ (j : Nat) (e : TypeId), (cks P T)[j]? = some (.sl e) → ∃ p ∈ ps, p.off ≤ j ∧ j < p.off + p.n) : OwnC P f T true N := by
  intro w row vs hc hty hN
  refine ret_of hB ?_
  have hs := SL.init (n := 4 + 4 * ps.length) [pk true vs] (Nat.ble_eq_true_of_le (by simp; omega))
  revert hs
  generalize ({ tmps := _, defers := [] } : Act) = a
  intro hs
  refine nw_seq (nw_region ?_)
  refine L hs rfl (Nat.ble_eq_true_of_le (by omega)) (x_box hs rfl rfl) fun a hs => ?_
  have hcv : (pk true vs).cells = vs.toArray := rfl
  rw [hcv]
  have g1 := Ch.alloc (fun _ => False) w (.cells vs.toArray T)
  have g2 := Ch.alloc (fun _ => False) (w.alloc (.cells vs.toArray T)) (.cells zs.toArray T)
  have e1 : (w.alloc (.cells vs.toArray T)).heap.size = w.heap.size + 1 := by simp
  refine L hs rfl (Nat.ble_eq_true_of_le (by omega)) (x_allocz rfl hE) fun a hs => ?_
  refine Le (osC_ok hE hTp hsz hty hN ps 3 0 row vs (fun _ => False) a _ _ hP hO ⟨g1.trans g2, g2.at (heap_alloc_new w _) fun h => h, ?_, hc.len, rfl, fun j x hj => ?_, fun j h => h.elim⟩ hs rfl (by rw [e1]; rfl) (by omega) (by omega) fun j e h => .inr (hcov j e h))
  · have := heap_alloc_new (w.alloc (.cells vs.toArray T)) (.cells zs.toArray T)
    rw [e1] at this; exact this
  · obtain ⟨u, h1, h2⟩ := hc.rep j x hj
    exact ⟨u, h1, .inr ⟨fun h => h, hj, h2⟩⟩
inductive Od where
  | cp (L e : TypeId) (sz : Nat) (zs : List Value)
  | ls (L e : TypeId) (sz : Nat) (ag : Bool) (zs : List Value) (cp one : FuncId)
  | st (T : TypeId) (sz : Nat) (zs : List Value) (ps : List OPart)
structure ORow where
  od : Od
  rank : Nat
def ORow.t (r : ORow) : TypeId := match r.od with | .cp L _ _ _ => L | .ls L _ _ _ _ _ _ => L | .st T _ _ _ => T
def ORow.ag (r : ORow) : Bool := match r.od with | .st _ _ _ _ => true | _ => false
abbrev OTab := List (FuncId × ORow)
def OFit (P : Program) (y : TY) (O : OTab) (f : FuncId) (r : ORow) : Prop :=
  match r.od with
  | .cp L e sz zs => Body P f 9 [.tmp 2] (copiedC y L) ∧ P.underlying L = some (.slice e) ∧ El P e sz zs ∧ ZOk P e zs ∧ (cks P e).length = sz ∧ cks P L = [.sl e] ∧ scalars (cks P e) = true
  | .ls L e sz ag zs cp one => Body P f 21 [.tmp 2] (ownLsC y L e cp one) ∧ Body P cp 9 [.tmp 2] (copiedC y L) ∧ P.underlying L = some (.slice e) ∧ El P e sz zs ∧ ZOk P e zs ∧ (cks P e).length = sz ∧ cks P L = [.sl e] ∧ Tp P e ag sz ∧ calleeOk P one = true ∧
      ∃ r1, lk O one = some r1 ∧ r1.t = e ∧ r1.ag = ag
  | .st T sz zs ps => Body P f (4 + 4 * ps.length) [.cell 2 T] (ownStC T ps) ∧ El P T sz zs ∧ Tp P T true sz ∧ (cks P T).length = sz ∧ OPartsOk P T 0 ps ∧ (∀ p ∈ ps, calleeOk P p.g = true ∧ ∃ r1, lk O p.g = some r1 ∧ r1.t = p.T ∧ r1.ag = p.ag ∧ r1.rank < r.rank) ∧
      ∀ (j : Nat) (e : TypeId), (cks P T)[j]? = some (.sl e) → ∃ p ∈ ps, p.off ≤ j ∧ j < p.off + p.n
theorem own_ok {P : Program} {y : TY} {O : OTab} (hO : ∀ f r, lk O f = some r → OFit P y O f r) : ∀ (N rk : Nat) (f : FuncId) (r : ORow), lk O f = some r → r.rank ≤ rk → OwnC P f r.t r.ag N := by
  intro N
  induction N using Nat.strongRecOn with
  | _ N ihN =>
    intro rk
    induction rk using Nat.strongRecOn with
    | _ rk ihr =>
      intro f r hf hrk
      have hfit := hO f r hf
      unfold OFit at hfit
      split at hfit
      · rename_i LT e sz zs hod
        obtain ⟨h1, h2, h3, h4, h5, h6, h7⟩ := hfit
        have e1 : r.t = LT := by simp [ORow.t, hod]
        have e2 : r.ag = false := by simp [ORow.ag, hod]
        rw [e1, e2]
        exact own_cp h1 h2 h3 h4 h5 h6 h7 N
      · rename_i LT e sz ag zs cp one hod
        obtain ⟨h1, h2, h3, h4, h5, h6, h7, h8, h9, r1, k1, k2, k3⟩ := hfit
        have e1 : r.t = LT := by simp [ORow.t, hod]
        have e2 : r.ag = false := by simp [ORow.ag, hod]
        rw [e1, e2]
        refine own_ls h1 h2 h3 h4 h5 h6 h7 h8 h9 fun M hM => ?_
        have := ihN M hM r1.rank one r1 k1 (Nat.le_refl _)
        rw [k2, k3] at this; exact this
      · rename_i T sz zs ps hod
        obtain ⟨h1, h2, h3, h4, h5, h6, h7⟩ := hfit
        have e1 : r.t = T := by simp [ORow.t, hod]
        have e2 : r.ag = true := by simp [ORow.ag, hod]
        rw [e1, e2]
        refine own_st h1 h2 h3 h4 h5 (fun p hp => ?_) h7
        obtain ⟨q1, r1, q2, q3, q4, q5⟩ := h6 p hp
        have := ihr r1.rank (by omega) p.g r1 q2 (Nat.le_refl _)
        rw [q3, q4] at this; exact ⟨q1, this⟩
end Go.TL.H
namespace Go.TL.H
open Go
theorem wz_room {P : Program} {w : World} {lo : Nat} {c : Cont} (hc : ∀ b o, w.heap[b]? = some o → lo ≤ b → c b = some o) {x : PV} {v : Value} (h : Rep w NB lo x v) : ∀ ck, WR P ck x → ∃ d, WZ P true true c d ck v := by
  induction h with
  | v x hx =>
    intro ck hw
    cases hw with
    | int k n h1 h2 => exact ⟨0, .int 0 k n h1 h2⟩
    | bool x => exact ⟨0, .bool 0 x⟩
    | str x h => exact ⟨0, .str 0 x h⟩
  | nil b c => intro ck hw; cases hw
  | sl rows b off cap cs t fz sz f hcap hb hbad hlo hfz hlen hcc hr ih => intro ck hw; cases hw
  | rmNil => intro ck hw; cases hw with | rm e len rows => exact ⟨0, .nil 0 e none 0 fun _ => ⟨rfl, rfl⟩⟩
  | rm len rows b off cs t sz f hcap hb hbad hlo hlen hcc hr ih =>
    intro ck hw
    cases hw with
    | rm e _ _ hle hm hr2 hl hww =>
      have hrow : ∀ i, i < rows.length → ∃ d, ∀ (j : Nat) (ck : CK), (cks P e)[j]? = some ck → WZ P true true c d ck (f i j) := by
        intro i hi
        have hri : rows[i]? = some rows[i] := by simp [hi]
        have hmem := List.mem_of_getElem? hri
        have hll := hl _ hmem
        obtain ⟨d, hd⟩ := depth_all (p := fun j d => ∀ ck, (cks P e)[j]? = some ck → WZ P true true c d ck (f i j)) (fun j d d' hdd hp ck hck => (hp ck hck).up d' hdd) (cks P e).length fun j hj => by
          have hjr : j < rows[i].length := by omega
          obtain ⟨d, hd⟩ := ih i rows[i] j rows[i][j] hri (by simp [hjr]) (cks P e)[j] (hww _ hmem j _ _ (by simp [hj]) (by simp [hjr]))
          exact ⟨d, fun ck hck => by simp [hj] at hck; subst hck; exact hd⟩
        exact ⟨d, fun j ck hck => hd j (List.getElem?_eq_some_iff.1 hck).1 ck hck⟩
      obtain ⟨d, hd⟩ := depth_all (p := fun i d => ∀ (j : Nat) (ck : CK), (cks P e)[j]? = some ck → WZ P true true c d ck (f i j)) (fun i d d' hdd hp j ck hck => (hp j ck hck).up d' hdd) rows.length hrow
      refine ⟨d + 1, .sl d e b off len rows.length cs t (0, 0) f (hc b _ hb hlo) (fun _ => rfl) hcap hm (fun _ => hr2) (fun i hi j ck hck => ?_) (fun _ _ _ _ h => by omega) fun i hi j ck hck => hd i (by simpa using hi) j ck hck⟩
      have hi' : i < rows.length := by simpa using hi
      have hri : rows[i]? = some rows[i] := by simp [hi']
      have hll := hl _ (List.mem_of_getElem? hri)
      have hj : j < (cks P e).length := (List.getElem?_eq_some_iff.1 hck).1
      have hjr : j < rows[i].length := by omega
      have hsz : sz = (cks P e).length := by rw [← hll, hlen i _ hri]
      rw [← hsz]
      exact hcc i rows[i] j rows[i][j] hri (by simp [hjr])
def Met (P : Program) (wr : Bool) (E : TypeId → Prop) : Prop := ∀ e, E e → ∀ ck ∈ cks P e, (wr = true ∨ ck ≠ .bool) ∧ ∀ e', ck = .sl e' → E e'
theorem wz_plain {P : Program} {w : World} {lo : Nat} {c : Cont} {wr : Bool} {E : TypeId → Prop} (hE : Met P wr E) (hlo0 : wr = true → 0 < lo) (hc : ∀ b o, w.heap[b]? = some o → lo ≤ b → c b = some o) {x : PV} {v : Value} (h : Rep w NB lo x v) :
    ∀ ck, (∀ e, ck = .sl e → E e) → WT P ck x → ∃ d, WZ P wr false c d ck v := by
  induction h with
  | v x hx =>
    intro ck _ hw
    cases hw with
    | int k n h1 h2 => exact ⟨0, .int 0 k n h1 h2⟩
    | bool x => exact ⟨0, .bool 0 x⟩
    | str x h => exact ⟨0, .str 0 x h⟩
  | nil b cp => intro ck _ hw; cases hw with | sl e rows => exact ⟨0, .nil 0 e b cp fun h => by cases h⟩
  | rmNil => intro ck _ hw; cases hw
  | rm len rows b off cs t sz f hcap hb hbad hlo hlen hcc hr ih => intro ck _ hw; cases hw
  | sl rows b off cap cs t fz sz f hcap hb hbad hlo hfz hlen hcc hr ih =>
    intro ck hck0 hw
    cases hw with
    | sl e _ hm hl hww =>
      have hEe := hck0 e rfl
      have hrow : ∀ i, i < rows.length → ∃ d, ∀ (j : Nat) (ck : CK), (cks P e)[j]? = some ck → WZ P wr false c d ck (f i j) := by
        intro i hi
        have hri : rows[i]? = some rows[i] := by simp [hi]
        have hmem := List.mem_of_getElem? hri
        have hll := hl _ hmem
        obtain ⟨d, hd⟩ := depth_all (p := fun j d => ∀ ck, (cks P e)[j]? = some ck → WZ P wr false c d ck (f i j)) (fun j d d' hdd hp ck hck => (hp ck hck).up d' hdd) (cks P e).length fun j hj => by
          have hjr : j < rows[i].length := by omega
          obtain ⟨d, hd⟩ := ih i rows[i] j rows[i][j] hri (by simp [hjr]) (cks P e)[j] (hE e hEe _ (List.getElem_mem hj)).2 (hww _ hmem j _ _ (by simp [hj]) (by simp [hjr]))
          exact ⟨d, fun ck hck => by simp [hj] at hck; subst hck; exact hd⟩
        exact ⟨d, fun j ck hck => hd j (List.getElem?_eq_some_iff.1 hck).1 ck hck⟩
      obtain ⟨d, hd⟩ := depth_all (p := fun i d => ∀ (j : Nat) (ck : CK), (cks P e)[j]? = some ck → WZ P wr false c d ck (f i j)) (fun i d d' hdd hp j ck hck => (hp j ck hck).up d' hdd) rows.length hrow
      have hf0 : wr = true → fz = (0, 0) := fun h => hfz (hlo0 h)
      refine ⟨d + 1, .sl d e b off rows.length cap cs t fz f (hc b _ hb hlo) hf0 hcap hm (fun h => by cases h) (fun i hi j ck hck => ?_) (fun i hi j hj => ?_) fun i hi j ck hck => hd i (by simpa using hi) j ck hck⟩
      · have hi' : i < rows.length := by simpa using hi
        have hri : rows[i]? = some rows[i] := by simp [hi']
        have hll := hl _ (List.mem_of_getElem? hri)
        have hj : j < (cks P e).length := (List.getElem?_eq_some_iff.1 hck).1
        have hjr : j < rows[i].length := by omega
        have hsz : sz = (cks P e).length := by rw [← hll, hlen i _ hri]
        rw [← hsz]
        exact hcc i rows[i] j rows[i][j] hri (by simp [hjr])
      · rcases (hE e hEe _ (List.mem_of_getElem? hj)).1 with h | h
        · rw [hf0 h]; simp
        · exact absurd rfl h
theorem pl_room {P : Program} {w : World} {lo b o : Nat} {c : Cont} (hc : ∀ b o, w.heap[b]? = some o → lo ≤ b → c b = some o) {row : List PV} {vs : List Value} {ks : List CK} {cs : Array Value} {bt : TypeId} (hcw : Cw w lo row vs) (hw : WRs P ks row) (hb : c b = some (.cells cs bt (0, 0)))
    (hcs : ∀ (j : Nat) u, vs[j]? = some u → cs[o + j]? = some u) : ∃ d, ∀ (j : Nat) (k : CK), ks[j]? = some k → Pl P true true c d b (o + j) k := by
  rw [WRs_iff] at hw
  obtain ⟨d, hd⟩ := depth_all (p := fun j d => ∀ k, ks[j]? = some k → Pl P true true c d b (o + j) k) (fun j d d' hdd hp k hk => by
    obtain ⟨cs, t, fz, v, h1, h2, h3, h4, h5⟩ := hp k hk
    exact ⟨cs, t, fz, v, h1, h2, h3.up d' hdd, h4, h5⟩) ks.length fun j hj => by
      have hjr : j < row.length := by rw [hw.1]; exact hj
      obtain ⟨u, e1, e2⟩ := hcw.rep j row[j] (by simp)
      obtain ⟨d, hd⟩ := wz_room hc e2 ks[j] (hw.2 j _ _ (by simp [hj]) (by simp))
      exact ⟨d, fun k hk => by simp [hj] at hk; subst hk; exact ⟨cs, bt, (0, 0), u, hb, hcs j u e1, hd, fun _ => rfl, fun _ => by simp⟩⟩
  exact ⟨d, fun j k hk => hd j (List.getElem?_eq_some_iff.1 hk).1 k hk⟩
theorem pl_plain {P : Program} {w : World} {lo b o : Nat} {c : Cont} {wr : Bool} {E : TypeId → Prop} (hE : Met P wr E) (hlo0 : wr = true → 0 < lo) (hc : ∀ b o, w.heap[b]? = some o → lo ≤ b → c b = some o) {row : List PV} {vs : List Value} {ks : List CK} {cs : Array Value} {bt : TypeId}
    (hcw : Cw w lo row vs) (hw : WTs P ks row) (hks : ∀ e, .sl e ∈ ks → E e) (hb : c b = some (.cells cs bt (0, 0))) (hcs : ∀ (j : Nat) u, vs[j]? = some u → cs[o + j]? = some u) : ∃ d, ∀ (j : Nat) (k : CK), ks[j]? = some k → Pl P wr false c d b (o + j) k := by
  rw [WTs_iff] at hw
  obtain ⟨d, hd⟩ := depth_all (p := fun j d => ∀ k, ks[j]? = some k → Pl P wr false c d b (o + j) k) (fun j d d' hdd hp k hk => by
    obtain ⟨cs, t, fz, v, h1, h2, h3, h4, h5⟩ := hp k hk
    exact ⟨cs, t, fz, v, h1, h2, h3.up d' hdd, h4, h5⟩) ks.length fun j hj => by
      have hjr : j < row.length := by rw [hw.1]; exact hj
      obtain ⟨u, e1, e2⟩ := hcw.rep j row[j] (by simp)
      obtain ⟨d, hd⟩ := wz_plain hE hlo0 hc e2 ks[j] (fun e he => hks e (by rw [← he]; exact List.getElem_mem hj)) (hw.2 j _ _ (by simp [hj]) (by simp))
      exact ⟨d, fun k hk => by simp [hj] at hk; subst hk; exact ⟨cs, bt, (0, 0), u, hb, hcs j u e1, hd, fun _ => rfl, fun _ => by simp⟩⟩
  exact ⟨d, fun j k hk => hd j (List.getElem?_eq_some_iff.1 hk).1 k hk⟩
theorem WZ.cmono {P : Program} {wr room : Bool} {c c' : Cont} (hc : ∀ b o, c b = some o → c' b = some o) {d : Nat} {ck : CK} {v : Value} (h : WZ P wr room c d ck v) : WZ P wr room c' d ck v := by
  induction h with
  | int d k n h1 h2 => exact .int d k n h1 h2
  | bool d x => exact .bool d x
  | str d x h => exact .str d x h
  | nil d e b cap h => exact .nil d e b cap h
  | sl d e b o len cap cs t fz g hb hf hle hl hm hcc hbl hw ih => exact .sl d e b o len cap cs t fz g (hc b _ hb) hf hle hl hm hcc hbl ih
end Go.TL.H
namespace Go.TL.H
open Go
structure Kit3 (P : Program) (y : TY) (z : TZ) (T LC CT : TypeId) (sz : Nat) (zs : List Value) : Prop where
  bu1 : P.built y.E [(4, .bool true)] = some (eyeCells nilS nilS 0 false true)
  bu2 : P.built y.E [(2, .bool true), (4, .bool true)] = some (eyeCells nilS nilS 0 true true)
  bu3 : ∀ n, P.built y.E [(2, .bool true), (3, .int .i64 n)] = some (eyeCells nilS nilS n true false)
  lcU : P.underlying LC = some (.slice CT)
  ct : One P CT .nilFunc
  tp : Tp P T true sz
  el : El P T sz zs
  cks : (cks P T).length = sz
  small : sz ≤ 1000
section
variable {P : Program} {o : Oper} {n : Nat} {sl : Slots} {a : Act} {w : World}
theorem x_build {T : TypeId} {ps : Array (Nat × Operand)} {cs : Array Value} (vs : List (Nat × Value)) (ho : o.op = .build T ps) (hp : ps.toList.map (fun x => (x.1, a.eval x.2)) = vs) (hb : P.built T vs = some cs) : (execOp a.eval o).run P w = .ok (.value (.agg cs)) w := by
  have := run_build (P := P) w T (ps.map fun (i, x) => (i, a.eval x)) cs (by simpa [← hp] using hb)
  simp [execOp, ho, this]
end
abbrev callV (f : Operand) (args : Array Operand) : Op := .call ⟨.value f, args, #[]⟩
abbrev bT : Operand := .const (.bool true)
def apA1 (T : TypeId) : Code := rg [p1 30 (.move (t 1)), p1 31 (.load T (t 4)), p1 32 (callV (t 30) #[t 31]), p1 11 (.alloc T), p0 (.store T (t 11) (t 32))]
def apA2 (y : TY) : Code := rg [p1 33 (.build y.E #[(4, bT)]), p1 34 (.build y.E #[(4, bT)]), p1 35 (.build y.E #[(4, bT)]), p1 36 (.build y.E #[(4, bT)]), p1 12 (.alloc y.E), p1 13 (.alloc y.E), p1 14 (.alloc y.E), p1 15 (.alloc y.E),
  p0 (.store y.E (t 12) (t 33)), p0 (.store y.E (t 13) (t 34)), p0 (.store y.E (t 14) (t 35)), p0 (.store y.E (t 15) (t 36))]
def apA3 : Code := rg [p1 37 (.move (t 2)), p1 38 (callV (t 37) #[t 12, t 11])]
def apA4 (LC CT : TypeId) : Code := rg [p1 39 (.move (t 3)), p1 40 (.move (t 10)), p1 41 (.indexAddr LC (t 39) (t 40)), p1 42 (.load CT (t 41)), p1 43 (callV (t 42) #[t 11]), p1 16 (.assign (t 43))]
def apA5 : Code := rg [p1 44 (.move (t 2)), p1 45 (callV (t 44) #[t 13, t 11])]
def apA6 (look : FuncId) : Code := rg [p1 46 (.move (t 16)), p1 47 (callV (.func look) #[t 46]), p1 17 (.assign (t 47))]
def apA7 (y : TY) : Code := rg [p1 48 (.move (t 2)), p1 49 (.build y.E #[(2, bT), (4, bT)]), p1 50 (.box y.E (t 49)), p1 51 (callV (t 48) #[t 50, t 11])]
def apA8 (y : TY) (look same alike : FuncId) : Code :=
  .seq (rg [p1 52 (.load y.E (t 12)), p1 53 (.load y.E (t 13)), p1 54 (callV (.func same) #[t 52, t 53]), p1 55 (.unOp .not y.B (t 54)), p1 56 (.move (t 55)), pg 57 (.move (t 17)) 0 4 false, pg 58 (.move (t 16)) 0 4 false,
    pg 59 (callV (.func look) #[t 58]) 0 4 false, pg 60 (callV (.func alike) #[t 57, t 59, ci (-1)]) 0 4 false, pg 61 (.unOp .not y.B (t 60)) 0 4 false, p1 62 (.pick (t 56) bT (t 61))]) (.cond (t 62) (retB false 8) .skip)
def apA9 : Code := rg [p1 63 (.move (t 2)), p1 64 (callV (t 63) #[t 14, t 11])]
def apA10 (y : TY) (z : TZ) (look alike : FuncId) : Code :=
  .seq (rg [p1 18 (.assign (ci 0))])
    (.block 2 (.loop (.seq (.seq (rg [p1 65 (.move (t 18)), p1 66 (.move (t 16)), pt 67 (lenC (t 66) z.LF) y.I, p1 68 (.binOp .lss y.I (t 65) (t 67) y.I)]) (.cond (t 68) .skip (.exit 2)))
      (.seq (.block 3 (.seq (rg [p1 71 (.move (t 16)), p1 72 (callV (.func look) #[t 71]), p1 19 (.assign (t 72))])
          (.seq (rg [p1 73 (.move (t 16)), p1 74 (.move (t 18)), p1 75 (.indexAddr z.LF (t 73) (t 74)), p1 76 (.load z.FT (t 75)), p1 77 (.move (t 18)), p1 78 (.binOp .add y.I (t 77) (ci 1) y.I), p1 79 (.binOp .mul y.I (ci 1000000) (t 78) y.I),
              p1 80 (.build y.E #[(2, bT), (3, t 79)]), p1 81 (.box y.E (t 80)), p1 82 (callV (t 76) #[t 81])])
            (.seq (rg [p1 83 (.move (t 19)), p1 84 (.move (t 16)), p1 85 (callV (.func look) #[t 84]), p1 86 (.move (t 18)), p1 87 (callV (.func alike) #[t 83, t 85, t 86]), p1 88 (.unOp .not y.B (t 87))]) (.cond (t 88) (retB false 8) .skip)))))
        (rg [p1 69 (.move (t 18)), p1 70 (.binOp .add y.I (t 69) (ci 1) y.I), p1 18 (.assign (t 70))])))))
def apA11 : Code := rg [p1 89 (.move (t 2)), p1 90 (callV (t 89) #[t 15, t 11])]
def apA12 (y : TY) (same : FuncId) : Code :=
  .seq (rg [p1 91 (.load y.E (t 14)), p1 92 (.load y.E (t 15)), p1 93 (callV (.func same) #[t 91, t 92]), p1 94 (.unOp .not y.B (t 93))]) (.cond (t 94) (retB false 8) .skip)
def apRound (y : TY) (z : TZ) (T LC CT : TypeId) (look same alike : FuncId) : Code :=
  .seq (apA1 T) (.seq (apA2 y) (.seq apA3 (.seq (apA4 LC CT) (.seq apA5 (.seq (apA6 look) (.seq (apA7 y) (.seq (apA8 y look same alike) (.seq apA9 (.seq (apA10 y z look alike) (.seq apA11 (apA12 y same)))))))))))
def apartC (y : TY) (z : TZ) (T LC CT : TypeId) (great look same alike : FuncId) : Code :=
  .seq (rg [p1 4 (.box T (t 0)), p1 8 (.assign (.const (.bool false)))])
    (.seq (rg [p1 9 (.alloc y.E)])
      (.seq (rg [p1 20 (.move (t 2)), p1 21 (callV (t 20) #[t 9, t 4])])
        (.seq (.seq (rg [p1 22 (.load y.E (t 9)), p1 23 (callV (.func great) #[t 22])]) (.cond (t 23) (retB true 8) .skip))
          (.seq (.seq (rg [p1 10 (.assign (ci 0))])
            (.block 0 (.loop (.seq (.seq (rg [p1 24 (.move (t 10)), p1 25 (.move (t 3)), pt 26 (lenC (t 25) LC) y.I, p1 27 (.binOp .lss y.I (t 24) (t 26) y.I)]) (.cond (t 27) .skip (.exit 0)))
              (.seq (.block 1 (apRound y z T LC CT look same alike)) (rg [p1 28 (.move (t 10)), p1 29 (.binOp .add y.I (t 28) (ci 1) y.I), p1 10 (.assign (t 29))]))))))
            (retB true 8)))))
def Got (P : Program) (D : TabD) (w w' : World) (l : Value) : RS → Prop
  | .no => True
  | .one F g bx => Body P F 5 [] (cloC g) ∧ (∀ bl, l.ownBlock = some bl → w.heap.size ≤ bl) ∧ w.heap.size ≤ bx ∧ ∃ r rowr vsr tt, lk D g = some r ∧ r.ck.length ≤ 1000 ∧ w'.heap[bx]? = some (.cells vsr.toArray tt (0, 0)) ∧ Cw w' w.heap.size rowr vsr ∧ WTs P r.ck rowr
def CallC (P : Program) (D : TabD) (T : TypeId) (N : Nat) (C : FuncId) : Prop :=
  ∀ (w : World) (b : Nat) (vs : List Value) (row : List PV), w.heap[b]? = some (.cells vs.toArray T (0, 0)) → Cw w 0 row vs → Ty P T row → rz row ≤ N →
    Ret P C [Ptr b 0] w fun v w' => Ch (fun _ => False) w w' ∧ ∃ rs, ResAt w' v rs ∧ Got P D w w' v rs
def cz (w : World) (lo hi : Nat) : Cont := fun b => if lo ≤ b ∧ b < hi then w.heap[b]? else none
theorem cz_zn (w : World) (lo hi : Nat) : Zn (cz w lo hi) w := by
  intro b o hb
  unfold cz at hb
  split at hb
  · exact hb
  · cases hb
theorem cz_in {w : World} {lo hi b : Nat} (h : cz w lo hi b ≠ none) : lo ≤ b ∧ b < hi ∧ b < w.heap.size := by
  unfold cz at h
  split at h
  · rename_i hr
    cases hh : w.heap[b]? with
    | none => exact absurd hh h
    | some o => exact ⟨hr.1, hr.2, heap_lt hh⟩
  · exact absurd rfl h
theorem cz_out {w : World} {lo hi b : Nat} (h : ¬ (lo ≤ b ∧ b < hi)) : cz w lo hi b = none := by unfold cz; rw [if_neg h]
theorem Cw.down {w : World} {lo lo' : Nat} {row : List PV} {vs : List Value} (h : Cw w lo row vs) (hl : lo' ≤ lo) : Cw w lo' row vs := ⟨h.len, fun j x hj => let ⟨u, h1, h2⟩ := h.rep j x hj; ⟨u, h1, Rep.down h2 hl⟩⟩
theorem Cw.er {w : World} {lo : Nat} {row : List PV} {vs : List Value} (h : Cw w lo row vs) : Cw w lo (erRow row) vs := by
  refine ⟨by rw [erRow_length]; exact h.len, fun j x hj => ?_⟩
  rw [erRow_get] at hj
  cases hq : row[j]? with
  | none => simp [hq] at hj
  | some x' =>
    simp [hq] at hj; subst hj
    obtain ⟨u, h1, h2⟩ := h.rep j x' hq
    exact ⟨u, h1, h2.er⟩
theorem Post.fresh {y : TY} {mark room : Bool} {K : Nat} {h : Bool} {Sr : Eye → Eye → Prop} {w : World} {be : Nat} {e : Eye} {c : Cont} {w' : World} {vn' vs' : Value} {e' : Eye} {c' : Cont} (hP : Post y mark room K h Sr w be nilS nilS e c w' vn' vs' e' c') :
    ∀ b, EB be vn' vs' b → b = be ∨ w.heap.size ≤ b := by
  intro b hb
  rcases hP.new b hb with h | h
  · rcases h with h | h | h
    · exact .inl h
    · simp [nilS, Value.ownBlock] at h
    · simp [nilS, Value.ownBlock] at h
  · exact .inr h
theorem eb_nil {be b : Nat} (h : EB be nilS nilS b) : b = be := by
  rcases h with h | h | h
  · exact h
  · simp [nilS, Value.ownBlock] at h
  · simp [nilS, Value.ownBlock] at h
theorem see_same {D : TabD} {room : Bool} {c : Cont} {k : Tsk} {e e1 e2 : Eye} (h1 : See D room c k e e1) (h2 : See D room c k e e2) : e1.n = e2.n ∧ e1.s = e2.s := by rw [h1.det h2]; exact ⟨rfl, rfl⟩
theorem seeY_ok {P : Program} {y : TY} (K : Kit P y) {D : TabD} (hD : TabOk P y D) {S : FuncId} {rS : Row} (hS : lk D S = some rS) (hK : rS.ck.length ≤ 1000) {mark : Bool} {w : World} {be by' d : Nat} {at' : Int} {tt : TypeId} {c : Cont} (hbe : w.heap[be]? = some (.cells (eyeCells nilS nilS at' mark true) tt (0, 0)))
    (hz : Zn c w) (hd : c be = none) (hp : ∀ (j : Nat) (k : CK), rS.ck[j]? = some k → Pl P true true c d by' (0 + j) k) :
    Ret P S [Ptr be 0, Ptr by' 0] w (Out y mark true rS.ck.length rS.hn (fun a b => See D true c (.fn S by' 0) a b) w be nilS nilS ⟨[], [], at'⟩ c) := by
  refine see_ok K (D := D) (mark := mark) (room := true) (wr := true) hD (fun _ => rfl) d rS.rank S rS hS (Nat.le_refl _) w be by' 0 nilS nilS ⟨[], [], at'⟩ c (eye_new hbe) hz ?_ hp (bd0 hK)
  intro b hb
  rw [eb_nil hb]; exact hd
theorem Fit.okD {P : Program} {y : TY} {D : TabD} {f : FuncId} {r : Row} (h : Fit P y D f r) : calleeOk P f = true := by
  unfold Fit at h
  split at h <;> exact h.1.ok
end Go.TL.H
namespace Go.TL.H
open Go
theorem ResAt.keep {w w' : World} {l : Value} {rs : RS} (h : ResAt w l rs) (hk : ∀ b o, l.ownBlock = some b → w.heap[b]? = some o → w'.heap[b]? = some o) : ResAt w' l rs := by
  cases rs with
  | no => exact h
  | one F g bx =>
    obtain ⟨bl, tt, rfl, h2⟩ := h
    exact ⟨bl, tt, rfl, hk bl _ rfl h2⟩
section
variable {P : Program} {y : TY} {z : TZ} {T LC CT : TypeId} {sz N : Nat} {zs : List Value} {D : TabD} {S W look same alike : FuncId} {rS : Row} {Q : Exit → Act → World → Prop} {a : Act} {w : World} {bx : Nat} {xs : List Value} {row : List PV} {lv : Value} {i : Nat}
theorem apA1_ok (K3 : Kit3 P y z T LC CT sz zs) (hW : OwnC P W T true N) (hWok : calleeOk P W = true) (hs : SL 95 [(1, .func (.func W) #[] #[]), (2, .func (.func S) #[] #[]), (3, lv), (4, Ptr bx 0), (10, .int .i64 (i : Int))] a)
    (hbx : w.heap[bx]? = some (.cells xs.toArray T (0, 0))) (hcw : Cw w 0 row xs) (hty : Ty P T row) (hN : rz row ≤ N)
    (kk : ∀ a' w2 b row' vs', SL 95 [(1, .func (.func W) #[] #[]), (2, .func (.func S) #[] #[]), (3, lv), (4, Ptr bx 0), (10, .int .i64 (i : Int)), (11, Ptr b 0)] a' → Ch (fun _ => False) w w2 → w.heap.size ≤ b → b + 1 = w2.heap.size → w2.heap[b]? = some (.cells vs'.toArray T (0, 0)) →
      Cw w2 w.heap.size row' vs' → TyR P T row' → erRow row' = row → Q .normal a' w2) : NW P (apA1 T) Q a w := by
  have hlen : xs.length = sz := by rw [hcw.len, ((WTs_iff _ _).1 hty).1, K3.cks]
  refine nw_region ?_
  refine L hs rfl rfl (x_mv hs (.inl rfl) rfl) fun a hs => ?_
  refine L hs rfl rfl (x_ldp (ag := true) xs hs rfl rfl K3.tp hlen hbx (fun j u hj => by simpa using hj)) fun a hs => ?_
  refine Lc hs rfl rfl rfl rfl rfl hWok (hW w row xs hcw hty hN) fun v w1 a hO hs => ?_
  obtain ⟨hch, row', vs', rfl, hcw', hty', her⟩ := hO
  refine L hs rfl rfl (x_allocz rfl K3.el) fun a hs => ?_
  have hl' : vs'.length = sz := by
    rw [hcw'.len]
    unfold TyR at hty'
    rw [WRs_iff] at hty'
    rw [hty'.1, K3.cks]
  have g1 := Ch.alloc (fun _ => False) w1 (.cells zs.toArray T)
  have hb := heap_alloc_new w1 (.cells zs.toArray T)
  have hzl : zs.length = sz := K3.el.len
  refine Ls hs rfl rfl (x_stp (ag := true) vs' hs rfl rfl rfl K3.tp hl' hcw'.one hb (by simp [hzl])) fun hs => ?_
  have hfull : (spl zs.toArray.toList 0 vs').toArray = vs'.toArray := by simp [spl, hzl, hl']
  rw [hfull]
  have g2 := Ch.setRow (w1.alloc (.cells zs.toArray T)) w1.heap.size vs'.toArray
  have hb2 := setRow_heap _ _ _ vs'.toArray _ _ hb
  have hsz1 := hch.size
  refine Le (kk _ _ w1.heap.size row' vs' (hs.keep [1, 2, 3, 4, 10, 11]) ((hch.trans g1).trans' g2 fun b hb h => by omega) (by omega) (by simp) hb2 ?_ hty' her)
  exact hcw'.keep fun b o _ hh => (g1.trans' (S := fun _ => False) g2 fun b hb h => by omega).at hh fun h => h
theorem apA2_ok (K : Kit P y) (K3 : Kit3 P y z T LC CT sz zs) {sl : Slots} (hs : SL 95 sl a)
    (kk : ∀ a' w3, SL 95 ((15, Ptr (w.heap.size + 3) 0) :: (14, Ptr (w.heap.size + 2) 0) :: (13, Ptr (w.heap.size + 1) 0) :: (12, Ptr w.heap.size 0) :: (36, .agg (eyeCells nilS nilS 0 false true)) :: (35, .agg (eyeCells nilS nilS 0 false true)) :: (34, .agg (eyeCells nilS nilS 0 false true)) ::
      (33, .agg (eyeCells nilS nilS 0 false true)) :: sl) a' → Ch (fun _ => False) w w3 → w3.heap.size = w.heap.size + 4 → (∀ j, j < 4 → w3.heap[w.heap.size + j]? = some (.cells (eyeCells nilS nilS 0 false true) y.E (0, 0))) → Q .normal a' w3) : NW P (apA2 y) Q a w := by
  refine nw_region ?_
  refine L hs rfl rfl (x_build [(4, .bool true)] rfl rfl K3.bu1) fun a hs => ?_
  refine L hs rfl rfl (x_build [(4, .bool true)] rfl rfl K3.bu1) fun a hs => ?_
  refine L hs rfl rfl (x_build [(4, .bool true)] rfl rfl K3.bu1) fun a hs => ?_
  refine L hs rfl rfl (x_build [(4, .bool true)] rfl rfl K3.bu1) fun a hs => ?_
  refine L hs rfl rfl (x_allocn rfl K.eB) fun a hs => ?_
  refine L hs rfl rfl (x_allocn rfl K.eB) fun a hs => ?_
  refine L hs rfl rfl (x_allocn rfl K.eB) fun a hs => ?_
  refine L hs rfl rfl (x_allocn rfl K.eB) fun a hs => ?_
  generalize hob : (Obj.cells [nilS, nilS, .bool false, .int .i64 0, .bool false].toArray y.E) = ob at hs ⊢
  have hob' : ob = .cells (eyeCells nilS nilS 0 false false) y.E (0, 0) := hob.symm
  have s1 : (w.alloc ob).heap.size = w.heap.size + 1 := by simp
  have s2 : ((w.alloc ob).alloc ob).heap.size = w.heap.size + 2 := by simp
  have s3 : (((w.alloc ob).alloc ob).alloc ob).heap.size = w.heap.size + 3 := by simp
  have s4 : ((((w.alloc ob).alloc ob).alloc ob).alloc ob).heap.size = w.heap.size + 4 := by simp
  have g4 : Ch (fun _ => False) w ((((w.alloc ob).alloc ob).alloc ob).alloc ob) := (((Ch.alloc _ w ob).trans (Ch.alloc _ _ ob)).trans (Ch.alloc _ _ ob)).trans (Ch.alloc _ _ ob)
  have h0 : ((((w.alloc ob).alloc ob).alloc ob).alloc ob).heap[w.heap.size]? = some ob := by
    rw [heap_alloc_old _ _ _ (by omega), heap_alloc_old _ _ _ (by omega), heap_alloc_old _ _ _ (by omega)]; exact heap_alloc_new w ob
  have h1 : ((((w.alloc ob).alloc ob).alloc ob).alloc ob).heap[w.heap.size + 1]? = some ob := by
    rw [heap_alloc_old _ _ _ (by omega), heap_alloc_old _ _ _ (by omega)]; have := heap_alloc_new (w.alloc ob) ob; rw [s1] at this; exact this
  have h2 : ((((w.alloc ob).alloc ob).alloc ob).alloc ob).heap[w.heap.size + 2]? = some ob := by
    rw [heap_alloc_old _ _ _ (by omega)]; have := heap_alloc_new ((w.alloc ob).alloc ob) ob; rw [s2] at this; exact this
  have h3 : ((((w.alloc ob).alloc ob).alloc ob).alloc ob).heap[w.heap.size + 3]? = some ob := by
    have := heap_alloc_new (((w.alloc ob).alloc ob).alloc ob) ob; rw [s3] at this; exact this
  rw [s1, s2, s3] at hs
  generalize ((((w.alloc ob).alloc ob).alloc ob).alloc ob) = w4 at *
  subst hob'
  have hones : ∀ u ∈ [nilS, nilS, .bool false, .int .i64 0, .bool true], u.oneCell' = true := by
    intro u hu
    simp [nilS] at hu
    rcases hu with rfl | rfl | rfl | rfl <;> rfl
  have hsp : ∀ cs : Array Value, cs = eyeCells nilS nilS 0 false false → (spl cs.toList 0 [nilS, nilS, .bool false, .int .i64 0, .bool true]).toArray = eyeCells nilS nilS 0 false true := by rintro cs rfl; rfl
  refine Ls hs rfl rfl (x_stn [nilS, nilS, .bool false, .int .i64 0, .bool true] hs rfl rfl rfl K.eB rfl hones h0 (by decide)) fun hs => ?_
  rw [hsp _ rfl]
  have c1 := Ch.setRow w4 w.heap.size (eyeCells nilS nilS 0 false true)
  have k0 := setRow_heap w4 w.heap.size _ (eyeCells nilS nilS 0 false true) _ _ h0
  have k1 := c1.at h1 (by omega)
  have k2 := c1.at h2 (by omega)
  have k3 := c1.at h3 (by omega)
  have z1 : (w4.setRow w.heap.size (eyeCells nilS nilS 0 false true)).heap.size = w4.heap.size := by simp
  have G1 := g4.trans' c1 fun b hb h => by omega
  clear c1 h0 h1 h2 h3 g4
  generalize w4.setRow w.heap.size (eyeCells nilS nilS 0 false true) = w5 at *
  refine Ls hs rfl rfl (x_stn [nilS, nilS, .bool false, .int .i64 0, .bool true] hs rfl rfl rfl K.eB rfl hones k1 (by decide)) fun hs => ?_
  rw [hsp _ rfl]
  have c2 := Ch.setRow w5 (w.heap.size + 1) (eyeCells nilS nilS 0 false true)
  have l0 := c2.at k0 (by omega)
  have l1 := setRow_heap w5 (w.heap.size + 1) _ (eyeCells nilS nilS 0 false true) _ _ k1
  have l2 := c2.at k2 (by omega)
  have l3 := c2.at k3 (by omega)
  have z2 : (w5.setRow (w.heap.size + 1) (eyeCells nilS nilS 0 false true)).heap.size = w5.heap.size := by simp
  have G2 := G1.trans' c2 fun b hb h => by omega
  clear c2 k0 k1 k2 k3 G1
  generalize w5.setRow (w.heap.size + 1) (eyeCells nilS nilS 0 false true) = w6 at *
  refine Ls hs rfl rfl (x_stn [nilS, nilS, .bool false, .int .i64 0, .bool true] hs rfl rfl rfl K.eB rfl hones l2 (by decide)) fun hs => ?_
  rw [hsp _ rfl]
  have c3 := Ch.setRow w6 (w.heap.size + 2) (eyeCells nilS nilS 0 false true)
  have m0 := c3.at l0 (by omega)
  have m1 := c3.at l1 (by omega)
  have m2 := setRow_heap w6 (w.heap.size + 2) _ (eyeCells nilS nilS 0 false true) _ _ l2
  have m3 := c3.at l3 (by omega)
  have z3 : (w6.setRow (w.heap.size + 2) (eyeCells nilS nilS 0 false true)).heap.size = w6.heap.size := by simp
  have G3 := G2.trans' c3 fun b hb h => by omega
  clear c3 l0 l1 l2 l3 G2
  generalize w6.setRow (w.heap.size + 2) (eyeCells nilS nilS 0 false true) = w7 at *
  refine Ls hs rfl rfl (x_stn [nilS, nilS, .bool false, .int .i64 0, .bool true] hs rfl rfl rfl K.eB rfl hones m3 (by decide)) fun hs => ?_
  rw [hsp _ rfl]
  have c4 := Ch.setRow w7 (w.heap.size + 3) (eyeCells nilS nilS 0 false true)
  have n0 := c4.at m0 (by omega)
  have n1 := c4.at m1 (by omega)
  have n2 := c4.at m2 (by omega)
  have n3 := setRow_heap w7 (w.heap.size + 3) _ (eyeCells nilS nilS 0 false true) _ _ m3
  have z4 : (w7.setRow (w.heap.size + 3) (eyeCells nilS nilS 0 false true)).heap.size = w7.heap.size := by simp
  refine Le (kk _ _ hs (G3.trans' c4 fun b hb h => by omega) (by omega) fun j hj => ?_)
  match j, hj with
  | 0, _ => exact n0
  | 1, _ => exact n1
  | 2, _ => exact n2
  | 3, _ => exact n3
end
end Go.TL.H
