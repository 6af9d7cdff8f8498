/- str: whole. -/
import Derived.Test.YtaaimmmofkldbaaWl09
namespace Go.TL.H
open Go
def addCh (y : TY) : List Oper :=
  [q1 26 (.move (t 1)) [], q1 27 (.nilCheck (t 26)) [eD 0], q1 28 (.load y.S (t 27)) [eD 1], q1 29 (.move (t 4)) [], q1 30 (.binOp .rem y.I (t 29) (ci 26) y.I) [eD 3], q1 31 (.binOp .add y.I (ci 97) (t 30) y.I) [eD 4],
   q1 32 (.convert y.I y.BY (t 31)) [eD 5], q1 33 (.buildSlice y.BL 1 #[(0, t 32)]) [eD 6], q1 34 (.convert y.BL y.S (t 33)) [eD 7], q1 35 (.binOp .add y.S (t 28) (t 34) y.S) [eD 2, eD 8],
   q1 36 (.nilCheck (t 26)) [eD 0, eP 0, eP 1, eP 2, eP 3, eP 4, eP 5, eP 6, eP 7, eP 8, eP 9], q0 (.store y.S (t 36) (t 35)) [eD 10, eD 9, eP 0, eP 1, eP 2, eP 3, eP 4, eP 5, eP 6, eP 7, eP 8, eP 9]]
def strC (y : TY) : Code :=
  .seq (.seq (rg [p1 5 (.move (t 0)), p1 6 (.nilCheck (t 5)), p1 7 (.fieldAddr y.E (t 6) 2), p1 8 (.load y.B (t 7))])
    (.cond (t 8) (.seq
      (rg [p1 9 (.move (t 0)), p1 10 (.nilCheck (t 9)), p1 11 (.fieldAddr y.E (t 10) 3), p1 12 (.load y.I (t 11)), p1 13 (.binOp .add y.I (t 12) (ci 1) y.I), p1 14 (.nilCheck (t 9)), p1 15 (.fieldAddr y.E (t 14) 3), p0 (.store y.I (t 15) (t 13))])
      (.seq (rg [p1 16 (.move (t 1)), p1 17 (.nilCheck (t 16)), p0 (.store y.S (t 17) (.const (.string ⟨#[63]⟩)))])
        (.seq (rg [p1 18 (.move (t 0)), p1 19 (.nilCheck (t 18)), p1 20 (.fieldAddr y.E (t 19) 3), p1 21 (.load y.I (t 20)), p1 4 (.assign (t 21))])
          (.block 0 (.loop (.seq (.seq (rg [p1 22 (.move (t 4)), p1 23 (.binOp .gtr y.I (t 22) (ci 0) y.I)]) (.cond (t 23) .skip (.exit 0)))
            (.seq (.block 1 (rd (addCh y))) (rg [p1 24 (.move (t 4)), p1 25 (.binOp .quo y.I (t 24) (ci 26) y.I), p1 4 (.assign (t 25))])))))))) .skip))
    (rd (tailStr y y.S))
theorem addCh_ok {P : Program} {y : TY} (K : Kit P y) {a : Act} {w : World} {p0 : Value} {pb po : Nat} {cs : Array Value} {bt : TypeId} {x : ByteArray} {n : Int} {Q : Exit → Act → World → Prop}
    (hsl : SL 49 [(0, p0), (1, Ptr pb po), (4, .int .i64 n)] a) (hpb : w.heap[pb]? = some (.cells cs bt (0, 0))) (hpo : cs[po]? = some (.string x)) (hx : x.size ≤ 1000)
    (hQ : ∀ c a w, Q (.panic c) a w → False)
    (k : ∀ a' w1 u, SL 49 [(0, p0), (1, Ptr pb po), (4, .int .i64 n)] a' → Ch (fun _ => False) w w1 → u.size = 1 → Q .normal a' (w1.setRow pb (cs.setIfInBounds po (.string (x ++ u))))) : NW P (rd (addCh y)) Q a w := by
  refine nw_draw' 12 rfl K.mixed ?_
  have hlt := (Array.getElem?_eq_some_iff.1 hpo).1
  have last : ∀ (w1 : World) (a : Act) (listed : Array Bool) (u : ByteArray), Ch (fun _ => False) w w1 → u.size = 1 →
      listed = #[true, true, true, true, true, true, true, true, true, false, false, false] →
      SL 49 [(0, p0), (1, Ptr pb po), (4, .int .i64 n), (26, Ptr pb po), (28, .string x), (34, .string u)] a → wpAny P .any (addCh y).toArray Q 3 listed a w1 := by
    rintro w1 a listed u h1 hu rfl hs
    refine Y1 9 (by kernel_rfl) (wpOp_of hs rfl rfl rfl (x_cat hs rfl rfl rfl (by omega)) fun a hs => ?_)
    refine Y1 10 (by kernel_rfl) (wpOp_of hs rfl rfl rfl (x_nil hs rfl rfl) fun a hs => ?_)
    refine Y1 11 (by kernel_rfl) (wpOp_skip hs rfl rfl rfl (x_st hs rfl rfl rfl K.s rfl rfl (h1.at hpb fun h => h) hlt (by simp)) fun hs => ?_)
    exact Ye (by kernel_rfl) (k _ _ u (hs.keep [0, 1, 4]) h1 hu)
  refine Y (i := 0) hsl rfl rfl rfl (by kernel_rfl) (by kernel_rfl) (by kernel_rfl) hQ (fun w => x_mv hsl (.inl rfl) rfl) fun a hs => ?_
  refine Y (i := 1) hs rfl rfl rfl (by kernel_rfl) (by kernel_rfl) (by kernel_rfl) hQ (fun w => x_nil hs rfl rfl) fun a hs => ?_
  refine Y (i := 3) hs rfl rfl rfl (by kernel_rfl) (by kernel_rfl) (by kernel_rfl) hQ (fun w => x_mv hs (.inl rfl) rfl) fun a hs => ?_
  refine Y (i := 4) hs rfl rfl rfl (by kernel_rfl) (by kernel_rfl) (by kernel_rfl) hQ (fun w => x_rem hs rfl rfl rfl (by decide)) fun a hs => ?_
  refine Y (i := 5) hs rfl rfl rfl (by kernel_rfl) (by kernel_rfl) (by kernel_rfl) hQ (fun w => x_arith hs rfl rfl rfl rfl) fun a hs => ?_
  refine Y (i := 6) hs rfl rfl rfl (by kernel_rfl) (by kernel_rfl) (by kernel_rfl) hQ (fun w => x_conv hs rfl rfl ⟨_, K.iU⟩ K.byU) fun a hs => ?_
  generalize IntKind.wrap .u8 (IntKind.wrap .i64 (97 + n.tmod 26)) = m at *
  have key : ∀ (w0 : World), w0.heap = w.heap → w0.os = w.os → w0.tape = w.tape → w0.output = w.output → Ch (fun _ => False) w (w0.alloc (.cells #[.int .u8 m] y.BY)) ∧ (w0.alloc (.cells #[.int .u8 m] y.BY)).heap[w.heap.size]? = some (.cells #[.int .u8 m] y.BY (0, 0)) := by
    intro w0 e1 e2 e3 e4
    have h1 := Ch.alloc (fun _ => False) w0 (.cells #[.int .u8 m] y.BY)
    exact ⟨⟨h1.os.trans e2, h1.tape.trans e3, h1.output.trans e4, by rw [← e1]; exact h1.size, fun b hb hn => by rw [h1.keep b (by rw [e1]; exact hb) hn, e1]⟩, by rw [← e1]; exact heap_alloc_new w0 _⟩
  obtain ⟨g1, g2⟩ := key { w with drawn := w.drawn + 1 } rfl rfl rfl rfl
  have hu1 : (ByteArray.empty.push (UInt8.ofNat m.toNat)).size = 1 := rfl
  refine Y2 2 7 (by kernel_rfl) (wpOp_of hs rfl rfl rfl (x_ld hs rfl rfl K.s (w := { w with drawn := w.drawn + 1 }) hpb hpo) fun a hs => ?_) (wpOp_of hs rfl rfl rfl (x_bs1 hs rfl rfl K.blU K.by' rfl) fun a hs => ?_)
  · refine Y1 7 (by kernel_rfl) (wpOp_of hs rfl rfl rfl (x_bs1 hs rfl rfl K.blU K.by' rfl) fun a hs => ?_)
    refine Y1 8 (by kernel_rfl) (wpOp_of hs rfl rfl rfl (x_bytes hs rfl rfl K.blU K.sU K.byU g2) fun a hs => ?_)
    exact last _ _ _ _ g1 hu1 (by kernel_rfl) (hs.keep [0, 1, 4, 26, 28, 34])
  · refine Y2 2 8 (by kernel_rfl) (wpOp_of hs rfl rfl rfl (x_ld hs rfl rfl K.s (g1.at hpb fun h => h) hpo) fun a hs => ?_) (wpOp_of hs rfl rfl rfl (x_bytes hs rfl rfl K.blU K.sU K.byU g2) fun a hs => ?_)
    · refine Y1 8 (by kernel_rfl) (wpOp_of hs rfl rfl rfl (x_bytes hs rfl rfl K.blU K.sU K.byU g2) fun a hs => ?_)
      exact last _ _ _ _ g1 hu1 (by kernel_rfl) (hs.keep [0, 1, 4, 26, 28, 34])
    · refine Y1 2 (by kernel_rfl) (wpOp_of hs rfl rfl rfl (x_ld hs rfl rfl K.s (g1.at hpb fun h => h) hpo) fun a hs => ?_)
      exact last _ _ _ _ g1 hu1 (by kernel_rfl) (hs.keep [0, 1, 4, 26, 28, 34])
theorem half_lt {n : Int} {m : Nat} (h0 : 0 < n) (h : n < 2 ^ m) : ∃ k, m = k + 1 ∧ n.tdiv 26 < 2 ^ k ∧ 0 ≤ n.tdiv 26 := by
  cases m with
  | zero => simp at h; omega
  | succ k =>
    refine ⟨k, rfl, ?_, ?_⟩
    · rw [Int.tdiv_eq_ediv_of_nonneg (by omega)]
      rw [Int.pow_succ] at h
      omega
    · rw [Int.tdiv_eq_ediv_of_nonneg (by omega)]; omega
theorem str_ok {P : Program} {y : TY} (K : Kit P y) {f : FuncId} (hB : Body P f 49 [] (strC y)) {mark room wr : Bool} {w : World} {d be pb po : Nat} {vn vs : Value} {e : Eye} {c : Cont}
    (hE : EyeAt y w be vn vs e mark room) (hz : Zn c w) (hd : ∀ b, EB be vn vs b → c b = none) (hp : Pl P wr room c d pb po .str) (hmw : mark = true → wr = true) (hb : Bd 1 e.n.length e.s.length) :
    Ret P f [Ptr be 0, Ptr pb po] w (Out y mark room 1 false (fun a b => ∃ x, pl c pb po = some (.string x) ∧ b = { a with s := a.s ++ [x] }) w be vn vs e c) := by
  refine ret_of hB ?_
  have hs := SL.init (n := 49) [Ptr be 0, Ptr pb po] rfl
  revert hs
  generalize ({ tmps := _, defers := [] } : Act) = a
  intro hs
  obtain ⟨tt, ht⟩ := hE.cell
  obtain ⟨cs, bt, fz, v, hpb, hpo, hv, hfz, _⟩ := hp
  obtain ⟨x, rfl⟩ : ∃ x, v = .string x := by cases hv with | str _ x => exact ⟨x, rfl⟩
  have hlt := (Array.getElem?_eq_some_iff.1 hpo).1
  refine nw_seq (nw_seq (nw_region ?_))
  refine L hs rfl rfl (x_mv hs (.inl rfl) rfl) fun a hs => ?_
  refine L hs rfl rfl (x_nil hs rfl rfl) fun a hs => ?_
  refine L hs rfl rfl (x_fa hs rfl rfl K.e2) fun a hs => ?_
  refine L hs rfl rfl (x_ld hs rfl rfl K.b ht (v := .bool mark) rfl) fun a hs => ?_
  refine Le (nw_cond (t := mark) (hs.ev rfl) (fun hm => ?_) fun hm => ?_)
  · subst hm
    obtain rfl := hfz (hmw rfl)
    refine nw_seq (nw_region ?_)
    refine L hs rfl rfl (x_mv hs (.inl rfl) rfl) fun a hs => ?_
    refine L hs rfl rfl (x_nil hs rfl rfl) fun a hs => ?_
    refine L hs rfl rfl (x_fa hs rfl rfl K.e3) fun a hs => ?_
    refine L hs rfl rfl (x_ld hs rfl rfl K.i ht (v := .int .i64 e.at') rfl) fun a hs => ?_
    refine L hs rfl rfl (x_arith hs rfl rfl rfl rfl) fun a hs => ?_
    refine L hs rfl rfl (x_nil hs rfl rfl) fun a hs => ?_
    refine L hs rfl rfl (x_fa hs rfl rfl K.e3) fun a hs => ?_
    refine Ls hs rfl rfl (x_st hs rfl rfl rfl K.i rfl rfl ht (by simp [eyeCells]) (by simp)) fun hs => ?_
    have q1 := put_at (x := IntKind.wrap .i64 (e.at' + 1)) hE hz hd rfl
    have hrange := wrap_range (e.at' + 1)
    generalize IntKind.wrap .i64 (e.at' + 1) = n0 at *
    refine Le (nw_seq (nw_region ?_))
    refine L hs rfl rfl (x_mv hs (.inl rfl) rfl) fun a hs => ?_
    refine L hs rfl rfl (x_nil hs rfl rfl) fun a hs => ?_
    refine Ls hs rfl rfl (x_st hs rfl rfl rfl K.s rfl rfl (q1.zn pb _ hpb) hlt (by simp)) fun hs => ?_
    have q2 := q1.trans (S := fun _ _ => True) (put_pl (Sr := fun _ _ => True) (v := .string ⟨#[63]⟩) q1.eye q1.zn q1.dis hpb hpo (.inr (.inr (.inr ⟨x, _, rfl, rfl, by decide⟩))) (fun h => by cases h)) fun h => (by cases h)
    obtain ⟨tt1, ht1⟩ := q2.eye.cell
    have hpb2 : stZ c pb po (.string ⟨#[63]⟩) pb = some (.cells (cs.setIfInBounds po (.string ⟨#[63]⟩)) bt (0, 0)) := by simp [stZ, hpb]
    refine Le (nw_seq (nw_region ?_))
    refine L hs rfl rfl (x_mv hs (.inl rfl) rfl) fun a hs => ?_
    refine L hs rfl rfl (x_nil hs rfl rfl) fun a hs => ?_
    refine L hs rfl rfl (x_fa hs rfl rfl K.e3) fun a hs => ?_
    refine L hs rfl rfl (x_ld hs rfl rfl K.i ht1 (v := .int .i64 n0) rfl) fun a hs => ?_
    refine L hs rfl rfl (x_mv hs (.inr rfl) rfl) fun a hs => ?_
    refine Le (nw_block (nw_loop (fun m a w1 => ∃ n s cs1 c1, SL 49 [(0, Ptr be 0), (1, Ptr pb po), (4, .int .i64 n)] a ∧ n < 2 ^ m ∧ -9223372036854775808 ≤ n ∧ n ≤ 9223372036854775807 ∧ s.size + m ≤ 64 ∧ c1 pb = some (.cells cs1 bt (0, 0)) ∧ cs1[po]? = some (.string s) ∧
      Post y true room 0 false (fun _ _ => True) w be vn vs e c w1 vn vs { e with at' := n0 } c1) 63 ?_ ?_))
    · refine ⟨n0, ⟨#[63]⟩, _, _, hs.keep [0, 1, 4], by omega, by omega, by omega, by decide, hpb2, by simp [hlt], q2⟩
    · rintro m a w1 ⟨n, s, cs1, c1, hs, hn, hr1, hr2, hsz, hc1, hcs1, hP⟩
      have hlt1 := (Array.getElem?_eq_some_iff.1 hcs1).1
      refine nw_seq (nw_seq (nw_region ?_))
      refine L hs rfl rfl (x_mv hs (.inl rfl) rfl) fun a hs => ?_
      refine L hs rfl rfl (x_cmp hs rfl rfl rfl rfl) fun a hs => ?_
      refine Le (nw_cond (t := decide (n > 0)) (hs.ev rfl) (fun hm => nw_skip ?_) fun hm => nw_exit ?_)
      · have hm := of_decide_eq_true hm
        obtain ⟨m', rfl, hh1, hh2⟩ := half_lt hm hn
        refine nw_seq (nw_block (addCh_ok K (hs.keep [0, 1, 4]) (hP.zn pb _ hc1) hcs1 (by omega) (fun _ _ _ h => h) fun a w2 u hs hch hu => ?_))
        have hE2 := hP.eye.keep hch fun _ _ h => h
        have hz2 := hP.zn.keep hch fun _ _ h => h
        have q3 := (put_pl (Sr := fun _ _ => True) (v := .string (s ++ u)) hE2 hz2 hP.dis hc1 hcs1 (.inr (.inr (.inr ⟨s, _, rfl, rfl, by rw [ByteArray.size_append, hu]; unfold mostStr; omega⟩))) (fun h => by cases h)).pre hch
        have q4 := hP.trans (S := fun _ _ => True) q3 fun h => (by cases h)
        refine nw_region ?_
        refine L hs rfl rfl (x_mv hs (.inl rfl) rfl) fun a hs => ?_
        refine L hs rfl rfl (x_quo hs rfl rfl rfl (by decide)) fun a hs => ?_
        refine L hs rfl rfl (x_mv hs (.inr rfl) rfl) fun a hs => ?_
        have hle : n.tdiv 26 ≤ n := by rw [Int.tdiv_eq_ediv_of_nonneg (by omega)]; omega
        have hwr : IntKind.wrap .i64 (n.tdiv 26) = n.tdiv 26 := wrap_ok (by omega) (by omega)
        refine Le ⟨m', Nat.lt_succ_self _, n.tdiv 26, s ++ u, _, _, by have := hs.keep [0, 1, 4]; rw [hwr] at this; exact this, hh1, by omega, by omega, by rw [ByteArray.size_append, hu]; omega, by simp only [stZ, if_true, hc1]; rfl, by simp [hlt1], q4⟩
      · refine tailStr_ok K (hs.keep [0, 1]) hP.eye hP.zn hP.dis K.s hc1 hcs1 hb (fun _ _ _ h => h) fun a w' v' hs hQ => ?_
        exact fin0 hs ⟨rfl, _, _, _, _, (hP.trans (S := fun _ _ => True) hQ fun h => (by cases h)).S fun h => (by cases h)⟩
  · subst hm
    refine nw_skip (tailStr_ok K (hs.keep [0, 1]) hE hz hd K.s hpb hpo hb (fun _ _ _ h => h) fun a w' v' hs hP => ?_)
    exact fin0 hs ⟨rfl, _, _, _, _, hP.S fun _ h => ⟨x, by simp only [pl, hpb]; exact hpo, h⟩⟩
end Go.TL.H
namespace Go.TL.H
open Go
inductive Ds where
  | num (T : TypeId)
  | yes
  | str
  | st (T : TypeId) (parts : List (Nat × Nat × FuncId))
  | via (L : TypeId) (al one : FuncId) (e : TypeId) (sz : Nat)
structure Row where
  ds : Ds
  ck : List CK
  hn : Bool
  rank : Nat
abbrev TabD := List (FuncId × Row)
def stReg (T : TypeId) (k i : Nat) (g : FuncId) : Code :=
  rg [p1 k (.move (t 0)), p1 (k + 1) (.move (t 1)), p1 (k + 2) (.nilCheck (t (k + 1))), p1 (k + 3) (.fieldAddr T (t (k + 2)) i), p1 (k + 4) (.call ⟨.value (.func g), #[t k, t (k + 3)], #[]⟩)]
def stC (T : TypeId) (k : Nat) : List (Nat × Nat × FuncId) → Code
  | [] => .skip
  | [(i, _, g)] => stReg T k i g
  | (i, _, g) :: p :: l => .seq (stReg T k i g) (stC T (k + 5) (p :: l))
def viaC (L : TypeId) (al one : FuncId) : Code :=
  rg [p1 4 (.move (t 0)), p1 5 (.move (t 1)), p1 6 (.nilCheck (t 5)), p1 7 (.load L (t 6)), p1 8 (.call ⟨.value (.func al), #[t 4, t 7, .func one], #[]⟩)]
abbrev pg (d : Nat) (p : Op) (ty : TypeId) (j : Nat) (b : Bool) : Oper := ⟨some d, p, ty, "", #[], some (j, b)⟩
def allHead (y : TY) (L : TypeId) : List Oper :=
  [p1 26 (.move (t 6)), p1 27 (.move (t 1)), pt 28 (lenC (t 27) L) y.I, p1 29 (.binOp .lss y.I (t 26) (t 28) y.I), p1 30 (.move (t 29)), pg 31 (.move (t 0)) 0 4 true, pg 32 (.nilCheck (t 31)) 0 4 true, pg 33 (.fieldAddr y.E (t 32) 0) 0 4 true,
   pg 34 (.load y.NL (t 33)) 0 4 true, pg 35 (lenC (t 34) y.NL) y.I 4 true, pg 36 (.binOp .lss y.I (t 35) (ci 200000) y.I) 0 4 true, p1 37 (.pick (t 30) (t 36) (.const (.bool false)))]
def allC (y : TY) (L : TypeId) : Code :=
  .seq (rg [p1 7 (.move (t 0)), p1 8 (.move (t 0)), p1 9 (.nilCheck (t 8)), p1 10 (.fieldAddr y.E (t 9) 0), p1 11 (.load y.NL (t 10)), p1 12 (.move (t 1)), pt 13 (lenC (t 12) L) y.I, p1 14 (.buildSlice y.NL 1 #[(0, t 13)]), pt 15 (appC (t 11) (t 14) y.NL) y.NL,
      p1 16 (.nilCheck (t 7)), p1 17 (.fieldAddr y.E (t 16) 0), p0 (.store y.NL (t 17) (t 15))])
    (.seq (.seq (rg [p1 18 (.move (t 0)), p1 19 (.nilCheck (t 18)), p1 20 (.fieldAddr y.E (t 19) 4), p1 21 (.load y.B (t 20))])
        (.cond (t 21) (rg [p1 22 (.move (t 1)), p1 23 (.move (t 1)), pt 24 (.call ⟨.builtin .cap, #[t 23], #[L]⟩) y.I, p1 25 (.slice L (t 22) none (some (t 24)) none), p1 1 (.assign (t 25))]) .skip))
      (.seq (rg [p1 6 (.assign (ci 0))])
        (.block 0 (.loop (.seq (.seq (rg (allHead y L)) (.cond (t 37) .skip (.exit 0)))
          (.seq (.block 1 (rg [p1 40 (.move (t 2)), p1 41 (.move (t 0)), p1 42 (.move (t 1)), p1 43 (.move (t 6)), p1 44 (.indexAddr L (t 42) (t 43)), p1 45 (.call ⟨.value (t 40), #[t 41, t 44], #[]⟩)]))
            (rg [p1 38 (.move (t 6)), p1 39 (.binOp .add y.I (t 38) (ci 1) y.I), p1 6 (.assign (t 39))])))))))
inductive Tsk where
  | fn (f : FuncId) (b o : Nat)
  | parts (l : List (Nat × Nat × FuncId)) (b o : Nat)
  | iter (one : FuncId) (sz : Nat) (base : Option Addr) (i m : Nat)
inductive See (D : TabD) (room : Bool) (c : Cont) : Tsk → Eye → Eye → Prop
  | num (f : FuncId) (b o : Nat) (e : Eye) (r : Row) (T : TypeId) (x : Int) (hD : lk D f = some r) (hr : r.ds = .num T) (hl : pl c b o = some (.int .i64 x)) : See D room c (.fn f b o) e { e with n := e.n ++ [x] }
  | yes (f : FuncId) (b o : Nat) (e : Eye) (r : Row) (x : Bool) (hD : lk D f = some r) (hr : r.ds = .yes) (hl : pl c b o = some (.bool x)) : See D room c (.fn f b o) e { e with n := e.n ++ [bitI x] }
  | str (f : FuncId) (b o : Nat) (e : Eye) (r : Row) (x : ByteArray) (hD : lk D f = some r) (hr : r.ds = .str) (hl : pl c b o = some (.string x)) : See D room c (.fn f b o) e { e with s := e.s ++ [x] }
  | st (f : FuncId) (b o : Nat) (e e' : Eye) (r : Row) (T : TypeId) (l : List (Nat × Nat × FuncId)) (hD : lk D f = some r) (hr : r.ds = .st T l) (h : See D room c (.parts l b o) e e') : See D room c (.fn f b o) e e'
  | nil (b o : Nat) (e : Eye) : See D room c (.parts [] b o) e e
  | cons (b o : Nat) (e e1 e2 : Eye) (i off : Nat) (g : FuncId) (l : List (Nat × Nat × FuncId)) (h1 : See D room c (.fn g b (o + off)) e e1) (h2 : See D room c (.parts l b o) e1 e2) : See D room c (.parts ((i, off, g) :: l) b o) e e2
  | via (f : FuncId) (b o : Nat) (e e' : Eye) (r : Row) (L : TypeId) (al one : FuncId) (te : TypeId) (sz : Nat) (a : Option Addr) (len cap : Nat) (hD : lk D f = some r) (hr : r.ds = .via L al one te sz) (hl : pl c b o = some (.slice a len cap))
      (h : See D room c (.iter one sz a 0 (if room then cap else len)) { e with n := e.n ++ [(len : Int)] } e') : See D room c (.fn f b o) e e'
  | stop (one : FuncId) (sz : Nat) (a : Option Addr) (i m : Nat) (e : Eye) (h : ¬ (i < m ∧ e.n.length < 200000)) : See D room c (.iter one sz a i m) e e
  | step (one : FuncId) (sz b o i m : Nat) (e e1 e2 : Eye) (hi : i < m) (hn : e.n.length < 200000) (h1 : See D room c (.fn one b (o + i * sz)) e e1) (h2 : See D room c (.iter one sz (some ⟨b, o, none⟩) (i + 1) m) e1 e2) :
      See D room c (.iter one sz (some ⟨b, o, none⟩) i m) e e2
theorem See.det {D : TabD} {room : Bool} {c : Cont} {k : Tsk} {e e1 : Eye} (h : See D room c k e e1) : ∀ {e2 : Eye}, See D room c k e e2 → e1 = e2 := by
  induction h with
  | num f b o e r T x hD hr hl => intro e2 k2; cases k2 <;> simp_all
  | yes f b o e r x hD hr hl => intro e2 k2; cases k2 <;> simp_all
  | str f b o e r x hD hr hl => intro e2 k2; cases k2 <;> simp_all
  | st f b o e e' r T l hD hr h ih =>
    intro e2 k2
    cases k2 with
    | st _ _ _ _ _ r2 T2 l2 hD2 hr2 h2 =>
      have : r = r2 := by rw [hD] at hD2; simpa using hD2
      subst this
      rw [hr] at hr2; simp only [Ds.st.injEq] at hr2
      obtain ⟨rfl, rfl⟩ := hr2
      exact ih h2
    | _ => simp_all
  | nil b o e => intro e2 k2; cases k2; rfl
  | cons b o e e1 e2 i off g l h1 h2 ih1 ih2 =>
    intro e3 k2
    cases k2 with
    | cons _ _ _ e1' _ _ _ _ _ k1 k2 => obtain rfl := ih1 k1; exact ih2 k2
  | via f b o e e' r L al one te sz a len cap hD hr hl h ih =>
    intro e2 k2
    cases k2 with
    | via _ _ _ _ _ r2 L2 al2 one2 te2 sz2 a2 len2 cap2 hD2 hr2 hl2 h2 =>
      have : r = r2 := by rw [hD] at hD2; simpa using hD2
      subst this
      rw [hr] at hr2; simp only [Ds.via.injEq] at hr2
      obtain ⟨rfl, rfl, rfl, rfl, rfl⟩ := hr2
      rw [hl] at hl2; simp only [Option.some.injEq, Value.slice.injEq] at hl2
      obtain ⟨rfl, rfl, rfl⟩ := hl2
      exact ih h2
    | _ => simp_all
  | stop one sz a i m e h =>
    intro e2 k2
    cases k2 with
    | stop => rfl
    | step => exact absurd ⟨by assumption, by assumption⟩ h
  | step one sz b o i m e e1 e2 hi hn h1 h2 ih1 ih2 =>
    intro e3 k2
    cases k2 with
    | stop _ _ _ _ _ _ h => exact absurd ⟨hi, hn⟩ h
    | step _ _ _ _ _ _ _ e1' _ _ _ k1 k2 => obtain rfl := ih1 k1; exact ih2 k2
def PartsOk (P : Program) (D : TabD) (T : TypeId) (ck : List CK) (rank : Nat) : List (Nat × Nat × FuncId) → Nat → Bool → Prop
  | [], K, hn => K = 0 ∧ hn = false
  | (i, off, g) :: l, K, hn => ∃ rg sz K' hn', lk D g = some rg ∧ rg.rank < rank ∧ fieldOff P T i = some (off, sz) ∧ (∀ (j : Nat) (k : CK), rg.ck[j]? = some k → ck[off + j]? = some k) ∧ K = rg.ck.length + K' ∧ hn = (rg.hn || hn') ∧ PartsOk P D T ck rank l K' hn'
def Fit (P : Program) (y : TY) (D : TabD) (f : FuncId) (r : Row) : Prop :=
  match r.ds with
  | .num T => Body P f 33 [] (numC y T) ∧ (∃ z, One P T z) ∧ r.ck = [.int .i64] ∧ r.hn = true
  | .yes => Body P f 28 [] (yesC y) ∧ r.ck = [.bool] ∧ r.hn = true
  | .str => Body P f 49 [] (strC y) ∧ r.ck = [.str] ∧ r.hn = false
  | .st T parts => Body P f (4 + 5 * parts.length) [] (stC T 4 parts) ∧ PartsOk P D T r.ck r.rank parts r.ck.length r.hn
  | .via L al one e sz => Body P f 9 [] (viaC L al one) ∧ Body P al 46 [] (allC y L) ∧ P.underlying L = some (.slice e) ∧ (∃ inf, P.info? e = some inf ∧ inf.size = sz) ∧ One P L nilS ∧ r.ck = [.sl e] ∧ r.hn = true ∧
      calleeOk P one = true ∧ ∃ r1, lk D one = some r1 ∧ r1.ck = cks P e ∧ r1.ck.length = sz ∧ sz ≤ 16 ∧ (r1.hn = false → sz = 1)
def TabOk (P : Program) (y : TY) (D : TabD) : Prop := ∀ f r, lk D f = some r → Fit P y D f r
def SeeC (P : Program) (y : TY) (D : TabD) (mark room wr : Bool) (d : Nat) (f : FuncId) (r : Row) : Prop :=
  ∀ (w : World) (be pb po : Nat) (vn vs : Value) (e : Eye) (c : Cont), EyeAt y w be vn vs e mark room → Zn c w → (∀ b, EB be vn vs b → c b = none) →
    (∀ (j : Nat) (k : CK), r.ck[j]? = some k → Pl P wr room c d pb (po + j) k) → Bd r.ck.length e.n.length e.s.length →
    Ret P f [Ptr be 0, Ptr pb po] w (Out y mark room r.ck.length r.hn (fun a b => See D room c (.fn f pb po) a b) w be vn vs e c)
theorem Post.regr {y : TY} {mark room : Bool} {K K' : Nat} {h h' : Bool} {S1 : Eye → Eye → Prop} {w : World} {be : Nat} {vn vs : Value} {e : Eye} {c : Cont} {w1 : World} {vn1 vs1 : Value} {e1 : Eye} {c1 : Cont}
    (a : Post y mark room K h S1 w be vn vs e c w1 vn1 vs1 e1 c1) (g : Gr K' h' e.n.length e.s.length e1.n.length e1.s.length) : Post y mark room K' h' S1 w be vn vs e c w1 vn1 vs1 e1 c1 :=
  ⟨a.eye, a.zn, a.dis, a.keq, a.same, a.ch, a.new, g⟩
section
variable {P : Program} {y : TY} {D : TabD} {mark room wr : Bool} {d : Nat}
theorem stReg_ok {n : Nat} {T : TypeId} {k i off sz : Nat} {g : FuncId} {a : Act} {w : World} {be pb po : Nat} {sl : Slots} {Q : Exit → Act → World → Prop} {R : Value → World → Prop} (hs : SL n sl a) (h0 : lk sl 0 = some (Ptr be 0)) (h1 : lk sl 1 = some (Ptr pb po))
    (hk : 4 ≤ k) (hn : k + 5 ≤ n) (hf : fieldOff P T i = some (off, sz)) (hok : calleeOk P g = true) (hr : Ret P g [Ptr be 0, Ptr pb (po + off)] w R)
    (kk : ∀ v w' a', R v w' → SL n [(0, Ptr be 0), (1, Ptr pb po)] a' → Q .normal a' w') : NW P (stReg T k i g) Q a w := by
  have hd : ∀ j, j < 5 → dok n (some (k + j)) = true := fun j hj => by simp only [dok]; exact Nat.ble_eq_true_of_le (by omega)
  refine nw_region ?_
  refine L hs rfl (hd 0 (by omega)) (x_mv hs (.inl rfl) h0) fun a hs => ?_
  refine L hs rfl (hd 1 (by omega)) (x_mv hs (.inl rfl) (v := Ptr pb po) (by simp only [ev, putl]; rw [lk_cons_ne _ _ _ _ (by omega)]; exact h1)) fun a hs => ?_
  refine L hs rfl (hd 2 (by omega)) (x_nil hs rfl (lk_cons_same _ _ _)) fun a hs => ?_
  refine L hs rfl (hd 3 (by omega)) (x_fa hs rfl (lk_cons_same _ _ _) hf) fun a hs => ?_
  refine Lc hs rfl (hd 4 (by omega)) rfl rfl (vs := [Ptr be 0, Ptr pb (po + off)]) ?_ hok hr fun v w' a hR hs => ?_
  · simp only [evs, ev, putl, Array.toList]
    rw [lk_cons_same, lk_cons_ne _ _ _ _ (by omega), lk_cons_ne _ _ _ _ (by omega), lk_cons_ne _ _ _ _ (by omega), lk_cons_same]
  · refine Le (kk v w' a hR ⟨hs.size, hs.defers, ?_⟩)
    intro t x ht
    refine hs.slots t x ?_
    simp only [lk] at ht
    cases hb0 : Nat.beq 0 t with
    | true =>
      have := Nat.eq_of_beq_eq_true hb0; subst this
      simp only [hb0] at ht
      simp only [putl]
      rw [lk_cons_ne _ _ _ _ (by omega), lk_cons_ne _ _ _ _ (by omega), lk_cons_ne _ _ _ _ (by omega), lk_cons_ne _ _ _ _ (by omega), lk_cons_ne _ _ _ _ (by omega), h0]; exact ht
    | false =>
      simp only [hb0] at ht
      cases hb1 : Nat.beq 1 t with
      | true =>
        have := Nat.eq_of_beq_eq_true hb1; subst this
        simp only [hb1] at ht
        simp only [putl]
        rw [lk_cons_ne _ _ _ _ (by omega), lk_cons_ne _ _ _ _ (by omega), lk_cons_ne _ _ _ _ (by omega), lk_cons_ne _ _ _ _ (by omega), lk_cons_ne _ _ _ _ (by omega), h1]; exact ht
      | false => simp [hb1] at ht
theorem parts_ok {T : TypeId} {ck : List CK} {rank : Nat} (hD : TabOk P y D) (ih : ∀ g rg, lk D g = some rg → rg.rank < rank → SeeC P y D mark room wr d g rg) {be pb po n : Nat} :
    ∀ (l : List (Nat × Nat × FuncId)) (k K : Nat) (hn : Bool), PartsOk P D T ck rank l K hn → ∀ (a : Act) (w : World) (vn vs : Value) (e : Eye) (c : Cont) (sl : Slots) (Q : Exit → Act → World → Prop), EyeAt y w be vn vs e mark room → Zn c w → (∀ b, EB be vn vs b → c b = none) →
      (∀ (j : Nat) (k : CK), ck[j]? = some k → Pl P wr room c d pb (po + j) k) → Bd K e.n.length e.s.length → SL n sl a → lk sl 0 = some (Ptr be 0) → lk sl 1 = some (Ptr pb po) → 4 ≤ k → k + 5 * l.length ≤ n →
      (∀ a' w' vn' vs' e' c' sl', SL n sl' a' → Post y mark room K hn (fun a b => See D room c (.parts l pb po) a b) w be vn vs e c w' vn' vs' e' c' → Q .normal a' w') → NW P (stC T k l) Q a w
  | [], k, K, hn, hp, a, w, vn, vs, e, c, sl, Q, hE, hz, hd, hpl, hb, hs, h0, h1, hk, hkn, kk => by
    obtain ⟨rfl, rfl⟩ := hp
    exact nw_skip (kk _ _ _ _ _ _ _ hs (Post.refl hE hz hd fun _ => .nil _ _ _))
  | [(i, off, g)], k, K, hn, hp, a, w, vn, vs, e, c, sl, Q, hE, hz, hd, hpl, hb, hs, h0, h1, hk, hkn, kk => by
    obtain ⟨rg, sz, K', hn', hg, hrk, hf, hck, rfl, rfl, rfl, rfl⟩ := hp
    have hr := ih g rg hg hrk w be pb (po + off) vn vs e c hE hz hd (fun j k hj => by have := hpl (off + j) k (hck j k hj); rwa [← Nat.add_assoc] at this) hb
    have hok : calleeOk P g = true := by
      have := hD g rg hg
      unfold Fit at this
      split at this <;> exact this.1.ok
    refine stReg_ok hs h0 h1 hk (by simpa using hkn) hf hok hr fun v w' a' hR hs' => ?_
    obtain ⟨_, vn', vs', e', c', hP⟩ := hR
    refine kk a' w' vn' vs' e' c' _ hs' ?_
    have := hP.S (S := fun a b => See D room c (.parts [(i, off, g)] pb po) a b) fun _ h => .cons _ _ _ _ _ _ _ _ _ h (.nil _ _ _)
    simpa using this
  | (i, off, g) :: p :: l, k, K, hn, hp, a, w, vn, vs, e, c, sl, Q, hE, hz, hd, hpl, hb, hs, h0, h1, hk, hkn, kk => by
    obtain ⟨rg, sz, K', hn', hg, hrk, hf, hck, rfl, rfl, hrest⟩ := hp
    have hr := ih g rg hg hrk w be pb (po + off) vn vs e c hE hz hd (fun j k hj => by have := hpl (off + j) k (hck j k hj); rwa [← Nat.add_assoc] at this) (hb.le (by omega))
    have hok : calleeOk P g = true := by
      have := hD g rg hg
      unfold Fit at this
      split at this <;> exact this.1.ok
    simp only [List.length_cons] at hkn
    refine nw_seq (stReg_ok hs h0 h1 hk (by omega) hf hok hr fun v w' a' hR hs' => ?_)
    obtain ⟨_, vn', vs', e', c', hP⟩ := hR
    refine parts_ok hD ih (p :: l) (k + 5) K' hn' hrest a' w' vn' vs' e' c' _ Q hP.eye hP.zn hP.dis (fun j k hj => (hpl j k hj).keq hP.keq) (hb.step hP.gr (Nat.le_refl _)) hs' rfl rfl (by omega) (by simp only [List.length_cons]; omega) ?_
    intro a2 w2 vn2 vs2 e2 c2 sl2 hs2 hP2
    refine kk a2 w2 vn2 vs2 e2 c2 sl2 hs2 (hP.trans hP2 fun hm h1 h2 => ?_)
    have := (hP.same hm).1
    subst this
    exact .cons _ _ _ _ _ _ _ _ _ h1 h2
end
end Go.TL.H
namespace Go.TL.H
open Go
theorem all_ok {P : Program} {y : TY} (K : Kit P y) {D : TabD} {mark room wr : Bool} {d : Nat} {al one : FuncId} {LT e : TypeId} {inf : TypeInfo} {sz : Nat} {r1 : Row} (hB : Body P al 46 [] (allC y LT)) (hL : P.underlying LT = some (.slice e)) (hi : P.info? e = some inf) (hsz : inf.size = sz)
    (hok : calleeOk P one = true) {a0 : Option Addr} {len cap M : Nat} (hC : 0 < M → SeeC P y D mark room wr d one r1) (h16 : r1.ck.length ≤ 16) (h1n : r1.hn = false → r1.ck.length = 1) (hM : M = if room then cap else len) (hml : M ≤ 2097154)
    {w : World} {be : Nat} {vn vs : Value} {ey : Eye} {c : Cont} (hE : EyeAt y w be vn vs ey mark room) (hz : Zn c w) (hd : ∀ b, EB be vn vs b → c b = none)
    (hpl : ((room = true → a0 = none) ∧ M = 0) ∨ ∃ b o, a0 = some ⟨b, o, none⟩ ∧ ∀ i, i < M → ∀ (j : Nat) (k : CK), r1.ck[j]? = some k → Pl P wr room c d b (o + i * sz + j) k) (hb : Bd 1 ey.n.length ey.s.length) :
    Ret P al [Ptr be 0, .slice a0 len cap, .func (.func one) #[] #[]] w (Out y mark room 1 true (fun a b => See D room c (.iter one sz a0 0 M) { a with n := a.n ++ [(len : Int)] } b) w be vn vs ey c) := by
  refine ret_of hB ?_
  have hs := SL.init (n := 46) [Ptr be 0, .slice a0 len cap, .func (.func one) #[] #[]] rfl
  revert hs
  generalize ({ tmps := _, defers := [] } : Act) = a
  intro hs
  obtain ⟨tt, ht⟩ := hE.cell
  refine nw_seq (nw_region ?_)
  refine L hs rfl rfl (x_mv hs (.inl rfl) rfl) fun a hs => ?_
  refine L hs rfl rfl (x_mv hs (.inl rfl) rfl) fun a hs => ?_
  refine L hs rfl rfl (x_nil hs rfl rfl) fun a hs => ?_
  refine L hs rfl rfl (x_fa hs rfl rfl K.e0) fun a hs => ?_
  refine L hs rfl rfl (x_ld hs rfl rfl K.nl ht (v := vn) rfl) fun a hs => ?_
  refine L hs rfl rfl (x_mv hs (.inl rfl) rfl) fun a hs => ?_
  refine L hs rfl rfl (x_len hs rfl rfl hL) fun a hs => ?_
  refine L hs rfl rfl (x_bs1 hs rfl rfl K.nlU K.i rfl) fun a hs => ?_
  have hch := Ch.alloc (fun _ => False) w (.cells #[.int .i64 (len : Int)] y.I)
  have hphi := hb.phi
  have hphl := Phi_le ey.n.length
  obtain ⟨v', w2, hr, ho, hch2, hv'⟩ := x_app (o := pt 15 (appC (t 11) (t 14) y.NL) y.NL) hs rfl rfl rfl K.nlU K.i (hch.ownsRow hE.n fun _ _ h => h) (heap_alloc_new _ _) rfl K.i16 (by omega)
  obtain ⟨⟨t2, ht2⟩, hpost⟩ := push_n hE hz hd hch ho hch2 hv'
  refine L hs rfl rfl hr fun a hs => ?_
  refine L hs rfl rfl (x_nil hs rfl rfl) fun a hs => ?_
  refine L hs rfl rfl (x_fa hs rfl rfl K.e0) fun a hs => ?_
  refine Ls hs rfl rfl (x_st hs rfl rfl rfl K.nl (by rcases ho.2 with ⟨rfl, _⟩ | ⟨g, cap, cur, rfl, _⟩ <;> rfl) (by rcases ho.2 with ⟨rfl, _⟩ | ⟨g, cap, cur, rfl, _⟩ <;> rfl) ht2 (by simp [eyeCells]) (by simp)) fun hs => ?_
  obtain ⟨tt1, ht1⟩ := hpost.eye.cell
  refine Le (nw_seq (nw_seq (nw_region ?_)))
  refine L hs rfl rfl (x_mv hs (.inl rfl) rfl) fun a hs => ?_
  refine L hs rfl rfl (x_nil hs rfl rfl) fun a hs => ?_
  refine L hs rfl rfl (x_fa hs rfl rfl K.e4) fun a hs => ?_
  refine L hs rfl rfl (x_ld hs rfl rfl K.b ht1 (v := .bool room) rfl) fun a hs => ?_
  have rest : ∀ a, SL 46 [(0, Ptr be 0), (1, .slice a0 M cap), (2, .func (.func one) #[] #[])] a → NW P
      (.seq (rg [p1 6 (.assign (ci 0))])
        (.block 0 (.loop (.seq (.seq (rg (allHead y LT)) (.cond (t 37) .skip (.exit 0)))
          (.seq (.block 1 (rg [p1 40 (.move (t 2)), p1 41 (.move (t 0)), p1 42 (.move (t 1)), p1 43 (.move (t 6)), p1 44 (.indexAddr LT (t 42) (t 43)), p1 45 (.call ⟨.value (t 40), #[t 41, t 44], #[]⟩)]))
            (rg [p1 38 (.move (t 6)), p1 39 (.binOp .add y.I (t 38) (ci 1) y.I), p1 6 (.assign (t 39))]))))))
      (fin P [] (Out y mark room 1 true (fun a b => See D room c (.iter one sz a0 0 M) { a with n := a.n ++ [(len : Int)] } b) w be vn vs ey c)) a (w2.setRow be (eyeCells v' vs ey.at' mark room)) := by
    intro a hs
    refine nw_seq (nw_region ?_)
    refine L hs rfl rfl (x_mv hs (.inr rfl) rfl) fun a hs => ?_
    refine Le (nw_block (nw_loop (fun m a w1 => ∃ (i : Nat) (vn1 vs1 : Value) (e1 : Eye) (c1 : Cont) (K1 : Nat) (h1 : Bool), SL 46 [(0, Ptr be 0), (1, .slice a0 M cap), (2, .func (.func one) #[] #[]), (6, .int .i64 (i : Int))] a ∧ i + m = M ∧
      Post y mark room K1 h1 (fun a b => ∀ z, See D room c (.iter one sz a0 i M) b z → See D room c (.iter one sz a0 0 M) { a with n := a.n ++ [(len : Int)] } z) w be vn vs ey c w1 vn1 vs1 e1 c1 ∧
      Rd (ey.n.length + 1) ey.s.length e1.n.length e1.s.length i) M ?_ ?_))
    · refine ⟨0, _, _, _, _, _, _, hs.keep [0, 1, 2, 6], by omega, hpost.S fun _ h z hz => (by rw [h] at hz; exact hz), ?_⟩
      simp only [List.length_append, List.length_cons, List.length_nil]
      exact .zero _ _
    · rintro m a w1 ⟨i, vn1, vs1, e1, c1, K1, h1, hs, him, hP, hR⟩
      obtain ⟨tt2, ht2⟩ := hP.eye.cell
      refine nw_seq (nw_seq (nw_region ?_))
      refine L hs rfl rfl (x_mv hs (.inl rfl) rfl) fun a hs => ?_
      refine L hs rfl rfl (x_mv hs (.inl rfl) rfl) fun a hs => ?_
      refine L hs rfl rfl (x_len hs rfl rfl hL) fun a hs => ?_
      refine L hs rfl rfl (x_cmp hs rfl rfl rfl rfl) fun a hs => ?_
      refine L hs rfl rfl (x_mv hs (.inl rfl) rfl) fun a hs => ?_
      have stop : ∀ a, SL 46 [(0, Ptr be 0)] a → ¬ (i < M ∧ e1.n.length < 200000) → fin P [] (Out y mark room 1 true (fun a b => See D room c (.iter one sz a0 0 M) { a with n := a.n ++ [(len : Int)] } b) w be vn vs ey c) .normal a w1 := by
        intro a hs hno
        refine fin0 hs ⟨rfl, _, _, _, _, (hP.S fun _ h => h _ (.stop _ _ _ _ _ _ hno)).regr (hR.all (by omega))⟩
      by_cases hiM : i < M
      · have hdec : decide ((i : Int) < (M : Int)) = true := decide_eq_true (by omega)
        rw [hdec] at hs
        refine L hs (by rw [wg hs rfl rfl rfl rfl]; rfl) rfl (x_mv hs (.inl rfl) rfl) fun a hs => ?_
        refine L hs (by rw [wg hs rfl rfl rfl rfl]; rfl) rfl (x_nil hs rfl rfl) fun a hs => ?_
        refine L hs (by rw [wg hs rfl rfl rfl rfl]; rfl) rfl (x_fa hs rfl rfl K.e0) fun a hs => ?_
        refine L hs (by rw [wg hs rfl rfl rfl rfl]; rfl) rfl (x_ld hs rfl rfl K.nl ht2 (v := vn1) rfl) fun a hs => ?_
        obtain ⟨pv, cv, hvn⟩ : ∃ pv cv, vn1 = .slice pv e1.n.length cv := by
          rcases hP.eye.n.2 with ⟨h1, h2⟩ | ⟨g, cap, cur, h1, _⟩
          · exact ⟨none, 0, by rw [h1, h2]⟩
          · exact ⟨_, _, h1⟩
        refine L hs (by rw [wg hs rfl rfl rfl rfl]; rfl) rfl (x_len hs rfl (by rw [← hvn]; rfl) K.nlU) fun a hs => ?_
        refine L hs (by rw [wg hs rfl rfl rfl rfl]; rfl) rfl (x_cmp hs rfl rfl rfl rfl) fun a hs => ?_
        refine L hs rfl rfl (x_pick (b := true) hs rfl rfl (fun _ => rfl) (fun h => by cases h)) fun a hs => ?_
        refine Le (nw_cond (t := decide ((e1.n.length : Int) < 200000)) (hs.ev rfl) (fun hlt => nw_skip ?_) fun hlt => nw_exit ?_)
        · have hlt := of_decide_eq_true hlt
          have hlt' : e1.n.length < 200000 := by omega
          rcases hpl with ⟨_, h0⟩ | ⟨b, o, rfl, hpl⟩
          · omega
          refine nw_seq (nw_block (nw_region ?_))
          refine L hs rfl rfl (x_mv hs (.inl rfl) rfl) fun a hs => ?_
          refine L hs rfl rfl (x_mv hs (.inl rfl) rfl) fun a hs => ?_
          refine L hs rfl rfl (x_mv hs (.inl rfl) rfl) fun a hs => ?_
          refine L hs rfl rfl (x_mv hs (.inl rfl) rfl) fun a hs => ?_
          refine L hs rfl rfl (x_ix hs rfl rfl rfl hL hi (by omega) (by omega)) fun a hs => ?_
          have hix : o + ((i : Int)).toNat * inf.size = o + i * sz := by rw [hsz]; simp
          rw [hix] at hs
          have hcall := hC (by omega) w1 be b (o + i * sz) vn1 vs1 e1 c1 hP.eye hP.zn hP.dis (fun j k hj => (hpl i hiM j k hj).keq hP.keq) (hR.bd (m := 0) (by omega) hb hlt' h16)
          refine Lc hs rfl rfl rfl rfl rfl hok hcall fun v w3 a hO hs => ?_
          obtain ⟨_, vn2, vs2, e2, c2, hP2⟩ := hO
          refine Le (nw_region ?_)
          refine L hs rfl rfl (x_mv hs (.inl rfl) rfl) fun a hs => ?_
          refine L hs rfl rfl (x_arith hs rfl rfl rfl rfl) fun a hs => ?_
          refine L hs rfl rfl (x_mv hs (.inr rfl) rfl) fun a hs => ?_
          have hw : IntKind.wrap .i64 ((i : Int) + 1) = ((i + 1 : Nat) : Int) := by rw [wrap_ok (by omega) (by omega)]; omega
          have hs' := hs.keep [0, 1, 2, 6]
          rw [hw] at hs'
          refine Le ⟨m - 1, by omega, i + 1, vn2, vs2, e2, c2, _, _, hs', by omega, hP.trans hP2 fun hm h1 h2 z hz => ?_, hR.next hP2.gr hlt' h16 h1n⟩
          have hcc := (hP.same hm).1
          subst hcc
          exact h1 z (.step _ _ _ _ _ _ _ _ _ hiM hlt' h2 hz)
        · have hlt := of_decide_eq_false hlt
          exact stop _ (hs.keep [0]) (by omega)
      · have hdec : decide ((i : Int) < (M : Int)) = false := decide_eq_false (by omega)
        rw [hdec] at hs
        refine Lu hs (by rw [wg hs rfl rfl rfl rfl]; rfl) rfl fun a hs => ?_
        refine Lu hs (by rw [wg hs rfl rfl rfl rfl]; rfl) rfl fun a hs => ?_
        refine Lu hs (by rw [wg hs rfl rfl rfl rfl]; rfl) rfl fun a hs => ?_
        refine Lu hs (by rw [wg hs rfl rfl rfl rfl]; rfl) rfl fun a hs => ?_
        refine Lu hs (by rw [wg hs rfl rfl rfl rfl]; rfl) rfl fun a hs => ?_
        refine Lu hs (by rw [wg hs rfl rfl rfl rfl]; rfl) rfl fun a hs => ?_
        refine L hs rfl rfl (x_pick (b := false) hs rfl rfl (fun h => by cases h) (fun _ => rfl)) fun a hs => ?_
        refine Le (nw_cond (t := false) (hs.ev rfl) (fun h => by cases h) fun _ => nw_exit ?_)
        exact stop _ (hs.keep [0]) (by omega)
  refine Le (nw_cond (t := room) (hs.ev rfl) (fun hr => nw_region ?_) fun hr => nw_skip ?_)
  · refine L hs rfl rfl (x_mv hs (.inl rfl) rfl) fun a hs => ?_
    refine L hs rfl rfl (x_mv hs (.inl rfl) rfl) fun a hs => ?_
    refine L hs rfl rfl (x_cap hs rfl rfl hL) fun a hs => ?_
    refine L hs rfl rfl (x_room hs rfl rfl rfl hL hi fun p hp => by
      rcases hpl with ⟨h0, _⟩ | ⟨b, o, h0, _⟩
      · rw [h0 hr] at hp; cases hp
      · rw [h0] at hp; cases hp; exact ⟨b, o, rfl⟩) fun a hs => ?_
    refine L hs rfl rfl (x_mv hs (.inr rfl) rfl) fun a hs => ?_
    refine Le (rest _ ?_)
    rw [hM, hr]; exact hs.keep [0, 1, 2]
  · refine rest _ ?_
    rw [hM, hr]; exact hs.keep [0, 1, 2]
theorem see_ok {P : Program} {y : TY} (K : Kit P y) {D : TabD} {mark room wr : Bool} (hD : TabOk P y D) (hmw : mark = true → wr = true) :
    ∀ (d rk : Nat) (f : FuncId) (r : Row), lk D f = some r → r.rank ≤ rk → SeeC P y D mark room wr d f r := by
  intro d
  induction d using Nat.strongRecOn with
  | _ d ihd =>
    intro rk
    induction rk using Nat.strongRecOn with
    | _ rk ihr =>
      intro f r hf hrk w be pb po vn vs e c hE hz hd hpl hb
      have hfit := hD f r hf
      unfold Fit at hfit
      split at hfit
      · rename_i T hds
        obtain ⟨h1, ⟨z, h2⟩, h3, h4⟩ := hfit
        rw [h3, h4]
        rw [h3] at hb
        refine (num_ok K h1 h2 hE hz hd (by have := hpl 0 (.int .i64) (by rw [h3]; rfl); simpa using this) hmw hb).mono ?_
        rintro v w' ⟨hv, vn', vs', e', c', hP⟩
        exact ⟨hv, vn', vs', e', c', hP.S fun _ ⟨x, hx, he⟩ => by rw [he]; exact .num _ _ _ _ r T x hf hds hx⟩
      · rename_i hds
        obtain ⟨h1, h3, h4⟩ := hfit
        rw [h3, h4]
        rw [h3] at hb
        refine (yes_ok K h1 hE hz hd (by have := hpl 0 .bool (by rw [h3]; rfl); simpa using this) hb).mono ?_
        rintro v w' ⟨hv, vn', vs', e', c', hP⟩
        exact ⟨hv, vn', vs', e', c', hP.S fun _ ⟨x, hx, he⟩ => by rw [he]; exact .yes _ _ _ _ r x hf hds hx⟩
      · rename_i hds
        obtain ⟨h1, h3, h4⟩ := hfit
        rw [h3, h4]
        rw [h3] at hb
        refine (str_ok K h1 hE hz hd (by have := hpl 0 .str (by rw [h3]; rfl); simpa using this) hmw hb).mono ?_
        rintro v w' ⟨hv, vn', vs', e', c', hP⟩
        exact ⟨hv, vn', vs', e', c', hP.S fun _ ⟨x, hx, he⟩ => by rw [he]; exact .str _ _ _ _ r x hf hds hx⟩
      · rename_i T parts hds
        obtain ⟨h1, h2⟩ := hfit
        refine ret_of h1 ?_
        have hs := SL.init (n := 4 + 5 * parts.length) [Ptr be 0, Ptr pb po] (Nat.ble_eq_true_of_le (by simp; omega))
        refine parts_ok hD (fun g rg hg hlt => ihr rg.rank (by omega) g rg hg (Nat.le_refl _)) parts 4 _ _ h2 _ w vn vs e c _ _ hE hz hd hpl hb hs rfl rfl (Nat.le_refl _) (Nat.le_refl _) ?_
        intro a' w' vn' vs' e' c' sl' hs' hP
        exact fin0 hs' ⟨rfl, vn', vs', e', c', hP.S fun _ h => .st _ _ _ _ _ r T parts hf hds h⟩
      · rename_i LT al one te sz hds
        obtain ⟨h1, h2, hL, ⟨inf, hi, hsz⟩, hLn, h3, h4, hok, r1, hr1, hck, hlen, h16, h1n⟩ := hfit
        rw [h3, h4]
        rw [h3] at hb
        obtain ⟨cs, bt, fz, v, hpb, hpo, hv, hfz, _⟩ := hpl 0 (.sl te) (by rw [h3]; rfl)
        rw [Nat.add_zero] at hpo
        have hcase : ∃ a0 len cap d', v = .slice a0 len cap ∧ (if room then cap else len) ≤ 2097154 ∧ (0 < (if room then cap else len) → SeeC P y D mark room wr d' one r1) ∧
            (((room = true → a0 = none) ∧ (if room then cap else len) = 0) ∨ ∃ b o, a0 = some ⟨b, o, none⟩ ∧ ∀ i, i < (if room then cap else len) → ∀ (j : Nat) (k : CK), r1.ck[j]? = some k → Pl P wr room c d' b (o + i * sz + j) k) := by
          cases hv with
          | nil _ _ b0 cap0 h0 =>
            have hz0 : (if room = true then cap0 else 0) = 0 := by
              cases room with
              | true => rw [(h0 rfl).2]; rfl
              | false => rfl
            exact ⟨b0, 0, cap0, d, rfl, by rw [hz0]; omega, fun h => by rw [hz0] at h; omega, .inl ⟨fun h => (h0 h).1, hz0⟩⟩
          | sl d' _ b o len cap cs2 t2 fz2 g hb2 hf2 hle hl hm hc hbl hw =>
            refine ⟨some ⟨b, o, none⟩, len, cap, d', rfl, ?_, fun _ => ihd d' (Nat.lt_succ_self _) _ one r1 hr1 (Nat.le_refl _), .inr ⟨b, o, rfl, ?_⟩⟩
            · unfold mostLen at hl
              cases room with
              | true => have := hm rfl; simp; omega
              | false => simp; omega
            · intro i hi2 j k hj
              rw [hck] at hj
              have hl2 : (cks P te).length = sz := by rw [← hck]; exact hlen
              refine ⟨cs2, t2, fz2, g i j, hb2, ?_, hw i hi2 j k hj, hf2, fun hk => ?_⟩
              · have := hc i hi2 j k hj; rwa [hl2] at this
              · subst hk; have := hbl i hi2 j hj; rwa [hl2] at this
        obtain ⟨a0, len, cap, d', rfl, hml, hC, hel⟩ := hcase
        refine ret_of h1 ?_
        have hs := SL.init (n := 9) [Ptr be 0, Ptr pb po] rfl
        revert hs
        generalize ({ tmps := _, defers := [] } : Act) = a
        intro hs
        refine nw_region ?_
        refine L hs rfl rfl (x_mv hs (.inl rfl) rfl) fun a hs => ?_
        refine L hs rfl rfl (x_mv hs (.inl rfl) rfl) fun a hs => ?_
        refine L hs rfl rfl (x_nil hs rfl rfl) fun a hs => ?_
        refine L hs rfl rfl (x_ld hs rfl rfl hLn (hz pb _ hpb) hpo) fun a hs => ?_
        have hcall := all_ok K h2 hL hi hsz hok hC (by omega) (fun h => by rw [hlen]; exact h1n h) rfl hml hE hz hd hel hb
        refine Lc hs rfl rfl rfl rfl rfl h2.ok hcall fun v w3 a hO hs => ?_
        obtain ⟨_, vn', vs', e', c', hP⟩ := hO
        exact Le (fin0 hs ⟨rfl, vn', vs', e', c', hP.S fun _ h => .via _ _ _ _ _ r LT al one te sz a0 len cap hf hds (by simp only [pl, hpb]; exact hpo) h⟩)
end Go.TL.H
namespace Go.TL.H
open Go
structure Lists (y : TY) (w : World) (vn vs : Value) (n : List Int) (s : List ByteArray) : Prop where
  n : w.ownsRow 0 y.I 1 vn n.length (n.map (Value.int .i64))
  s : w.ownsRow 0 y.S 1 vs s.length (s.map Value.string)
theorem Lists.keep {y : TY} {w w' : World} {vn vs : Value} {n : List Int} {s : List ByteArray} (h : Lists y w vn vs n s) (hc : Ch (fun _ => False) w w') : Lists y w' vn vs n s :=
  ⟨hc.ownsRow h.n fun _ _ h => h, hc.ownsRow h.s fun _ _ h => h⟩
theorem EyeAt.lists {y : TY} {w : World} {be : Nat} {vn vs : Value} {e : Eye} {m r : Bool} (h : EyeAt y w be vn vs e m r) : Lists y w vn vs e.n e.s := ⟨h.n, h.s⟩
theorem own_len {w : World} {T n : Nat} {v : Value} {xs : List Value} (h : w.ownsRow 0 T 1 v n xs) : ∃ p c, v = .slice p n c := by
  rcases h.2 with ⟨h1, h2⟩ | ⟨g, cap, cur, h1, _⟩
  · exact ⟨none, 0, by rw [h1, h2]⟩
  · exact ⟨_, _, h1⟩
theorem own_get {w : World} {T n i : Nat} {v : Value} {xs : List Value} (h : w.ownsRow 0 T 1 v n xs) (hi : i < n) : ∃ g cap cur, v = .slice (some ⟨g, 0, none⟩) n cap ∧ w.heap[g]? = some (.cells cur T (0, 0)) ∧ cur[i]? = xs[i]? := by
  rcases h.2 with ⟨_, h2⟩ | ⟨g, cap, cur, h1, _, h3, _, _, _, h4⟩
  · omega
  · refine ⟨g, cap, cur, h1, h3, ?_⟩
    rw [← h4]
    rw [List.getElem?_take, if_pos (by omega)]
    simp
theorem x_ixl {P : Program} {o : Oper} {n : Nat} {sl : Slots} {a : Act} {w : World} {x ix : Operand} {LT e : TypeId} {z : Value} {g m c i : Nat} (h : SL n sl a) (ho : o.op = .indexAddr LT x ix) (ex : ev sl x = some (.slice (some ⟨g, 0, none⟩) m c)) (ei : ev sl ix = some (.int .i64 (i : Int)))
    (ht : P.underlying LT = some (.slice e)) (hT : One P e z) (h1 : i < m) : (execOp a.eval o).run P w = .ok (.value (Ptr g i)) w := by
  obtain ⟨inf, hi, _, hsz, _⟩ := hT.is
  have := x_ix (P := P) (w := w) h ho ex ei ht hi (by omega) (by omega)
  rw [this, hsz]
  simp
theorem ch_drew {w w1 : World} (h : Ch (fun _ => False) w w1) : Ch (fun _ => False) w { w1 with drawn := w1.drawn + 1 } := h.trans (Ch.drew _ _)
def retB (b : Bool) (k : Nat) : Code := .seq (rg [p1 k (.assign (.const (.bool b)))]) .ret
theorem retB_ok {P : Program} {n k : Nat} {sl : Slots} {a : Act} {w : World} {b : Bool} {Q : Exit → Act → World → Prop} (hs : SL n sl a) (hk : dok n (some k) = true) (kk : ∀ a', SL n [(k, .bool b)] a' → Q .ret a' w) : NW P (retB b k) Q a w := by
  refine nw_seq (nw_region ?_)
  refine L hs rfl hk (x_mv hs (.inr rfl) rfl) fun a hs => Le (nw_ret (kk _ ⟨hs.size, hs.defers, fun t v ht => ?_⟩))
  refine hs.slots t v ?_
  simp only [lk] at ht ⊢
  simp only [putl, lk]
  cases hb : Nat.beq k t with
  | true => simp only [hb] at ht; exact ht
  | false => simp [hb] at ht
theorem finV {P : Program} {n k : Nat} {sl : Slots} {a : Act} {w : World} {v : Value} {R : Value → World → Prop} (h : SL n sl a) (hv : lk sl k = some v) (hR : R v w) : fin P [.tmp k] R .ret a w :=
  ⟨h.defers, v, ⟨[v], by simp [runRes, h.slots k v hv], rfl⟩, hR⟩
def sameHead (y : TY) : List Oper :=
  [p1 7 (.fieldAddr y.E (t 2) 0), p1 8 (.load y.NL (t 7)), pt 9 (lenC (t 8) y.NL) y.I, p1 10 (.fieldAddr y.E (t 3) 0), p1 11 (.load y.NL (t 10)), pt 12 (lenC (t 11) y.NL) y.I, p1 13 (.binOp .neq y.I (t 9) (t 12) y.I), p1 14 (.move (t 13)),
   pg 15 (.fieldAddr y.E (t 2) 1) 0 7 false, pg 16 (.load y.SS (t 15)) 0 7 false, pg 17 (lenC (t 16) y.SS) y.I 7 false, pg 18 (.fieldAddr y.E (t 3) 1) 0 7 false, pg 19 (.load y.SS (t 18)) 0 7 false, pg 20 (lenC (t 19) y.SS) y.I 7 false,
   pg 21 (.binOp .neq y.I (t 17) (t 20) y.I) 0 7 false, p1 22 (.pick (t 14) (.const (.bool true)) (t 21))]
def sameLoop (y : TY) (i k f : Nat) (LT T : TypeId) (id : Nat) : Code :=
  .seq (rg [p1 i (.assign (ci 0))])
    (.block id (.loop (.seq (.seq (rg [p1 k (.move (t i)), p1 (k + 1) (.fieldAddr y.E (t 2) f), p1 (k + 2) (.load LT (t (k + 1))), pt (k + 3) (lenC (t (k + 2)) LT) y.I, p1 (k + 4) (.binOp .lss y.I (t k) (t (k + 3)) y.I)]) (.cond (t (k + 4)) .skip (.exit id)))
      (.seq (.block (id + 1) (.seq (rd [q1 (k + 7) (.fieldAddr y.E (t 2) f) [], q1 (k + 8) (.load LT (t (k + 7))) [eD 0], q1 (k + 9) (.move (t i)) [], q1 (k + 10) (.indexAddr LT (t (k + 8)) (t (k + 9))) [eD 1, eD 2], q1 (k + 11) (.load T (t (k + 10))) [eD 3],
          q1 (k + 12) (.fieldAddr y.E (t 3) f) [], q1 (k + 13) (.load LT (t (k + 12))) [eD 5], q1 (k + 14) (.move (t i)) [], q1 (k + 15) (.indexAddr LT (t (k + 13)) (t (k + 14))) [eD 6, eD 7], q1 (k + 16) (.load T (t (k + 15))) [eD 8], q1 (k + 17) (.binOp .neq T (t (k + 11)) (t (k + 16)) T) [eD 4, eD 9]])
          (.cond (t (k + 17)) (retB false 4) .skip)))
        (rg [p1 (k + 5) (.move (t i)), p1 (k + 6) (.binOp .add y.I (t (k + 5)) (ci 1) y.I), p1 i (.assign (t (k + 6)))])))))
def sameC (y : TY) : Code :=
  .seq (rg [p1 2 (.box y.E (t 0)), p1 3 (.box y.E (t 1)), p1 4 (.assign (.const (.bool false)))])
    (.seq (.seq (rg (sameHead y)) (.cond (t 22) (retB false 4) .skip))
      (.seq (sameLoop y 5 23 0 y.NL y.I 0) (.seq (sameLoop y 6 41 1 y.SS y.S 2) (retB true 4))))
theorem sameLoop_ok {P : Program} {y : TY} (K : Kit P y) {i k f : Nat} {LT TT : TypeId} {id : Nat} {z : Value} {w0 : World} {b1 b2 len : Nat} {c1 c2 : Array Value} {t1 t2 : TypeId} {v1 v2 : Value} {xs : List Value}
    (hik : (i = 5 ∧ k = 23 ∧ f = 0 ∧ id = 0) ∨ (i = 6 ∧ k = 41 ∧ f = 1 ∧ id = 2)) (hf : fieldOff P y.E f = some (f, 1)) (hLT : P.underlying LT = some (.slice TT)) (hL1 : One P LT nilS) (hT : One P TT z) (hlen : len ≤ 4611686018427387904)
    (hb1 : w0.heap[b1]? = some (.cells c1 t1 (0, 0))) (hb2 : w0.heap[b2]? = some (.cells c2 t2 (0, 0))) (hc1 : c1[f]? = some v1) (hc2 : c2[f]? = some v2) (ho1 : w0.ownsRow 0 TT 1 v1 len xs) (ho2 : w0.ownsRow 0 TT 1 v2 len xs)
    (heq : ∀ (w : World) (a : Act) (o : Oper) (sl : Slots) (x y' : Operand) (v : Value), SL 59 sl a → o.op = .binOp .neq TT x y' TT → ev sl x = some v → ev sl y' = some v → v ∈ xs → (execOp a.eval o).run P w = .ok (.value (.bool false)) w)
    {Q : Exit → Act → World → Prop} {a : Act} {w : World} (hs : SL 59 [(2, Ptr b1 0), (3, Ptr b2 0)] a) (hw : Ch (fun _ => False) w0 w)
    (kk : ∀ a' w', SL 59 [(2, Ptr b1 0), (3, Ptr b2 0)] a' → Ch (fun _ => False) w0 w' → Q .normal a' w') : NW P (sameLoop y i k f LT TT id) Q a w := by
  have main : ∀ (i k id : Nat), (i = 5 ∧ k = 23 ∧ id = 0) ∨ (i = 6 ∧ k = 41 ∧ id = 2) → NW P (sameLoop y i k f LT TT id) Q a w := by
    intro i k id hik
    rcases hik with ⟨rfl, rfl, rfl⟩ | ⟨rfl, rfl, rfl⟩
    all_goals
      refine nw_seq (nw_region ?_)
      refine L hs rfl rfl (x_mv hs (.inr rfl) rfl) fun a hs => ?_
    · refine Le (nw_block (nw_loop (fun m a w1 => ∃ (j : Nat), SL 59 [(2, Ptr b1 0), (3, Ptr b2 0), (5, .int .i64 (j : Int))] a ∧ j + m = len ∧ Ch (fun _ => False) w0 w1) len ⟨0, hs.keep [2, 3, 5], by omega, hw⟩ ?_))
      rintro m a w1 ⟨j, hs, hj, hw1⟩
      obtain ⟨p, c, hv⟩ := own_len ho1
      refine nw_seq (nw_seq (nw_region ?_))
      refine L hs rfl rfl (x_mv hs (.inl rfl) rfl) fun a hs => ?_
      refine L hs rfl rfl (x_fa hs rfl rfl hf) fun a hs => ?_
      refine L hs rfl rfl (x_ld hs rfl rfl hL1 (hw1.at hb1 fun h => h) (by rw [Nat.zero_add]; exact hc1)) fun a hs => ?_
      refine L hs rfl rfl (x_len hs rfl (by rw [← hv]; rfl) hLT) fun a hs => ?_
      refine L hs rfl rfl (x_cmp hs rfl rfl rfl rfl) fun a hs => ?_
      refine Le (nw_cond (t := decide ((j : Int) < (len : Int))) (hs.ev rfl) (fun hlt => nw_skip ?_) fun hlt => nw_exit ?_)
      · have hlt := of_decide_eq_true hlt
        have hjl : j < len := by omega
        obtain ⟨g1, cap1, cur1, e1, h1, q1⟩ := own_get ho1 hjl
        obtain ⟨g2, cap2, cur2, e2, h2, q2⟩ := own_get ho2 hjl
        have hxl : xs.length = len := by have := ho1.1; omega
        have hx : xs[j]? = some xs[j] := by simp
        have hw2 := ch_drew hw1
        refine nw_seq (nw_block (nw_seq (nw_still K.mixed (by kernel_rfl) ?_)))
        refine T hs rfl rfl (x_fa hs rfl rfl hf) fun a hs => ?_
        refine T hs rfl rfl (x_ld hs rfl rfl hL1 (hw2.at hb1 fun h => h) (by rw [Nat.zero_add]; exact hc1)) fun a hs => ?_
        refine T hs rfl rfl (x_mv hs (.inl rfl) rfl) fun a hs => ?_
        refine T hs rfl rfl (x_ixl hs rfl (by rw [← e1]; rfl) rfl hLT hT hjl) fun a hs => ?_
        refine T hs rfl rfl (x_ld hs rfl rfl hT (hw2.at h1 fun h => h) (q1.trans hx)) fun a hs => ?_
        refine T hs rfl rfl (x_fa hs rfl rfl hf) fun a hs => ?_
        refine T hs rfl rfl (x_ld hs rfl rfl hL1 (hw2.at hb2 fun h => h) (by rw [Nat.zero_add]; exact hc2)) fun a hs => ?_
        refine T hs rfl rfl (x_mv hs (.inl rfl) rfl) fun a hs => ?_
        refine T hs rfl rfl (x_ixl hs rfl (by rw [← e2]; rfl) rfl hLT hT hjl) fun a hs => ?_
        refine T hs rfl rfl (x_ld hs rfl rfl hT (hw2.at h2 fun h => h) (q2.trans hx)) fun a hs => ?_
        refine T hs rfl rfl (heq _ _ _ _ _ _ _ hs rfl rfl rfl (List.getElem_mem _)) fun a hs => ?_
        refine Te (nw_cond (t := false) (hs.ev rfl) (fun h => by cases h) fun _ => nw_skip (nw_region ?_))
        refine L hs rfl rfl (x_mv hs (.inl rfl) rfl) fun a hs => ?_
        refine L hs rfl rfl (x_arith hs rfl rfl rfl rfl) fun a hs => ?_
        refine L hs rfl rfl (x_mv hs (.inr rfl) rfl) fun a hs => ?_
        have hwj : IntKind.wrap .i64 ((j : Int) + 1) = ((j + 1 : Nat) : Int) := by rw [wrap_ok (by omega) (by omega)]; omega
        have hs' := hs.keep [2, 3, 5]
        rw [hwj] at hs'
        exact Le ⟨m - 1, by omega, j + 1, hs', by omega, hw2⟩
      · exact kk _ _ (hs.keep [2, 3]) hw1
    · refine Le (nw_block (nw_loop (fun m a w1 => ∃ (j : Nat), SL 59 [(2, Ptr b1 0), (3, Ptr b2 0), (6, .int .i64 (j : Int))] a ∧ j + m = len ∧ Ch (fun _ => False) w0 w1) len ⟨0, hs.keep [2, 3, 6], by omega, hw⟩ ?_))
      rintro m a w1 ⟨j, hs, hj, hw1⟩
      obtain ⟨p, c, hv⟩ := own_len ho1
      refine nw_seq (nw_seq (nw_region ?_))
      refine L hs rfl rfl (x_mv hs (.inl rfl) rfl) fun a hs => ?_
      refine L hs rfl rfl (x_fa hs rfl rfl hf) fun a hs => ?_
      refine L hs rfl rfl (x_ld hs rfl rfl hL1 (hw1.at hb1 fun h => h) (by rw [Nat.zero_add]; exact hc1)) fun a hs => ?_
      refine L hs rfl rfl (x_len hs rfl (by rw [← hv]; rfl) hLT) fun a hs => ?_
      refine L hs rfl rfl (x_cmp hs rfl rfl rfl rfl) fun a hs => ?_
      refine Le (nw_cond (t := decide ((j : Int) < (len : Int))) (hs.ev rfl) (fun hlt => nw_skip ?_) fun hlt => nw_exit ?_)
      · have hlt := of_decide_eq_true hlt
        have hjl : j < len := by omega
        obtain ⟨g1, cap1, cur1, e1, h1, q1⟩ := own_get ho1 hjl
        obtain ⟨g2, cap2, cur2, e2, h2, q2⟩ := own_get ho2 hjl
        have hxl : xs.length = len := by have := ho1.1; omega
        have hx : xs[j]? = some xs[j] := by simp
        have hw2 := ch_drew hw1
        refine nw_seq (nw_block (nw_seq (nw_still K.mixed (by kernel_rfl) ?_)))
        refine T hs rfl rfl (x_fa hs rfl rfl hf) fun a hs => ?_
        refine T hs rfl rfl (x_ld hs rfl rfl hL1 (hw2.at hb1 fun h => h) (by rw [Nat.zero_add]; exact hc1)) fun a hs => ?_
        refine T hs rfl rfl (x_mv hs (.inl rfl) rfl) fun a hs => ?_
        refine T hs rfl rfl (x_ixl hs rfl (by rw [← e1]; rfl) rfl hLT hT hjl) fun a hs => ?_
        refine T hs rfl rfl (x_ld hs rfl rfl hT (hw2.at h1 fun h => h) (q1.trans hx)) fun a hs => ?_
        refine T hs rfl rfl (x_fa hs rfl rfl hf) fun a hs => ?_
        refine T hs rfl rfl (x_ld hs rfl rfl hL1 (hw2.at hb2 fun h => h) (by rw [Nat.zero_add]; exact hc2)) fun a hs => ?_
        refine T hs rfl rfl (x_mv hs (.inl rfl) rfl) fun a hs => ?_
        refine T hs rfl rfl (x_ixl hs rfl (by rw [← e2]; rfl) rfl hLT hT hjl) fun a hs => ?_
        refine T hs rfl rfl (x_ld hs rfl rfl hT (hw2.at h2 fun h => h) (q2.trans hx)) fun a hs => ?_
        refine T hs rfl rfl (heq _ _ _ _ _ _ _ hs rfl rfl rfl (List.getElem_mem _)) fun a hs => ?_
        refine Te (nw_cond (t := false) (hs.ev rfl) (fun h => by cases h) fun _ => nw_skip (nw_region ?_))
        refine L hs rfl rfl (x_mv hs (.inl rfl) rfl) fun a hs => ?_
        refine L hs rfl rfl (x_arith hs rfl rfl rfl rfl) fun a hs => ?_
        refine L hs rfl rfl (x_mv hs (.inr rfl) rfl) fun a hs => ?_
        have hwj : IntKind.wrap .i64 ((j : Int) + 1) = ((j + 1 : Nat) : Int) := by rw [wrap_ok (by omega) (by omega)]; omega
        have hs' := hs.keep [2, 3, 6]
        rw [hwj] at hs'
        exact Le ⟨m - 1, by omega, j + 1, hs', by omega, hw2⟩
      · exact kk _ _ (hs.keep [2, 3]) hw1
  rcases hik with ⟨rfl, rfl, _, rfl⟩ | ⟨rfl, rfl, _, rfl⟩
  · exact main _ _ _ (.inl ⟨rfl, rfl, rfl⟩)
  · exact main _ _ _ (.inr ⟨rfl, rfl, rfl⟩)
theorem same_ok {P : Program} {y : TY} (K : Kit P y) {f : FuncId} (hB : Body P f 59 [.tmp 4] (sameC y)) {w : World} {vn vs vn2 vs2 : Value} {a1 a2 : Int} {m1 m2 r1 r2 : Bool} {n : List Int} {s : List ByteArray} (h1 : Lists y w vn vs n s) (h2 : Lists y w vn2 vs2 n s)
    (hn : n.length ≤ 4611686018427387904) (hsl : s.length ≤ 4611686018427387904) :
    Ret P f [.agg (eyeCells vn vs a1 m1 r1), .agg (eyeCells vn2 vs2 a2 m2 r2)] w fun v w' => v = .bool true ∧ Ch (fun _ => False) w w' := by
  refine ret_of hB ?_
  have hs := SL.init (n := 59) [.agg (eyeCells vn vs a1 m1 r1), .agg (eyeCells vn2 vs2 a2 m2 r2)] rfl
  revert hs
  generalize ({ tmps := _, defers := [] } : Act) = a
  intro hs
  refine nw_seq (nw_region ?_)
  refine L hs rfl rfl (x_box hs rfl rfl) fun a hs => ?_
  refine L hs rfl rfl (x_box hs rfl rfl) fun a hs => ?_
  refine L hs rfl rfl (x_mv hs (.inr rfl) rfl) fun a hs => ?_
  have g1 := Ch.alloc (fun _ => False) w (.cells (eyeCells vn vs a1 m1 r1) y.E)
  have g2 := Ch.alloc (fun _ => False) (w.alloc (.cells (eyeCells vn vs a1 m1 r1) y.E)) (.cells (eyeCells vn2 vs2 a2 m2 r2) y.E)
  have hb1 := g2.at (heap_alloc_new w (.cells (eyeCells vn vs a1 m1 r1) y.E)) (fun h => h)
  have hb2 := heap_alloc_new (w.alloc (.cells (eyeCells vn vs a1 m1 r1) y.E)) (.cells (eyeCells vn2 vs2 a2 m2 r2) y.E)
  have g := g1.trans g2
  have k1 := h1.keep g
  have k2 := h2.keep g
  obtain ⟨p1, c1, e1⟩ := own_len k1.n
  obtain ⟨p2, c2, e2⟩ := own_len k2.n
  obtain ⟨p3, c3, e3⟩ := own_len k1.s
  obtain ⟨p4, c4, e4⟩ := own_len k2.s
  refine Le (nw_seq (nw_seq (nw_region ?_)))
  refine L hs rfl rfl (x_fa hs rfl rfl K.e0) fun a hs => ?_
  refine L hs rfl rfl (x_ld hs rfl rfl K.nl hb1 (v := vn) rfl) fun a hs => ?_
  refine L hs rfl rfl (x_len hs rfl (by rw [← e1]; rfl) K.nlU) fun a hs => ?_
  refine L hs rfl rfl (x_fa hs rfl rfl K.e0) fun a hs => ?_
  refine L hs rfl rfl (x_ld hs rfl rfl K.nl hb2 (v := vn2) rfl) fun a hs => ?_
  refine L hs rfl rfl (x_len hs rfl (by rw [← e2]; rfl) K.nlU) fun a hs => ?_
  refine L hs rfl rfl (x_cmp hs rfl rfl rfl rfl) fun a hs => ?_
  rw [show ((n.length : Int) != (n.length : Int)) = false by simp] at hs
  refine L hs rfl rfl (x_mv hs (.inl rfl) rfl) fun a hs => ?_
  refine L hs (by rw [wg hs rfl rfl rfl rfl]; rfl) rfl (x_fa hs rfl rfl K.e1) fun a hs => ?_
  refine L hs (by rw [wg hs rfl rfl rfl rfl]; rfl) rfl (x_ld hs rfl rfl K.ss hb1 (v := vs) rfl) fun a hs => ?_
  refine L hs (by rw [wg hs rfl rfl rfl rfl]; rfl) rfl (x_len hs rfl (by rw [← e3]; rfl) K.ssU) fun a hs => ?_
  refine L hs (by rw [wg hs rfl rfl rfl rfl]; rfl) rfl (x_fa hs rfl rfl K.e1) fun a hs => ?_
  refine L hs (by rw [wg hs rfl rfl rfl rfl]; rfl) rfl (x_ld hs rfl rfl K.ss hb2 (v := vs2) rfl) fun a hs => ?_
  refine L hs (by rw [wg hs rfl rfl rfl rfl]; rfl) rfl (x_len hs rfl (by rw [← e4]; rfl) K.ssU) fun a hs => ?_
  refine L hs (by rw [wg hs rfl rfl rfl rfl]; rfl) rfl (x_cmp hs rfl rfl rfl rfl) fun a hs => ?_
  rw [show ((s.length : Int) != (s.length : Int)) = false by simp] at hs
  refine L hs rfl rfl (x_pick (b := false) hs rfl rfl (fun h => by cases h) (fun _ => rfl)) fun a hs => ?_
  refine Le (nw_cond (t := false) (hs.ev rfl) (fun h => by cases h) fun _ => nw_skip (nw_seq ?_))
  refine sameLoop_ok K (.inl ⟨rfl, rfl, rfl, rfl⟩) K.e0 K.nlU K.nl K.i hn hb1 hb2 rfl rfl k1.n k2.n ?_ (hs.keep [2, 3]) (Ch.refl _ _) fun a w1 hs hw1 => ?_
  · intro w a o sl x y' v hs ho ex ey hm
    obtain ⟨i, _, rfl⟩ := List.mem_map.1 hm
    have := x_cmp (P := P) (w := w) (r := false) hs ho ex ey (by simp [icmp])
    exact this
  refine nw_seq (sameLoop_ok K (.inr ⟨rfl, rfl, rfl, rfl⟩) K.e1 K.ssU K.ss K.s hsl hb1 hb2 rfl rfl k1.s k2.s ?_ (hs.keep [2, 3]) hw1 fun a w2 hs hw2 => ?_)
  · intro w a o sl x y' v hs ho ex ey hm
    obtain ⟨i, _, rfl⟩ := List.mem_map.1 hm
    have := x_scmp (P := P) (w := w) (c := false) hs ho ex ey (by simp [scmp])
    exact this
  exact retB_ok hs rfl fun a' hs => finV hs rfl ⟨rfl, g.trans hw2⟩
def greatC (y : TY) : Code :=
  .seq (rg [p1 1 (.box y.E (t 0)), p1 2 (.assign (.const (.bool false)))])
    (.seq (rg [p1 3 (.assign (ci 0))])
      (.seq (.seq (rg [p1 4 (.assign (ci 0))])
        (.block 0 (.loop (.seq (.seq (rg [p1 5 (.move (t 4)), p1 6 (.fieldAddr y.E (t 1) 1), p1 7 (.load y.SS (t 6)), pt 8 (lenC (t 7) y.SS) y.I, p1 9 (.binOp .lss y.I (t 5) (t 8) y.I)]) (.cond (t 9) .skip (.exit 0)))
          (.seq (.block 1 (.seq (rg [p1 12 (.move (t 3)), p1 13 (.fieldAddr y.E (t 1) 1), p1 14 (.load y.SS (t 13)), p1 15 (.move (t 4)), p1 16 (.indexAddr y.SS (t 14) (t 15)), p1 17 (.load y.S (t 16)), pt 18 (lenC (t 17) y.S) y.I,
              pt 19 (.call ⟨.builtin .min, #[t 18, ci 3000], #[y.I, y.I]⟩) y.I, p1 20 (.binOp .add y.I (t 12) (t 19) y.I), p1 3 (.assign (t 20))])
              (.seq (rg [p1 21 (.move (t 3)), p1 22 (.binOp .gtr y.I (t 21) (ci 2000) y.I)]) (.cond (t 22) (retB true 2) .skip))))
            (rg [p1 10 (.move (t 4)), p1 11 (.binOp .add y.I (t 10) (ci 1) y.I), p1 4 (.assign (t 11))]))))))
        (.seq (rg [p1 23 (.fieldAddr y.E (t 1) 0), p1 24 (.load y.NL (t 23)), pt 25 (lenC (t 24) y.NL) y.I, p1 26 (.binOp .gtr y.I (t 25) (ci 2000) y.I), p1 2 (.assign (t 26))]) .ret)))
theorem great_ok {P : Program} {y : TY} (K : Kit P y) {f : FuncId} (hB : Body P f 27 [.tmp 2] (greatC y)) {w : World} {vn vs : Value} {a1 : Int} {m1 r1 : Bool} {n : List Int} {s : List ByteArray} (h1 : Lists y w vn vs n s) (hsl : s.length ≤ 4611686018427387904) :
    Ret P f [.agg (eyeCells vn vs a1 m1 r1)] w fun v w' => (∃ b : Bool, v = .bool b ∧ (b = false → n.length ≤ 2000)) ∧ Ch (fun _ => False) w w' := by
  refine ret_of hB ?_
  have hs := SL.init (n := 27) [.agg (eyeCells vn vs a1 m1 r1)] rfl
  revert hs
  generalize ({ tmps := _, defers := [] } : Act) = a
  intro hs
  refine nw_seq (nw_region ?_)
  refine L hs rfl rfl (x_box hs rfl rfl) fun a hs => ?_
  refine L hs rfl rfl (x_mv hs (.inr rfl) rfl) fun a hs => ?_
  have g := Ch.alloc (fun _ => False) w (.cells (eyeCells vn vs a1 m1 r1) y.E)
  have hb1 := heap_alloc_new w (.cells (eyeCells vn vs a1 m1 r1) y.E)
  have k1 := h1.keep g
  obtain ⟨q1, c1, e1⟩ := own_len k1.n
  obtain ⟨q3, c3, e3⟩ := own_len k1.s
  refine Le (nw_seq (nw_region ?_))
  refine L hs rfl rfl (x_mv hs (.inr rfl) rfl) fun a hs => ?_
  refine Le (nw_seq (nw_seq (nw_region ?_)))
  refine L hs rfl rfl (x_mv hs (.inr rfl) rfl) fun a hs => ?_
  refine Le (nw_block (nw_loop (fun m a w1 => ∃ (j : Nat) (q : Int), SL 27 [(1, Ptr w.heap.size 0), (3, .int .i64 q), (4, .int .i64 (j : Int))] a ∧ j + m = s.length ∧ 0 ≤ q ∧ q ≤ 2000 ∧ Ch (fun _ => False) (w.alloc (.cells (eyeCells vn vs a1 m1 r1) y.E)) w1) s.length
    ⟨0, 0, hs.keep [1, 3, 4], by omega, by omega, by omega, Ch.refl _ _⟩ ?_))
  rintro m a w1 ⟨j, q, hs, hj, hq0, hq1, hw1⟩
  refine nw_seq (nw_seq (nw_region ?_))
  refine L hs rfl rfl (x_mv hs (.inl rfl) rfl) fun a hs => ?_
  refine L hs rfl rfl (x_fa hs rfl rfl K.e1) fun a hs => ?_
  refine L hs rfl rfl (x_ld hs rfl rfl K.ss (hw1.at hb1 fun h => h) (v := vs) rfl) fun a hs => ?_
  refine L hs rfl rfl (x_len hs rfl (by rw [← e3]; rfl) K.ssU) fun a hs => ?_
  refine L hs rfl rfl (x_cmp hs rfl rfl rfl rfl) fun a hs => ?_
  refine Le (nw_cond (t := decide ((j : Int) < (s.length : Int))) (hs.ev rfl) (fun hlt => nw_skip ?_) fun hlt => nw_exit ?_)
  · have hlt := of_decide_eq_true hlt
    have hjl : j < s.length := by omega
    obtain ⟨g1, cap1, cur1, ee, hh, hc⟩ := own_get k1.s hjl
    have hx : cur1[j]? = some (.string s[j]) := by rw [hc]; simp
    refine nw_seq (nw_block (nw_seq (nw_region ?_)))
    refine L hs rfl rfl (x_mv hs (.inl rfl) rfl) fun a hs => ?_
    refine L hs rfl rfl (x_fa hs rfl rfl K.e1) fun a hs => ?_
    refine L hs rfl rfl (x_ld hs rfl rfl K.ss (hw1.at hb1 fun h => h) (v := vs) rfl) fun a hs => ?_
    refine L hs rfl rfl (x_mv hs (.inl rfl) rfl) fun a hs => ?_
    refine L hs rfl rfl (x_ixl hs rfl (by rw [← ee]; rfl) rfl K.ssU K.s hjl) fun a hs => ?_
    refine L hs rfl rfl (x_ld hs rfl rfl K.s (hw1.at hh fun h => h) hx) fun a hs => ?_
    refine L hs rfl rfl (x_lens hs rfl rfl K.sU) fun a hs => ?_
    refine L hs rfl rfl (x_min hs rfl rfl rfl) fun a hs => ?_
    have hmin : 0 ≤ (if (3000 : Int) < (s[j].size : Int) then (3000 : Int) else (s[j].size : Int)) ∧ (if (3000 : Int) < (s[j].size : Int) then (3000 : Int) else (s[j].size : Int)) ≤ 3000 := by split <;> omega
    generalize (if (3000 : Int) < (s[j].size : Int) then (3000 : Int) else (s[j].size : Int)) = u at *
    refine L hs rfl rfl (x_arith hs rfl rfl rfl rfl) fun a hs => ?_
    rw [wrap_ok (n := q + u) (by omega) (by omega)] at hs
    refine L hs rfl rfl (x_mv hs (.inr rfl) rfl) fun a hs => ?_
    refine Le (nw_seq (nw_region ?_))
    refine L hs rfl rfl (x_mv hs (.inl rfl) rfl) fun a hs => ?_
    refine L hs rfl rfl (x_cmp hs rfl rfl rfl rfl) fun a hs => ?_
    refine Le (nw_cond (t := decide (q + u > 2000)) (hs.ev rfl) (fun hg => ?_) fun hg => nw_skip (nw_region ?_))
    · exact retB_ok (hs.keep []) rfl fun a' hs => finV hs rfl ⟨⟨true, rfl, fun h => by cases h⟩, g.trans hw1⟩
    · have hg := of_decide_eq_false hg
      refine L hs rfl rfl (x_mv hs (.inl rfl) rfl) fun a hs => ?_
      refine L hs rfl rfl (x_arith hs rfl rfl rfl rfl) fun a hs => ?_
      refine L hs rfl rfl (x_mv hs (.inr rfl) rfl) fun a hs => ?_
      have hwj : IntKind.wrap .i64 ((j : Int) + 1) = ((j + 1 : Nat) : Int) := by rw [wrap_ok (by omega) (by omega)]; omega
      have hs' := hs.keep [1, 3, 4]
      rw [hwj] at hs'
      exact Le ⟨m - 1, by omega, j + 1, q + u, hs', by omega, by omega, by omega, hw1⟩
  · refine nw_seq (nw_region ?_)
    refine L hs rfl rfl (x_fa hs rfl rfl K.e0) fun a hs => ?_
    refine L hs rfl rfl (x_ld hs rfl rfl K.nl (hw1.at hb1 fun h => h) (v := vn) rfl) fun a hs => ?_
    refine L hs rfl rfl (x_len hs rfl (by rw [← e1]; rfl) K.nlU) fun a hs => ?_
    refine L hs rfl rfl (x_cmp hs rfl rfl rfl rfl) fun a hs => ?_
    refine L hs rfl rfl (x_mv hs (.inr rfl) rfl) fun a hs => ?_
    refine Le (nw_ret (finV (hs.keep [2]) rfl ⟨⟨_, rfl, fun h => ?_⟩, g.trans hw1⟩))
    have := of_decide_eq_false h
    omega
end Go.TL.H
