/- Two functions of layout by hand. -/
import Derived.Test.YtaaimmmofkldbaaWl24
import Derived.Test.YtaaimmmofkldbaaProg
import Derived.Test.YtaaimmmofkldbaaWl23
set_option maxRecDepth 100000
namespace Go.TL.H.Hlay
open Go
def s_markB : TL.Spec := ⟨48, 7, [.agg [.p (.int .i64 ⟨0, [(0, 1)]⟩) true, .p (.st (.var 1)) true, .p (.int .i64 ⟨0, [(8, 1)]⟩) true, .p (.int .i64 ⟨0, [(12, 1)]⟩) true, .p (.int .i64 ⟨0, [(16, 1)]⟩) true, .p (.int .i64 ⟨0, [(20, 1)]⟩) true, .p (.bl (.var 6)) true], .p (.st (.lit [125])) true], [], [], [], [], ⟨0, []⟩, [⟨1, [], [], [.pr 95 [7, 0, 1]], [], [.p (.bl (.var 7)) true]⟩]⟩
def s_opens : TL.Spec := ⟨49, 7, [.agg [.p (.int .i64 ⟨0, [(0, 1)]⟩) true, .p (.st (.var 1)) true, .p (.int .i64 ⟨0, [(8, 1)]⟩) true, .p (.int .i64 ⟨0, [(12, 1)]⟩) true, .p (.int .i64 ⟨0, [(16, 1)]⟩) true, .p (.int .i64 ⟨0, [(20, 1)]⟩) true, .p (.bl (.var 6)) true]], [], [], [], [], ⟨0, []⟩, [⟨1, [], [], [], [], [.p (.bl (.var 7)) true]⟩]⟩
theorem b_48 : Body Proofs.Try.prog 48 14 [.tmp 4] ((.seq (.region 0 ([⟨(some 2), .box 75 (.tmp 0), 0, "", #[], none⟩, ⟨(some 4), .assign (.const (.bool false)), 0, "", #[], none⟩] : List Oper).toArray false) (.seq (.region 0 ([⟨(some 5), .fieldAddr 75 (.tmp 2) 0, 0, "", #[], none⟩, ⟨(some 6), .load 3 (.tmp 5), 0, "", #[], none⟩, ⟨(some 7), .binOp .eql 3 (.tmp 6) (.const (.int .i64 8)) 3, 0, "", #[], none⟩, ⟨(some 8), .move (.tmp 7), 0, "", #[], none⟩, ⟨(some 9), .fieldAddr 75 (.tmp 2) 1, 0, "", #[], (some (3, true))⟩, ⟨(some 10), .load 9 (.tmp 9), 0, "", #[], (some (3, true))⟩, ⟨(some 11), .move (.tmp 1), 0, "", #[], (some (3, true))⟩, ⟨(some 12), .binOp .eql 9 (.tmp 10) (.tmp 11) 9, 0, "", #[], (some (3, true))⟩, ⟨(some 13), .pick (.tmp 8) (.tmp 12) (.const (.bool false)), 0, "", #[], none⟩, ⟨(some 4), .assign (.tmp 13), 0, "", #[], none⟩] : List Oper).toArray false) .ret))) := body_mk (by kernel_rfl) (by kernel_rfl)
theorem b_49 : Body Proofs.Try.prog 49 26 [.tmp 2] ((.seq (.region 0 ([⟨(some 1), .box 75 (.tmp 0), 0, "", #[], none⟩, ⟨(some 2), .assign (.const (.bool false)), 0, "", #[], none⟩] : List Oper).toArray false) (.seq (.region 0 ([⟨(some 3), .fieldAddr 75 (.tmp 1) 0, 0, "", #[], none⟩, ⟨(some 4), .load 3 (.tmp 3), 0, "", #[], none⟩, ⟨(some 5), .binOp .eql 3 (.tmp 4) (.const (.int .i64 9)) 3, 0, "", #[], none⟩, ⟨(some 6), .move (.tmp 5), 0, "", #[], none⟩, ⟨(some 7), .fieldAddr 75 (.tmp 1) 1, 0, "", #[], (some (3, true))⟩, ⟨(some 8), .load 9 (.tmp 7), 0, "", #[], (some (3, true))⟩, ⟨(some 9), .binOp .eql 9 (.tmp 8) (.const (.string ⟨#[108, 101, 116]⟩)) 9, 0, "", #[], (some (3, true))⟩, ⟨(some 10), .move (.tmp 9), 0, "", #[], (some (3, true))⟩, ⟨(some 11), .fieldAddr 75 (.tmp 1) 1, 0, "", #[], (some (7, false))⟩, ⟨(some 12), .load 9 (.tmp 11), 0, "", #[], (some (7, false))⟩, ⟨(some 13), .binOp .eql 9 (.tmp 12) (.const (.string ⟨#[119, 104, 101, 114, 101]⟩)) 9, 0, "", #[], (some (7, false))⟩, ⟨(some 14), .pick (.tmp 10) (.const (.bool true)) (.tmp 13), 0, "", #[], (some (3, true))⟩, ⟨(some 15), .move (.tmp 14), 0, "", #[], (some (3, true))⟩, ⟨(some 16), .fieldAddr 75 (.tmp 1) 1, 0, "", #[], (some (12, false))⟩, ⟨(some 17), .load 9 (.tmp 16), 0, "", #[], (some (12, false))⟩, ⟨(some 18), .binOp .eql 9 (.tmp 17) (.const (.string ⟨#[100, 111]⟩)) 9, 0, "", #[], (some (12, false))⟩, ⟨(some 19), .pick (.tmp 15) (.const (.bool true)) (.tmp 18), 0, "", #[], (some (3, true))⟩, ⟨(some 20), .move (.tmp 19), 0, "", #[], (some (3, true))⟩, ⟨(some 21), .fieldAddr 75 (.tmp 1) 1, 0, "", #[], (some (17, false))⟩, ⟨(some 22), .load 9 (.tmp 21), 0, "", #[], (some (17, false))⟩, ⟨(some 23), .binOp .eql 9 (.tmp 22) (.const (.string ⟨#[111, 102]⟩)) 9, 0, "", #[], (some (17, false))⟩, ⟨(some 24), .pick (.tmp 20) (.const (.bool true)) (.tmp 23), 0, "", #[], (some (3, true))⟩, ⟨(some 25), .pick (.tmp 6) (.tmp 24) (.const (.bool false)), 0, "", #[], none⟩, ⟨(some 2), .assign (.tmp 25), 0, "", #[], none⟩] : List Oper).toArray false) .ret))) := body_mk (by kernel_rfl) (by kernel_rfl)
theorem i75 : Tp Proofs.Try.prog 3 false 1 := tp_mk (by kernel_rfl) (by kernel_rfl) rfl
theorem s75 : Tp Proofs.Try.prog 9 false 1 := tp_mk (by kernel_rfl) (by kernel_rfl) rfl
theorem mark_ret (m : ByteArray) (k : Int) (s : ByteArray) (c2 c3 c4 c5 c6 : Value) (w : World) : Ret Proofs.Try.prog 48 [.agg #[.int .i64 k, .string s, c2, c3, c4, c5, c6], .string m] w fun v w' => Ch (fun _ => False) w w' ∧ v = .bool ((k == 8) && (s.toList == m.toList)) := by
  refine ret_of b_48 ?_
  have hs := SL.init (n := 14) [.agg #[.int .i64 k, .string s, c2, c3, c4, c5, c6], .string m] rfl
  revert hs
  generalize ({ tmps := _, defers := [] } : Act) = a
  intro hs
  have hcc : (Value.agg #[.int .i64 k, .string s, c2, c3, c4, c5, c6]).cells = [.int .i64 k, .string s, c2, c3, c4, c5, c6].toArray := rfl
  cases h7 : (k == 8) with
  | false =>
    refine nw_seq (nw_region ?_)
    refine L hs rfl rfl (x_box hs rfl rfl) fun a hs => ?_
    rw [hcc]
    have g1 := Ch.alloc (fun _ => False) w (.cells [.int .i64 k, .string s, c2, c3, c4, c5, c6].toArray 75)
    have hbx := heap_alloc_new w (.cells [.int .i64 k, .string s, c2, c3, c4, c5, c6].toArray 75)
    generalize w.alloc (.cells [.int .i64 k, .string s, c2, c3, c4, c5, c6].toArray 75) = w1 at g1 hbx ⊢
    refine L hs rfl rfl (x_mv hs (.inr rfl) rfl) fun a hs => ?_
    refine Le (nw_seq (nw_region ?_))
    refine L hs rfl rfl (x_fa (off := 0) (sz := 1) hs rfl rfl (by kernel_rfl)) fun a hs => ?_
    refine L hs rfl rfl (x_ldp (ag := false) (m := 1) [.int .i64 k] hs rfl rfl i75 rfl hbx (sub_get (l := [.int .i64 k, .string s, c2, c3, c4, c5, c6]) 0 1 rfl)) fun a hs => ?_
    refine L hs rfl rfl (x_cmp (r := false) hs rfl rfl rfl (by show some _ = some _; rw [h7])) fun a hs => ?_
    refine L hs rfl rfl (x_mv hs (.inl rfl) rfl) fun a hs => ?_
    refine Lu hs (by rw [wg hs rfl rfl rfl rfl]; rfl) rfl fun a hs => ?_
    refine Lu hs (by rw [wg hs rfl rfl rfl rfl]; rfl) rfl fun a hs => ?_
    refine Lu hs (by rw [wg hs rfl rfl rfl rfl]; rfl) rfl fun a hs => ?_
    refine Lu hs (by rw [wg hs rfl rfl rfl rfl]; rfl) rfl fun a hs => ?_
    refine L hs rfl rfl (x_pick hs rfl rfl (fun h => by cases h) (fun _ => rfl)) fun a hs => ?_
    refine L hs rfl rfl (x_mv hs (.inr rfl) rfl) fun a hs => ?_
    exact Le (nw_ret (finV hs rfl ⟨g1, by simp [*]⟩))
  | true =>
    cases h12 : (s.toList == (m : ByteArray).toList) with
    | false =>
      refine nw_seq (nw_region ?_)
      refine L hs rfl rfl (x_box hs rfl rfl) fun a hs => ?_
      rw [hcc]
      have g1 := Ch.alloc (fun _ => False) w (.cells [.int .i64 k, .string s, c2, c3, c4, c5, c6].toArray 75)
      have hbx := heap_alloc_new w (.cells [.int .i64 k, .string s, c2, c3, c4, c5, c6].toArray 75)
      generalize w.alloc (.cells [.int .i64 k, .string s, c2, c3, c4, c5, c6].toArray 75) = w1 at g1 hbx ⊢
      refine L hs rfl rfl (x_mv hs (.inr rfl) rfl) fun a hs => ?_
      refine Le (nw_seq (nw_region ?_))
      refine L hs rfl rfl (x_fa (off := 0) (sz := 1) hs rfl rfl (by kernel_rfl)) fun a hs => ?_
      refine L hs rfl rfl (x_ldp (ag := false) (m := 1) [.int .i64 k] hs rfl rfl i75 rfl hbx (sub_get (l := [.int .i64 k, .string s, c2, c3, c4, c5, c6]) 0 1 rfl)) fun a hs => ?_
      refine L hs rfl rfl (x_cmp (r := true) hs rfl rfl rfl (by show some _ = some _; rw [h7])) fun a hs => ?_
      refine L hs rfl rfl (x_mv hs (.inl rfl) rfl) fun a hs => ?_
      refine L hs (by rw [wg hs rfl rfl rfl rfl]; rfl) rfl (x_fa (off := 1) (sz := 1) hs rfl rfl (by kernel_rfl)) fun a hs => ?_
      refine L hs (by rw [wg hs rfl rfl rfl rfl]; rfl) rfl (x_ldp (ag := false) (m := 1) [.string s] hs rfl rfl s75 rfl hbx (sub_get (l := [.int .i64 k, .string s, c2, c3, c4, c5, c6]) 1 1 rfl)) fun a hs => ?_
      refine L hs (by rw [wg hs rfl rfl rfl rfl]; rfl) rfl (x_mv hs (.inl rfl) rfl) fun a hs => ?_
      refine L hs (by rw [wg hs rfl rfl rfl rfl]; rfl) rfl (x_scmp (c := false) hs rfl rfl rfl (by show some _ = some _; rw [h12])) fun a hs => ?_
      refine L hs rfl rfl (x_pick hs rfl rfl (fun _ => rfl) (fun h => by cases h)) fun a hs => ?_
      refine L hs rfl rfl (x_mv hs (.inr rfl) rfl) fun a hs => ?_
      exact Le (nw_ret (finV hs rfl ⟨g1, by simp [*]⟩))
    | true =>
      refine nw_seq (nw_region ?_)
      refine L hs rfl rfl (x_box hs rfl rfl) fun a hs => ?_
      rw [hcc]
      have g1 := Ch.alloc (fun _ => False) w (.cells [.int .i64 k, .string s, c2, c3, c4, c5, c6].toArray 75)
      have hbx := heap_alloc_new w (.cells [.int .i64 k, .string s, c2, c3, c4, c5, c6].toArray 75)
      generalize w.alloc (.cells [.int .i64 k, .string s, c2, c3, c4, c5, c6].toArray 75) = w1 at g1 hbx ⊢
      refine L hs rfl rfl (x_mv hs (.inr rfl) rfl) fun a hs => ?_
      refine Le (nw_seq (nw_region ?_))
      refine L hs rfl rfl (x_fa (off := 0) (sz := 1) hs rfl rfl (by kernel_rfl)) fun a hs => ?_
      refine L hs rfl rfl (x_ldp (ag := false) (m := 1) [.int .i64 k] hs rfl rfl i75 rfl hbx (sub_get (l := [.int .i64 k, .string s, c2, c3, c4, c5, c6]) 0 1 rfl)) fun a hs => ?_
      refine L hs rfl rfl (x_cmp (r := true) hs rfl rfl rfl (by show some _ = some _; rw [h7])) fun a hs => ?_
      refine L hs rfl rfl (x_mv hs (.inl rfl) rfl) fun a hs => ?_
      refine L hs (by rw [wg hs rfl rfl rfl rfl]; rfl) rfl (x_fa (off := 1) (sz := 1) hs rfl rfl (by kernel_rfl)) fun a hs => ?_
      refine L hs (by rw [wg hs rfl rfl rfl rfl]; rfl) rfl (x_ldp (ag := false) (m := 1) [.string s] hs rfl rfl s75 rfl hbx (sub_get (l := [.int .i64 k, .string s, c2, c3, c4, c5, c6]) 1 1 rfl)) fun a hs => ?_
      refine L hs (by rw [wg hs rfl rfl rfl rfl]; rfl) rfl (x_mv hs (.inl rfl) rfl) fun a hs => ?_
      refine L hs (by rw [wg hs rfl rfl rfl rfl]; rfl) rfl (x_scmp (c := true) hs rfl rfl rfl (by show some _ = some _; rw [h12])) fun a hs => ?_
      refine L hs rfl rfl (x_pick hs rfl rfl (fun _ => rfl) (fun h => by cases h)) fun a hs => ?_
      refine L hs rfl rfl (x_mv hs (.inr rfl) rfl) fun a hs => ?_
      exact Le (nw_ret (finV hs rfl ⟨g1, by simp [*]⟩))
theorem opens_ret (k : Int) (s : ByteArray) (c2 c3 c4 c5 c6 : Value) (w : World) : Ret Proofs.Try.prog 49 [.agg #[.int .i64 k, .string s, c2, c3, c4, c5, c6]] w fun v w' => Ch (fun _ => False) w w' ∧ ∃ b, v = .bool b := by
  refine ret_of b_49 ?_
  have hs := SL.init (n := 26) [.agg #[.int .i64 k, .string s, c2, c3, c4, c5, c6]] rfl
  revert hs
  generalize ({ tmps := _, defers := [] } : Act) = a
  intro hs
  have hcc : (Value.agg #[.int .i64 k, .string s, c2, c3, c4, c5, c6]).cells = [.int .i64 k, .string s, c2, c3, c4, c5, c6].toArray := rfl
  cases h5 : (k == 9) with
  | false =>
    refine nw_seq (nw_region ?_)
    refine L hs rfl rfl (x_box hs rfl rfl) fun a hs => ?_
    rw [hcc]
    have g1 := Ch.alloc (fun _ => False) w (.cells [.int .i64 k, .string s, c2, c3, c4, c5, c6].toArray 75)
    have hbx := heap_alloc_new w (.cells [.int .i64 k, .string s, c2, c3, c4, c5, c6].toArray 75)
    generalize w.alloc (.cells [.int .i64 k, .string s, c2, c3, c4, c5, c6].toArray 75) = w1 at g1 hbx ⊢
    refine L hs rfl rfl (x_mv hs (.inr rfl) rfl) fun a hs => ?_
    refine Le (nw_seq (nw_region ?_))
    refine L hs rfl rfl (x_fa (off := 0) (sz := 1) hs rfl rfl (by kernel_rfl)) fun a hs => ?_
    refine L hs rfl rfl (x_ldp (ag := false) (m := 1) [.int .i64 k] hs rfl rfl i75 rfl hbx (sub_get (l := [.int .i64 k, .string s, c2, c3, c4, c5, c6]) 0 1 rfl)) fun a hs => ?_
    refine L hs rfl rfl (x_cmp (r := false) hs rfl rfl rfl (by show some _ = some _; rw [h5])) fun a hs => ?_
    refine L hs rfl rfl (x_mv hs (.inl rfl) rfl) fun a hs => ?_
    refine Lu hs (by rw [wg hs rfl rfl rfl rfl]; rfl) rfl fun a hs => ?_
    refine Lu hs (by rw [wg hs rfl rfl rfl rfl]; rfl) rfl fun a hs => ?_
    refine Lu hs (by rw [wg hs rfl rfl rfl rfl]; rfl) rfl fun a hs => ?_
    refine Lu hs (by rw [wg hs rfl rfl rfl rfl]; rfl) rfl fun a hs => ?_
    refine Lu hs (wgU hs rfl rfl rfl rfl) rfl fun a hs => ?_
    refine Lu hs (wgU hs rfl rfl rfl rfl) rfl fun a hs => ?_
    refine Lu hs (wgU hs rfl rfl rfl rfl) rfl fun a hs => ?_
    refine Lu hs (by rw [wg hs rfl rfl rfl rfl]; rfl) rfl fun a hs => ?_
    refine Lu hs (by rw [wg hs rfl rfl rfl rfl]; rfl) rfl fun a hs => ?_
    refine Lu hs (wgU hs rfl rfl rfl rfl) rfl fun a hs => ?_
    refine Lu hs (wgU hs rfl rfl rfl rfl) rfl fun a hs => ?_
    refine Lu hs (wgU hs rfl rfl rfl rfl) rfl fun a hs => ?_
    refine Lu hs (by rw [wg hs rfl rfl rfl rfl]; rfl) rfl fun a hs => ?_
    refine Lu hs (by rw [wg hs rfl rfl rfl rfl]; rfl) rfl fun a hs => ?_
    refine Lu hs (wgU hs rfl rfl rfl rfl) rfl fun a hs => ?_
    refine Lu hs (wgU hs rfl rfl rfl rfl) rfl fun a hs => ?_
    refine Lu hs (wgU hs rfl rfl rfl rfl) rfl fun a hs => ?_
    refine Lu hs (by rw [wg hs rfl rfl rfl rfl]; rfl) rfl fun a hs => ?_
    refine L hs rfl rfl (x_pick hs rfl rfl (fun h => by cases h) (fun _ => rfl)) fun a hs => ?_
    refine L hs rfl rfl (x_mv hs (.inr rfl) rfl) fun a hs => ?_
    exact Le (nw_ret (finV hs rfl ⟨g1, _, rfl⟩))
  | true =>
    cases h9 : (s.toList == (⟨#[108, 101, 116]⟩ : ByteArray).toList) with
    | false =>
      cases h13 : (s.toList == (⟨#[119, 104, 101, 114, 101]⟩ : ByteArray).toList) with
      | false =>
        cases h18 : (s.toList == (⟨#[100, 111]⟩ : ByteArray).toList) with
        | false =>
          cases h23 : (s.toList == (⟨#[111, 102]⟩ : ByteArray).toList) with
          | false =>
            refine nw_seq (nw_region ?_)
            refine L hs rfl rfl (x_box hs rfl rfl) fun a hs => ?_
            rw [hcc]
            have g1 := Ch.alloc (fun _ => False) w (.cells [.int .i64 k, .string s, c2, c3, c4, c5, c6].toArray 75)
            have hbx := heap_alloc_new w (.cells [.int .i64 k, .string s, c2, c3, c4, c5, c6].toArray 75)
            generalize w.alloc (.cells [.int .i64 k, .string s, c2, c3, c4, c5, c6].toArray 75) = w1 at g1 hbx ⊢
            refine L hs rfl rfl (x_mv hs (.inr rfl) rfl) fun a hs => ?_
            refine Le (nw_seq (nw_region ?_))
            refine L hs rfl rfl (x_fa (off := 0) (sz := 1) hs rfl rfl (by kernel_rfl)) fun a hs => ?_
            refine L hs rfl rfl (x_ldp (ag := false) (m := 1) [.int .i64 k] hs rfl rfl i75 rfl hbx (sub_get (l := [.int .i64 k, .string s, c2, c3, c4, c5, c6]) 0 1 rfl)) fun a hs => ?_
            refine L hs rfl rfl (x_cmp (r := true) hs rfl rfl rfl (by show some _ = some _; rw [h5])) fun a hs => ?_
            refine L hs rfl rfl (x_mv hs (.inl rfl) rfl) fun a hs => ?_
            refine L hs (by rw [wg hs rfl rfl rfl rfl]; rfl) rfl (x_fa (off := 1) (sz := 1) hs rfl rfl (by kernel_rfl)) fun a hs => ?_
            refine L hs (by rw [wg hs rfl rfl rfl rfl]; rfl) rfl (x_ldp (ag := false) (m := 1) [.string s] hs rfl rfl s75 rfl hbx (sub_get (l := [.int .i64 k, .string s, c2, c3, c4, c5, c6]) 1 1 rfl)) fun a hs => ?_
            refine L hs (by rw [wg hs rfl rfl rfl rfl]; rfl) rfl (x_scmp (c := false) hs rfl rfl rfl (by show some _ = some _; rw [h9])) fun a hs => ?_
            refine L hs (by rw [wg hs rfl rfl rfl rfl]; rfl) rfl (x_mv hs (.inl rfl) rfl) fun a hs => ?_
            refine L hs (by rw [wg hs rfl rfl rfl rfl]; rfl) rfl (x_fa (off := 1) (sz := 1) hs rfl rfl (by kernel_rfl)) fun a hs => ?_
            refine L hs (by rw [wg hs rfl rfl rfl rfl]; rfl) rfl (x_ldp (ag := false) (m := 1) [.string s] hs rfl rfl s75 rfl hbx (sub_get (l := [.int .i64 k, .string s, c2, c3, c4, c5, c6]) 1 1 rfl)) fun a hs => ?_
            refine L hs (by rw [wg hs rfl rfl rfl rfl]; rfl) rfl (x_scmp (c := false) hs rfl rfl rfl (by show some _ = some _; rw [h13])) fun a hs => ?_
            refine L hs (by rw [wg hs rfl rfl rfl rfl]; rfl) rfl (x_pick hs rfl rfl (fun h => by cases h) (fun _ => rfl)) fun a hs => ?_
            refine L hs (by rw [wg hs rfl rfl rfl rfl]; rfl) rfl (x_mv hs (.inl rfl) rfl) fun a hs => ?_
            refine L hs (by rw [wg hs rfl rfl rfl rfl]; rfl) rfl (x_fa (off := 1) (sz := 1) hs rfl rfl (by kernel_rfl)) fun a hs => ?_
            refine L hs (by rw [wg hs rfl rfl rfl rfl]; rfl) rfl (x_ldp (ag := false) (m := 1) [.string s] hs rfl rfl s75 rfl hbx (sub_get (l := [.int .i64 k, .string s, c2, c3, c4, c5, c6]) 1 1 rfl)) fun a hs => ?_
            refine L hs (by rw [wg hs rfl rfl rfl rfl]; rfl) rfl (x_scmp (c := false) hs rfl rfl rfl (by show some _ = some _; rw [h18])) fun a hs => ?_
            refine L hs (by rw [wg hs rfl rfl rfl rfl]; rfl) rfl (x_pick hs rfl rfl (fun h => by cases h) (fun _ => rfl)) fun a hs => ?_
            refine L hs (by rw [wg hs rfl rfl rfl rfl]; rfl) rfl (x_mv hs (.inl rfl) rfl) fun a hs => ?_
            refine L hs (by rw [wg hs rfl rfl rfl rfl]; rfl) rfl (x_fa (off := 1) (sz := 1) hs rfl rfl (by kernel_rfl)) fun a hs => ?_
            refine L hs (by rw [wg hs rfl rfl rfl rfl]; rfl) rfl (x_ldp (ag := false) (m := 1) [.string s] hs rfl rfl s75 rfl hbx (sub_get (l := [.int .i64 k, .string s, c2, c3, c4, c5, c6]) 1 1 rfl)) fun a hs => ?_
            refine L hs (by rw [wg hs rfl rfl rfl rfl]; rfl) rfl (x_scmp (c := false) hs rfl rfl rfl (by show some _ = some _; rw [h23])) fun a hs => ?_
            refine L hs (by rw [wg hs rfl rfl rfl rfl]; rfl) rfl (x_pick hs rfl rfl (fun h => by cases h) (fun _ => rfl)) fun a hs => ?_
            refine L hs rfl rfl (x_pick hs rfl rfl (fun _ => rfl) (fun h => by cases h)) fun a hs => ?_
            refine L hs rfl rfl (x_mv hs (.inr rfl) rfl) fun a hs => ?_
            exact Le (nw_ret (finV hs rfl ⟨g1, _, rfl⟩))
          | true =>
            refine nw_seq (nw_region ?_)
            refine L hs rfl rfl (x_box hs rfl rfl) fun a hs => ?_
            rw [hcc]
            have g1 := Ch.alloc (fun _ => False) w (.cells [.int .i64 k, .string s, c2, c3, c4, c5, c6].toArray 75)
            have hbx := heap_alloc_new w (.cells [.int .i64 k, .string s, c2, c3, c4, c5, c6].toArray 75)
            generalize w.alloc (.cells [.int .i64 k, .string s, c2, c3, c4, c5, c6].toArray 75) = w1 at g1 hbx ⊢
            refine L hs rfl rfl (x_mv hs (.inr rfl) rfl) fun a hs => ?_
            refine Le (nw_seq (nw_region ?_))
            refine L hs rfl rfl (x_fa (off := 0) (sz := 1) hs rfl rfl (by kernel_rfl)) fun a hs => ?_
            refine L hs rfl rfl (x_ldp (ag := false) (m := 1) [.int .i64 k] hs rfl rfl i75 rfl hbx (sub_get (l := [.int .i64 k, .string s, c2, c3, c4, c5, c6]) 0 1 rfl)) fun a hs => ?_
            refine L hs rfl rfl (x_cmp (r := true) hs rfl rfl rfl (by show some _ = some _; rw [h5])) fun a hs => ?_
            refine L hs rfl rfl (x_mv hs (.inl rfl) rfl) fun a hs => ?_
            refine L hs (by rw [wg hs rfl rfl rfl rfl]; rfl) rfl (x_fa (off := 1) (sz := 1) hs rfl rfl (by kernel_rfl)) fun a hs => ?_
            refine L hs (by rw [wg hs rfl rfl rfl rfl]; rfl) rfl (x_ldp (ag := false) (m := 1) [.string s] hs rfl rfl s75 rfl hbx (sub_get (l := [.int .i64 k, .string s, c2, c3, c4, c5, c6]) 1 1 rfl)) fun a hs => ?_
            refine L hs (by rw [wg hs rfl rfl rfl rfl]; rfl) rfl (x_scmp (c := false) hs rfl rfl rfl (by show some _ = some _; rw [h9])) fun a hs => ?_
            refine L hs (by rw [wg hs rfl rfl rfl rfl]; rfl) rfl (x_mv hs (.inl rfl) rfl) fun a hs => ?_
            refine L hs (by rw [wg hs rfl rfl rfl rfl]; rfl) rfl (x_fa (off := 1) (sz := 1) hs rfl rfl (by kernel_rfl)) fun a hs => ?_
            refine L hs (by rw [wg hs rfl rfl rfl rfl]; rfl) rfl (x_ldp (ag := false) (m := 1) [.string s] hs rfl rfl s75 rfl hbx (sub_get (l := [.int .i64 k, .string s, c2, c3, c4, c5, c6]) 1 1 rfl)) fun a hs => ?_
            refine L hs (by rw [wg hs rfl rfl rfl rfl]; rfl) rfl (x_scmp (c := false) hs rfl rfl rfl (by show some _ = some _; rw [h13])) fun a hs => ?_
            refine L hs (by rw [wg hs rfl rfl rfl rfl]; rfl) rfl (x_pick hs rfl rfl (fun h => by cases h) (fun _ => rfl)) fun a hs => ?_
            refine L hs (by rw [wg hs rfl rfl rfl rfl]; rfl) rfl (x_mv hs (.inl rfl) rfl) fun a hs => ?_
            refine L hs (by rw [wg hs rfl rfl rfl rfl]; rfl) rfl (x_fa (off := 1) (sz := 1) hs rfl rfl (by kernel_rfl)) fun a hs => ?_
            refine L hs (by rw [wg hs rfl rfl rfl rfl]; rfl) rfl (x_ldp (ag := false) (m := 1) [.string s] hs rfl rfl s75 rfl hbx (sub_get (l := [.int .i64 k, .string s, c2, c3, c4, c5, c6]) 1 1 rfl)) fun a hs => ?_
            refine L hs (by rw [wg hs rfl rfl rfl rfl]; rfl) rfl (x_scmp (c := false) hs rfl rfl rfl (by show some _ = some _; rw [h18])) fun a hs => ?_
            refine L hs (by rw [wg hs rfl rfl rfl rfl]; rfl) rfl (x_pick hs rfl rfl (fun h => by cases h) (fun _ => rfl)) fun a hs => ?_
            refine L hs (by rw [wg hs rfl rfl rfl rfl]; rfl) rfl (x_mv hs (.inl rfl) rfl) fun a hs => ?_
            refine L hs (by rw [wg hs rfl rfl rfl rfl]; rfl) rfl (x_fa (off := 1) (sz := 1) hs rfl rfl (by kernel_rfl)) fun a hs => ?_
            refine L hs (by rw [wg hs rfl rfl rfl rfl]; rfl) rfl (x_ldp (ag := false) (m := 1) [.string s] hs rfl rfl s75 rfl hbx (sub_get (l := [.int .i64 k, .string s, c2, c3, c4, c5, c6]) 1 1 rfl)) fun a hs => ?_
            refine L hs (by rw [wg hs rfl rfl rfl rfl]; rfl) rfl (x_scmp (c := true) hs rfl rfl rfl (by show some _ = some _; rw [h23])) fun a hs => ?_
            refine L hs (by rw [wg hs rfl rfl rfl rfl]; rfl) rfl (x_pick hs rfl rfl (fun h => by cases h) (fun _ => rfl)) fun a hs => ?_
            refine L hs rfl rfl (x_pick hs rfl rfl (fun _ => rfl) (fun h => by cases h)) fun a hs => ?_
            refine L hs rfl rfl (x_mv hs (.inr rfl) rfl) fun a hs => ?_
            exact Le (nw_ret (finV hs rfl ⟨g1, _, rfl⟩))
        | true =>
          refine nw_seq (nw_region ?_)
          refine L hs rfl rfl (x_box hs rfl rfl) fun a hs => ?_
          rw [hcc]
          have g1 := Ch.alloc (fun _ => False) w (.cells [.int .i64 k, .string s, c2, c3, c4, c5, c6].toArray 75)
          have hbx := heap_alloc_new w (.cells [.int .i64 k, .string s, c2, c3, c4, c5, c6].toArray 75)
          generalize w.alloc (.cells [.int .i64 k, .string s, c2, c3, c4, c5, c6].toArray 75) = w1 at g1 hbx ⊢
          refine L hs rfl rfl (x_mv hs (.inr rfl) rfl) fun a hs => ?_
          refine Le (nw_seq (nw_region ?_))
          refine L hs rfl rfl (x_fa (off := 0) (sz := 1) hs rfl rfl (by kernel_rfl)) fun a hs => ?_
          refine L hs rfl rfl (x_ldp (ag := false) (m := 1) [.int .i64 k] hs rfl rfl i75 rfl hbx (sub_get (l := [.int .i64 k, .string s, c2, c3, c4, c5, c6]) 0 1 rfl)) fun a hs => ?_
          refine L hs rfl rfl (x_cmp (r := true) hs rfl rfl rfl (by show some _ = some _; rw [h5])) fun a hs => ?_
          refine L hs rfl rfl (x_mv hs (.inl rfl) rfl) fun a hs => ?_
          refine L hs (by rw [wg hs rfl rfl rfl rfl]; rfl) rfl (x_fa (off := 1) (sz := 1) hs rfl rfl (by kernel_rfl)) fun a hs => ?_
          refine L hs (by rw [wg hs rfl rfl rfl rfl]; rfl) rfl (x_ldp (ag := false) (m := 1) [.string s] hs rfl rfl s75 rfl hbx (sub_get (l := [.int .i64 k, .string s, c2, c3, c4, c5, c6]) 1 1 rfl)) fun a hs => ?_
          refine L hs (by rw [wg hs rfl rfl rfl rfl]; rfl) rfl (x_scmp (c := false) hs rfl rfl rfl (by show some _ = some _; rw [h9])) fun a hs => ?_
          refine L hs (by rw [wg hs rfl rfl rfl rfl]; rfl) rfl (x_mv hs (.inl rfl) rfl) fun a hs => ?_
          refine L hs (by rw [wg hs rfl rfl rfl rfl]; rfl) rfl (x_fa (off := 1) (sz := 1) hs rfl rfl (by kernel_rfl)) fun a hs => ?_
          refine L hs (by rw [wg hs rfl rfl rfl rfl]; rfl) rfl (x_ldp (ag := false) (m := 1) [.string s] hs rfl rfl s75 rfl hbx (sub_get (l := [.int .i64 k, .string s, c2, c3, c4, c5, c6]) 1 1 rfl)) fun a hs => ?_
          refine L hs (by rw [wg hs rfl rfl rfl rfl]; rfl) rfl (x_scmp (c := false) hs rfl rfl rfl (by show some _ = some _; rw [h13])) fun a hs => ?_
          refine L hs (by rw [wg hs rfl rfl rfl rfl]; rfl) rfl (x_pick hs rfl rfl (fun h => by cases h) (fun _ => rfl)) fun a hs => ?_
          refine L hs (by rw [wg hs rfl rfl rfl rfl]; rfl) rfl (x_mv hs (.inl rfl) rfl) fun a hs => ?_
          refine L hs (by rw [wg hs rfl rfl rfl rfl]; rfl) rfl (x_fa (off := 1) (sz := 1) hs rfl rfl (by kernel_rfl)) fun a hs => ?_
          refine L hs (by rw [wg hs rfl rfl rfl rfl]; rfl) rfl (x_ldp (ag := false) (m := 1) [.string s] hs rfl rfl s75 rfl hbx (sub_get (l := [.int .i64 k, .string s, c2, c3, c4, c5, c6]) 1 1 rfl)) fun a hs => ?_
          refine L hs (by rw [wg hs rfl rfl rfl rfl]; rfl) rfl (x_scmp (c := true) hs rfl rfl rfl (by show some _ = some _; rw [h18])) fun a hs => ?_
          refine L hs (by rw [wg hs rfl rfl rfl rfl]; rfl) rfl (x_pick hs rfl rfl (fun h => by cases h) (fun _ => rfl)) fun a hs => ?_
          refine L hs (by rw [wg hs rfl rfl rfl rfl]; rfl) rfl (x_mv hs (.inl rfl) rfl) fun a hs => ?_
          refine Lu hs (by rw [wg hs rfl rfl rfl rfl]; rfl) rfl fun a hs => ?_
          refine Lu hs (by rw [wg hs rfl rfl rfl rfl]; rfl) rfl fun a hs => ?_
          refine Lu hs (by rw [wg hs rfl rfl rfl rfl]; rfl) rfl fun a hs => ?_
          refine L hs (by rw [wg hs rfl rfl rfl rfl]; rfl) rfl (x_pick hs rfl rfl (fun _ => rfl) (fun h => by cases h)) fun a hs => ?_
          refine L hs rfl rfl (x_pick hs rfl rfl (fun _ => rfl) (fun h => by cases h)) fun a hs => ?_
          refine L hs rfl rfl (x_mv hs (.inr rfl) rfl) fun a hs => ?_
          exact Le (nw_ret (finV hs rfl ⟨g1, _, rfl⟩))
      | true =>
        refine nw_seq (nw_region ?_)
        refine L hs rfl rfl (x_box hs rfl rfl) fun a hs => ?_
        rw [hcc]
        have g1 := Ch.alloc (fun _ => False) w (.cells [.int .i64 k, .string s, c2, c3, c4, c5, c6].toArray 75)
        have hbx := heap_alloc_new w (.cells [.int .i64 k, .string s, c2, c3, c4, c5, c6].toArray 75)
        generalize w.alloc (.cells [.int .i64 k, .string s, c2, c3, c4, c5, c6].toArray 75) = w1 at g1 hbx ⊢
        refine L hs rfl rfl (x_mv hs (.inr rfl) rfl) fun a hs => ?_
        refine Le (nw_seq (nw_region ?_))
        refine L hs rfl rfl (x_fa (off := 0) (sz := 1) hs rfl rfl (by kernel_rfl)) fun a hs => ?_
        refine L hs rfl rfl (x_ldp (ag := false) (m := 1) [.int .i64 k] hs rfl rfl i75 rfl hbx (sub_get (l := [.int .i64 k, .string s, c2, c3, c4, c5, c6]) 0 1 rfl)) fun a hs => ?_
        refine L hs rfl rfl (x_cmp (r := true) hs rfl rfl rfl (by show some _ = some _; rw [h5])) fun a hs => ?_
        refine L hs rfl rfl (x_mv hs (.inl rfl) rfl) fun a hs => ?_
        refine L hs (by rw [wg hs rfl rfl rfl rfl]; rfl) rfl (x_fa (off := 1) (sz := 1) hs rfl rfl (by kernel_rfl)) fun a hs => ?_
        refine L hs (by rw [wg hs rfl rfl rfl rfl]; rfl) rfl (x_ldp (ag := false) (m := 1) [.string s] hs rfl rfl s75 rfl hbx (sub_get (l := [.int .i64 k, .string s, c2, c3, c4, c5, c6]) 1 1 rfl)) fun a hs => ?_
        refine L hs (by rw [wg hs rfl rfl rfl rfl]; rfl) rfl (x_scmp (c := false) hs rfl rfl rfl (by show some _ = some _; rw [h9])) fun a hs => ?_
        refine L hs (by rw [wg hs rfl rfl rfl rfl]; rfl) rfl (x_mv hs (.inl rfl) rfl) fun a hs => ?_
        refine L hs (by rw [wg hs rfl rfl rfl rfl]; rfl) rfl (x_fa (off := 1) (sz := 1) hs rfl rfl (by kernel_rfl)) fun a hs => ?_
        refine L hs (by rw [wg hs rfl rfl rfl rfl]; rfl) rfl (x_ldp (ag := false) (m := 1) [.string s] hs rfl rfl s75 rfl hbx (sub_get (l := [.int .i64 k, .string s, c2, c3, c4, c5, c6]) 1 1 rfl)) fun a hs => ?_
        refine L hs (by rw [wg hs rfl rfl rfl rfl]; rfl) rfl (x_scmp (c := true) hs rfl rfl rfl (by show some _ = some _; rw [h13])) fun a hs => ?_
        refine L hs (by rw [wg hs rfl rfl rfl rfl]; rfl) rfl (x_pick hs rfl rfl (fun h => by cases h) (fun _ => rfl)) fun a hs => ?_
        refine L hs (by rw [wg hs rfl rfl rfl rfl]; rfl) rfl (x_mv hs (.inl rfl) rfl) fun a hs => ?_
        refine Lu hs (by rw [wg hs rfl rfl rfl rfl]; rfl) rfl fun a hs => ?_
        refine Lu hs (by rw [wg hs rfl rfl rfl rfl]; rfl) rfl fun a hs => ?_
        refine Lu hs (by rw [wg hs rfl rfl rfl rfl]; rfl) rfl fun a hs => ?_
        refine L hs (by rw [wg hs rfl rfl rfl rfl]; rfl) rfl (x_pick hs rfl rfl (fun _ => rfl) (fun h => by cases h)) fun a hs => ?_
        refine L hs (by rw [wg hs rfl rfl rfl rfl]; rfl) rfl (x_mv hs (.inl rfl) rfl) fun a hs => ?_
        refine Lu hs (by rw [wg hs rfl rfl rfl rfl]; rfl) rfl fun a hs => ?_
        refine Lu hs (by rw [wg hs rfl rfl rfl rfl]; rfl) rfl fun a hs => ?_
        refine Lu hs (by rw [wg hs rfl rfl rfl rfl]; rfl) rfl fun a hs => ?_
        refine L hs (by rw [wg hs rfl rfl rfl rfl]; rfl) rfl (x_pick hs rfl rfl (fun _ => rfl) (fun h => by cases h)) fun a hs => ?_
        refine L hs rfl rfl (x_pick hs rfl rfl (fun _ => rfl) (fun h => by cases h)) fun a hs => ?_
        refine L hs rfl rfl (x_mv hs (.inr rfl) rfl) fun a hs => ?_
        exact Le (nw_ret (finV hs rfl ⟨g1, _, rfl⟩))
    | true =>
      refine nw_seq (nw_region ?_)
      refine L hs rfl rfl (x_box hs rfl rfl) fun a hs => ?_
      rw [hcc]
      have g1 := Ch.alloc (fun _ => False) w (.cells [.int .i64 k, .string s, c2, c3, c4, c5, c6].toArray 75)
      have hbx := heap_alloc_new w (.cells [.int .i64 k, .string s, c2, c3, c4, c5, c6].toArray 75)
      generalize w.alloc (.cells [.int .i64 k, .string s, c2, c3, c4, c5, c6].toArray 75) = w1 at g1 hbx ⊢
      refine L hs rfl rfl (x_mv hs (.inr rfl) rfl) fun a hs => ?_
      refine Le (nw_seq (nw_region ?_))
      refine L hs rfl rfl (x_fa (off := 0) (sz := 1) hs rfl rfl (by kernel_rfl)) fun a hs => ?_
      refine L hs rfl rfl (x_ldp (ag := false) (m := 1) [.int .i64 k] hs rfl rfl i75 rfl hbx (sub_get (l := [.int .i64 k, .string s, c2, c3, c4, c5, c6]) 0 1 rfl)) fun a hs => ?_
      refine L hs rfl rfl (x_cmp (r := true) hs rfl rfl rfl (by show some _ = some _; rw [h5])) fun a hs => ?_
      refine L hs rfl rfl (x_mv hs (.inl rfl) rfl) fun a hs => ?_
      refine L hs (by rw [wg hs rfl rfl rfl rfl]; rfl) rfl (x_fa (off := 1) (sz := 1) hs rfl rfl (by kernel_rfl)) fun a hs => ?_
      refine L hs (by rw [wg hs rfl rfl rfl rfl]; rfl) rfl (x_ldp (ag := false) (m := 1) [.string s] hs rfl rfl s75 rfl hbx (sub_get (l := [.int .i64 k, .string s, c2, c3, c4, c5, c6]) 1 1 rfl)) fun a hs => ?_
      refine L hs (by rw [wg hs rfl rfl rfl rfl]; rfl) rfl (x_scmp (c := true) hs rfl rfl rfl (by show some _ = some _; rw [h9])) fun a hs => ?_
      refine L hs (by rw [wg hs rfl rfl rfl rfl]; rfl) rfl (x_mv hs (.inl rfl) rfl) fun a hs => ?_
      refine Lu hs (by rw [wg hs rfl rfl rfl rfl]; rfl) rfl fun a hs => ?_
      refine Lu hs (by rw [wg hs rfl rfl rfl rfl]; rfl) rfl fun a hs => ?_
      refine Lu hs (by rw [wg hs rfl rfl rfl rfl]; rfl) rfl fun a hs => ?_
      refine L hs (by rw [wg hs rfl rfl rfl rfl]; rfl) rfl (x_pick hs rfl rfl (fun _ => rfl) (fun h => by cases h)) fun a hs => ?_
      refine L hs (by rw [wg hs rfl rfl rfl rfl]; rfl) rfl (x_mv hs (.inl rfl) rfl) fun a hs => ?_
      refine Lu hs (by rw [wg hs rfl rfl rfl rfl]; rfl) rfl fun a hs => ?_
      refine Lu hs (by rw [wg hs rfl rfl rfl rfl]; rfl) rfl fun a hs => ?_
      refine Lu hs (by rw [wg hs rfl rfl rfl rfl]; rfl) rfl fun a hs => ?_
      refine L hs (by rw [wg hs rfl rfl rfl rfl]; rfl) rfl (x_pick hs rfl rfl (fun _ => rfl) (fun h => by cases h)) fun a hs => ?_
      refine L hs (by rw [wg hs rfl rfl rfl rfl]; rfl) rfl (x_mv hs (.inl rfl) rfl) fun a hs => ?_
      refine Lu hs (by rw [wg hs rfl rfl rfl rfl]; rfl) rfl fun a hs => ?_
      refine Lu hs (by rw [wg hs rfl rfl rfl rfl]; rfl) rfl fun a hs => ?_
      refine Lu hs (by rw [wg hs rfl rfl rfl rfl]; rfl) rfl fun a hs => ?_
      refine L hs (by rw [wg hs rfl rfl rfl rfl]; rfl) rfl (x_pick hs rfl rfl (fun _ => rfl) (fun h => by cases h)) fun a hs => ?_
      refine L hs rfl rfl (x_pick hs rfl rfl (fun _ => rfl) (fun h => by cases h)) fun a hs => ?_
      refine L hs rfl rfl (x_mv hs (.inr rfl) rfl) fun a hs => ?_
      exact Le (nw_ret (finV hs rfl ⟨g1, _, rfl⟩))
theorem vals_tok {w : World} {E : Env} {lo : Nat} {ρ : Ro} {v : Value} (h : VR w E lo ((DV.agg [.p (.int .i64 ⟨0, [(0, 1)]⟩) true, .p (.st (.var 1)) true, .p (.int .i64 ⟨0, [(8, 1)]⟩) true, .p (.int .i64 ⟨0, [(12, 1)]⟩) true, .p (.int .i64 ⟨0, [(16, 1)]⟩) true, .p (.int .i64 ⟨0, [(20, 1)]⟩) true, .p (.bl (.var 6)) true]).v ρ) v) : ∃ c2 c3 c4 c5 c6, v = .agg #[.int .i64 (ρ 0).n, .string (ρ 1).s, c2, c3, c4, c5, c6] := by
  simp only [DV.v, dvs, VR] at h
  obtain ⟨vs, rfl, h⟩ := h
  match vs, h with
  | [a0, a1, a2, a3, a4, a5, a6], h =>
    simp only [VRs] at h
    obtain ⟨h0, h1, _⟩ := h
    have e0 := VR_v_eq h0
    have e1 := VR_v_eq h1
    subst e0; subst e1
    refine ⟨a2, a3, a4, a5, a6, ?_⟩
    simp [Lin.v, sumV, atomV, SE.v]
theorem post_b {P : Program} {B I : Pr} {J : Ex} {s : Spec} {ρ : Ro} {prs : List PF} (hok : s.pre.ok P B ρ) (hn : s.nv = 7) (hp : s.posts = [⟨1, [], [], prs, [], [.p (.bl (.var 7)) true]⟩]) (b : Bool) (hprs : prsV I (up ρ 7 (vaB b)) prs) : PostR P I J s ρ (.p (.v (.bool b)) true) [] := by
  refine ⟨(⟨1, [], [], prs, [], [.p (.bl (.var 7)) true]⟩ : TL.Post), by rw [hp]; exact List.mem_singleton.2 rfl, up ρ 7 (vaB b), by rw [hn]; exact up_ag _ _ _ _ (Nat.le_refl _), ⟨hok.g.up _ (vaB_ok b), trivial, trivial, hprs⟩, ?_, rfl⟩
  simp [dmk, DV.v, DP.v, BF.v, up, vaB]
section
variable {B : Pr} {J : Ex} {T : FuncId → TL.Ds} {ms : Int → ByteArray}
theorem h_markB (hB : B = stdB Proofs.Try.prog T ms) (_hJ : J = stdJ) : Known Proofs.Try.prog B J s_markB := by
  refine known_hand rfl rfl fun ρ hok w E lo vals hv => ?_
  match vals, hv with
  | [v0, v1], hv =>
    simp only [s_markB, dvs, VRs] at hv
    obtain ⟨h0, h1, _⟩ := hv
    obtain ⟨c2, c3, c4, c5, c6, rfl⟩ := vals_tok h0
    have e1 := VR_v_eq h1
    subst e1
    refine (mark_ret (SE.v ρ (.lit [125])) (ρ 0).n (ρ 1).s c2 c3 c4 c5 c6 w).mono ?_
    rintro v w' ⟨hch, rfl⟩
    refine ⟨hch, rfl, fun I hI => post_b hok rfl rfl _ ⟨?_, trivial⟩⟩
    subst hB
    show I 95 _
    rw [hI 94]
    rfl
theorem h_opens (_hB : B = stdB Proofs.Try.prog T ms) (_hJ : J = stdJ) : Known Proofs.Try.prog B J s_opens := by
  refine known_hand rfl rfl fun ρ hok w E lo vals hv => ?_
  match vals, hv with
  | [v0], hv =>
    simp only [s_opens, dvs, VRs] at hv
    obtain ⟨h0, _⟩ := hv
    obtain ⟨c2, c3, c4, c5, c6, rfl⟩ := vals_tok h0
    refine (opens_ret (ρ 0).n (ρ 1).s c2 c3 c4 c5 c6 w).mono ?_
    rintro v w' ⟨hch, b, rfl⟩
    exact ⟨hch, rfl, fun I _ => post_b hok rfl rfl b trivial⟩
end
end Go.TL.H.Hlay
namespace Go.TL
def Seq.st (s : Seq) : DSt := ⟨[], [], s.tys, s.lin, s.prs, 0, []⟩
def has1 (id k : Nat) (l : List PF) : Bool := l.any fun f => match f with
  | .pr i [j] => Nat.beq i id && Nat.beq j k
  | _ => false
def hasB (b : Nat) (l : List PF) : Bool := l.any fun f => match f with
  | .tru (.var j) => Nat.beq j b
  | _ => false
def hasNB (b : Nat) (l : List PF) : Bool := l.any fun f => match f with
  | .tru (.not (.var j)) => Nat.beq j b
  | _ => false
def neq2 (s : Seq) (e : Lin) : Bool := s.prs.any fun f => match f with
  | .tru (.or (.eq a) (.eq b)) => a.beq (e.addc (-1)) && b.beq (e.addc (-3))
  | _ => false
def refu (s : Seq) (e : Lin) : Bool := (provesLe s.st (e.addc 1) || provesLe s.st ((Lin.scale (-1) e).addc 1)) || s.prs.any fun f => match f with
  | .tru (.not (.eq e')) => e'.beq e
  | _ => false
def isZero (s : Seq) (e : Lin) : Bool := provesLe s.st e && provesLe s.st (Lin.scale (-1) e)
def rowCalm (s : Seq) : List DP → Bool
  | .int .i64 e :: _ => neq2 s e
  | _ => false
def rowsCalm (s : Seq) : List (List DP) → Bool
  | [] => true
  | r :: rs => match rowCalm s r with | true => rowsCalm s rs | false => false
def calmOf (s : Seq) : Nat → Nat → Bool
  | 0, _ => false
  | n + 1, l => match has1 79 l s.prs, provesLe s.st (Lin.at (4 * l + 1)) with
    | true, _ => true
    | _, true => true
    | _, _ => s.prs.any fun f => match f with
      | .sub l' a _ _ => Nat.beq l' l && calmOf s n a
      | .app l' a b => Nat.beq l' l && ((match a with | some a => calmOf s n a | none => true) && (match b with | some b => calmOf s n b | none => true))
      | .lit l' rows => Nat.beq l' l && rowsCalm s rows
      | _ => false
def contra (s : Seq) : Bool := s.prs.any fun f => match f with
  | .tru (.or (.eq a) (.eq b)) => refu s a && refu s b
  | .pr 95 [b, k, t] => hasB b s.prs && s.prs.any fun f' => match f' with
    | .pr 95 [b', k', t'] => (Nat.beq k k' && Nat.beq t t') && hasNB b' s.prs
    | _ => false
  | _ => false
def goalOk (s : Seq) : Bool := match s.goal with
  | .pf (.pr 79 [l]) => calmOf s 6 l
  | .pf (.tru (.or (.eq a) (.eq b))) => (isZero s a || isZero s b) || s.prs.any fun f => match f with
    | .row l _ (.int .i64 e' :: _) => has1 79 l s.prs && (a.beq (e'.addc (-1)) && b.beq (e'.addc (-3)))
    | _ => false
  | _ => false
def handB (s : Seq) : Bool := match contra s with | true => true | false => goalOk s
def handAll : List Seq → Bool
  | [] => true
  | s :: r => match handB s with | true => handAll r | false => false
def Calm (l : List (List PV)) : Prop := ∀ row ∈ l, ∃ (k : Int) (r : List PV), row = .v (.int .i64 k) :: r ∧ (k = 1 ∨ k = 3)
structure HandI (I : Pr) : Prop where
  calm : ∀ va : Va, I 79 [va] ↔ Calm va.l
  mark : ∀ b k t : Va, I 95 [b, k, t] ↔ b.b = ((k.n == 8) && (t.s.toList == (⟨#[125]⟩ : ByteArray).toList))
theorem hand_std {P : Program} {T : FuncId → Ds} {ms : Int → ByteArray} (N : Nat) : HandI (inN (stdB P T ms) N) :=
  ⟨fun _ => Iff.rfl, fun _ _ _ => Iff.rfl⟩
section
variable {P : Program} {I : Pr} {ρ : Ro} {s : Seq}
theorem prs_mem : ∀ {l : List PF}, prsV I ρ l → ∀ f ∈ l, f.v I ρ
  | [], _, f, hf => by simp at hf
  | x :: r, h, f, hf => by
    rcases List.mem_cons.1 hf with rfl | hf
    · exact h.1
    · exact prs_mem h.2 f hf
theorem has1_v {id k : Nat} {l : List PF} (hl : prsV I ρ l) (h : has1 id k l = true) : I id [ρ k] := by
  obtain ⟨f, hf, ht⟩ := List.any_eq_true.1 h
  have hv := prs_mem hl f hf
  split at ht
  · simp only [Bool.and_eq_true] at ht
    rw [← Nat.eq_of_beq_eq_true ht.1, ← Nat.eq_of_beq_eq_true ht.2]
    exact hv
  · cases ht
theorem hasB_v {b : Nat} {l : List PF} (hl : prsV I ρ l) (h : hasB b l = true) : (ρ b).b = true := by
  obtain ⟨f, hf, ht⟩ := List.any_eq_true.1 h
  have hv := prs_mem hl f hf
  split at ht
  · rw [← Nat.eq_of_beq_eq_true ht]; exact hv
  · cases ht
theorem hasNB_v {b : Nat} {l : List PF} (hl : prsV I ρ l) (h : hasNB b l = true) : (ρ b).b = false := by
  obtain ⟨f, hf, ht⟩ := List.any_eq_true.1 h
  have hv := prs_mem hl f hf
  split at ht
  · rw [← Nat.eq_of_beq_eq_true ht]; simpa [PF.v, BF.v] using hv
  · cases ht
theorem neq2_v {e : Lin} (hl : prsV I ρ s.prs) (h : neq2 s e = true) : e.v ρ = 1 ∨ e.v ρ = 3 := by
  obtain ⟨f, hf, ht⟩ := List.any_eq_true.1 h
  have hv := prs_mem hl f hf
  split at ht
  · simp only [Bool.and_eq_true] at ht
    rw [Lin.beq_eq ht.1, Lin.beq_eq ht.2] at hv
    simp only [PF.v, BF.v, Bool.or_eq_true, decide_eq_true_eq, Lin.addc_v] at hv
    omega
  · cases ht
theorem refu_v {e : Lin} (hok : s.st.ok P I ρ) (h : refu s e = true) : e.v ρ ≠ 0 := by
  have hl : prsV I ρ s.prs := hok.prs
  unfold refu at h
  simp only [Bool.or_eq_true] at h
  rcases h with (h | h) | h
  · have := provesLe_v hok h; simp only [Lin.addc_v] at this; omega
  · have := provesLe_v hok h; simp only [Lin.addc_v, Lin.scale_v] at this; omega
  · obtain ⟨f, hf, ht⟩ := List.any_eq_true.1 h
    have hv := prs_mem hl f hf
    split at ht
    · rw [Lin.beq_eq ht] at hv
      simpa only [PF.v, BF.v, Bool.not_eq_true', decide_eq_false_iff_not] using hv
    · cases ht
theorem isZero_v {e : Lin} (hok : s.st.ok P I ρ) (h : isZero s e = true) : e.v ρ = 0 := by
  unfold isZero at h
  simp only [Bool.and_eq_true] at h
  have h1 := provesLe_v hok h.1
  have h2 := provesLe_v hok h.2
  simp only [Lin.scale_v] at h2
  omega
theorem rowsCalm_v (hl : prsV I ρ s.prs) : ∀ {rows : List (List DP)}, rowsCalm s rows = true → Calm (rowsV ρ rows)
  | [], _ => by intro row hr; simp [rowsV] at hr
  | r :: rs, h => by
    simp only [rowsCalm] at h
    split at h
    · rename_i hr
      intro row hrow
      simp only [rowsV, List.mem_cons] at hrow
      rcases hrow with rfl | hrow
      · unfold rowCalm at hr
        split at hr
        · rename_i e xs; exact ⟨e.v ρ, rowV ρ xs, rfl, neq2_v hl hr⟩
        · cases hr
      · exact rowsCalm_v hl h row hrow
    · cases h
theorem calmOf_v (hI : HandI I) (hok : s.st.ok P I ρ) : ∀ (n l : Nat), calmOf s n l = true → Calm (ρ l).l
  | 0, l, h => by cases h
  | n + 1, l, h => by
    have hl : prsV I ρ s.prs := hok.prs
    simp only [calmOf] at h
    split at h
    · rename_i h1; exact (hI.calm _).1 (has1_v hl h1)
    · rename_i h1 _
      have := provesLe_v hok h1
      simp only [Lin.at_v, atomV1] at this
      have h0 : (ρ l).l = [] := List.length_eq_zero_iff.1 (by omega)
      rw [h0]; intro row hr; simp at hr
    · obtain ⟨f, hf, ht⟩ := List.any_eq_true.1 h
      have hv := prs_mem hl f hf
      split at ht
      · rename_i l' a lo hi
        simp only [Bool.and_eq_true] at ht
        rw [← Nat.eq_of_beq_eq_true ht.1]
        have ih := calmOf_v hI hok n a ht.2
        simp only [PF.v] at hv
        rw [hv]
        intro row hr
        exact ih row (List.mem_of_mem_take (List.mem_of_mem_drop hr))
      · rename_i l' a b
        simp only [Bool.and_eq_true] at ht
        rw [← Nat.eq_of_beq_eq_true ht.1]
        simp only [PF.v] at hv
        rw [hv]
        intro row hr
        rcases List.mem_append.1 hr with hr | hr
        · cases a with
          | none => simp [lvV] at hr
          | some a => exact calmOf_v hI hok n a ht.2.1 row hr
        · cases b with
          | none => simp [lvV] at hr
          | some b => exact calmOf_v hI hok n b ht.2.2 row hr
      · rename_i l' rows
        simp only [Bool.and_eq_true] at ht
        rw [← Nat.eq_of_beq_eq_true ht.1]
        simp only [PF.v] at hv
        rw [hv]; exact rowsCalm_v hl ht.2
      · cases ht
theorem contra_v (hI : HandI I) (hok : s.st.ok P I ρ) (h : contra s = true) : False := by
  have hl : prsV I ρ s.prs := hok.prs
  obtain ⟨f, hf, ht⟩ := List.any_eq_true.1 h
  have hv := prs_mem hl f hf
  split at ht
  · simp only [Bool.and_eq_true] at ht
    have h1 := refu_v hok ht.1
    have h2 := refu_v hok ht.2
    simp only [PF.v, BF.v, Bool.or_eq_true, decide_eq_true_eq] at hv
    omega
  · rename_i b k t
    simp only [Bool.and_eq_true] at ht
    obtain ⟨hb, ht⟩ := ht
    obtain ⟨f', hf', ht'⟩ := List.any_eq_true.1 ht
    have hv' := prs_mem hl f' hf'
    split at ht'
    · rename_i b' k' t'
      simp only [Bool.and_eq_true] at ht'
      obtain ⟨⟨e1, e2⟩, hnb⟩ := ht'
      have e1 := Nat.eq_of_beq_eq_true e1
      have e2 := Nat.eq_of_beq_eq_true e2
      subst e1; subst e2
      have a1 := (hI.mark (ρ b) (ρ k) (ρ t)).1 hv
      have a2 := (hI.mark (ρ b') (ρ k) (ρ t)).1 hv'
      rw [hasB_v hl hb] at a1
      rw [hasNB_v hl hnb] at a2
      rw [← a1] at a2; cases a2
    · cases ht'
  · cases ht
theorem handB_v (hI : HandI I) (h : handB s = true) : s.valid P I := by
  intro ρ hg ht hlin hl
  have hok : s.st.ok P I ρ := ⟨hg, ht, hlin, hl⟩
  unfold handB at h
  split at h
  · rename_i hc; exact (contra_v hI hok hc).elim
  · unfold goalOk at h
    split at h
    · rename_i l hgoal
      rw [hgoal]
      exact (hI.calm _).2 (calmOf_v hI hok 6 l h)
    · rename_i a b hgoal
      rw [hgoal]
      simp only [G.v, PF.v, BF.v, Bool.or_eq_true, decide_eq_true_eq]
      simp only [Bool.or_eq_true] at h
      rcases h with (h | h) | h
      · exact .inl (isZero_v hok h)
      · exact .inr (isZero_v hok h)
      · obtain ⟨f, hf, hq⟩ := List.any_eq_true.1 h
        have hv := prs_mem hl f hf
        split at hq
        · rename_i l i e' xs
          simp only [Bool.and_eq_true] at hq
          obtain ⟨h1, h2, h3⟩ := hq
          have hc := (hI.calm _).1 (has1_v hl h1)
          simp only [PF.v, rowV] at hv
          obtain ⟨k, r, hr, hk⟩ := hc _ (List.mem_of_getElem? hv.2)
          simp only [DP.v, List.cons.injEq, PV.v.injEq, Value.int.injEq, true_and] at hr
          rw [Lin.beq_eq h2, Lin.beq_eq h3]
          simp only [Lin.addc_v]
          omega
        · cases hq
    · cases h
end
theorem handAll_v {P : Program} {I : Pr} (hI : HandI I) : ∀ {q : List Seq}, handAll q = true → Valid P I q
  | [], _ => Valid.nil
  | s :: r, h => by
    simp only [handAll] at h
    split at h
    · rename_i hs
      intro x hx
      rcases List.mem_cons.1 hx with rfl | hx
      · exact handB_v hI hs
      · exact handAll_v hI h x hx
    · cases h
def checkH (P : Program) (D G : List Spec) (s : Spec) (A : Ann) : Bool := match checkS P D G s A with | some q => handAll q | none => false
theorem hand_ok {P : Program} {T : FuncId → Ds} {ms : Int → ByteArray} {B : Pr} (hB : B = stdB P T ms) {D G : List Spec} {s : Spec} {A : Ann} (h : checkH P D G s A = true) : ∃ A q, checkS P D G s A = some q ∧ ∀ N, Valid P (inN B N) q := by
  unfold checkH at h
  split at h
  · rename_i q hq
    subst hB
    exact ⟨A, q, hq, fun N => handAll_v (hand_std N) h⟩
  · cases h
end Go.TL
