/- For every input that holds at most 1048576 values and letters TopSharedLayout returns true, and its argument reads behind the call as it read before. Conditions: those of the row. -/
import Derived.Test.YtaaimmmofkldbaaWl24
import Derived.Test.YtaaimmmofkldbaaWl26
import Derived.Test.YtaaimmmofkldbaaRows
import Derived.OpenShut
import Derived.WalkKit
import Derived.ProofKit
import Derived.JoinedCond
set_option maxRecDepth 100000
namespace Go.TL.H.lay
open Go Go.TL.Glay
abbrev tyY : TY := ⟨68, 3, 4, 9, 66, 44, 5, 132⟩
abbrev tyZ : TZ := ⟨69, 29, 39⟩
theorem kit : Kit Proofs.Try.prog tyY where
  mixed := by kernel_rfl
  e0 := by kernel_rfl
  e1 := by kernel_rfl
  e2 := by kernel_rfl
  e3 := by kernel_rfl
  e4 := by kernel_rfl
  i := one_mk (by kernel_rfl) (by kernel_rfl) rfl
  b := one_mk (by kernel_rfl) (by kernel_rfl) rfl
  s := one_mk (by kernel_rfl) (by kernel_rfl) rfl
  nl := one_mk (by kernel_rfl) (by kernel_rfl) rfl
  ss := one_mk (by kernel_rfl) (by kernel_rfl) rfl
  by' := one_mk (by kernel_rfl) (by kernel_rfl) rfl
  i16 := bytes_mk (by kernel_rfl)
  s16 := bytes_mk (by kernel_rfl)
  iU := by kernel_rfl
  bU := by kernel_rfl
  sU := by kernel_rfl
  nlU := by kernel_rfl
  ssU := by kernel_rfl
  byU := by kernel_rfl
  blU := by kernel_rfl
  eB := big_mk (by kernel_rfl) (by kernel_rfl)
theorem kit2 : Kit2 Proofs.Try.prog tyY tyZ := ⟨by kernel_rfl, by kernel_rfl, one_mk (by kernel_rfl) (by kernel_rfl) rfl⟩
theorem kit3 : Kit3 Proofs.Try.prog tyY tyZ 24 41 40 2 [.slice none 0 0, .int .i64 0] where
  bu1 := by kernel_rfl
  bu2 := by kernel_rfl
  bu3 := fun _ => by kernel_rfl
  lcU := by kernel_rfl
  ct := one_mk (by kernel_rfl) (by kernel_rfl) rfl
  tp := tp_mk (by kernel_rfl) (by kernel_rfl) rfl
  el := el_mk (by kernel_rfl) rfl rfl
  cks := by kernel_rfl
  small := by decide
def r_29 : Row := ⟨.via 22 46 47 75 7, [.sl 75], true, 0⟩
def r_30 : Row := ⟨.num 3, [.int .i64], true, 0⟩
def r_7 : Row := ⟨.st 24 [(0, 0, 29), (1, 1, 30)], [.sl 75, .int .i64], true, 1⟩
def r_11 : Row := ⟨.via 30 34 35 83 8, [.sl 83], true, 0⟩
def r_39 : Row := ⟨.str, [.str], false, 0⟩
def r_60 : Row := ⟨.num 2, [.int .i64], true, 0⟩
def r_54 : Row := ⟨.yes, [.bool], true, 0⟩
def r_47 : Row := ⟨.st 75 [(0, 0, 30), (1, 1, 39), (2, 2, 60), (3, 3, 30), (4, 4, 30), (5, 5, 30), (6, 6, 54)], [.int .i64, .str, .int .i64, .int .i64, .int .i64, .int .i64, .bool], true, 1⟩
def r_35 : Row := ⟨.st 83 [(0, 0, 47), (1, 7, 54)], [.int .i64, .str, .int .i64, .int .i64, .int .i64, .int .i64, .bool, .bool], true, 2⟩
def seeD : TabD := [(29, r_29), (30, r_30), (7, r_7), (11, r_11), (39, r_39), (60, r_60), (54, r_54), (47, r_47), (35, r_35)]
theorem b_29 : Body Proofs.Try.prog 29 9 [] (viaC 22 46 47) := body_mk (by kernel_rfl) (by kernel_rfl)
theorem b_46 : Body Proofs.Try.prog 46 46 [] (allC tyY 22) := body_mk (by kernel_rfl) (by kernel_rfl)
theorem f_29 : Fit Proofs.Try.prog tyY seeD 29 r_29 := fit_via (r1 := r_47) b_29 b_46 (by kernel_rfl) (by kernel_rfl) (one_mk (by kernel_rfl) (by kernel_rfl) rfl) (by kernel_rfl) (by kernel_rfl) (by kernel_rfl) (by kernel_rfl) (by kernel_rfl) (by kernel_rfl)
theorem b_30 : Body Proofs.Try.prog 30 33 [] (numC tyY 3) := body_mk (by kernel_rfl) (by kernel_rfl)
theorem f_30 : Fit Proofs.Try.prog tyY seeD 30 r_30 := fit_num b_30 (show One Proofs.Try.prog 3 (.int .i64 0) from one_mk (by kernel_rfl) (by kernel_rfl) rfl)
theorem b_7 : Body Proofs.Try.prog 7 14 [] (stC 24 4 [(0, 0, 29), (1, 1, 30)]) := body_mk (by kernel_rfl) (by kernel_rfl)
theorem f_7 : Fit Proofs.Try.prog tyY seeD 7 r_7 := fit_st b_7 (by kernel_rfl) (by kernel_rfl) (by kernel_rfl)
theorem b_11 : Body Proofs.Try.prog 11 9 [] (viaC 30 34 35) := body_mk (by kernel_rfl) (by kernel_rfl)
theorem b_34 : Body Proofs.Try.prog 34 46 [] (allC tyY 30) := body_mk (by kernel_rfl) (by kernel_rfl)
theorem f_11 : Fit Proofs.Try.prog tyY seeD 11 r_11 := fit_via (r1 := r_35) b_11 b_34 (by kernel_rfl) (by kernel_rfl) (one_mk (by kernel_rfl) (by kernel_rfl) rfl) (by kernel_rfl) (by kernel_rfl) (by kernel_rfl) (by kernel_rfl) (by kernel_rfl) (by kernel_rfl)
theorem b_39 : Body Proofs.Try.prog 39 49 [] (strC tyY) := body_mk (by kernel_rfl) (by kernel_rfl)
theorem f_39 : Fit Proofs.Try.prog tyY seeD 39 r_39 := fit_str b_39
theorem b_60 : Body Proofs.Try.prog 60 33 [] (numC tyY 2) := body_mk (by kernel_rfl) (by kernel_rfl)
theorem f_60 : Fit Proofs.Try.prog tyY seeD 60 r_60 := fit_num b_60 (show One Proofs.Try.prog 2 (.int .i64 0) from one_mk (by kernel_rfl) (by kernel_rfl) rfl)
theorem b_54 : Body Proofs.Try.prog 54 28 [] (yesC tyY) := body_mk (by kernel_rfl) (by kernel_rfl)
theorem f_54 : Fit Proofs.Try.prog tyY seeD 54 r_54 := fit_yes b_54
theorem b_47 : Body Proofs.Try.prog 47 39 [] (stC 75 4 [(0, 0, 30), (1, 1, 39), (2, 2, 60), (3, 3, 30), (4, 4, 30), (5, 5, 30), (6, 6, 54)]) := body_mk (by kernel_rfl) (by kernel_rfl)
theorem f_47 : Fit Proofs.Try.prog tyY seeD 47 r_47 := fit_st b_47 (by kernel_rfl) (by kernel_rfl) (by kernel_rfl)
theorem b_35 : Body Proofs.Try.prog 35 14 [] (stC 83 4 [(0, 0, 47), (1, 7, 54)]) := body_mk (by kernel_rfl) (by kernel_rfl)
theorem f_35 : Fit Proofs.Try.prog tyY seeD 35 r_35 := fit_st b_35 (by kernel_rfl) (by kernel_rfl) (by kernel_rfl)
theorem seeOk : TabOk Proofs.Try.prog tyY seeD := tab_mk (List.forall_mem_cons.2 ⟨f_29, (List.forall_mem_cons.2 ⟨f_30, (List.forall_mem_cons.2 ⟨f_7, (List.forall_mem_cons.2 ⟨f_11, (List.forall_mem_cons.2 ⟨f_39, (List.forall_mem_cons.2 ⟨f_60, (List.forall_mem_cons.2 ⟨f_54, (List.forall_mem_cons.2 ⟨f_47, (List.forall_mem_cons.2 ⟨f_35, (by simp)⟩)⟩)⟩)⟩)⟩)⟩)⟩)⟩)⟩)
def o_28 : ORow := ⟨.cp 22 75 7 [.int .i64 0, .string ⟨#[]⟩, .int .i64 0, .int .i64 0, .int .i64 0, .int .i64 0, .bool false], 0⟩
def o_6 : ORow := ⟨.st 24 2 [.slice none 0 0, .int .i64 0] [⟨0, 0, 1, 22, false, 28⟩], 1⟩
def ownO : OTab := [(28, o_28), (6, o_6)]
theorem b_28 : Body Proofs.Try.prog 28 9 [.tmp 2] (copiedC tyY 22) := body_mk (by kernel_rfl) (by kernel_rfl)
theorem of_28 : OFit Proofs.Try.prog tyY ownO 28 o_28 := ofit_cp b_28 (by kernel_rfl) (el_mk (by kernel_rfl) rfl rfl) (by kernel_rfl) (by kernel_rfl) (by kernel_rfl) (by kernel_rfl)
theorem b_6 : Body Proofs.Try.prog 6 8 [.cell 2 24] (ownStC 24 [⟨0, 0, 1, 22, false, 28⟩]) := body_mk (by kernel_rfl) (by kernel_rfl)
theorem of_6 : OFit Proofs.Try.prog tyY ownO 6 o_6 := ofit_st b_6 (el_mk (by kernel_rfl) rfl rfl) (by kernel_rfl) (by kernel_rfl) (by kernel_rfl) (by kernel_rfl) (by kernel_rfl) (by kernel_rfl)
theorem ownOk : ∀ f r, lk ownO f = some r → OFit Proofs.Try.prog tyY ownO f r := otab_mk (List.forall_mem_cons.2 ⟨of_28, (List.forall_mem_cons.2 ⟨of_6, (by simp)⟩)⟩)
def mets : List TypeId := [75]
theorem b_24 : Body Proofs.Try.prog 24 27 [.tmp 2] (greatC tyY) := body_mk (by kernel_rfl) (by kernel_rfl)
theorem b_25 : Body Proofs.Try.prog 25 23 [.tmp 2] (lookC tyY tyZ) := body_mk (by kernel_rfl) (by kernel_rfl)
theorem b_26 : Body Proofs.Try.prog 26 59 [.tmp 4] (sameC tyY) := body_mk (by kernel_rfl) (by kernel_rfl)
theorem b_27 : Body Proofs.Try.prog 27 29 [.tmp 6] (alikeC tyY tyZ 26) := body_mk (by kernel_rfl) (by kernel_rfl)
theorem b_5 : Body Proofs.Try.prog 5 95 [.tmp 8] (apartC tyY tyZ 24 41 40 24 25 26 27) := body_mk (by kernel_rfl) (by kernel_rfl)
theorem b_3 : Body Proofs.Try.prog 3 9 [.tmp 2] (topC 24 41 [8] 5 6 7 12) := body_mk (by kernel_rfl) (by kernel_rfl)
theorem b_10 : Body Proofs.Try.prog 10 5 [] (cloC 11) := body_mk (by kernel_rfl) (by kernel_rfl)
theorem tp_22 : Tp Proofs.Try.prog 22 false 1 := tp_mk (by kernel_rfl) (by kernel_rfl) rfl
theorem tp_3 : Tp Proofs.Try.prog 3 false 1 := tp_mk (by kernel_rfl) (by kernel_rfl) rfl
theorem el_30 : El Proofs.Try.prog 30 1 [.slice none 0 0] := el_mk (by kernel_rfl) rfl rfl
theorem el_33 : El Proofs.Try.prog 33 2 [.int .i64 0, .int .i64 0] := el_mk (by kernel_rfl) rfl rfl
theorem tp_30 : Tp Proofs.Try.prog 30 false 1 := tp_mk (by kernel_rfl) (by kernel_rfl) rfl
theorem tp_33 : Tp Proofs.Try.prog 33 true 2 := tp_mk (by kernel_rfl) (by kernel_rfl) rfl
theorem b_8 : Body Proofs.Try.prog 8 19 [.tmp 2] ((.seq (.region 0 ([⟨(some 2), .assign (.const (.slice none 0 0)), 0, "", #[], none⟩] : List Oper).toArray false) (.seq (.region 0 ([⟨(some 6), .move (.tmp 0), 0, "", #[], none⟩, ⟨(some 7), .nilCheck (.tmp 6), 0, "", #[eD 0], none⟩, ⟨(some 8), .fieldAddr 24 (.tmp 7) 0, 0, "", #[eD 1], none⟩, ⟨(some 9), .load 22 (.tmp 8), 0, "", #[eD 2], none⟩, ⟨(some 10), .move (.tmp 0), 0, "", #[], none⟩, ⟨(some 11), .nilCheck (.tmp 10), 0, "", #[eD 4], none⟩, ⟨(some 12), .fieldAddr 24 (.tmp 11) 1, 0, "", #[eD 5], none⟩, ⟨(some 13), .load 3 (.tmp 12), 0, "", #[eD 6], none⟩, ⟨(some 14), .call ⟨(.value (.func 9)), #[(.tmp 9), (.tmp 13)], #[]⟩, 0, "", #[eD 3, eD 7], none⟩, ⟨(some 5), .move (.tmp 14), 0, "", #[eD 8], none⟩, ⟨(some 15), .extract (.tmp 5) 0, 0, "", #[eD 9], none⟩, ⟨(some 16), .extract (.tmp 5) 1, 0, "", #[eD 9, ⟨14, .gcOnly .lateStores⟩], none⟩, ⟨(some 3), .alloc 30, 0, "", #[], none⟩, ⟨(some 4), .alloc 33, 0, "", #[], none⟩, ⟨none, .store 30 (.tmp 3) (.tmp 15), 0, "", #[eD 12, eD 10, eC 8, eP 0, eP 1, eP 2, eP 3, eP 4, eP 5, eP 6, eP 7, eP 8, eP 9, eP 10, ⟨11, .textOnly .lateStores⟩, eP 12, eP 13], none⟩, ⟨none, .store 33 (.tmp 4) (.tmp 16), 0, "", #[eD 13, eD 11, eC 14, eP 0, eP 1, eP 2, eP 3, eP 4, eP 5, eP 6, eP 7, eP 8, eP 9, eP 10, eP 11, eP 12, eP 13, eP 14], none⟩] : List Oper).toArray true) (.seq (.region 0 ([⟨(some 17), .makeFunc (.func 10) #[] #[(.tmp 3)], 0, "", #[], none⟩, ⟨(some 18), .buildSlice 29 1 #[(0, (.tmp 17))], 0, "", #[], none⟩, ⟨(some 2), .assign (.tmp 18), 0, "", #[], none⟩] : List Oper).toArray false) .ret)))) := body_mk (by kernel_rfl) (by kernel_rfl)
theorem call_8 : CallC Proofs.Try.prog seeD 24 2097152 8 := by
  intro w0 b l0 row hb0 hcw0 hty hN
  have hl0 : l0.length = 2 := (hcw0.len.trans ((WTs_iff _ _).1 hty).1).trans kit3.cks
  obtain ⟨v0, l1, rfl, hl1⟩ := cons_of hl0
  obtain ⟨v1, l2, rfl, hl2⟩ := cons_of hl1
  obtain rfl := List.eq_nil_of_length_eq_zero hl2
  refine ret_of b_8 ?_
  have hs := SL.init (n := 19) [Ptr b 0] rfl
  revert hs
  generalize ({ tmps := _, defers := [] } : Act) = a
  intro hs
  have g0 := Ch.refl (fun _ => False) w0
  refine nw_seq (nw_region ?_)
  refine L hs rfl rfl (x_mv hs (.inr rfl) rfl) fun a hs => ?_
  refine Le (nw_seq (nw_draw' 16 rfl kit.mixed ?_))
  refine any_with (LeafC Proofs.Try.prog 19 3 30 [.sl 83] w0) (fun _ _ _ h => h) (fun a w100 hl => ?_) fun hp hQ => ?_
  rotate_left
  have hK : Known Proofs.Try.prog (stdB Proofs.Try.prog (fun _ => TL.Ds.yes) fun _ => ⟨#[]⟩) stdJ s_All := h_All rfl rfl
  have hCall : CallOk Proofs.Try.prog 24 s_All [0, 1] [none, none] [some (false, [.sl 83]), some (true, [.int .i64, .int .i64])] := ⟨rfl, rfl, by kernel_rfl, by kernel_rfl, by kernel_rfl, by kernel_rfl, by kernel_rfl⟩
  have hchunk : chunkV [none, none] (pickL [0, 1] [v0, v1]) = [pk false [v0], pk false [v1]] := by kernel_rfl
  have hfn : s_All.fn = 9 := by kernel_rfl
  have c0 := Ch.drew (fun _ => False) w0
  generalize ({ w0 with drawn := w0.drawn + 1 } : World) = w1 at c0 ⊢
  have g1 := g0.trans c0
  have hb1 := c0.at hb0 fun h => h
  have hcw1 := hcw0.ch c0
  · skip
    refine Yb 0 hs rfl rfl rfl (by kernel_rfl) hp (fun w => x_mv hs (.inl rfl) rfl) fun a hs => ?_
    refine Yb 1 hs rfl rfl rfl (by kernel_rfl) hp (fun w => x_nil hs rfl rfl) fun a hs => ?_
    refine Yb 2 hs rfl rfl rfl (by kernel_rfl) hp (fun w => x_fa (off := 0) (sz := 1) hs rfl rfl (by kernel_rfl)) fun a hs => ?_
    refine Yb 4 hs rfl rfl rfl (by kernel_rfl) hp (fun w => x_mv hs (.inl rfl) rfl) fun a hs => ?_
    refine Yb 5 hs rfl rfl rfl (by kernel_rfl) hp (fun w => x_nil hs rfl rfl) fun a hs => ?_
    refine Yb 6 hs rfl rfl rfl (by kernel_rfl) hp (fun w => x_fa (off := 1) (sz := 1) hs rfl rfl (by kernel_rfl)) fun a hs => ?_
    refine wpAny_all (rs := [3, 7, 12, 13]) (by kernel_rfl) (by simp) fun j hj => ?_
    simp only [List.mem_cons, List.mem_nil_iff, or_false] at hj
    rcases hj with rfl | rfl | rfl | rfl
    · refine wpOp_of hs rfl rfl rfl (x_ldp [v0] hs rfl rfl tp_22 rfl hb1 (sub_get 0 1 rfl)) fun a hs => ?_
      refine wpAny_all (rs := [7, 12, 13]) (by kernel_rfl) (by simp) fun j hj => ?_
      simp only [List.mem_cons, List.mem_nil_iff, or_false] at hj
      rcases hj with rfl | rfl | rfl
      · refine wpOp_of hs rfl rfl rfl (x_ldp [v1] hs rfl rfl tp_3 rfl hb1 (sub_get 1 1 rfl)) fun a hs => ?_
        refine wpAny_all (rs := [8, 12, 13]) (by kernel_rfl) (by simp) fun j hj => ?_
        simp only [List.mem_cons, List.mem_nil_iff, or_false] at hj
        rcases hj with rfl | rfl | rfl
        · have q1 := call_of (is := [0, 1]) (parts := [none, none]) (kinds := [some (false, [.sl 83]), some (true, [.int .i64, .int .i64])]) hK hCall hty hcw1 hN
          rw [hchunk, hfn] at q1
          refine wpOp_callR hs rfl rfl rfl rfl rfl rfl (by kernel_rfl) q1 fun v w2 a hO hs => ?_
          obtain ⟨c1, us0, rfl, hO0⟩ := hO
          obtain ⟨rr0, uu0, us1, rfl, cw0, wt0, hO1⟩ := hO0.take
          obtain ⟨rr1, uu1, us2, rfl, cw1, wt1, hO2⟩ := hO1.take
          obtain rfl := hO2.nil
          have sz0 := g1.size
          have hl0 : uu0.length = 1 := (cw0.len.trans ((WTs_iff _ _).1 wt0).1)
          have hl1 : uu1.length = 2 := (cw1.len.trans ((WTs_iff _ _).1 wt1).1)
          have g2 := g1.trans c1
          have gc := Ch.refl (fun _ => False) w2
          refine Yb 9 hs rfl rfl rfl (by kernel_rfl) hp (fun w => x_mv hs (.inl rfl) rfl) fun a hs => ?_
          refine Yb 10 hs rfl rfl rfl (by kernel_rfl) hp (fun w => x_extract hs rfl rfl rfl) fun a hs => ?_
          refine Yb 11 hs rfl rfl rfl (by kernel_rfl) hp (fun w => x_extract hs rfl rfl rfl) fun a hs => ?_
          refine wpAny_all (rs := [12, 13]) (by kernel_rfl) (by simp) fun j hj => ?_
          simp only [List.mem_cons, List.mem_nil_iff, or_false] at hj
          rcases hj with rfl | rfl
          · refine wpOp_of hs rfl rfl rfl (x_allocz rfl el_30) fun a hs => ?_
            have c2 := Ch.alloc (fun _ => False) w2 (.cells [.slice none 0 0].toArray 30)
            have bx12_3 := heap_alloc_new w2 (.cells [.slice none 0 0].toArray 30)
            have lo12 := g2.size
            have ge12 := gc.size
            generalize hbn12 : w2.heap.size = bn12 at *
            generalize w2.alloc (.cells [.slice none 0 0].toArray 30) = w3 at *
            have g3 := g2.trans c2
            have gc := gc.trans c2
            refine Y1 13 (by kernel_rfl) (wpOp_of hs rfl rfl rfl (x_allocz rfl el_33) fun a hs => ?_)
            have c3 := Ch.alloc (fun _ => False) w3 (.cells [.int .i64 0, .int .i64 0].toArray 33)
            have bx13_4 := heap_alloc_new w3 (.cells [.int .i64 0, .int .i64 0].toArray 33)
            have lo13 := g3.size
            have ge13 := gc.size
            generalize hbn13 : w3.heap.size = bn13 at *
            generalize w3.alloc (.cells [.int .i64 0, .int .i64 0].toArray 33) = w4 at *
            have g4 := g3.trans c3
            have bx12_4 := c3.at bx12_3 id
            have gc := gc.trans c3
            have hs5 : SL 19 [(3, Ptr bn12 0), (4, Ptr bn13 0), (15, pk false uu0), (16, pk true uu1)] a := hs.keep [3, 4, 15, 16]
            exact stores_ok (i1 := 14) (i2 := 15) (rr0 := rr0) (by kernel_rfl) (by kernel_rfl) (by kernel_rfl) rfl rfl rfl rfl rfl rfl rfl rfl tp_30 tp_33 rfl rfl rfl rfl rfl rfl hQ hs5 g4 bx12_4 bx13_4 (by intro h; rw [h, bx13_4] at bx12_4; simp at bx12_4) rfl rfl hl0 hl1 cw0.one cw1.one lo12 lo13
              (fun w' hw => (cw0.keep fun b o hb hh => have := heap_lt hh; hw b o (by omega) (by omega) (gc.at hh id)).down sz0) wt0
          · refine wpOp_of hs rfl rfl rfl (x_allocz rfl el_33) fun a hs => ?_
            have c2 := Ch.alloc (fun _ => False) w2 (.cells [.int .i64 0, .int .i64 0].toArray 33)
            have bx13_3 := heap_alloc_new w2 (.cells [.int .i64 0, .int .i64 0].toArray 33)
            have lo13 := g2.size
            have ge13 := gc.size
            generalize hbn13 : w2.heap.size = bn13 at *
            generalize w2.alloc (.cells [.int .i64 0, .int .i64 0].toArray 33) = w3 at *
            have g3 := g2.trans c2
            have gc := gc.trans c2
            refine Y1 12 (by kernel_rfl) (wpOp_of hs rfl rfl rfl (x_allocz rfl el_30) fun a hs => ?_)
            have c3 := Ch.alloc (fun _ => False) w3 (.cells [.slice none 0 0].toArray 30)
            have bx12_4 := heap_alloc_new w3 (.cells [.slice none 0 0].toArray 30)
            have lo12 := g3.size
            have ge12 := gc.size
            generalize hbn12 : w3.heap.size = bn12 at *
            generalize w3.alloc (.cells [.slice none 0 0].toArray 30) = w4 at *
            have g4 := g3.trans c3
            have bx13_4 := c3.at bx13_3 id
            have gc := gc.trans c3
            have hs5 : SL 19 [(3, Ptr bn12 0), (4, Ptr bn13 0), (15, pk false uu0), (16, pk true uu1)] a := hs.keep [3, 4, 15, 16]
            exact stores_ok (i1 := 14) (i2 := 15) (rr0 := rr0) (by kernel_rfl) (by kernel_rfl) (by kernel_rfl) rfl rfl rfl rfl rfl rfl rfl rfl tp_30 tp_33 rfl rfl rfl rfl rfl rfl hQ hs5 g4 bx12_4 bx13_4 (by intro h; rw [h, bx13_4] at bx12_4; simp at bx12_4) rfl rfl hl0 hl1 cw0.one cw1.one lo12 lo13
              (fun w' hw => (cw0.keep fun b o hb hh => have := heap_lt hh; hw b o (by omega) (by omega) (gc.at hh id)).down sz0) wt0
        · refine wpOp_of hs rfl rfl rfl (x_allocz rfl el_30) fun a hs => ?_
          have c1 := Ch.alloc (fun _ => False) w1 (.cells [.slice none 0 0].toArray 30)
          have bx12_2 := heap_alloc_new w1 (.cells [.slice none 0 0].toArray 30)
          have lo12 := g1.size
          generalize hbn12 : w1.heap.size = bn12 at *
          generalize w1.alloc (.cells [.slice none 0 0].toArray 30) = w2 at *
          have g2 := g1.trans c1
          have hb2 := c1.at hb1 id
          have hcw2 := hcw1.ch c1
          refine wpAny_all (rs := [8, 13]) (by kernel_rfl) (by simp) fun j hj => ?_
          simp only [List.mem_cons, List.mem_nil_iff, or_false] at hj
          rcases hj with rfl | rfl
          · have lt12 : bn12 < w2.heap.size := heap_lt bx12_2
            have q2 := call_of (is := [0, 1]) (parts := [none, none]) (kinds := [some (false, [.sl 83]), some (true, [.int .i64, .int .i64])]) hK hCall hty hcw2 hN
            rw [hchunk, hfn] at q2
            refine wpOp_callR hs rfl rfl rfl rfl rfl rfl (by kernel_rfl) q2 fun v w3 a hO hs => ?_
            obtain ⟨c2, us0, rfl, hO0⟩ := hO
            obtain ⟨rr0, uu0, us1, rfl, cw0, wt0, hO1⟩ := hO0.take
            obtain ⟨rr1, uu1, us2, rfl, cw1, wt1, hO2⟩ := hO1.take
            obtain rfl := hO2.nil
            have sz0 := g2.size
            have hl0 : uu0.length = 1 := (cw0.len.trans ((WTs_iff _ _).1 wt0).1)
            have hl1 : uu1.length = 2 := (cw1.len.trans ((WTs_iff _ _).1 wt1).1)
            have g3 := g2.trans c2
            have bx12_3 := c2.at bx12_2 id
            have gc := Ch.refl (fun _ => False) w3
            refine Yb 9 hs rfl rfl rfl (by kernel_rfl) hp (fun w => x_mv hs (.inl rfl) rfl) fun a hs => ?_
            refine Yb 10 hs rfl rfl rfl (by kernel_rfl) hp (fun w => x_extract hs rfl rfl rfl) fun a hs => ?_
            refine Yb 11 hs rfl rfl rfl (by kernel_rfl) hp (fun w => x_extract hs rfl rfl rfl) fun a hs => ?_
            refine Y1 13 (by kernel_rfl) (wpOp_of hs rfl rfl rfl (x_allocz rfl el_33) fun a hs => ?_)
            have c3 := Ch.alloc (fun _ => False) w3 (.cells [.int .i64 0, .int .i64 0].toArray 33)
            have bx13_4 := heap_alloc_new w3 (.cells [.int .i64 0, .int .i64 0].toArray 33)
            have lo13 := g3.size
            have ge13 := gc.size
            generalize hbn13 : w3.heap.size = bn13 at *
            generalize w3.alloc (.cells [.int .i64 0, .int .i64 0].toArray 33) = w4 at *
            have g4 := g3.trans c3
            have bx12_4 := c3.at bx12_3 id
            have gc := gc.trans c3
            have hs5 : SL 19 [(3, Ptr bn12 0), (4, Ptr bn13 0), (15, pk false uu0), (16, pk true uu1)] a := hs.keep [3, 4, 15, 16]
            exact stores_ok (i1 := 14) (i2 := 15) (rr0 := rr0) (by kernel_rfl) (by kernel_rfl) (by kernel_rfl) rfl rfl rfl rfl rfl rfl rfl rfl tp_30 tp_33 rfl rfl rfl rfl rfl rfl hQ hs5 g4 bx12_4 bx13_4 (by intro h; rw [h, bx13_4] at bx12_4; simp at bx12_4) rfl rfl hl0 hl1 cw0.one cw1.one lo12 lo13
              (fun w' hw => (cw0.keep fun b o hb hh => have := heap_lt hh; hw b o (by omega) (by omega) (gc.at hh id)).down sz0) wt0
          · refine wpOp_of hs rfl rfl rfl (x_allocz rfl el_33) fun a hs => ?_
            have c2 := Ch.alloc (fun _ => False) w2 (.cells [.int .i64 0, .int .i64 0].toArray 33)
            have bx13_3 := heap_alloc_new w2 (.cells [.int .i64 0, .int .i64 0].toArray 33)
            have lo13 := g2.size
            generalize hbn13 : w2.heap.size = bn13 at *
            generalize w2.alloc (.cells [.int .i64 0, .int .i64 0].toArray 33) = w3 at *
            have g3 := g2.trans c2
            have hb3 := c2.at hb2 id
            have hcw3 := hcw2.ch c2
            have bx12_3 := c2.at bx12_2 id
            have lt12 : bn12 < w3.heap.size := heap_lt bx12_3
            have lt13 : bn13 < w3.heap.size := heap_lt bx13_3
            have q3 := call_of (is := [0, 1]) (parts := [none, none]) (kinds := [some (false, [.sl 83]), some (true, [.int .i64, .int .i64])]) hK hCall hty hcw3 hN
            rw [hchunk, hfn] at q3
            refine Y1 8 (by kernel_rfl) (wpOp_callR hs rfl rfl rfl rfl rfl rfl (by kernel_rfl) q3 fun v w4 a hO hs => ?_)
            obtain ⟨c3, us0, rfl, hO0⟩ := hO
            obtain ⟨rr0, uu0, us1, rfl, cw0, wt0, hO1⟩ := hO0.take
            obtain ⟨rr1, uu1, us2, rfl, cw1, wt1, hO2⟩ := hO1.take
            obtain rfl := hO2.nil
            have sz0 := g3.size
            have hl0 : uu0.length = 1 := (cw0.len.trans ((WTs_iff _ _).1 wt0).1)
            have hl1 : uu1.length = 2 := (cw1.len.trans ((WTs_iff _ _).1 wt1).1)
            have g4 := g3.trans c3
            have bx12_4 := c3.at bx12_3 id
            have bx13_4 := c3.at bx13_3 id
            have gc := Ch.refl (fun _ => False) w4
            refine Yb 9 hs rfl rfl rfl (by kernel_rfl) hp (fun w => x_mv hs (.inl rfl) rfl) fun a hs => ?_
            refine Yb 10 hs rfl rfl rfl (by kernel_rfl) hp (fun w => x_extract hs rfl rfl rfl) fun a hs => ?_
            refine Yb 11 hs rfl rfl rfl (by kernel_rfl) hp (fun w => x_extract hs rfl rfl rfl) fun a hs => ?_
            have hs5 : SL 19 [(3, Ptr bn12 0), (4, Ptr bn13 0), (15, pk false uu0), (16, pk true uu1)] a := hs.keep [3, 4, 15, 16]
            exact stores_ok (i1 := 14) (i2 := 15) (rr0 := rr0) (by kernel_rfl) (by kernel_rfl) (by kernel_rfl) rfl rfl rfl rfl rfl rfl rfl rfl tp_30 tp_33 rfl rfl rfl rfl rfl rfl hQ hs5 g4 bx12_4 bx13_4 (by intro h; rw [h, bx13_4] at bx12_4; simp at bx12_4) rfl rfl hl0 hl1 cw0.one cw1.one lo12 lo13
              (fun w' hw => (cw0.keep fun b o hb hh => have := heap_lt hh; hw b o (by omega) (by omega) (gc.at hh id)).down sz0) wt0
        · refine wpOp_of hs rfl rfl rfl (x_allocz rfl el_33) fun a hs => ?_
          have c1 := Ch.alloc (fun _ => False) w1 (.cells [.int .i64 0, .int .i64 0].toArray 33)
          have bx13_2 := heap_alloc_new w1 (.cells [.int .i64 0, .int .i64 0].toArray 33)
          have lo13 := g1.size
          generalize hbn13 : w1.heap.size = bn13 at *
          generalize w1.alloc (.cells [.int .i64 0, .int .i64 0].toArray 33) = w2 at *
          have g2 := g1.trans c1
          have hb2 := c1.at hb1 id
          have hcw2 := hcw1.ch c1
          refine wpAny_all (rs := [8, 12]) (by kernel_rfl) (by simp) fun j hj => ?_
          simp only [List.mem_cons, List.mem_nil_iff, or_false] at hj
          rcases hj with rfl | rfl
          · have lt13 : bn13 < w2.heap.size := heap_lt bx13_2
            have q2 := call_of (is := [0, 1]) (parts := [none, none]) (kinds := [some (false, [.sl 83]), some (true, [.int .i64, .int .i64])]) hK hCall hty hcw2 hN
            rw [hchunk, hfn] at q2
            refine wpOp_callR hs rfl rfl rfl rfl rfl rfl (by kernel_rfl) q2 fun v w3 a hO hs => ?_
            obtain ⟨c2, us0, rfl, hO0⟩ := hO
            obtain ⟨rr0, uu0, us1, rfl, cw0, wt0, hO1⟩ := hO0.take
            obtain ⟨rr1, uu1, us2, rfl, cw1, wt1, hO2⟩ := hO1.take
            obtain rfl := hO2.nil
            have sz0 := g2.size
            have hl0 : uu0.length = 1 := (cw0.len.trans ((WTs_iff _ _).1 wt0).1)
            have hl1 : uu1.length = 2 := (cw1.len.trans ((WTs_iff _ _).1 wt1).1)
            have g3 := g2.trans c2
            have bx13_3 := c2.at bx13_2 id
            have gc := Ch.refl (fun _ => False) w3
            refine Yb 9 hs rfl rfl rfl (by kernel_rfl) hp (fun w => x_mv hs (.inl rfl) rfl) fun a hs => ?_
            refine Yb 10 hs rfl rfl rfl (by kernel_rfl) hp (fun w => x_extract hs rfl rfl rfl) fun a hs => ?_
            refine Yb 11 hs rfl rfl rfl (by kernel_rfl) hp (fun w => x_extract hs rfl rfl rfl) fun a hs => ?_
            refine Y1 12 (by kernel_rfl) (wpOp_of hs rfl rfl rfl (x_allocz rfl el_30) fun a hs => ?_)
            have c3 := Ch.alloc (fun _ => False) w3 (.cells [.slice none 0 0].toArray 30)
            have bx12_4 := heap_alloc_new w3 (.cells [.slice none 0 0].toArray 30)
            have lo12 := g3.size
            have ge12 := gc.size
            generalize hbn12 : w3.heap.size = bn12 at *
            generalize w3.alloc (.cells [.slice none 0 0].toArray 30) = w4 at *
            have g4 := g3.trans c3
            have bx13_4 := c3.at bx13_3 id
            have gc := gc.trans c3
            have hs5 : SL 19 [(3, Ptr bn12 0), (4, Ptr bn13 0), (15, pk false uu0), (16, pk true uu1)] a := hs.keep [3, 4, 15, 16]
            exact stores_ok (i1 := 14) (i2 := 15) (rr0 := rr0) (by kernel_rfl) (by kernel_rfl) (by kernel_rfl) rfl rfl rfl rfl rfl rfl rfl rfl tp_30 tp_33 rfl rfl rfl rfl rfl rfl hQ hs5 g4 bx12_4 bx13_4 (by intro h; rw [h, bx13_4] at bx12_4; simp at bx12_4) rfl rfl hl0 hl1 cw0.one cw1.one lo12 lo13
              (fun w' hw => (cw0.keep fun b o hb hh => have := heap_lt hh; hw b o (by omega) (by omega) (gc.at hh id)).down sz0) wt0
          · refine wpOp_of hs rfl rfl rfl (x_allocz rfl el_30) fun a hs => ?_
            have c2 := Ch.alloc (fun _ => False) w2 (.cells [.slice none 0 0].toArray 30)
            have bx12_3 := heap_alloc_new w2 (.cells [.slice none 0 0].toArray 30)
            have lo12 := g2.size
            generalize hbn12 : w2.heap.size = bn12 at *
            generalize w2.alloc (.cells [.slice none 0 0].toArray 30) = w3 at *
            have g3 := g2.trans c2
            have hb3 := c2.at hb2 id
            have hcw3 := hcw2.ch c2
            have bx13_3 := c2.at bx13_2 id
            have lt13 : bn13 < w3.heap.size := heap_lt bx13_3
            have lt12 : bn12 < w3.heap.size := heap_lt bx12_3
            have q3 := call_of (is := [0, 1]) (parts := [none, none]) (kinds := [some (false, [.sl 83]), some (true, [.int .i64, .int .i64])]) hK hCall hty hcw3 hN
            rw [hchunk, hfn] at q3
            refine Y1 8 (by kernel_rfl) (wpOp_callR hs rfl rfl rfl rfl rfl rfl (by kernel_rfl) q3 fun v w4 a hO hs => ?_)
            obtain ⟨c3, us0, rfl, hO0⟩ := hO
            obtain ⟨rr0, uu0, us1, rfl, cw0, wt0, hO1⟩ := hO0.take
            obtain ⟨rr1, uu1, us2, rfl, cw1, wt1, hO2⟩ := hO1.take
            obtain rfl := hO2.nil
            have sz0 := g3.size
            have hl0 : uu0.length = 1 := (cw0.len.trans ((WTs_iff _ _).1 wt0).1)
            have hl1 : uu1.length = 2 := (cw1.len.trans ((WTs_iff _ _).1 wt1).1)
            have g4 := g3.trans c3
            have bx13_4 := c3.at bx13_3 id
            have bx12_4 := c3.at bx12_3 id
            have gc := Ch.refl (fun _ => False) w4
            refine Yb 9 hs rfl rfl rfl (by kernel_rfl) hp (fun w => x_mv hs (.inl rfl) rfl) fun a hs => ?_
            refine Yb 10 hs rfl rfl rfl (by kernel_rfl) hp (fun w => x_extract hs rfl rfl rfl) fun a hs => ?_
            refine Yb 11 hs rfl rfl rfl (by kernel_rfl) hp (fun w => x_extract hs rfl rfl rfl) fun a hs => ?_
            have hs5 : SL 19 [(3, Ptr bn12 0), (4, Ptr bn13 0), (15, pk false uu0), (16, pk true uu1)] a := hs.keep [3, 4, 15, 16]
            exact stores_ok (i1 := 14) (i2 := 15) (rr0 := rr0) (by kernel_rfl) (by kernel_rfl) (by kernel_rfl) rfl rfl rfl rfl rfl rfl rfl rfl tp_30 tp_33 rfl rfl rfl rfl rfl rfl hQ hs5 g4 bx12_4 bx13_4 (by intro h; rw [h, bx13_4] at bx12_4; simp at bx12_4) rfl rfl hl0 hl1 cw0.one cw1.one lo12 lo13
              (fun w' hw => (cw0.keep fun b o hb hh => have := heap_lt hh; hw b o (by omega) (by omega) (gc.at hh id)).down sz0) wt0
      · refine wpOp_of hs rfl rfl rfl (x_allocz rfl el_30) fun a hs => ?_
        have c1 := Ch.alloc (fun _ => False) w1 (.cells [.slice none 0 0].toArray 30)
        have bx12_2 := heap_alloc_new w1 (.cells [.slice none 0 0].toArray 30)
        have lo12 := g1.size
        generalize hbn12 : w1.heap.size = bn12 at *
        generalize w1.alloc (.cells [.slice none 0 0].toArray 30) = w2 at *
        have g2 := g1.trans c1
        have hb2 := c1.at hb1 id
        have hcw2 := hcw1.ch c1
        refine wpAny_all (rs := [7, 13]) (by kernel_rfl) (by simp) fun j hj => ?_
        simp only [List.mem_cons, List.mem_nil_iff, or_false] at hj
        rcases hj with rfl | rfl
        · refine wpOp_of hs rfl rfl rfl (x_ldp [v1] hs rfl rfl tp_3 rfl hb2 (sub_get 1 1 rfl)) fun a hs => ?_
          refine wpAny_all (rs := [8, 13]) (by kernel_rfl) (by simp) fun j hj => ?_
          simp only [List.mem_cons, List.mem_nil_iff, or_false] at hj
          rcases hj with rfl | rfl
          · have lt12 : bn12 < w2.heap.size := heap_lt bx12_2
            have q2 := call_of (is := [0, 1]) (parts := [none, none]) (kinds := [some (false, [.sl 83]), some (true, [.int .i64, .int .i64])]) hK hCall hty hcw2 hN
            rw [hchunk, hfn] at q2
            refine wpOp_callR hs rfl rfl rfl rfl rfl rfl (by kernel_rfl) q2 fun v w3 a hO hs => ?_
            obtain ⟨c2, us0, rfl, hO0⟩ := hO
            obtain ⟨rr0, uu0, us1, rfl, cw0, wt0, hO1⟩ := hO0.take
            obtain ⟨rr1, uu1, us2, rfl, cw1, wt1, hO2⟩ := hO1.take
            obtain rfl := hO2.nil
            have sz0 := g2.size
            have hl0 : uu0.length = 1 := (cw0.len.trans ((WTs_iff _ _).1 wt0).1)
            have hl1 : uu1.length = 2 := (cw1.len.trans ((WTs_iff _ _).1 wt1).1)
            have g3 := g2.trans c2
            have bx12_3 := c2.at bx12_2 id
            have gc := Ch.refl (fun _ => False) w3
            refine Yb 9 hs rfl rfl rfl (by kernel_rfl) hp (fun w => x_mv hs (.inl rfl) rfl) fun a hs => ?_
            refine Yb 10 hs rfl rfl rfl (by kernel_rfl) hp (fun w => x_extract hs rfl rfl rfl) fun a hs => ?_
            refine Yb 11 hs rfl rfl rfl (by kernel_rfl) hp (fun w => x_extract hs rfl rfl rfl) fun a hs => ?_
            refine Y1 13 (by kernel_rfl) (wpOp_of hs rfl rfl rfl (x_allocz rfl el_33) fun a hs => ?_)
            have c3 := Ch.alloc (fun _ => False) w3 (.cells [.int .i64 0, .int .i64 0].toArray 33)
            have bx13_4 := heap_alloc_new w3 (.cells [.int .i64 0, .int .i64 0].toArray 33)
            have lo13 := g3.size
            have ge13 := gc.size
            generalize hbn13 : w3.heap.size = bn13 at *
            generalize w3.alloc (.cells [.int .i64 0, .int .i64 0].toArray 33) = w4 at *
            have g4 := g3.trans c3
            have bx12_4 := c3.at bx12_3 id
            have gc := gc.trans c3
            have hs5 : SL 19 [(3, Ptr bn12 0), (4, Ptr bn13 0), (15, pk false uu0), (16, pk true uu1)] a := hs.keep [3, 4, 15, 16]
            exact stores_ok (i1 := 14) (i2 := 15) (rr0 := rr0) (by kernel_rfl) (by kernel_rfl) (by kernel_rfl) rfl rfl rfl rfl rfl rfl rfl rfl tp_30 tp_33 rfl rfl rfl rfl rfl rfl hQ hs5 g4 bx12_4 bx13_4 (by intro h; rw [h, bx13_4] at bx12_4; simp at bx12_4) rfl rfl hl0 hl1 cw0.one cw1.one lo12 lo13
              (fun w' hw => (cw0.keep fun b o hb hh => have := heap_lt hh; hw b o (by omega) (by omega) (gc.at hh id)).down sz0) wt0
          · refine wpOp_of hs rfl rfl rfl (x_allocz rfl el_33) fun a hs => ?_
            have c2 := Ch.alloc (fun _ => False) w2 (.cells [.int .i64 0, .int .i64 0].toArray 33)
            have bx13_3 := heap_alloc_new w2 (.cells [.int .i64 0, .int .i64 0].toArray 33)
            have lo13 := g2.size
            generalize hbn13 : w2.heap.size = bn13 at *
            generalize w2.alloc (.cells [.int .i64 0, .int .i64 0].toArray 33) = w3 at *
            have g3 := g2.trans c2
            have hb3 := c2.at hb2 id
            have hcw3 := hcw2.ch c2
            have bx12_3 := c2.at bx12_2 id
            have lt12 : bn12 < w3.heap.size := heap_lt bx12_3
            have lt13 : bn13 < w3.heap.size := heap_lt bx13_3
            have q3 := call_of (is := [0, 1]) (parts := [none, none]) (kinds := [some (false, [.sl 83]), some (true, [.int .i64, .int .i64])]) hK hCall hty hcw3 hN
            rw [hchunk, hfn] at q3
            refine Y1 8 (by kernel_rfl) (wpOp_callR hs rfl rfl rfl rfl rfl rfl (by kernel_rfl) q3 fun v w4 a hO hs => ?_)
            obtain ⟨c3, us0, rfl, hO0⟩ := hO
            obtain ⟨rr0, uu0, us1, rfl, cw0, wt0, hO1⟩ := hO0.take
            obtain ⟨rr1, uu1, us2, rfl, cw1, wt1, hO2⟩ := hO1.take
            obtain rfl := hO2.nil
            have sz0 := g3.size
            have hl0 : uu0.length = 1 := (cw0.len.trans ((WTs_iff _ _).1 wt0).1)
            have hl1 : uu1.length = 2 := (cw1.len.trans ((WTs_iff _ _).1 wt1).1)
            have g4 := g3.trans c3
            have bx12_4 := c3.at bx12_3 id
            have bx13_4 := c3.at bx13_3 id
            have gc := Ch.refl (fun _ => False) w4
            refine Yb 9 hs rfl rfl rfl (by kernel_rfl) hp (fun w => x_mv hs (.inl rfl) rfl) fun a hs => ?_
            refine Yb 10 hs rfl rfl rfl (by kernel_rfl) hp (fun w => x_extract hs rfl rfl rfl) fun a hs => ?_
            refine Yb 11 hs rfl rfl rfl (by kernel_rfl) hp (fun w => x_extract hs rfl rfl rfl) fun a hs => ?_
            have hs5 : SL 19 [(3, Ptr bn12 0), (4, Ptr bn13 0), (15, pk false uu0), (16, pk true uu1)] a := hs.keep [3, 4, 15, 16]
            exact stores_ok (i1 := 14) (i2 := 15) (rr0 := rr0) (by kernel_rfl) (by kernel_rfl) (by kernel_rfl) rfl rfl rfl rfl rfl rfl rfl rfl tp_30 tp_33 rfl rfl rfl rfl rfl rfl hQ hs5 g4 bx12_4 bx13_4 (by intro h; rw [h, bx13_4] at bx12_4; simp at bx12_4) rfl rfl hl0 hl1 cw0.one cw1.one lo12 lo13
              (fun w' hw => (cw0.keep fun b o hb hh => have := heap_lt hh; hw b o (by omega) (by omega) (gc.at hh id)).down sz0) wt0
        · refine wpOp_of hs rfl rfl rfl (x_allocz rfl el_33) fun a hs => ?_
          have c2 := Ch.alloc (fun _ => False) w2 (.cells [.int .i64 0, .int .i64 0].toArray 33)
          have bx13_3 := heap_alloc_new w2 (.cells [.int .i64 0, .int .i64 0].toArray 33)
          have lo13 := g2.size
          generalize hbn13 : w2.heap.size = bn13 at *
          generalize w2.alloc (.cells [.int .i64 0, .int .i64 0].toArray 33) = w3 at *
          have g3 := g2.trans c2
          have hb3 := c2.at hb2 id
          have hcw3 := hcw2.ch c2
          have bx12_3 := c2.at bx12_2 id
          refine Y1 7 (by kernel_rfl) (wpOp_of hs rfl rfl rfl (x_ldp [v1] hs rfl rfl tp_3 rfl hb3 (sub_get 1 1 rfl)) fun a hs => ?_)
          have lt12 : bn12 < w3.heap.size := heap_lt bx12_3
          have lt13 : bn13 < w3.heap.size := heap_lt bx13_3
          have q3 := call_of (is := [0, 1]) (parts := [none, none]) (kinds := [some (false, [.sl 83]), some (true, [.int .i64, .int .i64])]) hK hCall hty hcw3 hN
          rw [hchunk, hfn] at q3
          refine Y1 8 (by kernel_rfl) (wpOp_callR hs rfl rfl rfl rfl rfl rfl (by kernel_rfl) q3 fun v w4 a hO hs => ?_)
          obtain ⟨c3, us0, rfl, hO0⟩ := hO
          obtain ⟨rr0, uu0, us1, rfl, cw0, wt0, hO1⟩ := hO0.take
          obtain ⟨rr1, uu1, us2, rfl, cw1, wt1, hO2⟩ := hO1.take
          obtain rfl := hO2.nil
          have sz0 := g3.size
          have hl0 : uu0.length = 1 := (cw0.len.trans ((WTs_iff _ _).1 wt0).1)
          have hl1 : uu1.length = 2 := (cw1.len.trans ((WTs_iff _ _).1 wt1).1)
          have g4 := g3.trans c3
          have bx12_4 := c3.at bx12_3 id
          have bx13_4 := c3.at bx13_3 id
          have gc := Ch.refl (fun _ => False) w4
          refine Yb 9 hs rfl rfl rfl (by kernel_rfl) hp (fun w => x_mv hs (.inl rfl) rfl) fun a hs => ?_
          refine Yb 10 hs rfl rfl rfl (by kernel_rfl) hp (fun w => x_extract hs rfl rfl rfl) fun a hs => ?_
          refine Yb 11 hs rfl rfl rfl (by kernel_rfl) hp (fun w => x_extract hs rfl rfl rfl) fun a hs => ?_
          have hs5 : SL 19 [(3, Ptr bn12 0), (4, Ptr bn13 0), (15, pk false uu0), (16, pk true uu1)] a := hs.keep [3, 4, 15, 16]
          exact stores_ok (i1 := 14) (i2 := 15) (rr0 := rr0) (by kernel_rfl) (by kernel_rfl) (by kernel_rfl) rfl rfl rfl rfl rfl rfl rfl rfl tp_30 tp_33 rfl rfl rfl rfl rfl rfl hQ hs5 g4 bx12_4 bx13_4 (by intro h; rw [h, bx13_4] at bx12_4; simp at bx12_4) rfl rfl hl0 hl1 cw0.one cw1.one lo12 lo13
            (fun w' hw => (cw0.keep fun b o hb hh => have := heap_lt hh; hw b o (by omega) (by omega) (gc.at hh id)).down sz0) wt0
      · refine wpOp_of hs rfl rfl rfl (x_allocz rfl el_33) fun a hs => ?_
        have c1 := Ch.alloc (fun _ => False) w1 (.cells [.int .i64 0, .int .i64 0].toArray 33)
        have bx13_2 := heap_alloc_new w1 (.cells [.int .i64 0, .int .i64 0].toArray 33)
        have lo13 := g1.size
        generalize hbn13 : w1.heap.size = bn13 at *
        generalize w1.alloc (.cells [.int .i64 0, .int .i64 0].toArray 33) = w2 at *
        have g2 := g1.trans c1
        have hb2 := c1.at hb1 id
        have hcw2 := hcw1.ch c1
        refine wpAny_all (rs := [7, 12]) (by kernel_rfl) (by simp) fun j hj => ?_
        simp only [List.mem_cons, List.mem_nil_iff, or_false] at hj
        rcases hj with rfl | rfl
        · refine wpOp_of hs rfl rfl rfl (x_ldp [v1] hs rfl rfl tp_3 rfl hb2 (sub_get 1 1 rfl)) fun a hs => ?_
          refine wpAny_all (rs := [8, 12]) (by kernel_rfl) (by simp) fun j hj => ?_
          simp only [List.mem_cons, List.mem_nil_iff, or_false] at hj
          rcases hj with rfl | rfl
          · have lt13 : bn13 < w2.heap.size := heap_lt bx13_2
            have q2 := call_of (is := [0, 1]) (parts := [none, none]) (kinds := [some (false, [.sl 83]), some (true, [.int .i64, .int .i64])]) hK hCall hty hcw2 hN
            rw [hchunk, hfn] at q2
            refine wpOp_callR hs rfl rfl rfl rfl rfl rfl (by kernel_rfl) q2 fun v w3 a hO hs => ?_
            obtain ⟨c2, us0, rfl, hO0⟩ := hO
            obtain ⟨rr0, uu0, us1, rfl, cw0, wt0, hO1⟩ := hO0.take
            obtain ⟨rr1, uu1, us2, rfl, cw1, wt1, hO2⟩ := hO1.take
            obtain rfl := hO2.nil
            have sz0 := g2.size
            have hl0 : uu0.length = 1 := (cw0.len.trans ((WTs_iff _ _).1 wt0).1)
            have hl1 : uu1.length = 2 := (cw1.len.trans ((WTs_iff _ _).1 wt1).1)
            have g3 := g2.trans c2
            have bx13_3 := c2.at bx13_2 id
            have gc := Ch.refl (fun _ => False) w3
            refine Yb 9 hs rfl rfl rfl (by kernel_rfl) hp (fun w => x_mv hs (.inl rfl) rfl) fun a hs => ?_
            refine Yb 10 hs rfl rfl rfl (by kernel_rfl) hp (fun w => x_extract hs rfl rfl rfl) fun a hs => ?_
            refine Yb 11 hs rfl rfl rfl (by kernel_rfl) hp (fun w => x_extract hs rfl rfl rfl) fun a hs => ?_
            refine Y1 12 (by kernel_rfl) (wpOp_of hs rfl rfl rfl (x_allocz rfl el_30) fun a hs => ?_)
            have c3 := Ch.alloc (fun _ => False) w3 (.cells [.slice none 0 0].toArray 30)
            have bx12_4 := heap_alloc_new w3 (.cells [.slice none 0 0].toArray 30)
            have lo12 := g3.size
            have ge12 := gc.size
            generalize hbn12 : w3.heap.size = bn12 at *
            generalize w3.alloc (.cells [.slice none 0 0].toArray 30) = w4 at *
            have g4 := g3.trans c3
            have bx13_4 := c3.at bx13_3 id
            have gc := gc.trans c3
            have hs5 : SL 19 [(3, Ptr bn12 0), (4, Ptr bn13 0), (15, pk false uu0), (16, pk true uu1)] a := hs.keep [3, 4, 15, 16]
            exact stores_ok (i1 := 14) (i2 := 15) (rr0 := rr0) (by kernel_rfl) (by kernel_rfl) (by kernel_rfl) rfl rfl rfl rfl rfl rfl rfl rfl tp_30 tp_33 rfl rfl rfl rfl rfl rfl hQ hs5 g4 bx12_4 bx13_4 (by intro h; rw [h, bx13_4] at bx12_4; simp at bx12_4) rfl rfl hl0 hl1 cw0.one cw1.one lo12 lo13
              (fun w' hw => (cw0.keep fun b o hb hh => have := heap_lt hh; hw b o (by omega) (by omega) (gc.at hh id)).down sz0) wt0
          · refine wpOp_of hs rfl rfl rfl (x_allocz rfl el_30) fun a hs => ?_
            have c2 := Ch.alloc (fun _ => False) w2 (.cells [.slice none 0 0].toArray 30)
            have bx12_3 := heap_alloc_new w2 (.cells [.slice none 0 0].toArray 30)
            have lo12 := g2.size
            generalize hbn12 : w2.heap.size = bn12 at *
            generalize w2.alloc (.cells [.slice none 0 0].toArray 30) = w3 at *
            have g3 := g2.trans c2
            have hb3 := c2.at hb2 id
            have hcw3 := hcw2.ch c2
            have bx13_3 := c2.at bx13_2 id
            have lt13 : bn13 < w3.heap.size := heap_lt bx13_3
            have lt12 : bn12 < w3.heap.size := heap_lt bx12_3
            have q3 := call_of (is := [0, 1]) (parts := [none, none]) (kinds := [some (false, [.sl 83]), some (true, [.int .i64, .int .i64])]) hK hCall hty hcw3 hN
            rw [hchunk, hfn] at q3
            refine Y1 8 (by kernel_rfl) (wpOp_callR hs rfl rfl rfl rfl rfl rfl (by kernel_rfl) q3 fun v w4 a hO hs => ?_)
            obtain ⟨c3, us0, rfl, hO0⟩ := hO
            obtain ⟨rr0, uu0, us1, rfl, cw0, wt0, hO1⟩ := hO0.take
            obtain ⟨rr1, uu1, us2, rfl, cw1, wt1, hO2⟩ := hO1.take
            obtain rfl := hO2.nil
            have sz0 := g3.size
            have hl0 : uu0.length = 1 := (cw0.len.trans ((WTs_iff _ _).1 wt0).1)
            have hl1 : uu1.length = 2 := (cw1.len.trans ((WTs_iff _ _).1 wt1).1)
            have g4 := g3.trans c3
            have bx13_4 := c3.at bx13_3 id
            have bx12_4 := c3.at bx12_3 id
            have gc := Ch.refl (fun _ => False) w4
            refine Yb 9 hs rfl rfl rfl (by kernel_rfl) hp (fun w => x_mv hs (.inl rfl) rfl) fun a hs => ?_
            refine Yb 10 hs rfl rfl rfl (by kernel_rfl) hp (fun w => x_extract hs rfl rfl rfl) fun a hs => ?_
            refine Yb 11 hs rfl rfl rfl (by kernel_rfl) hp (fun w => x_extract hs rfl rfl rfl) fun a hs => ?_
            have hs5 : SL 19 [(3, Ptr bn12 0), (4, Ptr bn13 0), (15, pk false uu0), (16, pk true uu1)] a := hs.keep [3, 4, 15, 16]
            exact stores_ok (i1 := 14) (i2 := 15) (rr0 := rr0) (by kernel_rfl) (by kernel_rfl) (by kernel_rfl) rfl rfl rfl rfl rfl rfl rfl rfl tp_30 tp_33 rfl rfl rfl rfl rfl rfl hQ hs5 g4 bx12_4 bx13_4 (by intro h; rw [h, bx13_4] at bx12_4; simp at bx12_4) rfl rfl hl0 hl1 cw0.one cw1.one lo12 lo13
              (fun w' hw => (cw0.keep fun b o hb hh => have := heap_lt hh; hw b o (by omega) (by omega) (gc.at hh id)).down sz0) wt0
        · refine wpOp_of hs rfl rfl rfl (x_allocz rfl el_30) fun a hs => ?_
          have c2 := Ch.alloc (fun _ => False) w2 (.cells [.slice none 0 0].toArray 30)
          have bx12_3 := heap_alloc_new w2 (.cells [.slice none 0 0].toArray 30)
          have lo12 := g2.size
          generalize hbn12 : w2.heap.size = bn12 at *
          generalize w2.alloc (.cells [.slice none 0 0].toArray 30) = w3 at *
          have g3 := g2.trans c2
          have hb3 := c2.at hb2 id
          have hcw3 := hcw2.ch c2
          have bx13_3 := c2.at bx13_2 id
          refine Y1 7 (by kernel_rfl) (wpOp_of hs rfl rfl rfl (x_ldp [v1] hs rfl rfl tp_3 rfl hb3 (sub_get 1 1 rfl)) fun a hs => ?_)
          have lt13 : bn13 < w3.heap.size := heap_lt bx13_3
          have lt12 : bn12 < w3.heap.size := heap_lt bx12_3
          have q3 := call_of (is := [0, 1]) (parts := [none, none]) (kinds := [some (false, [.sl 83]), some (true, [.int .i64, .int .i64])]) hK hCall hty hcw3 hN
          rw [hchunk, hfn] at q3
          refine Y1 8 (by kernel_rfl) (wpOp_callR hs rfl rfl rfl rfl rfl rfl (by kernel_rfl) q3 fun v w4 a hO hs => ?_)
          obtain ⟨c3, us0, rfl, hO0⟩ := hO
          obtain ⟨rr0, uu0, us1, rfl, cw0, wt0, hO1⟩ := hO0.take
          obtain ⟨rr1, uu1, us2, rfl, cw1, wt1, hO2⟩ := hO1.take
          obtain rfl := hO2.nil
          have sz0 := g3.size
          have hl0 : uu0.length = 1 := (cw0.len.trans ((WTs_iff _ _).1 wt0).1)
          have hl1 : uu1.length = 2 := (cw1.len.trans ((WTs_iff _ _).1 wt1).1)
          have g4 := g3.trans c3
          have bx13_4 := c3.at bx13_3 id
          have bx12_4 := c3.at bx12_3 id
          have gc := Ch.refl (fun _ => False) w4
          refine Yb 9 hs rfl rfl rfl (by kernel_rfl) hp (fun w => x_mv hs (.inl rfl) rfl) fun a hs => ?_
          refine Yb 10 hs rfl rfl rfl (by kernel_rfl) hp (fun w => x_extract hs rfl rfl rfl) fun a hs => ?_
          refine Yb 11 hs rfl rfl rfl (by kernel_rfl) hp (fun w => x_extract hs rfl rfl rfl) fun a hs => ?_
          have hs5 : SL 19 [(3, Ptr bn12 0), (4, Ptr bn13 0), (15, pk false uu0), (16, pk true uu1)] a := hs.keep [3, 4, 15, 16]
          exact stores_ok (i1 := 14) (i2 := 15) (rr0 := rr0) (by kernel_rfl) (by kernel_rfl) (by kernel_rfl) rfl rfl rfl rfl rfl rfl rfl rfl tp_30 tp_33 rfl rfl rfl rfl rfl rfl hQ hs5 g4 bx12_4 bx13_4 (by intro h; rw [h, bx13_4] at bx12_4; simp at bx12_4) rfl rfl hl0 hl1 cw0.one cw1.one lo12 lo13
            (fun w' hw => (cw0.keep fun b o hb hh => have := heap_lt hh; hw b o (by omega) (by omega) (gc.at hh id)).down sz0) wt0
    · refine wpOp_of hs rfl rfl rfl (x_ldp [v1] hs rfl rfl tp_3 rfl hb1 (sub_get 1 1 rfl)) fun a hs => ?_
      refine wpAny_all (rs := [3, 12, 13]) (by kernel_rfl) (by simp) fun j hj => ?_
      simp only [List.mem_cons, List.mem_nil_iff, or_false] at hj
      rcases hj with rfl | rfl | rfl
      · refine wpOp_of hs rfl rfl rfl (x_ldp [v0] hs rfl rfl tp_22 rfl hb1 (sub_get 0 1 rfl)) fun a hs => ?_
        refine wpAny_all (rs := [8, 12, 13]) (by kernel_rfl) (by simp) fun j hj => ?_
        simp only [List.mem_cons, List.mem_nil_iff, or_false] at hj
        rcases hj with rfl | rfl | rfl
        · have q1 := call_of (is := [0, 1]) (parts := [none, none]) (kinds := [some (false, [.sl 83]), some (true, [.int .i64, .int .i64])]) hK hCall hty hcw1 hN
          rw [hchunk, hfn] at q1
          refine wpOp_callR hs rfl rfl rfl rfl rfl rfl (by kernel_rfl) q1 fun v w2 a hO hs => ?_
          obtain ⟨c1, us0, rfl, hO0⟩ := hO
          obtain ⟨rr0, uu0, us1, rfl, cw0, wt0, hO1⟩ := hO0.take
          obtain ⟨rr1, uu1, us2, rfl, cw1, wt1, hO2⟩ := hO1.take
          obtain rfl := hO2.nil
          have sz0 := g1.size
          have hl0 : uu0.length = 1 := (cw0.len.trans ((WTs_iff _ _).1 wt0).1)
          have hl1 : uu1.length = 2 := (cw1.len.trans ((WTs_iff _ _).1 wt1).1)
          have g2 := g1.trans c1
          have gc := Ch.refl (fun _ => False) w2
          refine Yb 9 hs rfl rfl rfl (by kernel_rfl) hp (fun w => x_mv hs (.inl rfl) rfl) fun a hs => ?_
          refine Yb 10 hs rfl rfl rfl (by kernel_rfl) hp (fun w => x_extract hs rfl rfl rfl) fun a hs => ?_
          refine Yb 11 hs rfl rfl rfl (by kernel_rfl) hp (fun w => x_extract hs rfl rfl rfl) fun a hs => ?_
          refine wpAny_all (rs := [12, 13]) (by kernel_rfl) (by simp) fun j hj => ?_
          simp only [List.mem_cons, List.mem_nil_iff, or_false] at hj
          rcases hj with rfl | rfl
          · refine wpOp_of hs rfl rfl rfl (x_allocz rfl el_30) fun a hs => ?_
            have c2 := Ch.alloc (fun _ => False) w2 (.cells [.slice none 0 0].toArray 30)
            have bx12_3 := heap_alloc_new w2 (.cells [.slice none 0 0].toArray 30)
            have lo12 := g2.size
            have ge12 := gc.size
            generalize hbn12 : w2.heap.size = bn12 at *
            generalize w2.alloc (.cells [.slice none 0 0].toArray 30) = w3 at *
            have g3 := g2.trans c2
            have gc := gc.trans c2
            refine Y1 13 (by kernel_rfl) (wpOp_of hs rfl rfl rfl (x_allocz rfl el_33) fun a hs => ?_)
            have c3 := Ch.alloc (fun _ => False) w3 (.cells [.int .i64 0, .int .i64 0].toArray 33)
            have bx13_4 := heap_alloc_new w3 (.cells [.int .i64 0, .int .i64 0].toArray 33)
            have lo13 := g3.size
            have ge13 := gc.size
            generalize hbn13 : w3.heap.size = bn13 at *
            generalize w3.alloc (.cells [.int .i64 0, .int .i64 0].toArray 33) = w4 at *
            have g4 := g3.trans c3
            have bx12_4 := c3.at bx12_3 id
            have gc := gc.trans c3
            have hs5 : SL 19 [(3, Ptr bn12 0), (4, Ptr bn13 0), (15, pk false uu0), (16, pk true uu1)] a := hs.keep [3, 4, 15, 16]
            exact stores_ok (i1 := 14) (i2 := 15) (rr0 := rr0) (by kernel_rfl) (by kernel_rfl) (by kernel_rfl) rfl rfl rfl rfl rfl rfl rfl rfl tp_30 tp_33 rfl rfl rfl rfl rfl rfl hQ hs5 g4 bx12_4 bx13_4 (by intro h; rw [h, bx13_4] at bx12_4; simp at bx12_4) rfl rfl hl0 hl1 cw0.one cw1.one lo12 lo13
              (fun w' hw => (cw0.keep fun b o hb hh => have := heap_lt hh; hw b o (by omega) (by omega) (gc.at hh id)).down sz0) wt0
          · refine wpOp_of hs rfl rfl rfl (x_allocz rfl el_33) fun a hs => ?_
            have c2 := Ch.alloc (fun _ => False) w2 (.cells [.int .i64 0, .int .i64 0].toArray 33)
            have bx13_3 := heap_alloc_new w2 (.cells [.int .i64 0, .int .i64 0].toArray 33)
            have lo13 := g2.size
            have ge13 := gc.size
            generalize hbn13 : w2.heap.size = bn13 at *
            generalize w2.alloc (.cells [.int .i64 0, .int .i64 0].toArray 33) = w3 at *
            have g3 := g2.trans c2
            have gc := gc.trans c2
            refine Y1 12 (by kernel_rfl) (wpOp_of hs rfl rfl rfl (x_allocz rfl el_30) fun a hs => ?_)
            have c3 := Ch.alloc (fun _ => False) w3 (.cells [.slice none 0 0].toArray 30)
            have bx12_4 := heap_alloc_new w3 (.cells [.slice none 0 0].toArray 30)
            have lo12 := g3.size
            have ge12 := gc.size
            generalize hbn12 : w3.heap.size = bn12 at *
            generalize w3.alloc (.cells [.slice none 0 0].toArray 30) = w4 at *
            have g4 := g3.trans c3
            have bx13_4 := c3.at bx13_3 id
            have gc := gc.trans c3
            have hs5 : SL 19 [(3, Ptr bn12 0), (4, Ptr bn13 0), (15, pk false uu0), (16, pk true uu1)] a := hs.keep [3, 4, 15, 16]
            exact stores_ok (i1 := 14) (i2 := 15) (rr0 := rr0) (by kernel_rfl) (by kernel_rfl) (by kernel_rfl) rfl rfl rfl rfl rfl rfl rfl rfl tp_30 tp_33 rfl rfl rfl rfl rfl rfl hQ hs5 g4 bx12_4 bx13_4 (by intro h; rw [h, bx13_4] at bx12_4; simp at bx12_4) rfl rfl hl0 hl1 cw0.one cw1.one lo12 lo13
              (fun w' hw => (cw0.keep fun b o hb hh => have := heap_lt hh; hw b o (by omega) (by omega) (gc.at hh id)).down sz0) wt0
        · refine wpOp_of hs rfl rfl rfl (x_allocz rfl el_30) fun a hs => ?_
          have c1 := Ch.alloc (fun _ => False) w1 (.cells [.slice none 0 0].toArray 30)
          have bx12_2 := heap_alloc_new w1 (.cells [.slice none 0 0].toArray 30)
          have lo12 := g1.size
          generalize hbn12 : w1.heap.size = bn12 at *
          generalize w1.alloc (.cells [.slice none 0 0].toArray 30) = w2 at *
          have g2 := g1.trans c1
          have hb2 := c1.at hb1 id
          have hcw2 := hcw1.ch c1
          refine wpAny_all (rs := [8, 13]) (by kernel_rfl) (by simp) fun j hj => ?_
          simp only [List.mem_cons, List.mem_nil_iff, or_false] at hj
          rcases hj with rfl | rfl
          · have lt12 : bn12 < w2.heap.size := heap_lt bx12_2
            have q2 := call_of (is := [0, 1]) (parts := [none, none]) (kinds := [some (false, [.sl 83]), some (true, [.int .i64, .int .i64])]) hK hCall hty hcw2 hN
            rw [hchunk, hfn] at q2
            refine wpOp_callR hs rfl rfl rfl rfl rfl rfl (by kernel_rfl) q2 fun v w3 a hO hs => ?_
            obtain ⟨c2, us0, rfl, hO0⟩ := hO
            obtain ⟨rr0, uu0, us1, rfl, cw0, wt0, hO1⟩ := hO0.take
            obtain ⟨rr1, uu1, us2, rfl, cw1, wt1, hO2⟩ := hO1.take
            obtain rfl := hO2.nil
            have sz0 := g2.size
            have hl0 : uu0.length = 1 := (cw0.len.trans ((WTs_iff _ _).1 wt0).1)
            have hl1 : uu1.length = 2 := (cw1.len.trans ((WTs_iff _ _).1 wt1).1)
            have g3 := g2.trans c2
            have bx12_3 := c2.at bx12_2 id
            have gc := Ch.refl (fun _ => False) w3
            refine Yb 9 hs rfl rfl rfl (by kernel_rfl) hp (fun w => x_mv hs (.inl rfl) rfl) fun a hs => ?_
            refine Yb 10 hs rfl rfl rfl (by kernel_rfl) hp (fun w => x_extract hs rfl rfl rfl) fun a hs => ?_
            refine Yb 11 hs rfl rfl rfl (by kernel_rfl) hp (fun w => x_extract hs rfl rfl rfl) fun a hs => ?_
            refine Y1 13 (by kernel_rfl) (wpOp_of hs rfl rfl rfl (x_allocz rfl el_33) fun a hs => ?_)
            have c3 := Ch.alloc (fun _ => False) w3 (.cells [.int .i64 0, .int .i64 0].toArray 33)
            have bx13_4 := heap_alloc_new w3 (.cells [.int .i64 0, .int .i64 0].toArray 33)
            have lo13 := g3.size
            have ge13 := gc.size
            generalize hbn13 : w3.heap.size = bn13 at *
            generalize w3.alloc (.cells [.int .i64 0, .int .i64 0].toArray 33) = w4 at *
            have g4 := g3.trans c3
            have bx12_4 := c3.at bx12_3 id
            have gc := gc.trans c3
            have hs5 : SL 19 [(3, Ptr bn12 0), (4, Ptr bn13 0), (15, pk false uu0), (16, pk true uu1)] a := hs.keep [3, 4, 15, 16]
            exact stores_ok (i1 := 14) (i2 := 15) (rr0 := rr0) (by kernel_rfl) (by kernel_rfl) (by kernel_rfl) rfl rfl rfl rfl rfl rfl rfl rfl tp_30 tp_33 rfl rfl rfl rfl rfl rfl hQ hs5 g4 bx12_4 bx13_4 (by intro h; rw [h, bx13_4] at bx12_4; simp at bx12_4) rfl rfl hl0 hl1 cw0.one cw1.one lo12 lo13
              (fun w' hw => (cw0.keep fun b o hb hh => have := heap_lt hh; hw b o (by omega) (by omega) (gc.at hh id)).down sz0) wt0
          · refine wpOp_of hs rfl rfl rfl (x_allocz rfl el_33) fun a hs => ?_
            have c2 := Ch.alloc (fun _ => False) w2 (.cells [.int .i64 0, .int .i64 0].toArray 33)
            have bx13_3 := heap_alloc_new w2 (.cells [.int .i64 0, .int .i64 0].toArray 33)
            have lo13 := g2.size
            generalize hbn13 : w2.heap.size = bn13 at *
            generalize w2.alloc (.cells [.int .i64 0, .int .i64 0].toArray 33) = w3 at *
            have g3 := g2.trans c2
            have hb3 := c2.at hb2 id
            have hcw3 := hcw2.ch c2
            have bx12_3 := c2.at bx12_2 id
            have lt12 : bn12 < w3.heap.size := heap_lt bx12_3
            have lt13 : bn13 < w3.heap.size := heap_lt bx13_3
            have q3 := call_of (is := [0, 1]) (parts := [none, none]) (kinds := [some (false, [.sl 83]), some (true, [.int .i64, .int .i64])]) hK hCall hty hcw3 hN
            rw [hchunk, hfn] at q3
            refine Y1 8 (by kernel_rfl) (wpOp_callR hs rfl rfl rfl rfl rfl rfl (by kernel_rfl) q3 fun v w4 a hO hs => ?_)
            obtain ⟨c3, us0, rfl, hO0⟩ := hO
            obtain ⟨rr0, uu0, us1, rfl, cw0, wt0, hO1⟩ := hO0.take
            obtain ⟨rr1, uu1, us2, rfl, cw1, wt1, hO2⟩ := hO1.take
            obtain rfl := hO2.nil
            have sz0 := g3.size
            have hl0 : uu0.length = 1 := (cw0.len.trans ((WTs_iff _ _).1 wt0).1)
            have hl1 : uu1.length = 2 := (cw1.len.trans ((WTs_iff _ _).1 wt1).1)
            have g4 := g3.trans c3
            have bx12_4 := c3.at bx12_3 id
            have bx13_4 := c3.at bx13_3 id
            have gc := Ch.refl (fun _ => False) w4
            refine Yb 9 hs rfl rfl rfl (by kernel_rfl) hp (fun w => x_mv hs (.inl rfl) rfl) fun a hs => ?_
            refine Yb 10 hs rfl rfl rfl (by kernel_rfl) hp (fun w => x_extract hs rfl rfl rfl) fun a hs => ?_
            refine Yb 11 hs rfl rfl rfl (by kernel_rfl) hp (fun w => x_extract hs rfl rfl rfl) fun a hs => ?_
            have hs5 : SL 19 [(3, Ptr bn12 0), (4, Ptr bn13 0), (15, pk false uu0), (16, pk true uu1)] a := hs.keep [3, 4, 15, 16]
            exact stores_ok (i1 := 14) (i2 := 15) (rr0 := rr0) (by kernel_rfl) (by kernel_rfl) (by kernel_rfl) rfl rfl rfl rfl rfl rfl rfl rfl tp_30 tp_33 rfl rfl rfl rfl rfl rfl hQ hs5 g4 bx12_4 bx13_4 (by intro h; rw [h, bx13_4] at bx12_4; simp at bx12_4) rfl rfl hl0 hl1 cw0.one cw1.one lo12 lo13
              (fun w' hw => (cw0.keep fun b o hb hh => have := heap_lt hh; hw b o (by omega) (by omega) (gc.at hh id)).down sz0) wt0
        · refine wpOp_of hs rfl rfl rfl (x_allocz rfl el_33) fun a hs => ?_
          have c1 := Ch.alloc (fun _ => False) w1 (.cells [.int .i64 0, .int .i64 0].toArray 33)
          have bx13_2 := heap_alloc_new w1 (.cells [.int .i64 0, .int .i64 0].toArray 33)
          have lo13 := g1.size
          generalize hbn13 : w1.heap.size = bn13 at *
          generalize w1.alloc (.cells [.int .i64 0, .int .i64 0].toArray 33) = w2 at *
          have g2 := g1.trans c1
          have hb2 := c1.at hb1 id
          have hcw2 := hcw1.ch c1
          refine wpAny_all (rs := [8, 12]) (by kernel_rfl) (by simp) fun j hj => ?_
          simp only [List.mem_cons, List.mem_nil_iff, or_false] at hj
          rcases hj with rfl | rfl
          · have lt13 : bn13 < w2.heap.size := heap_lt bx13_2
            have q2 := call_of (is := [0, 1]) (parts := [none, none]) (kinds := [some (false, [.sl 83]), some (true, [.int .i64, .int .i64])]) hK hCall hty hcw2 hN
            rw [hchunk, hfn] at q2
            refine wpOp_callR hs rfl rfl rfl rfl rfl rfl (by kernel_rfl) q2 fun v w3 a hO hs => ?_
            obtain ⟨c2, us0, rfl, hO0⟩ := hO
            obtain ⟨rr0, uu0, us1, rfl, cw0, wt0, hO1⟩ := hO0.take
            obtain ⟨rr1, uu1, us2, rfl, cw1, wt1, hO2⟩ := hO1.take
            obtain rfl := hO2.nil
            have sz0 := g2.size
            have hl0 : uu0.length = 1 := (cw0.len.trans ((WTs_iff _ _).1 wt0).1)
            have hl1 : uu1.length = 2 := (cw1.len.trans ((WTs_iff _ _).1 wt1).1)
            have g3 := g2.trans c2
            have bx13_3 := c2.at bx13_2 id
            have gc := Ch.refl (fun _ => False) w3
            refine Yb 9 hs rfl rfl rfl (by kernel_rfl) hp (fun w => x_mv hs (.inl rfl) rfl) fun a hs => ?_
            refine Yb 10 hs rfl rfl rfl (by kernel_rfl) hp (fun w => x_extract hs rfl rfl rfl) fun a hs => ?_
            refine Yb 11 hs rfl rfl rfl (by kernel_rfl) hp (fun w => x_extract hs rfl rfl rfl) fun a hs => ?_
            refine Y1 12 (by kernel_rfl) (wpOp_of hs rfl rfl rfl (x_allocz rfl el_30) fun a hs => ?_)
            have c3 := Ch.alloc (fun _ => False) w3 (.cells [.slice none 0 0].toArray 30)
            have bx12_4 := heap_alloc_new w3 (.cells [.slice none 0 0].toArray 30)
            have lo12 := g3.size
            have ge12 := gc.size
            generalize hbn12 : w3.heap.size = bn12 at *
            generalize w3.alloc (.cells [.slice none 0 0].toArray 30) = w4 at *
            have g4 := g3.trans c3
            have bx13_4 := c3.at bx13_3 id
            have gc := gc.trans c3
            have hs5 : SL 19 [(3, Ptr bn12 0), (4, Ptr bn13 0), (15, pk false uu0), (16, pk true uu1)] a := hs.keep [3, 4, 15, 16]
            exact stores_ok (i1 := 14) (i2 := 15) (rr0 := rr0) (by kernel_rfl) (by kernel_rfl) (by kernel_rfl) rfl rfl rfl rfl rfl rfl rfl rfl tp_30 tp_33 rfl rfl rfl rfl rfl rfl hQ hs5 g4 bx12_4 bx13_4 (by intro h; rw [h, bx13_4] at bx12_4; simp at bx12_4) rfl rfl hl0 hl1 cw0.one cw1.one lo12 lo13
              (fun w' hw => (cw0.keep fun b o hb hh => have := heap_lt hh; hw b o (by omega) (by omega) (gc.at hh id)).down sz0) wt0
          · refine wpOp_of hs rfl rfl rfl (x_allocz rfl el_30) fun a hs => ?_
            have c2 := Ch.alloc (fun _ => False) w2 (.cells [.slice none 0 0].toArray 30)
            have bx12_3 := heap_alloc_new w2 (.cells [.slice none 0 0].toArray 30)
            have lo12 := g2.size
            generalize hbn12 : w2.heap.size = bn12 at *
            generalize w2.alloc (.cells [.slice none 0 0].toArray 30) = w3 at *
            have g3 := g2.trans c2
            have hb3 := c2.at hb2 id
            have hcw3 := hcw2.ch c2
            have bx13_3 := c2.at bx13_2 id
            have lt13 : bn13 < w3.heap.size := heap_lt bx13_3
            have lt12 : bn12 < w3.heap.size := heap_lt bx12_3
            have q3 := call_of (is := [0, 1]) (parts := [none, none]) (kinds := [some (false, [.sl 83]), some (true, [.int .i64, .int .i64])]) hK hCall hty hcw3 hN
            rw [hchunk, hfn] at q3
            refine Y1 8 (by kernel_rfl) (wpOp_callR hs rfl rfl rfl rfl rfl rfl (by kernel_rfl) q3 fun v w4 a hO hs => ?_)
            obtain ⟨c3, us0, rfl, hO0⟩ := hO
            obtain ⟨rr0, uu0, us1, rfl, cw0, wt0, hO1⟩ := hO0.take
            obtain ⟨rr1, uu1, us2, rfl, cw1, wt1, hO2⟩ := hO1.take
            obtain rfl := hO2.nil
            have sz0 := g3.size
            have hl0 : uu0.length = 1 := (cw0.len.trans ((WTs_iff _ _).1 wt0).1)
            have hl1 : uu1.length = 2 := (cw1.len.trans ((WTs_iff _ _).1 wt1).1)
            have g4 := g3.trans c3
            have bx13_4 := c3.at bx13_3 id
            have bx12_4 := c3.at bx12_3 id
            have gc := Ch.refl (fun _ => False) w4
            refine Yb 9 hs rfl rfl rfl (by kernel_rfl) hp (fun w => x_mv hs (.inl rfl) rfl) fun a hs => ?_
            refine Yb 10 hs rfl rfl rfl (by kernel_rfl) hp (fun w => x_extract hs rfl rfl rfl) fun a hs => ?_
            refine Yb 11 hs rfl rfl rfl (by kernel_rfl) hp (fun w => x_extract hs rfl rfl rfl) fun a hs => ?_
            have hs5 : SL 19 [(3, Ptr bn12 0), (4, Ptr bn13 0), (15, pk false uu0), (16, pk true uu1)] a := hs.keep [3, 4, 15, 16]
            exact stores_ok (i1 := 14) (i2 := 15) (rr0 := rr0) (by kernel_rfl) (by kernel_rfl) (by kernel_rfl) rfl rfl rfl rfl rfl rfl rfl rfl tp_30 tp_33 rfl rfl rfl rfl rfl rfl hQ hs5 g4 bx12_4 bx13_4 (by intro h; rw [h, bx13_4] at bx12_4; simp at bx12_4) rfl rfl hl0 hl1 cw0.one cw1.one lo12 lo13
              (fun w' hw => (cw0.keep fun b o hb hh => have := heap_lt hh; hw b o (by omega) (by omega) (gc.at hh id)).down sz0) wt0
      · refine wpOp_of hs rfl rfl rfl (x_allocz rfl el_30) fun a hs => ?_
        have c1 := Ch.alloc (fun _ => False) w1 (.cells [.slice none 0 0].toArray 30)
        have bx12_2 := heap_alloc_new w1 (.cells [.slice none 0 0].toArray 30)
        have lo12 := g1.size
        generalize hbn12 : w1.heap.size = bn12 at *
        generalize w1.alloc (.cells [.slice none 0 0].toArray 30) = w2 at *
        have g2 := g1.trans c1
        have hb2 := c1.at hb1 id
        have hcw2 := hcw1.ch c1
        refine wpAny_all (rs := [3, 13]) (by kernel_rfl) (by simp) fun j hj => ?_
        simp only [List.mem_cons, List.mem_nil_iff, or_false] at hj
        rcases hj with rfl | rfl
        · refine wpOp_of hs rfl rfl rfl (x_ldp [v0] hs rfl rfl tp_22 rfl hb2 (sub_get 0 1 rfl)) fun a hs => ?_
          refine wpAny_all (rs := [8, 13]) (by kernel_rfl) (by simp) fun j hj => ?_
          simp only [List.mem_cons, List.mem_nil_iff, or_false] at hj
          rcases hj with rfl | rfl
          · have lt12 : bn12 < w2.heap.size := heap_lt bx12_2
            have q2 := call_of (is := [0, 1]) (parts := [none, none]) (kinds := [some (false, [.sl 83]), some (true, [.int .i64, .int .i64])]) hK hCall hty hcw2 hN
            rw [hchunk, hfn] at q2
            refine wpOp_callR hs rfl rfl rfl rfl rfl rfl (by kernel_rfl) q2 fun v w3 a hO hs => ?_
            obtain ⟨c2, us0, rfl, hO0⟩ := hO
            obtain ⟨rr0, uu0, us1, rfl, cw0, wt0, hO1⟩ := hO0.take
            obtain ⟨rr1, uu1, us2, rfl, cw1, wt1, hO2⟩ := hO1.take
            obtain rfl := hO2.nil
            have sz0 := g2.size
            have hl0 : uu0.length = 1 := (cw0.len.trans ((WTs_iff _ _).1 wt0).1)
            have hl1 : uu1.length = 2 := (cw1.len.trans ((WTs_iff _ _).1 wt1).1)
            have g3 := g2.trans c2
            have bx12_3 := c2.at bx12_2 id
            have gc := Ch.refl (fun _ => False) w3
            refine Yb 9 hs rfl rfl rfl (by kernel_rfl) hp (fun w => x_mv hs (.inl rfl) rfl) fun a hs => ?_
            refine Yb 10 hs rfl rfl rfl (by kernel_rfl) hp (fun w => x_extract hs rfl rfl rfl) fun a hs => ?_
            refine Yb 11 hs rfl rfl rfl (by kernel_rfl) hp (fun w => x_extract hs rfl rfl rfl) fun a hs => ?_
            refine Y1 13 (by kernel_rfl) (wpOp_of hs rfl rfl rfl (x_allocz rfl el_33) fun a hs => ?_)
            have c3 := Ch.alloc (fun _ => False) w3 (.cells [.int .i64 0, .int .i64 0].toArray 33)
            have bx13_4 := heap_alloc_new w3 (.cells [.int .i64 0, .int .i64 0].toArray 33)
            have lo13 := g3.size
            have ge13 := gc.size
            generalize hbn13 : w3.heap.size = bn13 at *
            generalize w3.alloc (.cells [.int .i64 0, .int .i64 0].toArray 33) = w4 at *
            have g4 := g3.trans c3
            have bx12_4 := c3.at bx12_3 id
            have gc := gc.trans c3
            have hs5 : SL 19 [(3, Ptr bn12 0), (4, Ptr bn13 0), (15, pk false uu0), (16, pk true uu1)] a := hs.keep [3, 4, 15, 16]
            exact stores_ok (i1 := 14) (i2 := 15) (rr0 := rr0) (by kernel_rfl) (by kernel_rfl) (by kernel_rfl) rfl rfl rfl rfl rfl rfl rfl rfl tp_30 tp_33 rfl rfl rfl rfl rfl rfl hQ hs5 g4 bx12_4 bx13_4 (by intro h; rw [h, bx13_4] at bx12_4; simp at bx12_4) rfl rfl hl0 hl1 cw0.one cw1.one lo12 lo13
              (fun w' hw => (cw0.keep fun b o hb hh => have := heap_lt hh; hw b o (by omega) (by omega) (gc.at hh id)).down sz0) wt0
          · refine wpOp_of hs rfl rfl rfl (x_allocz rfl el_33) fun a hs => ?_
            have c2 := Ch.alloc (fun _ => False) w2 (.cells [.int .i64 0, .int .i64 0].toArray 33)
            have bx13_3 := heap_alloc_new w2 (.cells [.int .i64 0, .int .i64 0].toArray 33)
            have lo13 := g2.size
            generalize hbn13 : w2.heap.size = bn13 at *
            generalize w2.alloc (.cells [.int .i64 0, .int .i64 0].toArray 33) = w3 at *
            have g3 := g2.trans c2
            have hb3 := c2.at hb2 id
            have hcw3 := hcw2.ch c2
            have bx12_3 := c2.at bx12_2 id
            have lt12 : bn12 < w3.heap.size := heap_lt bx12_3
            have lt13 : bn13 < w3.heap.size := heap_lt bx13_3
            have q3 := call_of (is := [0, 1]) (parts := [none, none]) (kinds := [some (false, [.sl 83]), some (true, [.int .i64, .int .i64])]) hK hCall hty hcw3 hN
            rw [hchunk, hfn] at q3
            refine Y1 8 (by kernel_rfl) (wpOp_callR hs rfl rfl rfl rfl rfl rfl (by kernel_rfl) q3 fun v w4 a hO hs => ?_)
            obtain ⟨c3, us0, rfl, hO0⟩ := hO
            obtain ⟨rr0, uu0, us1, rfl, cw0, wt0, hO1⟩ := hO0.take
            obtain ⟨rr1, uu1, us2, rfl, cw1, wt1, hO2⟩ := hO1.take
            obtain rfl := hO2.nil
            have sz0 := g3.size
            have hl0 : uu0.length = 1 := (cw0.len.trans ((WTs_iff _ _).1 wt0).1)
            have hl1 : uu1.length = 2 := (cw1.len.trans ((WTs_iff _ _).1 wt1).1)
            have g4 := g3.trans c3
            have bx12_4 := c3.at bx12_3 id
            have bx13_4 := c3.at bx13_3 id
            have gc := Ch.refl (fun _ => False) w4
            refine Yb 9 hs rfl rfl rfl (by kernel_rfl) hp (fun w => x_mv hs (.inl rfl) rfl) fun a hs => ?_
            refine Yb 10 hs rfl rfl rfl (by kernel_rfl) hp (fun w => x_extract hs rfl rfl rfl) fun a hs => ?_
            refine Yb 11 hs rfl rfl rfl (by kernel_rfl) hp (fun w => x_extract hs rfl rfl rfl) fun a hs => ?_
            have hs5 : SL 19 [(3, Ptr bn12 0), (4, Ptr bn13 0), (15, pk false uu0), (16, pk true uu1)] a := hs.keep [3, 4, 15, 16]
            exact stores_ok (i1 := 14) (i2 := 15) (rr0 := rr0) (by kernel_rfl) (by kernel_rfl) (by kernel_rfl) rfl rfl rfl rfl rfl rfl rfl rfl tp_30 tp_33 rfl rfl rfl rfl rfl rfl hQ hs5 g4 bx12_4 bx13_4 (by intro h; rw [h, bx13_4] at bx12_4; simp at bx12_4) rfl rfl hl0 hl1 cw0.one cw1.one lo12 lo13
              (fun w' hw => (cw0.keep fun b o hb hh => have := heap_lt hh; hw b o (by omega) (by omega) (gc.at hh id)).down sz0) wt0
        · refine wpOp_of hs rfl rfl rfl (x_allocz rfl el_33) fun a hs => ?_
          have c2 := Ch.alloc (fun _ => False) w2 (.cells [.int .i64 0, .int .i64 0].toArray 33)
          have bx13_3 := heap_alloc_new w2 (.cells [.int .i64 0, .int .i64 0].toArray 33)
          have lo13 := g2.size
          generalize hbn13 : w2.heap.size = bn13 at *
          generalize w2.alloc (.cells [.int .i64 0, .int .i64 0].toArray 33) = w3 at *
          have g3 := g2.trans c2
          have hb3 := c2.at hb2 id
          have hcw3 := hcw2.ch c2
          have bx12_3 := c2.at bx12_2 id
          refine Y1 3 (by kernel_rfl) (wpOp_of hs rfl rfl rfl (x_ldp [v0] hs rfl rfl tp_22 rfl hb3 (sub_get 0 1 rfl)) fun a hs => ?_)
          have lt12 : bn12 < w3.heap.size := heap_lt bx12_3
          have lt13 : bn13 < w3.heap.size := heap_lt bx13_3
          have q3 := call_of (is := [0, 1]) (parts := [none, none]) (kinds := [some (false, [.sl 83]), some (true, [.int .i64, .int .i64])]) hK hCall hty hcw3 hN
          rw [hchunk, hfn] at q3
          refine Y1 8 (by kernel_rfl) (wpOp_callR hs rfl rfl rfl rfl rfl rfl (by kernel_rfl) q3 fun v w4 a hO hs => ?_)
          obtain ⟨c3, us0, rfl, hO0⟩ := hO
          obtain ⟨rr0, uu0, us1, rfl, cw0, wt0, hO1⟩ := hO0.take
          obtain ⟨rr1, uu1, us2, rfl, cw1, wt1, hO2⟩ := hO1.take
          obtain rfl := hO2.nil
          have sz0 := g3.size
          have hl0 : uu0.length = 1 := (cw0.len.trans ((WTs_iff _ _).1 wt0).1)
          have hl1 : uu1.length = 2 := (cw1.len.trans ((WTs_iff _ _).1 wt1).1)
          have g4 := g3.trans c3
          have bx12_4 := c3.at bx12_3 id
          have bx13_4 := c3.at bx13_3 id
          have gc := Ch.refl (fun _ => False) w4
          refine Yb 9 hs rfl rfl rfl (by kernel_rfl) hp (fun w => x_mv hs (.inl rfl) rfl) fun a hs => ?_
          refine Yb 10 hs rfl rfl rfl (by kernel_rfl) hp (fun w => x_extract hs rfl rfl rfl) fun a hs => ?_
          refine Yb 11 hs rfl rfl rfl (by kernel_rfl) hp (fun w => x_extract hs rfl rfl rfl) fun a hs => ?_
          have hs5 : SL 19 [(3, Ptr bn12 0), (4, Ptr bn13 0), (15, pk false uu0), (16, pk true uu1)] a := hs.keep [3, 4, 15, 16]
          exact stores_ok (i1 := 14) (i2 := 15) (rr0 := rr0) (by kernel_rfl) (by kernel_rfl) (by kernel_rfl) rfl rfl rfl rfl rfl rfl rfl rfl tp_30 tp_33 rfl rfl rfl rfl rfl rfl hQ hs5 g4 bx12_4 bx13_4 (by intro h; rw [h, bx13_4] at bx12_4; simp at bx12_4) rfl rfl hl0 hl1 cw0.one cw1.one lo12 lo13
            (fun w' hw => (cw0.keep fun b o hb hh => have := heap_lt hh; hw b o (by omega) (by omega) (gc.at hh id)).down sz0) wt0
      · refine wpOp_of hs rfl rfl rfl (x_allocz rfl el_33) fun a hs => ?_
        have c1 := Ch.alloc (fun _ => False) w1 (.cells [.int .i64 0, .int .i64 0].toArray 33)
        have bx13_2 := heap_alloc_new w1 (.cells [.int .i64 0, .int .i64 0].toArray 33)
        have lo13 := g1.size
        generalize hbn13 : w1.heap.size = bn13 at *
        generalize w1.alloc (.cells [.int .i64 0, .int .i64 0].toArray 33) = w2 at *
        have g2 := g1.trans c1
        have hb2 := c1.at hb1 id
        have hcw2 := hcw1.ch c1
        refine wpAny_all (rs := [3, 12]) (by kernel_rfl) (by simp) fun j hj => ?_
        simp only [List.mem_cons, List.mem_nil_iff, or_false] at hj
        rcases hj with rfl | rfl
        · refine wpOp_of hs rfl rfl rfl (x_ldp [v0] hs rfl rfl tp_22 rfl hb2 (sub_get 0 1 rfl)) fun a hs => ?_
          refine wpAny_all (rs := [8, 12]) (by kernel_rfl) (by simp) fun j hj => ?_
          simp only [List.mem_cons, List.mem_nil_iff, or_false] at hj
          rcases hj with rfl | rfl
          · have lt13 : bn13 < w2.heap.size := heap_lt bx13_2
            have q2 := call_of (is := [0, 1]) (parts := [none, none]) (kinds := [some (false, [.sl 83]), some (true, [.int .i64, .int .i64])]) hK hCall hty hcw2 hN
            rw [hchunk, hfn] at q2
            refine wpOp_callR hs rfl rfl rfl rfl rfl rfl (by kernel_rfl) q2 fun v w3 a hO hs => ?_
            obtain ⟨c2, us0, rfl, hO0⟩ := hO
            obtain ⟨rr0, uu0, us1, rfl, cw0, wt0, hO1⟩ := hO0.take
            obtain ⟨rr1, uu1, us2, rfl, cw1, wt1, hO2⟩ := hO1.take
            obtain rfl := hO2.nil
            have sz0 := g2.size
            have hl0 : uu0.length = 1 := (cw0.len.trans ((WTs_iff _ _).1 wt0).1)
            have hl1 : uu1.length = 2 := (cw1.len.trans ((WTs_iff _ _).1 wt1).1)
            have g3 := g2.trans c2
            have bx13_3 := c2.at bx13_2 id
            have gc := Ch.refl (fun _ => False) w3
            refine Yb 9 hs rfl rfl rfl (by kernel_rfl) hp (fun w => x_mv hs (.inl rfl) rfl) fun a hs => ?_
            refine Yb 10 hs rfl rfl rfl (by kernel_rfl) hp (fun w => x_extract hs rfl rfl rfl) fun a hs => ?_
            refine Yb 11 hs rfl rfl rfl (by kernel_rfl) hp (fun w => x_extract hs rfl rfl rfl) fun a hs => ?_
            refine Y1 12 (by kernel_rfl) (wpOp_of hs rfl rfl rfl (x_allocz rfl el_30) fun a hs => ?_)
            have c3 := Ch.alloc (fun _ => False) w3 (.cells [.slice none 0 0].toArray 30)
            have bx12_4 := heap_alloc_new w3 (.cells [.slice none 0 0].toArray 30)
            have lo12 := g3.size
            have ge12 := gc.size
            generalize hbn12 : w3.heap.size = bn12 at *
            generalize w3.alloc (.cells [.slice none 0 0].toArray 30) = w4 at *
            have g4 := g3.trans c3
            have bx13_4 := c3.at bx13_3 id
            have gc := gc.trans c3
            have hs5 : SL 19 [(3, Ptr bn12 0), (4, Ptr bn13 0), (15, pk false uu0), (16, pk true uu1)] a := hs.keep [3, 4, 15, 16]
            exact stores_ok (i1 := 14) (i2 := 15) (rr0 := rr0) (by kernel_rfl) (by kernel_rfl) (by kernel_rfl) rfl rfl rfl rfl rfl rfl rfl rfl tp_30 tp_33 rfl rfl rfl rfl rfl rfl hQ hs5 g4 bx12_4 bx13_4 (by intro h; rw [h, bx13_4] at bx12_4; simp at bx12_4) rfl rfl hl0 hl1 cw0.one cw1.one lo12 lo13
              (fun w' hw => (cw0.keep fun b o hb hh => have := heap_lt hh; hw b o (by omega) (by omega) (gc.at hh id)).down sz0) wt0
          · refine wpOp_of hs rfl rfl rfl (x_allocz rfl el_30) fun a hs => ?_
            have c2 := Ch.alloc (fun _ => False) w2 (.cells [.slice none 0 0].toArray 30)
            have bx12_3 := heap_alloc_new w2 (.cells [.slice none 0 0].toArray 30)
            have lo12 := g2.size
            generalize hbn12 : w2.heap.size = bn12 at *
            generalize w2.alloc (.cells [.slice none 0 0].toArray 30) = w3 at *
            have g3 := g2.trans c2
            have hb3 := c2.at hb2 id
            have hcw3 := hcw2.ch c2
            have bx13_3 := c2.at bx13_2 id
            have lt13 : bn13 < w3.heap.size := heap_lt bx13_3
            have lt12 : bn12 < w3.heap.size := heap_lt bx12_3
            have q3 := call_of (is := [0, 1]) (parts := [none, none]) (kinds := [some (false, [.sl 83]), some (true, [.int .i64, .int .i64])]) hK hCall hty hcw3 hN
            rw [hchunk, hfn] at q3
            refine Y1 8 (by kernel_rfl) (wpOp_callR hs rfl rfl rfl rfl rfl rfl (by kernel_rfl) q3 fun v w4 a hO hs => ?_)
            obtain ⟨c3, us0, rfl, hO0⟩ := hO
            obtain ⟨rr0, uu0, us1, rfl, cw0, wt0, hO1⟩ := hO0.take
            obtain ⟨rr1, uu1, us2, rfl, cw1, wt1, hO2⟩ := hO1.take
            obtain rfl := hO2.nil
            have sz0 := g3.size
            have hl0 : uu0.length = 1 := (cw0.len.trans ((WTs_iff _ _).1 wt0).1)
            have hl1 : uu1.length = 2 := (cw1.len.trans ((WTs_iff _ _).1 wt1).1)
            have g4 := g3.trans c3
            have bx13_4 := c3.at bx13_3 id
            have bx12_4 := c3.at bx12_3 id
            have gc := Ch.refl (fun _ => False) w4
            refine Yb 9 hs rfl rfl rfl (by kernel_rfl) hp (fun w => x_mv hs (.inl rfl) rfl) fun a hs => ?_
            refine Yb 10 hs rfl rfl rfl (by kernel_rfl) hp (fun w => x_extract hs rfl rfl rfl) fun a hs => ?_
            refine Yb 11 hs rfl rfl rfl (by kernel_rfl) hp (fun w => x_extract hs rfl rfl rfl) fun a hs => ?_
            have hs5 : SL 19 [(3, Ptr bn12 0), (4, Ptr bn13 0), (15, pk false uu0), (16, pk true uu1)] a := hs.keep [3, 4, 15, 16]
            exact stores_ok (i1 := 14) (i2 := 15) (rr0 := rr0) (by kernel_rfl) (by kernel_rfl) (by kernel_rfl) rfl rfl rfl rfl rfl rfl rfl rfl tp_30 tp_33 rfl rfl rfl rfl rfl rfl hQ hs5 g4 bx12_4 bx13_4 (by intro h; rw [h, bx13_4] at bx12_4; simp at bx12_4) rfl rfl hl0 hl1 cw0.one cw1.one lo12 lo13
              (fun w' hw => (cw0.keep fun b o hb hh => have := heap_lt hh; hw b o (by omega) (by omega) (gc.at hh id)).down sz0) wt0
        · refine wpOp_of hs rfl rfl rfl (x_allocz rfl el_30) fun a hs => ?_
          have c2 := Ch.alloc (fun _ => False) w2 (.cells [.slice none 0 0].toArray 30)
          have bx12_3 := heap_alloc_new w2 (.cells [.slice none 0 0].toArray 30)
          have lo12 := g2.size
          generalize hbn12 : w2.heap.size = bn12 at *
          generalize w2.alloc (.cells [.slice none 0 0].toArray 30) = w3 at *
          have g3 := g2.trans c2
          have hb3 := c2.at hb2 id
          have hcw3 := hcw2.ch c2
          have bx13_3 := c2.at bx13_2 id
          refine Y1 3 (by kernel_rfl) (wpOp_of hs rfl rfl rfl (x_ldp [v0] hs rfl rfl tp_22 rfl hb3 (sub_get 0 1 rfl)) fun a hs => ?_)
          have lt13 : bn13 < w3.heap.size := heap_lt bx13_3
          have lt12 : bn12 < w3.heap.size := heap_lt bx12_3
          have q3 := call_of (is := [0, 1]) (parts := [none, none]) (kinds := [some (false, [.sl 83]), some (true, [.int .i64, .int .i64])]) hK hCall hty hcw3 hN
          rw [hchunk, hfn] at q3
          refine Y1 8 (by kernel_rfl) (wpOp_callR hs rfl rfl rfl rfl rfl rfl (by kernel_rfl) q3 fun v w4 a hO hs => ?_)
          obtain ⟨c3, us0, rfl, hO0⟩ := hO
          obtain ⟨rr0, uu0, us1, rfl, cw0, wt0, hO1⟩ := hO0.take
          obtain ⟨rr1, uu1, us2, rfl, cw1, wt1, hO2⟩ := hO1.take
          obtain rfl := hO2.nil
          have sz0 := g3.size
          have hl0 : uu0.length = 1 := (cw0.len.trans ((WTs_iff _ _).1 wt0).1)
          have hl1 : uu1.length = 2 := (cw1.len.trans ((WTs_iff _ _).1 wt1).1)
          have g4 := g3.trans c3
          have bx13_4 := c3.at bx13_3 id
          have bx12_4 := c3.at bx12_3 id
          have gc := Ch.refl (fun _ => False) w4
          refine Yb 9 hs rfl rfl rfl (by kernel_rfl) hp (fun w => x_mv hs (.inl rfl) rfl) fun a hs => ?_
          refine Yb 10 hs rfl rfl rfl (by kernel_rfl) hp (fun w => x_extract hs rfl rfl rfl) fun a hs => ?_
          refine Yb 11 hs rfl rfl rfl (by kernel_rfl) hp (fun w => x_extract hs rfl rfl rfl) fun a hs => ?_
          have hs5 : SL 19 [(3, Ptr bn12 0), (4, Ptr bn13 0), (15, pk false uu0), (16, pk true uu1)] a := hs.keep [3, 4, 15, 16]
          exact stores_ok (i1 := 14) (i2 := 15) (rr0 := rr0) (by kernel_rfl) (by kernel_rfl) (by kernel_rfl) rfl rfl rfl rfl rfl rfl rfl rfl tp_30 tp_33 rfl rfl rfl rfl rfl rfl hQ hs5 g4 bx12_4 bx13_4 (by intro h; rw [h, bx13_4] at bx12_4; simp at bx12_4) rfl rfl hl0 hl1 cw0.one cw1.one lo12 lo13
            (fun w' hw => (cw0.keep fun b o hb hh => have := heap_lt hh; hw b o (by omega) (by omega) (gc.at hh id)).down sz0) wt0
    · refine wpOp_of hs rfl rfl rfl (x_allocz rfl el_30) fun a hs => ?_
      have c1 := Ch.alloc (fun _ => False) w1 (.cells [.slice none 0 0].toArray 30)
      have bx12_2 := heap_alloc_new w1 (.cells [.slice none 0 0].toArray 30)
      have lo12 := g1.size
      generalize hbn12 : w1.heap.size = bn12 at *
      generalize w1.alloc (.cells [.slice none 0 0].toArray 30) = w2 at *
      have g2 := g1.trans c1
      have hb2 := c1.at hb1 id
      have hcw2 := hcw1.ch c1
      refine wpAny_all (rs := [3, 7, 13]) (by kernel_rfl) (by simp) fun j hj => ?_
      simp only [List.mem_cons, List.mem_nil_iff, or_false] at hj
      rcases hj with rfl | rfl | rfl
      · refine wpOp_of hs rfl rfl rfl (x_ldp [v0] hs rfl rfl tp_22 rfl hb2 (sub_get 0 1 rfl)) fun a hs => ?_
        refine wpAny_all (rs := [7, 13]) (by kernel_rfl) (by simp) fun j hj => ?_
        simp only [List.mem_cons, List.mem_nil_iff, or_false] at hj
        rcases hj with rfl | rfl
        · refine wpOp_of hs rfl rfl rfl (x_ldp [v1] hs rfl rfl tp_3 rfl hb2 (sub_get 1 1 rfl)) fun a hs => ?_
          refine wpAny_all (rs := [8, 13]) (by kernel_rfl) (by simp) fun j hj => ?_
          simp only [List.mem_cons, List.mem_nil_iff, or_false] at hj
          rcases hj with rfl | rfl
          · have lt12 : bn12 < w2.heap.size := heap_lt bx12_2
            have q2 := call_of (is := [0, 1]) (parts := [none, none]) (kinds := [some (false, [.sl 83]), some (true, [.int .i64, .int .i64])]) hK hCall hty hcw2 hN
            rw [hchunk, hfn] at q2
            refine wpOp_callR hs rfl rfl rfl rfl rfl rfl (by kernel_rfl) q2 fun v w3 a hO hs => ?_
            obtain ⟨c2, us0, rfl, hO0⟩ := hO
            obtain ⟨rr0, uu0, us1, rfl, cw0, wt0, hO1⟩ := hO0.take
            obtain ⟨rr1, uu1, us2, rfl, cw1, wt1, hO2⟩ := hO1.take
            obtain rfl := hO2.nil
            have sz0 := g2.size
            have hl0 : uu0.length = 1 := (cw0.len.trans ((WTs_iff _ _).1 wt0).1)
            have hl1 : uu1.length = 2 := (cw1.len.trans ((WTs_iff _ _).1 wt1).1)
            have g3 := g2.trans c2
            have bx12_3 := c2.at bx12_2 id
            have gc := Ch.refl (fun _ => False) w3
            refine Yb 9 hs rfl rfl rfl (by kernel_rfl) hp (fun w => x_mv hs (.inl rfl) rfl) fun a hs => ?_
            refine Yb 10 hs rfl rfl rfl (by kernel_rfl) hp (fun w => x_extract hs rfl rfl rfl) fun a hs => ?_
            refine Yb 11 hs rfl rfl rfl (by kernel_rfl) hp (fun w => x_extract hs rfl rfl rfl) fun a hs => ?_
            refine Y1 13 (by kernel_rfl) (wpOp_of hs rfl rfl rfl (x_allocz rfl el_33) fun a hs => ?_)
            have c3 := Ch.alloc (fun _ => False) w3 (.cells [.int .i64 0, .int .i64 0].toArray 33)
            have bx13_4 := heap_alloc_new w3 (.cells [.int .i64 0, .int .i64 0].toArray 33)
            have lo13 := g3.size
            have ge13 := gc.size
            generalize hbn13 : w3.heap.size = bn13 at *
            generalize w3.alloc (.cells [.int .i64 0, .int .i64 0].toArray 33) = w4 at *
            have g4 := g3.trans c3
            have bx12_4 := c3.at bx12_3 id
            have gc := gc.trans c3
            have hs5 : SL 19 [(3, Ptr bn12 0), (4, Ptr bn13 0), (15, pk false uu0), (16, pk true uu1)] a := hs.keep [3, 4, 15, 16]
            exact stores_ok (i1 := 14) (i2 := 15) (rr0 := rr0) (by kernel_rfl) (by kernel_rfl) (by kernel_rfl) rfl rfl rfl rfl rfl rfl rfl rfl tp_30 tp_33 rfl rfl rfl rfl rfl rfl hQ hs5 g4 bx12_4 bx13_4 (by intro h; rw [h, bx13_4] at bx12_4; simp at bx12_4) rfl rfl hl0 hl1 cw0.one cw1.one lo12 lo13
              (fun w' hw => (cw0.keep fun b o hb hh => have := heap_lt hh; hw b o (by omega) (by omega) (gc.at hh id)).down sz0) wt0
          · refine wpOp_of hs rfl rfl rfl (x_allocz rfl el_33) fun a hs => ?_
            have c2 := Ch.alloc (fun _ => False) w2 (.cells [.int .i64 0, .int .i64 0].toArray 33)
            have bx13_3 := heap_alloc_new w2 (.cells [.int .i64 0, .int .i64 0].toArray 33)
            have lo13 := g2.size
            generalize hbn13 : w2.heap.size = bn13 at *
            generalize w2.alloc (.cells [.int .i64 0, .int .i64 0].toArray 33) = w3 at *
            have g3 := g2.trans c2
            have hb3 := c2.at hb2 id
            have hcw3 := hcw2.ch c2
            have bx12_3 := c2.at bx12_2 id
            have lt12 : bn12 < w3.heap.size := heap_lt bx12_3
            have lt13 : bn13 < w3.heap.size := heap_lt bx13_3
            have q3 := call_of (is := [0, 1]) (parts := [none, none]) (kinds := [some (false, [.sl 83]), some (true, [.int .i64, .int .i64])]) hK hCall hty hcw3 hN
            rw [hchunk, hfn] at q3
            refine Y1 8 (by kernel_rfl) (wpOp_callR hs rfl rfl rfl rfl rfl rfl (by kernel_rfl) q3 fun v w4 a hO hs => ?_)
            obtain ⟨c3, us0, rfl, hO0⟩ := hO
            obtain ⟨rr0, uu0, us1, rfl, cw0, wt0, hO1⟩ := hO0.take
            obtain ⟨rr1, uu1, us2, rfl, cw1, wt1, hO2⟩ := hO1.take
            obtain rfl := hO2.nil
            have sz0 := g3.size
            have hl0 : uu0.length = 1 := (cw0.len.trans ((WTs_iff _ _).1 wt0).1)
            have hl1 : uu1.length = 2 := (cw1.len.trans ((WTs_iff _ _).1 wt1).1)
            have g4 := g3.trans c3
            have bx12_4 := c3.at bx12_3 id
            have bx13_4 := c3.at bx13_3 id
            have gc := Ch.refl (fun _ => False) w4
            refine Yb 9 hs rfl rfl rfl (by kernel_rfl) hp (fun w => x_mv hs (.inl rfl) rfl) fun a hs => ?_
            refine Yb 10 hs rfl rfl rfl (by kernel_rfl) hp (fun w => x_extract hs rfl rfl rfl) fun a hs => ?_
            refine Yb 11 hs rfl rfl rfl (by kernel_rfl) hp (fun w => x_extract hs rfl rfl rfl) fun a hs => ?_
            have hs5 : SL 19 [(3, Ptr bn12 0), (4, Ptr bn13 0), (15, pk false uu0), (16, pk true uu1)] a := hs.keep [3, 4, 15, 16]
            exact stores_ok (i1 := 14) (i2 := 15) (rr0 := rr0) (by kernel_rfl) (by kernel_rfl) (by kernel_rfl) rfl rfl rfl rfl rfl rfl rfl rfl tp_30 tp_33 rfl rfl rfl rfl rfl rfl hQ hs5 g4 bx12_4 bx13_4 (by intro h; rw [h, bx13_4] at bx12_4; simp at bx12_4) rfl rfl hl0 hl1 cw0.one cw1.one lo12 lo13
              (fun w' hw => (cw0.keep fun b o hb hh => have := heap_lt hh; hw b o (by omega) (by omega) (gc.at hh id)).down sz0) wt0
        · refine wpOp_of hs rfl rfl rfl (x_allocz rfl el_33) fun a hs => ?_
          have c2 := Ch.alloc (fun _ => False) w2 (.cells [.int .i64 0, .int .i64 0].toArray 33)
          have bx13_3 := heap_alloc_new w2 (.cells [.int .i64 0, .int .i64 0].toArray 33)
          have lo13 := g2.size
          generalize hbn13 : w2.heap.size = bn13 at *
          generalize w2.alloc (.cells [.int .i64 0, .int .i64 0].toArray 33) = w3 at *
          have g3 := g2.trans c2
          have hb3 := c2.at hb2 id
          have hcw3 := hcw2.ch c2
          have bx12_3 := c2.at bx12_2 id
          refine Y1 7 (by kernel_rfl) (wpOp_of hs rfl rfl rfl (x_ldp [v1] hs rfl rfl tp_3 rfl hb3 (sub_get 1 1 rfl)) fun a hs => ?_)
          have lt12 : bn12 < w3.heap.size := heap_lt bx12_3
          have lt13 : bn13 < w3.heap.size := heap_lt bx13_3
          have q3 := call_of (is := [0, 1]) (parts := [none, none]) (kinds := [some (false, [.sl 83]), some (true, [.int .i64, .int .i64])]) hK hCall hty hcw3 hN
          rw [hchunk, hfn] at q3
          refine Y1 8 (by kernel_rfl) (wpOp_callR hs rfl rfl rfl rfl rfl rfl (by kernel_rfl) q3 fun v w4 a hO hs => ?_)
          obtain ⟨c3, us0, rfl, hO0⟩ := hO
          obtain ⟨rr0, uu0, us1, rfl, cw0, wt0, hO1⟩ := hO0.take
          obtain ⟨rr1, uu1, us2, rfl, cw1, wt1, hO2⟩ := hO1.take
          obtain rfl := hO2.nil
          have sz0 := g3.size
          have hl0 : uu0.length = 1 := (cw0.len.trans ((WTs_iff _ _).1 wt0).1)
          have hl1 : uu1.length = 2 := (cw1.len.trans ((WTs_iff _ _).1 wt1).1)
          have g4 := g3.trans c3
          have bx12_4 := c3.at bx12_3 id
          have bx13_4 := c3.at bx13_3 id
          have gc := Ch.refl (fun _ => False) w4
          refine Yb 9 hs rfl rfl rfl (by kernel_rfl) hp (fun w => x_mv hs (.inl rfl) rfl) fun a hs => ?_
          refine Yb 10 hs rfl rfl rfl (by kernel_rfl) hp (fun w => x_extract hs rfl rfl rfl) fun a hs => ?_
          refine Yb 11 hs rfl rfl rfl (by kernel_rfl) hp (fun w => x_extract hs rfl rfl rfl) fun a hs => ?_
          have hs5 : SL 19 [(3, Ptr bn12 0), (4, Ptr bn13 0), (15, pk false uu0), (16, pk true uu1)] a := hs.keep [3, 4, 15, 16]
          exact stores_ok (i1 := 14) (i2 := 15) (rr0 := rr0) (by kernel_rfl) (by kernel_rfl) (by kernel_rfl) rfl rfl rfl rfl rfl rfl rfl rfl tp_30 tp_33 rfl rfl rfl rfl rfl rfl hQ hs5 g4 bx12_4 bx13_4 (by intro h; rw [h, bx13_4] at bx12_4; simp at bx12_4) rfl rfl hl0 hl1 cw0.one cw1.one lo12 lo13
            (fun w' hw => (cw0.keep fun b o hb hh => have := heap_lt hh; hw b o (by omega) (by omega) (gc.at hh id)).down sz0) wt0
      · refine wpOp_of hs rfl rfl rfl (x_ldp [v1] hs rfl rfl tp_3 rfl hb2 (sub_get 1 1 rfl)) fun a hs => ?_
        refine wpAny_all (rs := [3, 13]) (by kernel_rfl) (by simp) fun j hj => ?_
        simp only [List.mem_cons, List.mem_nil_iff, or_false] at hj
        rcases hj with rfl | rfl
        · refine wpOp_of hs rfl rfl rfl (x_ldp [v0] hs rfl rfl tp_22 rfl hb2 (sub_get 0 1 rfl)) fun a hs => ?_
          refine wpAny_all (rs := [8, 13]) (by kernel_rfl) (by simp) fun j hj => ?_
          simp only [List.mem_cons, List.mem_nil_iff, or_false] at hj
          rcases hj with rfl | rfl
          · have lt12 : bn12 < w2.heap.size := heap_lt bx12_2
            have q2 := call_of (is := [0, 1]) (parts := [none, none]) (kinds := [some (false, [.sl 83]), some (true, [.int .i64, .int .i64])]) hK hCall hty hcw2 hN
            rw [hchunk, hfn] at q2
            refine wpOp_callR hs rfl rfl rfl rfl rfl rfl (by kernel_rfl) q2 fun v w3 a hO hs => ?_
            obtain ⟨c2, us0, rfl, hO0⟩ := hO
            obtain ⟨rr0, uu0, us1, rfl, cw0, wt0, hO1⟩ := hO0.take
            obtain ⟨rr1, uu1, us2, rfl, cw1, wt1, hO2⟩ := hO1.take
            obtain rfl := hO2.nil
            have sz0 := g2.size
            have hl0 : uu0.length = 1 := (cw0.len.trans ((WTs_iff _ _).1 wt0).1)
            have hl1 : uu1.length = 2 := (cw1.len.trans ((WTs_iff _ _).1 wt1).1)
            have g3 := g2.trans c2
            have bx12_3 := c2.at bx12_2 id
            have gc := Ch.refl (fun _ => False) w3
            refine Yb 9 hs rfl rfl rfl (by kernel_rfl) hp (fun w => x_mv hs (.inl rfl) rfl) fun a hs => ?_
            refine Yb 10 hs rfl rfl rfl (by kernel_rfl) hp (fun w => x_extract hs rfl rfl rfl) fun a hs => ?_
            refine Yb 11 hs rfl rfl rfl (by kernel_rfl) hp (fun w => x_extract hs rfl rfl rfl) fun a hs => ?_
            refine Y1 13 (by kernel_rfl) (wpOp_of hs rfl rfl rfl (x_allocz rfl el_33) fun a hs => ?_)
            have c3 := Ch.alloc (fun _ => False) w3 (.cells [.int .i64 0, .int .i64 0].toArray 33)
            have bx13_4 := heap_alloc_new w3 (.cells [.int .i64 0, .int .i64 0].toArray 33)
            have lo13 := g3.size
            have ge13 := gc.size
            generalize hbn13 : w3.heap.size = bn13 at *
            generalize w3.alloc (.cells [.int .i64 0, .int .i64 0].toArray 33) = w4 at *
            have g4 := g3.trans c3
            have bx12_4 := c3.at bx12_3 id
            have gc := gc.trans c3
            have hs5 : SL 19 [(3, Ptr bn12 0), (4, Ptr bn13 0), (15, pk false uu0), (16, pk true uu1)] a := hs.keep [3, 4, 15, 16]
            exact stores_ok (i1 := 14) (i2 := 15) (rr0 := rr0) (by kernel_rfl) (by kernel_rfl) (by kernel_rfl) rfl rfl rfl rfl rfl rfl rfl rfl tp_30 tp_33 rfl rfl rfl rfl rfl rfl hQ hs5 g4 bx12_4 bx13_4 (by intro h; rw [h, bx13_4] at bx12_4; simp at bx12_4) rfl rfl hl0 hl1 cw0.one cw1.one lo12 lo13
              (fun w' hw => (cw0.keep fun b o hb hh => have := heap_lt hh; hw b o (by omega) (by omega) (gc.at hh id)).down sz0) wt0
          · refine wpOp_of hs rfl rfl rfl (x_allocz rfl el_33) fun a hs => ?_
            have c2 := Ch.alloc (fun _ => False) w2 (.cells [.int .i64 0, .int .i64 0].toArray 33)
            have bx13_3 := heap_alloc_new w2 (.cells [.int .i64 0, .int .i64 0].toArray 33)
            have lo13 := g2.size
            generalize hbn13 : w2.heap.size = bn13 at *
            generalize w2.alloc (.cells [.int .i64 0, .int .i64 0].toArray 33) = w3 at *
            have g3 := g2.trans c2
            have hb3 := c2.at hb2 id
            have hcw3 := hcw2.ch c2
            have bx12_3 := c2.at bx12_2 id
            have lt12 : bn12 < w3.heap.size := heap_lt bx12_3
            have lt13 : bn13 < w3.heap.size := heap_lt bx13_3
            have q3 := call_of (is := [0, 1]) (parts := [none, none]) (kinds := [some (false, [.sl 83]), some (true, [.int .i64, .int .i64])]) hK hCall hty hcw3 hN
            rw [hchunk, hfn] at q3
            refine Y1 8 (by kernel_rfl) (wpOp_callR hs rfl rfl rfl rfl rfl rfl (by kernel_rfl) q3 fun v w4 a hO hs => ?_)
            obtain ⟨c3, us0, rfl, hO0⟩ := hO
            obtain ⟨rr0, uu0, us1, rfl, cw0, wt0, hO1⟩ := hO0.take
            obtain ⟨rr1, uu1, us2, rfl, cw1, wt1, hO2⟩ := hO1.take
            obtain rfl := hO2.nil
            have sz0 := g3.size
            have hl0 : uu0.length = 1 := (cw0.len.trans ((WTs_iff _ _).1 wt0).1)
            have hl1 : uu1.length = 2 := (cw1.len.trans ((WTs_iff _ _).1 wt1).1)
            have g4 := g3.trans c3
            have bx12_4 := c3.at bx12_3 id
            have bx13_4 := c3.at bx13_3 id
            have gc := Ch.refl (fun _ => False) w4
            refine Yb 9 hs rfl rfl rfl (by kernel_rfl) hp (fun w => x_mv hs (.inl rfl) rfl) fun a hs => ?_
            refine Yb 10 hs rfl rfl rfl (by kernel_rfl) hp (fun w => x_extract hs rfl rfl rfl) fun a hs => ?_
            refine Yb 11 hs rfl rfl rfl (by kernel_rfl) hp (fun w => x_extract hs rfl rfl rfl) fun a hs => ?_
            have hs5 : SL 19 [(3, Ptr bn12 0), (4, Ptr bn13 0), (15, pk false uu0), (16, pk true uu1)] a := hs.keep [3, 4, 15, 16]
            exact stores_ok (i1 := 14) (i2 := 15) (rr0 := rr0) (by kernel_rfl) (by kernel_rfl) (by kernel_rfl) rfl rfl rfl rfl rfl rfl rfl rfl tp_30 tp_33 rfl rfl rfl rfl rfl rfl hQ hs5 g4 bx12_4 bx13_4 (by intro h; rw [h, bx13_4] at bx12_4; simp at bx12_4) rfl rfl hl0 hl1 cw0.one cw1.one lo12 lo13
              (fun w' hw => (cw0.keep fun b o hb hh => have := heap_lt hh; hw b o (by omega) (by omega) (gc.at hh id)).down sz0) wt0
        · refine wpOp_of hs rfl rfl rfl (x_allocz rfl el_33) fun a hs => ?_
          have c2 := Ch.alloc (fun _ => False) w2 (.cells [.int .i64 0, .int .i64 0].toArray 33)
          have bx13_3 := heap_alloc_new w2 (.cells [.int .i64 0, .int .i64 0].toArray 33)
          have lo13 := g2.size
          generalize hbn13 : w2.heap.size = bn13 at *
          generalize w2.alloc (.cells [.int .i64 0, .int .i64 0].toArray 33) = w3 at *
          have g3 := g2.trans c2
          have hb3 := c2.at hb2 id
          have hcw3 := hcw2.ch c2
          have bx12_3 := c2.at bx12_2 id
          refine Y1 3 (by kernel_rfl) (wpOp_of hs rfl rfl rfl (x_ldp [v0] hs rfl rfl tp_22 rfl hb3 (sub_get 0 1 rfl)) fun a hs => ?_)
          have lt12 : bn12 < w3.heap.size := heap_lt bx12_3
          have lt13 : bn13 < w3.heap.size := heap_lt bx13_3
          have q3 := call_of (is := [0, 1]) (parts := [none, none]) (kinds := [some (false, [.sl 83]), some (true, [.int .i64, .int .i64])]) hK hCall hty hcw3 hN
          rw [hchunk, hfn] at q3
          refine Y1 8 (by kernel_rfl) (wpOp_callR hs rfl rfl rfl rfl rfl rfl (by kernel_rfl) q3 fun v w4 a hO hs => ?_)
          obtain ⟨c3, us0, rfl, hO0⟩ := hO
          obtain ⟨rr0, uu0, us1, rfl, cw0, wt0, hO1⟩ := hO0.take
          obtain ⟨rr1, uu1, us2, rfl, cw1, wt1, hO2⟩ := hO1.take
          obtain rfl := hO2.nil
          have sz0 := g3.size
          have hl0 : uu0.length = 1 := (cw0.len.trans ((WTs_iff _ _).1 wt0).1)
          have hl1 : uu1.length = 2 := (cw1.len.trans ((WTs_iff _ _).1 wt1).1)
          have g4 := g3.trans c3
          have bx12_4 := c3.at bx12_3 id
          have bx13_4 := c3.at bx13_3 id
          have gc := Ch.refl (fun _ => False) w4
          refine Yb 9 hs rfl rfl rfl (by kernel_rfl) hp (fun w => x_mv hs (.inl rfl) rfl) fun a hs => ?_
          refine Yb 10 hs rfl rfl rfl (by kernel_rfl) hp (fun w => x_extract hs rfl rfl rfl) fun a hs => ?_
          refine Yb 11 hs rfl rfl rfl (by kernel_rfl) hp (fun w => x_extract hs rfl rfl rfl) fun a hs => ?_
          have hs5 : SL 19 [(3, Ptr bn12 0), (4, Ptr bn13 0), (15, pk false uu0), (16, pk true uu1)] a := hs.keep [3, 4, 15, 16]
          exact stores_ok (i1 := 14) (i2 := 15) (rr0 := rr0) (by kernel_rfl) (by kernel_rfl) (by kernel_rfl) rfl rfl rfl rfl rfl rfl rfl rfl tp_30 tp_33 rfl rfl rfl rfl rfl rfl hQ hs5 g4 bx12_4 bx13_4 (by intro h; rw [h, bx13_4] at bx12_4; simp at bx12_4) rfl rfl hl0 hl1 cw0.one cw1.one lo12 lo13
            (fun w' hw => (cw0.keep fun b o hb hh => have := heap_lt hh; hw b o (by omega) (by omega) (gc.at hh id)).down sz0) wt0
      · refine wpOp_of hs rfl rfl rfl (x_allocz rfl el_33) fun a hs => ?_
        have c2 := Ch.alloc (fun _ => False) w2 (.cells [.int .i64 0, .int .i64 0].toArray 33)
        have bx13_3 := heap_alloc_new w2 (.cells [.int .i64 0, .int .i64 0].toArray 33)
        have lo13 := g2.size
        generalize hbn13 : w2.heap.size = bn13 at *
        generalize w2.alloc (.cells [.int .i64 0, .int .i64 0].toArray 33) = w3 at *
        have g3 := g2.trans c2
        have hb3 := c2.at hb2 id
        have hcw3 := hcw2.ch c2
        have bx12_3 := c2.at bx12_2 id
        refine wpAny_all (rs := [3, 7]) (by kernel_rfl) (by simp) fun j hj => ?_
        simp only [List.mem_cons, List.mem_nil_iff, or_false] at hj
        rcases hj with rfl | rfl
        · refine wpOp_of hs rfl rfl rfl (x_ldp [v0] hs rfl rfl tp_22 rfl hb3 (sub_get 0 1 rfl)) fun a hs => ?_
          refine Y1 7 (by kernel_rfl) (wpOp_of hs rfl rfl rfl (x_ldp [v1] hs rfl rfl tp_3 rfl hb3 (sub_get 1 1 rfl)) fun a hs => ?_)
          have lt12 : bn12 < w3.heap.size := heap_lt bx12_3
          have lt13 : bn13 < w3.heap.size := heap_lt bx13_3
          have q3 := call_of (is := [0, 1]) (parts := [none, none]) (kinds := [some (false, [.sl 83]), some (true, [.int .i64, .int .i64])]) hK hCall hty hcw3 hN
          rw [hchunk, hfn] at q3
          refine Y1 8 (by kernel_rfl) (wpOp_callR hs rfl rfl rfl rfl rfl rfl (by kernel_rfl) q3 fun v w4 a hO hs => ?_)
          obtain ⟨c3, us0, rfl, hO0⟩ := hO
          obtain ⟨rr0, uu0, us1, rfl, cw0, wt0, hO1⟩ := hO0.take
          obtain ⟨rr1, uu1, us2, rfl, cw1, wt1, hO2⟩ := hO1.take
          obtain rfl := hO2.nil
          have sz0 := g3.size
          have hl0 : uu0.length = 1 := (cw0.len.trans ((WTs_iff _ _).1 wt0).1)
          have hl1 : uu1.length = 2 := (cw1.len.trans ((WTs_iff _ _).1 wt1).1)
          have g4 := g3.trans c3
          have bx12_4 := c3.at bx12_3 id
          have bx13_4 := c3.at bx13_3 id
          have gc := Ch.refl (fun _ => False) w4
          refine Yb 9 hs rfl rfl rfl (by kernel_rfl) hp (fun w => x_mv hs (.inl rfl) rfl) fun a hs => ?_
          refine Yb 10 hs rfl rfl rfl (by kernel_rfl) hp (fun w => x_extract hs rfl rfl rfl) fun a hs => ?_
          refine Yb 11 hs rfl rfl rfl (by kernel_rfl) hp (fun w => x_extract hs rfl rfl rfl) fun a hs => ?_
          have hs5 : SL 19 [(3, Ptr bn12 0), (4, Ptr bn13 0), (15, pk false uu0), (16, pk true uu1)] a := hs.keep [3, 4, 15, 16]
          exact stores_ok (i1 := 14) (i2 := 15) (rr0 := rr0) (by kernel_rfl) (by kernel_rfl) (by kernel_rfl) rfl rfl rfl rfl rfl rfl rfl rfl tp_30 tp_33 rfl rfl rfl rfl rfl rfl hQ hs5 g4 bx12_4 bx13_4 (by intro h; rw [h, bx13_4] at bx12_4; simp at bx12_4) rfl rfl hl0 hl1 cw0.one cw1.one lo12 lo13
            (fun w' hw => (cw0.keep fun b o hb hh => have := heap_lt hh; hw b o (by omega) (by omega) (gc.at hh id)).down sz0) wt0
        · refine wpOp_of hs rfl rfl rfl (x_ldp [v1] hs rfl rfl tp_3 rfl hb3 (sub_get 1 1 rfl)) fun a hs => ?_
          refine Y1 3 (by kernel_rfl) (wpOp_of hs rfl rfl rfl (x_ldp [v0] hs rfl rfl tp_22 rfl hb3 (sub_get 0 1 rfl)) fun a hs => ?_)
          have lt12 : bn12 < w3.heap.size := heap_lt bx12_3
          have lt13 : bn13 < w3.heap.size := heap_lt bx13_3
          have q3 := call_of (is := [0, 1]) (parts := [none, none]) (kinds := [some (false, [.sl 83]), some (true, [.int .i64, .int .i64])]) hK hCall hty hcw3 hN
          rw [hchunk, hfn] at q3
          refine Y1 8 (by kernel_rfl) (wpOp_callR hs rfl rfl rfl rfl rfl rfl (by kernel_rfl) q3 fun v w4 a hO hs => ?_)
          obtain ⟨c3, us0, rfl, hO0⟩ := hO
          obtain ⟨rr0, uu0, us1, rfl, cw0, wt0, hO1⟩ := hO0.take
          obtain ⟨rr1, uu1, us2, rfl, cw1, wt1, hO2⟩ := hO1.take
          obtain rfl := hO2.nil
          have sz0 := g3.size
          have hl0 : uu0.length = 1 := (cw0.len.trans ((WTs_iff _ _).1 wt0).1)
          have hl1 : uu1.length = 2 := (cw1.len.trans ((WTs_iff _ _).1 wt1).1)
          have g4 := g3.trans c3
          have bx12_4 := c3.at bx12_3 id
          have bx13_4 := c3.at bx13_3 id
          have gc := Ch.refl (fun _ => False) w4
          refine Yb 9 hs rfl rfl rfl (by kernel_rfl) hp (fun w => x_mv hs (.inl rfl) rfl) fun a hs => ?_
          refine Yb 10 hs rfl rfl rfl (by kernel_rfl) hp (fun w => x_extract hs rfl rfl rfl) fun a hs => ?_
          refine Yb 11 hs rfl rfl rfl (by kernel_rfl) hp (fun w => x_extract hs rfl rfl rfl) fun a hs => ?_
          have hs5 : SL 19 [(3, Ptr bn12 0), (4, Ptr bn13 0), (15, pk false uu0), (16, pk true uu1)] a := hs.keep [3, 4, 15, 16]
          exact stores_ok (i1 := 14) (i2 := 15) (rr0 := rr0) (by kernel_rfl) (by kernel_rfl) (by kernel_rfl) rfl rfl rfl rfl rfl rfl rfl rfl tp_30 tp_33 rfl rfl rfl rfl rfl rfl hQ hs5 g4 bx12_4 bx13_4 (by intro h; rw [h, bx13_4] at bx12_4; simp at bx12_4) rfl rfl hl0 hl1 cw0.one cw1.one lo12 lo13
            (fun w' hw => (cw0.keep fun b o hb hh => have := heap_lt hh; hw b o (by omega) (by omega) (gc.at hh id)).down sz0) wt0
    · refine wpOp_of hs rfl rfl rfl (x_allocz rfl el_33) fun a hs => ?_
      have c1 := Ch.alloc (fun _ => False) w1 (.cells [.int .i64 0, .int .i64 0].toArray 33)
      have bx13_2 := heap_alloc_new w1 (.cells [.int .i64 0, .int .i64 0].toArray 33)
      have lo13 := g1.size
      generalize hbn13 : w1.heap.size = bn13 at *
      generalize w1.alloc (.cells [.int .i64 0, .int .i64 0].toArray 33) = w2 at *
      have g2 := g1.trans c1
      have hb2 := c1.at hb1 id
      have hcw2 := hcw1.ch c1
      refine wpAny_all (rs := [3, 7, 12]) (by kernel_rfl) (by simp) fun j hj => ?_
      simp only [List.mem_cons, List.mem_nil_iff, or_false] at hj
      rcases hj with rfl | rfl | rfl
      · refine wpOp_of hs rfl rfl rfl (x_ldp [v0] hs rfl rfl tp_22 rfl hb2 (sub_get 0 1 rfl)) fun a hs => ?_
        refine wpAny_all (rs := [7, 12]) (by kernel_rfl) (by simp) fun j hj => ?_
        simp only [List.mem_cons, List.mem_nil_iff, or_false] at hj
        rcases hj with rfl | rfl
        · refine wpOp_of hs rfl rfl rfl (x_ldp [v1] hs rfl rfl tp_3 rfl hb2 (sub_get 1 1 rfl)) fun a hs => ?_
          refine wpAny_all (rs := [8, 12]) (by kernel_rfl) (by simp) fun j hj => ?_
          simp only [List.mem_cons, List.mem_nil_iff, or_false] at hj
          rcases hj with rfl | rfl
          · have lt13 : bn13 < w2.heap.size := heap_lt bx13_2
            have q2 := call_of (is := [0, 1]) (parts := [none, none]) (kinds := [some (false, [.sl 83]), some (true, [.int .i64, .int .i64])]) hK hCall hty hcw2 hN
            rw [hchunk, hfn] at q2
            refine wpOp_callR hs rfl rfl rfl rfl rfl rfl (by kernel_rfl) q2 fun v w3 a hO hs => ?_
            obtain ⟨c2, us0, rfl, hO0⟩ := hO
            obtain ⟨rr0, uu0, us1, rfl, cw0, wt0, hO1⟩ := hO0.take
            obtain ⟨rr1, uu1, us2, rfl, cw1, wt1, hO2⟩ := hO1.take
            obtain rfl := hO2.nil
            have sz0 := g2.size
            have hl0 : uu0.length = 1 := (cw0.len.trans ((WTs_iff _ _).1 wt0).1)
            have hl1 : uu1.length = 2 := (cw1.len.trans ((WTs_iff _ _).1 wt1).1)
            have g3 := g2.trans c2
            have bx13_3 := c2.at bx13_2 id
            have gc := Ch.refl (fun _ => False) w3
            refine Yb 9 hs rfl rfl rfl (by kernel_rfl) hp (fun w => x_mv hs (.inl rfl) rfl) fun a hs => ?_
            refine Yb 10 hs rfl rfl rfl (by kernel_rfl) hp (fun w => x_extract hs rfl rfl rfl) fun a hs => ?_
            refine Yb 11 hs rfl rfl rfl (by kernel_rfl) hp (fun w => x_extract hs rfl rfl rfl) fun a hs => ?_
            refine Y1 12 (by kernel_rfl) (wpOp_of hs rfl rfl rfl (x_allocz rfl el_30) fun a hs => ?_)
            have c3 := Ch.alloc (fun _ => False) w3 (.cells [.slice none 0 0].toArray 30)
            have bx12_4 := heap_alloc_new w3 (.cells [.slice none 0 0].toArray 30)
            have lo12 := g3.size
            have ge12 := gc.size
            generalize hbn12 : w3.heap.size = bn12 at *
            generalize w3.alloc (.cells [.slice none 0 0].toArray 30) = w4 at *
            have g4 := g3.trans c3
            have bx13_4 := c3.at bx13_3 id
            have gc := gc.trans c3
            have hs5 : SL 19 [(3, Ptr bn12 0), (4, Ptr bn13 0), (15, pk false uu0), (16, pk true uu1)] a := hs.keep [3, 4, 15, 16]
            exact stores_ok (i1 := 14) (i2 := 15) (rr0 := rr0) (by kernel_rfl) (by kernel_rfl) (by kernel_rfl) rfl rfl rfl rfl rfl rfl rfl rfl tp_30 tp_33 rfl rfl rfl rfl rfl rfl hQ hs5 g4 bx12_4 bx13_4 (by intro h; rw [h, bx13_4] at bx12_4; simp at bx12_4) rfl rfl hl0 hl1 cw0.one cw1.one lo12 lo13
              (fun w' hw => (cw0.keep fun b o hb hh => have := heap_lt hh; hw b o (by omega) (by omega) (gc.at hh id)).down sz0) wt0
          · refine wpOp_of hs rfl rfl rfl (x_allocz rfl el_30) fun a hs => ?_
            have c2 := Ch.alloc (fun _ => False) w2 (.cells [.slice none 0 0].toArray 30)
            have bx12_3 := heap_alloc_new w2 (.cells [.slice none 0 0].toArray 30)
            have lo12 := g2.size
            generalize hbn12 : w2.heap.size = bn12 at *
            generalize w2.alloc (.cells [.slice none 0 0].toArray 30) = w3 at *
            have g3 := g2.trans c2
            have hb3 := c2.at hb2 id
            have hcw3 := hcw2.ch c2
            have bx13_3 := c2.at bx13_2 id
            have lt13 : bn13 < w3.heap.size := heap_lt bx13_3
            have lt12 : bn12 < w3.heap.size := heap_lt bx12_3
            have q3 := call_of (is := [0, 1]) (parts := [none, none]) (kinds := [some (false, [.sl 83]), some (true, [.int .i64, .int .i64])]) hK hCall hty hcw3 hN
            rw [hchunk, hfn] at q3
            refine Y1 8 (by kernel_rfl) (wpOp_callR hs rfl rfl rfl rfl rfl rfl (by kernel_rfl) q3 fun v w4 a hO hs => ?_)
            obtain ⟨c3, us0, rfl, hO0⟩ := hO
            obtain ⟨rr0, uu0, us1, rfl, cw0, wt0, hO1⟩ := hO0.take
            obtain ⟨rr1, uu1, us2, rfl, cw1, wt1, hO2⟩ := hO1.take
            obtain rfl := hO2.nil
            have sz0 := g3.size
            have hl0 : uu0.length = 1 := (cw0.len.trans ((WTs_iff _ _).1 wt0).1)
            have hl1 : uu1.length = 2 := (cw1.len.trans ((WTs_iff _ _).1 wt1).1)
            have g4 := g3.trans c3
            have bx13_4 := c3.at bx13_3 id
            have bx12_4 := c3.at bx12_3 id
            have gc := Ch.refl (fun _ => False) w4
            refine Yb 9 hs rfl rfl rfl (by kernel_rfl) hp (fun w => x_mv hs (.inl rfl) rfl) fun a hs => ?_
            refine Yb 10 hs rfl rfl rfl (by kernel_rfl) hp (fun w => x_extract hs rfl rfl rfl) fun a hs => ?_
            refine Yb 11 hs rfl rfl rfl (by kernel_rfl) hp (fun w => x_extract hs rfl rfl rfl) fun a hs => ?_
            have hs5 : SL 19 [(3, Ptr bn12 0), (4, Ptr bn13 0), (15, pk false uu0), (16, pk true uu1)] a := hs.keep [3, 4, 15, 16]
            exact stores_ok (i1 := 14) (i2 := 15) (rr0 := rr0) (by kernel_rfl) (by kernel_rfl) (by kernel_rfl) rfl rfl rfl rfl rfl rfl rfl rfl tp_30 tp_33 rfl rfl rfl rfl rfl rfl hQ hs5 g4 bx12_4 bx13_4 (by intro h; rw [h, bx13_4] at bx12_4; simp at bx12_4) rfl rfl hl0 hl1 cw0.one cw1.one lo12 lo13
              (fun w' hw => (cw0.keep fun b o hb hh => have := heap_lt hh; hw b o (by omega) (by omega) (gc.at hh id)).down sz0) wt0
        · refine wpOp_of hs rfl rfl rfl (x_allocz rfl el_30) fun a hs => ?_
          have c2 := Ch.alloc (fun _ => False) w2 (.cells [.slice none 0 0].toArray 30)
          have bx12_3 := heap_alloc_new w2 (.cells [.slice none 0 0].toArray 30)
          have lo12 := g2.size
          generalize hbn12 : w2.heap.size = bn12 at *
          generalize w2.alloc (.cells [.slice none 0 0].toArray 30) = w3 at *
          have g3 := g2.trans c2
          have hb3 := c2.at hb2 id
          have hcw3 := hcw2.ch c2
          have bx13_3 := c2.at bx13_2 id
          refine Y1 7 (by kernel_rfl) (wpOp_of hs rfl rfl rfl (x_ldp [v1] hs rfl rfl tp_3 rfl hb3 (sub_get 1 1 rfl)) fun a hs => ?_)
          have lt13 : bn13 < w3.heap.size := heap_lt bx13_3
          have lt12 : bn12 < w3.heap.size := heap_lt bx12_3
          have q3 := call_of (is := [0, 1]) (parts := [none, none]) (kinds := [some (false, [.sl 83]), some (true, [.int .i64, .int .i64])]) hK hCall hty hcw3 hN
          rw [hchunk, hfn] at q3
          refine Y1 8 (by kernel_rfl) (wpOp_callR hs rfl rfl rfl rfl rfl rfl (by kernel_rfl) q3 fun v w4 a hO hs => ?_)
          obtain ⟨c3, us0, rfl, hO0⟩ := hO
          obtain ⟨rr0, uu0, us1, rfl, cw0, wt0, hO1⟩ := hO0.take
          obtain ⟨rr1, uu1, us2, rfl, cw1, wt1, hO2⟩ := hO1.take
          obtain rfl := hO2.nil
          have sz0 := g3.size
          have hl0 : uu0.length = 1 := (cw0.len.trans ((WTs_iff _ _).1 wt0).1)
          have hl1 : uu1.length = 2 := (cw1.len.trans ((WTs_iff _ _).1 wt1).1)
          have g4 := g3.trans c3
          have bx13_4 := c3.at bx13_3 id
          have bx12_4 := c3.at bx12_3 id
          have gc := Ch.refl (fun _ => False) w4
          refine Yb 9 hs rfl rfl rfl (by kernel_rfl) hp (fun w => x_mv hs (.inl rfl) rfl) fun a hs => ?_
          refine Yb 10 hs rfl rfl rfl (by kernel_rfl) hp (fun w => x_extract hs rfl rfl rfl) fun a hs => ?_
          refine Yb 11 hs rfl rfl rfl (by kernel_rfl) hp (fun w => x_extract hs rfl rfl rfl) fun a hs => ?_
          have hs5 : SL 19 [(3, Ptr bn12 0), (4, Ptr bn13 0), (15, pk false uu0), (16, pk true uu1)] a := hs.keep [3, 4, 15, 16]
          exact stores_ok (i1 := 14) (i2 := 15) (rr0 := rr0) (by kernel_rfl) (by kernel_rfl) (by kernel_rfl) rfl rfl rfl rfl rfl rfl rfl rfl tp_30 tp_33 rfl rfl rfl rfl rfl rfl hQ hs5 g4 bx12_4 bx13_4 (by intro h; rw [h, bx13_4] at bx12_4; simp at bx12_4) rfl rfl hl0 hl1 cw0.one cw1.one lo12 lo13
            (fun w' hw => (cw0.keep fun b o hb hh => have := heap_lt hh; hw b o (by omega) (by omega) (gc.at hh id)).down sz0) wt0
      · refine wpOp_of hs rfl rfl rfl (x_ldp [v1] hs rfl rfl tp_3 rfl hb2 (sub_get 1 1 rfl)) fun a hs => ?_
        refine wpAny_all (rs := [3, 12]) (by kernel_rfl) (by simp) fun j hj => ?_
        simp only [List.mem_cons, List.mem_nil_iff, or_false] at hj
        rcases hj with rfl | rfl
        · refine wpOp_of hs rfl rfl rfl (x_ldp [v0] hs rfl rfl tp_22 rfl hb2 (sub_get 0 1 rfl)) fun a hs => ?_
          refine wpAny_all (rs := [8, 12]) (by kernel_rfl) (by simp) fun j hj => ?_
          simp only [List.mem_cons, List.mem_nil_iff, or_false] at hj
          rcases hj with rfl | rfl
          · have lt13 : bn13 < w2.heap.size := heap_lt bx13_2
            have q2 := call_of (is := [0, 1]) (parts := [none, none]) (kinds := [some (false, [.sl 83]), some (true, [.int .i64, .int .i64])]) hK hCall hty hcw2 hN
            rw [hchunk, hfn] at q2
            refine wpOp_callR hs rfl rfl rfl rfl rfl rfl (by kernel_rfl) q2 fun v w3 a hO hs => ?_
            obtain ⟨c2, us0, rfl, hO0⟩ := hO
            obtain ⟨rr0, uu0, us1, rfl, cw0, wt0, hO1⟩ := hO0.take
            obtain ⟨rr1, uu1, us2, rfl, cw1, wt1, hO2⟩ := hO1.take
            obtain rfl := hO2.nil
            have sz0 := g2.size
            have hl0 : uu0.length = 1 := (cw0.len.trans ((WTs_iff _ _).1 wt0).1)
            have hl1 : uu1.length = 2 := (cw1.len.trans ((WTs_iff _ _).1 wt1).1)
            have g3 := g2.trans c2
            have bx13_3 := c2.at bx13_2 id
            have gc := Ch.refl (fun _ => False) w3
            refine Yb 9 hs rfl rfl rfl (by kernel_rfl) hp (fun w => x_mv hs (.inl rfl) rfl) fun a hs => ?_
            refine Yb 10 hs rfl rfl rfl (by kernel_rfl) hp (fun w => x_extract hs rfl rfl rfl) fun a hs => ?_
            refine Yb 11 hs rfl rfl rfl (by kernel_rfl) hp (fun w => x_extract hs rfl rfl rfl) fun a hs => ?_
            refine Y1 12 (by kernel_rfl) (wpOp_of hs rfl rfl rfl (x_allocz rfl el_30) fun a hs => ?_)
            have c3 := Ch.alloc (fun _ => False) w3 (.cells [.slice none 0 0].toArray 30)
            have bx12_4 := heap_alloc_new w3 (.cells [.slice none 0 0].toArray 30)
            have lo12 := g3.size
            have ge12 := gc.size
            generalize hbn12 : w3.heap.size = bn12 at *
            generalize w3.alloc (.cells [.slice none 0 0].toArray 30) = w4 at *
            have g4 := g3.trans c3
            have bx13_4 := c3.at bx13_3 id
            have gc := gc.trans c3
            have hs5 : SL 19 [(3, Ptr bn12 0), (4, Ptr bn13 0), (15, pk false uu0), (16, pk true uu1)] a := hs.keep [3, 4, 15, 16]
            exact stores_ok (i1 := 14) (i2 := 15) (rr0 := rr0) (by kernel_rfl) (by kernel_rfl) (by kernel_rfl) rfl rfl rfl rfl rfl rfl rfl rfl tp_30 tp_33 rfl rfl rfl rfl rfl rfl hQ hs5 g4 bx12_4 bx13_4 (by intro h; rw [h, bx13_4] at bx12_4; simp at bx12_4) rfl rfl hl0 hl1 cw0.one cw1.one lo12 lo13
              (fun w' hw => (cw0.keep fun b o hb hh => have := heap_lt hh; hw b o (by omega) (by omega) (gc.at hh id)).down sz0) wt0
          · refine wpOp_of hs rfl rfl rfl (x_allocz rfl el_30) fun a hs => ?_
            have c2 := Ch.alloc (fun _ => False) w2 (.cells [.slice none 0 0].toArray 30)
            have bx12_3 := heap_alloc_new w2 (.cells [.slice none 0 0].toArray 30)
            have lo12 := g2.size
            generalize hbn12 : w2.heap.size = bn12 at *
            generalize w2.alloc (.cells [.slice none 0 0].toArray 30) = w3 at *
            have g3 := g2.trans c2
            have hb3 := c2.at hb2 id
            have hcw3 := hcw2.ch c2
            have bx13_3 := c2.at bx13_2 id
            have lt13 : bn13 < w3.heap.size := heap_lt bx13_3
            have lt12 : bn12 < w3.heap.size := heap_lt bx12_3
            have q3 := call_of (is := [0, 1]) (parts := [none, none]) (kinds := [some (false, [.sl 83]), some (true, [.int .i64, .int .i64])]) hK hCall hty hcw3 hN
            rw [hchunk, hfn] at q3
            refine Y1 8 (by kernel_rfl) (wpOp_callR hs rfl rfl rfl rfl rfl rfl (by kernel_rfl) q3 fun v w4 a hO hs => ?_)
            obtain ⟨c3, us0, rfl, hO0⟩ := hO
            obtain ⟨rr0, uu0, us1, rfl, cw0, wt0, hO1⟩ := hO0.take
            obtain ⟨rr1, uu1, us2, rfl, cw1, wt1, hO2⟩ := hO1.take
            obtain rfl := hO2.nil
            have sz0 := g3.size
            have hl0 : uu0.length = 1 := (cw0.len.trans ((WTs_iff _ _).1 wt0).1)
            have hl1 : uu1.length = 2 := (cw1.len.trans ((WTs_iff _ _).1 wt1).1)
            have g4 := g3.trans c3
            have bx13_4 := c3.at bx13_3 id
            have bx12_4 := c3.at bx12_3 id
            have gc := Ch.refl (fun _ => False) w4
            refine Yb 9 hs rfl rfl rfl (by kernel_rfl) hp (fun w => x_mv hs (.inl rfl) rfl) fun a hs => ?_
            refine Yb 10 hs rfl rfl rfl (by kernel_rfl) hp (fun w => x_extract hs rfl rfl rfl) fun a hs => ?_
            refine Yb 11 hs rfl rfl rfl (by kernel_rfl) hp (fun w => x_extract hs rfl rfl rfl) fun a hs => ?_
            have hs5 : SL 19 [(3, Ptr bn12 0), (4, Ptr bn13 0), (15, pk false uu0), (16, pk true uu1)] a := hs.keep [3, 4, 15, 16]
            exact stores_ok (i1 := 14) (i2 := 15) (rr0 := rr0) (by kernel_rfl) (by kernel_rfl) (by kernel_rfl) rfl rfl rfl rfl rfl rfl rfl rfl tp_30 tp_33 rfl rfl rfl rfl rfl rfl hQ hs5 g4 bx12_4 bx13_4 (by intro h; rw [h, bx13_4] at bx12_4; simp at bx12_4) rfl rfl hl0 hl1 cw0.one cw1.one lo12 lo13
              (fun w' hw => (cw0.keep fun b o hb hh => have := heap_lt hh; hw b o (by omega) (by omega) (gc.at hh id)).down sz0) wt0
        · refine wpOp_of hs rfl rfl rfl (x_allocz rfl el_30) fun a hs => ?_
          have c2 := Ch.alloc (fun _ => False) w2 (.cells [.slice none 0 0].toArray 30)
          have bx12_3 := heap_alloc_new w2 (.cells [.slice none 0 0].toArray 30)
          have lo12 := g2.size
          generalize hbn12 : w2.heap.size = bn12 at *
          generalize w2.alloc (.cells [.slice none 0 0].toArray 30) = w3 at *
          have g3 := g2.trans c2
          have hb3 := c2.at hb2 id
          have hcw3 := hcw2.ch c2
          have bx13_3 := c2.at bx13_2 id
          refine Y1 3 (by kernel_rfl) (wpOp_of hs rfl rfl rfl (x_ldp [v0] hs rfl rfl tp_22 rfl hb3 (sub_get 0 1 rfl)) fun a hs => ?_)
          have lt13 : bn13 < w3.heap.size := heap_lt bx13_3
          have lt12 : bn12 < w3.heap.size := heap_lt bx12_3
          have q3 := call_of (is := [0, 1]) (parts := [none, none]) (kinds := [some (false, [.sl 83]), some (true, [.int .i64, .int .i64])]) hK hCall hty hcw3 hN
          rw [hchunk, hfn] at q3
          refine Y1 8 (by kernel_rfl) (wpOp_callR hs rfl rfl rfl rfl rfl rfl (by kernel_rfl) q3 fun v w4 a hO hs => ?_)
          obtain ⟨c3, us0, rfl, hO0⟩ := hO
          obtain ⟨rr0, uu0, us1, rfl, cw0, wt0, hO1⟩ := hO0.take
          obtain ⟨rr1, uu1, us2, rfl, cw1, wt1, hO2⟩ := hO1.take
          obtain rfl := hO2.nil
          have sz0 := g3.size
          have hl0 : uu0.length = 1 := (cw0.len.trans ((WTs_iff _ _).1 wt0).1)
          have hl1 : uu1.length = 2 := (cw1.len.trans ((WTs_iff _ _).1 wt1).1)
          have g4 := g3.trans c3
          have bx13_4 := c3.at bx13_3 id
          have bx12_4 := c3.at bx12_3 id
          have gc := Ch.refl (fun _ => False) w4
          refine Yb 9 hs rfl rfl rfl (by kernel_rfl) hp (fun w => x_mv hs (.inl rfl) rfl) fun a hs => ?_
          refine Yb 10 hs rfl rfl rfl (by kernel_rfl) hp (fun w => x_extract hs rfl rfl rfl) fun a hs => ?_
          refine Yb 11 hs rfl rfl rfl (by kernel_rfl) hp (fun w => x_extract hs rfl rfl rfl) fun a hs => ?_
          have hs5 : SL 19 [(3, Ptr bn12 0), (4, Ptr bn13 0), (15, pk false uu0), (16, pk true uu1)] a := hs.keep [3, 4, 15, 16]
          exact stores_ok (i1 := 14) (i2 := 15) (rr0 := rr0) (by kernel_rfl) (by kernel_rfl) (by kernel_rfl) rfl rfl rfl rfl rfl rfl rfl rfl tp_30 tp_33 rfl rfl rfl rfl rfl rfl hQ hs5 g4 bx12_4 bx13_4 (by intro h; rw [h, bx13_4] at bx12_4; simp at bx12_4) rfl rfl hl0 hl1 cw0.one cw1.one lo12 lo13
            (fun w' hw => (cw0.keep fun b o hb hh => have := heap_lt hh; hw b o (by omega) (by omega) (gc.at hh id)).down sz0) wt0
      · refine wpOp_of hs rfl rfl rfl (x_allocz rfl el_30) fun a hs => ?_
        have c2 := Ch.alloc (fun _ => False) w2 (.cells [.slice none 0 0].toArray 30)
        have bx12_3 := heap_alloc_new w2 (.cells [.slice none 0 0].toArray 30)
        have lo12 := g2.size
        generalize hbn12 : w2.heap.size = bn12 at *
        generalize w2.alloc (.cells [.slice none 0 0].toArray 30) = w3 at *
        have g3 := g2.trans c2
        have hb3 := c2.at hb2 id
        have hcw3 := hcw2.ch c2
        have bx13_3 := c2.at bx13_2 id
        refine wpAny_all (rs := [3, 7]) (by kernel_rfl) (by simp) fun j hj => ?_
        simp only [List.mem_cons, List.mem_nil_iff, or_false] at hj
        rcases hj with rfl | rfl
        · refine wpOp_of hs rfl rfl rfl (x_ldp [v0] hs rfl rfl tp_22 rfl hb3 (sub_get 0 1 rfl)) fun a hs => ?_
          refine Y1 7 (by kernel_rfl) (wpOp_of hs rfl rfl rfl (x_ldp [v1] hs rfl rfl tp_3 rfl hb3 (sub_get 1 1 rfl)) fun a hs => ?_)
          have lt13 : bn13 < w3.heap.size := heap_lt bx13_3
          have lt12 : bn12 < w3.heap.size := heap_lt bx12_3
          have q3 := call_of (is := [0, 1]) (parts := [none, none]) (kinds := [some (false, [.sl 83]), some (true, [.int .i64, .int .i64])]) hK hCall hty hcw3 hN
          rw [hchunk, hfn] at q3
          refine Y1 8 (by kernel_rfl) (wpOp_callR hs rfl rfl rfl rfl rfl rfl (by kernel_rfl) q3 fun v w4 a hO hs => ?_)
          obtain ⟨c3, us0, rfl, hO0⟩ := hO
          obtain ⟨rr0, uu0, us1, rfl, cw0, wt0, hO1⟩ := hO0.take
          obtain ⟨rr1, uu1, us2, rfl, cw1, wt1, hO2⟩ := hO1.take
          obtain rfl := hO2.nil
          have sz0 := g3.size
          have hl0 : uu0.length = 1 := (cw0.len.trans ((WTs_iff _ _).1 wt0).1)
          have hl1 : uu1.length = 2 := (cw1.len.trans ((WTs_iff _ _).1 wt1).1)
          have g4 := g3.trans c3
          have bx13_4 := c3.at bx13_3 id
          have bx12_4 := c3.at bx12_3 id
          have gc := Ch.refl (fun _ => False) w4
          refine Yb 9 hs rfl rfl rfl (by kernel_rfl) hp (fun w => x_mv hs (.inl rfl) rfl) fun a hs => ?_
          refine Yb 10 hs rfl rfl rfl (by kernel_rfl) hp (fun w => x_extract hs rfl rfl rfl) fun a hs => ?_
          refine Yb 11 hs rfl rfl rfl (by kernel_rfl) hp (fun w => x_extract hs rfl rfl rfl) fun a hs => ?_
          have hs5 : SL 19 [(3, Ptr bn12 0), (4, Ptr bn13 0), (15, pk false uu0), (16, pk true uu1)] a := hs.keep [3, 4, 15, 16]
          exact stores_ok (i1 := 14) (i2 := 15) (rr0 := rr0) (by kernel_rfl) (by kernel_rfl) (by kernel_rfl) rfl rfl rfl rfl rfl rfl rfl rfl tp_30 tp_33 rfl rfl rfl rfl rfl rfl hQ hs5 g4 bx12_4 bx13_4 (by intro h; rw [h, bx13_4] at bx12_4; simp at bx12_4) rfl rfl hl0 hl1 cw0.one cw1.one lo12 lo13
            (fun w' hw => (cw0.keep fun b o hb hh => have := heap_lt hh; hw b o (by omega) (by omega) (gc.at hh id)).down sz0) wt0
        · refine wpOp_of hs rfl rfl rfl (x_ldp [v1] hs rfl rfl tp_3 rfl hb3 (sub_get 1 1 rfl)) fun a hs => ?_
          refine Y1 3 (by kernel_rfl) (wpOp_of hs rfl rfl rfl (x_ldp [v0] hs rfl rfl tp_22 rfl hb3 (sub_get 0 1 rfl)) fun a hs => ?_)
          have lt13 : bn13 < w3.heap.size := heap_lt bx13_3
          have lt12 : bn12 < w3.heap.size := heap_lt bx12_3
          have q3 := call_of (is := [0, 1]) (parts := [none, none]) (kinds := [some (false, [.sl 83]), some (true, [.int .i64, .int .i64])]) hK hCall hty hcw3 hN
          rw [hchunk, hfn] at q3
          refine Y1 8 (by kernel_rfl) (wpOp_callR hs rfl rfl rfl rfl rfl rfl (by kernel_rfl) q3 fun v w4 a hO hs => ?_)
          obtain ⟨c3, us0, rfl, hO0⟩ := hO
          obtain ⟨rr0, uu0, us1, rfl, cw0, wt0, hO1⟩ := hO0.take
          obtain ⟨rr1, uu1, us2, rfl, cw1, wt1, hO2⟩ := hO1.take
          obtain rfl := hO2.nil
          have sz0 := g3.size
          have hl0 : uu0.length = 1 := (cw0.len.trans ((WTs_iff _ _).1 wt0).1)
          have hl1 : uu1.length = 2 := (cw1.len.trans ((WTs_iff _ _).1 wt1).1)
          have g4 := g3.trans c3
          have bx13_4 := c3.at bx13_3 id
          have bx12_4 := c3.at bx12_3 id
          have gc := Ch.refl (fun _ => False) w4
          refine Yb 9 hs rfl rfl rfl (by kernel_rfl) hp (fun w => x_mv hs (.inl rfl) rfl) fun a hs => ?_
          refine Yb 10 hs rfl rfl rfl (by kernel_rfl) hp (fun w => x_extract hs rfl rfl rfl) fun a hs => ?_
          refine Yb 11 hs rfl rfl rfl (by kernel_rfl) hp (fun w => x_extract hs rfl rfl rfl) fun a hs => ?_
          have hs5 : SL 19 [(3, Ptr bn12 0), (4, Ptr bn13 0), (15, pk false uu0), (16, pk true uu1)] a := hs.keep [3, 4, 15, 16]
          exact stores_ok (i1 := 14) (i2 := 15) (rr0 := rr0) (by kernel_rfl) (by kernel_rfl) (by kernel_rfl) rfl rfl rfl rfl rfl rfl rfl rfl tp_30 tp_33 rfl rfl rfl rfl rfl rfl hQ hs5 g4 bx12_4 bx13_4 (by intro h; rw [h, bx13_4] at bx12_4; simp at bx12_4) rfl rfl hl0 hl1 cw0.one cw1.one lo12 lo13
            (fun w' hw => (cw0.keep fun b o hb hh => have := heap_lt hh; hw b o (by omega) (by omega) (gc.at hh id)).down sz0) wt0
  obtain ⟨bn0, rr0, uu0, hs, g100, lo0, bx0_100, cw0_100, wt0⟩ := hl
  have hb100 := g100.at hb0 fun h => h
  have hcw100 := hcw0.ch g100
  refine nw_seq (nw_region ?_)
  refine L hs rfl rfl (x_clo hs rfl rfl rfl) fun a hs => ?_
  refine L hs rfl rfl (x_bs1 (e := 39) (z := .nilFunc) (v := clo 10 bn0) hs rfl rfl (by kernel_rfl) (one_mk (by kernel_rfl) (by kernel_rfl) rfl) rfl) fun a hs => ?_
  have c100 := Ch.alloc (fun _ => False) w100 (.cells #[clo 10 bn0] 39)
  have hbl101 := heap_alloc_new w100 (.cells #[clo 10 bn0] 39)
  have ll100 := g100.size
  generalize hbm : w100.heap.size = bl at *
  generalize w100.alloc (.cells #[clo 10 bn0] 39) = w101 at *
  have g101 := g100.trans c100
  have hb101 := c100.at hb100 fun h => h
  have hcw101 := hcw100.ch c100
  have bx0_101 := c100.at bx0_100 fun h => h
  have cw0_101 := cw0_100.ch c100
  refine L hs rfl rfl (x_mv hs (.inr rfl) rfl) fun a hs => ?_
  exact Le (nw_ret (finV hs rfl ⟨g101, .one 10 11 bn0, ⟨bl, _, rfl, hbl101⟩, b_10, fun _ h => by cases h; omega, lo0, r_11, rr0, uu0, _, (by kernel_rfl), (by decide), bx0_101, cw0_101, wt0⟩))
theorem calls : ∀ C ∈ ([8] : List FuncId), calleeOk Proofs.Try.prog C = true ∧ CallC Proofs.Try.prog seeD 24 2097152 C := (List.forall_mem_cons.2 ⟨⟨by kernel_rfl, call_8⟩, (by simp)⟩)
theorem walk : ∀ (w : World) (xs : List Value) (row : List PV), RowGot Proofs.Try.prog w (cks Proofs.Try.prog 24) xs row → rz row ≤ 2097152 → Ret Proofs.Try.prog 3 [.agg xs.toArray] w fun v w' => v = .bool true ∧ Ch (fun _ => False) w w' :=
  walk_of kit kit2 kit3 seeOk (S := 7) (rS := r_7) (by kernel_rfl) (by kernel_rfl) ownOk (W := 6) (rO := o_6) (by kernel_rfl) (by kernel_rfl) (by kernel_rfl) (by kernel_rfl) (by kernel_rfl) b_24 b_25 b_27 b_26 b_5 b_3 rfl rfl calls (by kernel_rfl) fun w' => true_ret (h_failing rfl rfl : Known Proofs.Try.prog (stdB Proofs.Try.prog (fun _ => TL.Ds.yes) fun _ => ⟨#[]⟩) stdJ s_failing) rfl w'
end Go.TL.H.lay
namespace Go.Proofs.Ytaaimmmofkldbaa.lay
open Go Go.ChangeShapes Go.WideShapes Go.ChangeAt Go.RowKit Go.TL.H Go.TL.H.lay
theorem blk (H : Type) : Blk H Rows.uptoBulk Rows.uptoBulkAll where
  str l := by simp [Rows.uptoBulk]
  one d := by
    cases d <;> (try unfold Rows.uptoBulk) <;> (try omega)
    rename_i l
    cases l <;> simp
  sl x y := by simp [Rows.uptoBulk]
  agg x := by simp [Rows.uptoBulk]
  nil := by simp [Rows.uptoBulkAll]
  cons x r := by simp [Rows.uptoBulkAll]
theorem own : ownKnob Proofs.Try.prog.godebug = none := by kernel_rfl
theorem contract (H : Type) (enc : TypeId × Value → H) (W : World) (base : Nat) (args : Array Value) (ds gs : List (DataW H)) (before : List MemPlace)
    (hval : ∀ (j : Nat) t v, Try.f3.params[j]? = some t → args[j]? = some v → Value.okWide Proofs.Try.prog W .any base t v)
    (hW : DataW.Whole enc Proofs.Try.prog Try.f3.params.toList Rows.topSharedLayoutSpec.vars false W args.toList ds gs before) (hk : Rows.uptoBulkAll (ds ++ gs) ≤ 1048576) :
    Calls Proofs.Try.prog 3 args W fun e W' => ∃ v, e = .returned v ∧ Rows.topSharedLayoutSpec.post enc Proofs.Try.prog Try.f3 false true false false W args v W' :=
  contract_of (E := (· ∈ mets)) (blk H) (T := 24) (tb := 4) rfl rfl rfl (fun _ => rfl) (by kernel_rfl) (show Proofs.Try.prog.underlying 24 = some (.struct (match Proofs.Try.prog.underlying 24 with | some (.struct fs) => fs | _ => #[])) by kernel_rfl) (by kernel_rfl) (by kernel_rfl) (of_decide_eq_true (by kernel_rfl)) (by kernel_rfl) (elB_v (by kernel_rfl)) (ks_mk (by kernel_rfl)) walk W base args ds gs before hval hW hk
set_option maxRecDepth 100000 in
theorem lifted (os : Os) (started : os.Started) (H : Type) (enc : TypeId × Value → H) (F : Stop.Interp) :
    ReturnsInHanded {} Try.checked os 3 .any ((Rows.OpenSpec.upto Rows.topSharedLayoutSpec).pre6 enc Proofs.Try.prog Try.f3 Rows.topSharedLayoutUptoRow.domain false) (((Rows.OpenSpec.upto Rows.topSharedLayoutSpec).at F).post enc Proofs.Try.prog Try.f3 false true false false) := by
  refine returnsInHanded_of_cond (C := Try.checked) (s := Rows.OpenSpec.upto Rows.topSharedLayoutSpec) (k := Rows.uptoSmall) rfl own started (by kernel_rfl) Try.func3
    (OpenSpec.witness (enc := enc) (C := Try.checked) (s := Rows.OpenSpec.upto Rows.topSharedLayoutSpec) (k := Rows.uptoSmall) rfl false ⟨#[], #[.agg #[.slice none 0 0, .int .i64 0]], []⟩ 8 (by kernel_rfl) (by kernel_rfl) (by kernel_rfl)
      (x := ([.agg [.nil, .lit (.int .i64 0)]], [], [])) (by kernel_rfl) rfl (by kernel_rfl)) ?_
  intro W base args ds gs before hval hW _ hk _
  exact contract H enc W base args ds gs before hval hW (of_decide_eq_true hk)
theorem over : Rows.topSharedLayoutUptoRow.holds Try.pinned (Rows.OpenSpec.upto Rows.topSharedLayoutSpec) :=
  OpenClaim.holds_of_cond 3 Try.f3 rfl rfl rfl rfl rfl rfl rfl ⟨rfl, rfl, rfl, rfl, rfl⟩ rfl rfl rfl rfl rfl (by kernel_rfl) Try.func3 (by kernel_rfl)
    (of_decide_eq_true (by kernel_rfl)) (by unfold Func.isWrapper; first | (rw [if_pos (by decide +kernel)]; kernel_rfl) | (rw [if_neg (by decide +kernel)]; exact ⟨rfl, rfl⟩))
    (fun os started H enc _ F => lifted os started H enc F)
theorem proved : Rows.TopSharedLayoutUptoSaid :=
  over
end Go.Proofs.Ytaaimmmofkldbaa.lay
