/- For every input that holds at most 1048576 values and letters TopSharedOccur returns true, and its argument reads behind the call as it read before. Conditions: those of the row (recurses, loops, unfollowed, narrowed). -/
import Derived.Test.YtaaimmmofkldbaaWo24
import Derived.Test.YtaaimmmofkldbaaWo25
import Derived.Test.YtaaimmmofkldbaaRows
import Derived.OpenShut
import Derived.WalkKit
import Derived.ProofKit
import Derived.JoinedCond
set_option maxRecDepth 100000
namespace Go.TL.H.occ
open Go Go.TL.Gocc
abbrev tyY : TY := ⟨68, 3, 4, 9, 66, 44, 5, 132⟩
abbrev tyZ : TZ := ⟨69, 29, 39⟩
theorem kit : Kit Go.Proofs.Try.prog tyY where
  mixed := by kernel_rfl
  e0 := by kernel_rfl
  e1 := by kernel_rfl
  e2 := by kernel_rfl
  e3 := by kernel_rfl
  e4 := by kernel_rfl
  i := one_mk (by kernel_rfl) (by kernel_rfl) rfl
  b := one_mk (by kernel_rfl) (by kernel_rfl) rfl
  s := one_mk (by kernel_rfl) (by kernel_rfl) rfl
  nl := one_mk (by kernel_rfl) (by kernel_rfl) rfl
  ss := one_mk (by kernel_rfl) (by kernel_rfl) rfl
  by' := one_mk (by kernel_rfl) (by kernel_rfl) rfl
  i16 := bytes_mk (by kernel_rfl)
  s16 := bytes_mk (by kernel_rfl)
  iU := by kernel_rfl
  bU := by kernel_rfl
  sU := by kernel_rfl
  nlU := by kernel_rfl
  ssU := by kernel_rfl
  byU := by kernel_rfl
  blU := by kernel_rfl
  eB := big_mk (by kernel_rfl) (by kernel_rfl)
theorem kit2 : Kit2 Go.Proofs.Try.prog tyY tyZ := ⟨by kernel_rfl, by kernel_rfl, one_mk (by kernel_rfl) (by kernel_rfl) rfl⟩
theorem kit3 : Kit3 Go.Proofs.Try.prog tyY tyZ 51 64 58 8 [.int .i64 0, .string ⟨#[]⟩, .int .i64 0, .slice none 0 0, .slice none 0 0, .slice none 0 0, .slice none 0 0, .string ⟨#[]⟩] where
  bu1 := by kernel_rfl
  bu2 := by kernel_rfl
  bu3 := fun _ => by kernel_rfl
  lcU := by kernel_rfl
  ct := one_mk (by kernel_rfl) (by kernel_rfl) rfl
  tp := tp_mk (by kernel_rfl) (by kernel_rfl) rfl
  el := el_mk (by kernel_rfl) rfl rfl
  cks := by kernel_rfl
  small := by decide
def r_30 : Row := ⟨.num 3, [.int .i64], true, 0⟩
def r_39 : Row := ⟨.str, [.str], false, 0⟩
def r_60 : Row := ⟨.num 2, [.int .i64], true, 0⟩
def r_61 : Row := ⟨.via 44 78 39 9 1, [.sl 9], true, 0⟩
def r_62 : Row := ⟨.via 45 79 80 137 8, [.sl 137], true, 0⟩
def r_63 : Row := ⟨.via 46 81 38 49 7, [.sl 49], true, 0⟩
def r_64 : Row := ⟨.via 47 82 83 139 11, [.sl 139], true, 0⟩
def r_38 : Row := ⟨.st 49 [(0, 0, 30), (1, 1, 39), (2, 2, 60), (3, 3, 61), (4, 4, 62), (5, 5, 63), (6, 6, 64)], [.int .i64, .str, .int .i64, .sl 9, .sl 137, .sl 49, .sl 139], true, 1⟩
def r_15 : Row := ⟨.st 51 [(0, 0, 38), (1, 7, 39)], [.int .i64, .str, .int .i64, .sl 9, .sl 137, .sl 49, .sl 139, .str], true, 2⟩
def r_21 : Row := ⟨.via 59 43 44 100 2, [.sl 100], true, 0⟩
def r_80 : Row := ⟨.st 137 [(0, 0, 39), (1, 1, 38)], [.str, .int .i64, .str, .int .i64, .sl 9, .sl 137, .sl 49, .sl 139], true, 2⟩
def r_83 : Row := ⟨.st 139 [(0, 0, 30), (1, 1, 39), (2, 2, 60), (3, 3, 61), (4, 4, 38)], [.int .i64, .str, .int .i64, .sl 9, .int .i64, .str, .int .i64, .sl 9, .sl 137, .sl 49, .sl 139], true, 2⟩
def r_44 : Row := ⟨.st 100 [(0, 0, 39), (1, 1, 30)], [.str, .int .i64], true, 1⟩
def seeD : TabD := [(30, r_30), (39, r_39), (60, r_60), (61, r_61), (62, r_62), (63, r_63), (64, r_64), (38, r_38), (15, r_15), (21, r_21), (80, r_80), (83, r_83), (44, r_44)]
theorem b_30 : Body Go.Proofs.Try.prog 30 33 [] (numC tyY 3) := body_mk (by kernel_rfl) (by kernel_rfl)
theorem f_30 : Fit Go.Proofs.Try.prog tyY seeD 30 r_30 := fit_num b_30 (show One Go.Proofs.Try.prog 3 (.int .i64 0) from one_mk (by kernel_rfl) (by kernel_rfl) rfl)
theorem b_39 : Body Go.Proofs.Try.prog 39 49 [] (strC tyY) := body_mk (by kernel_rfl) (by kernel_rfl)
theorem f_39 : Fit Go.Proofs.Try.prog tyY seeD 39 r_39 := fit_str b_39
theorem b_60 : Body Go.Proofs.Try.prog 60 33 [] (numC tyY 2) := body_mk (by kernel_rfl) (by kernel_rfl)
theorem f_60 : Fit Go.Proofs.Try.prog tyY seeD 60 r_60 := fit_num b_60 (show One Go.Proofs.Try.prog 2 (.int .i64 0) from one_mk (by kernel_rfl) (by kernel_rfl) rfl)
theorem b_61 : Body Go.Proofs.Try.prog 61 9 [] (viaC 44 78 39) := body_mk (by kernel_rfl) (by kernel_rfl)
theorem b_78 : Body Go.Proofs.Try.prog 78 46 [] (allC tyY 44) := body_mk (by kernel_rfl) (by kernel_rfl)
theorem f_61 : Fit Go.Proofs.Try.prog tyY seeD 61 r_61 := fit_via (r1 := r_39) b_61 b_78 (by kernel_rfl) (by kernel_rfl) (one_mk (by kernel_rfl) (by kernel_rfl) rfl) (by kernel_rfl) (by kernel_rfl) (by kernel_rfl) (by kernel_rfl) (by kernel_rfl) (by kernel_rfl)
theorem b_62 : Body Go.Proofs.Try.prog 62 9 [] (viaC 45 79 80) := body_mk (by kernel_rfl) (by kernel_rfl)
theorem b_79 : Body Go.Proofs.Try.prog 79 46 [] (allC tyY 45) := body_mk (by kernel_rfl) (by kernel_rfl)
theorem f_62 : Fit Go.Proofs.Try.prog tyY seeD 62 r_62 := fit_via (r1 := r_80) b_62 b_79 (by kernel_rfl) (by kernel_rfl) (one_mk (by kernel_rfl) (by kernel_rfl) rfl) (by kernel_rfl) (by kernel_rfl) (by kernel_rfl) (by kernel_rfl) (by kernel_rfl) (by kernel_rfl)
theorem b_63 : Body Go.Proofs.Try.prog 63 9 [] (viaC 46 81 38) := body_mk (by kernel_rfl) (by kernel_rfl)
theorem b_81 : Body Go.Proofs.Try.prog 81 46 [] (allC tyY 46) := body_mk (by kernel_rfl) (by kernel_rfl)
theorem f_63 : Fit Go.Proofs.Try.prog tyY seeD 63 r_63 := fit_via (r1 := r_38) b_63 b_81 (by kernel_rfl) (by kernel_rfl) (one_mk (by kernel_rfl) (by kernel_rfl) rfl) (by kernel_rfl) (by kernel_rfl) (by kernel_rfl) (by kernel_rfl) (by kernel_rfl) (by kernel_rfl)
theorem b_64 : Body Go.Proofs.Try.prog 64 9 [] (viaC 47 82 83) := body_mk (by kernel_rfl) (by kernel_rfl)
theorem b_82 : Body Go.Proofs.Try.prog 82 46 [] (allC tyY 47) := body_mk (by kernel_rfl) (by kernel_rfl)
theorem f_64 : Fit Go.Proofs.Try.prog tyY seeD 64 r_64 := fit_via (r1 := r_83) b_64 b_82 (by kernel_rfl) (by kernel_rfl) (one_mk (by kernel_rfl) (by kernel_rfl) rfl) (by kernel_rfl) (by kernel_rfl) (by kernel_rfl) (by kernel_rfl) (by kernel_rfl) (by kernel_rfl)
theorem b_38 : Body Go.Proofs.Try.prog 38 39 [] (stC 49 4 [(0, 0, 30), (1, 1, 39), (2, 2, 60), (3, 3, 61), (4, 4, 62), (5, 5, 63), (6, 6, 64)]) := body_mk (by kernel_rfl) (by kernel_rfl)
theorem f_38 : Fit Go.Proofs.Try.prog tyY seeD 38 r_38 := fit_st b_38 (by kernel_rfl) (by kernel_rfl) (by kernel_rfl)
theorem b_15 : Body Go.Proofs.Try.prog 15 14 [] (stC 51 4 [(0, 0, 38), (1, 7, 39)]) := body_mk (by kernel_rfl) (by kernel_rfl)
theorem f_15 : Fit Go.Proofs.Try.prog tyY seeD 15 r_15 := fit_st b_15 (by kernel_rfl) (by kernel_rfl) (by kernel_rfl)
theorem b_21 : Body Go.Proofs.Try.prog 21 9 [] (viaC 59 43 44) := body_mk (by kernel_rfl) (by kernel_rfl)
theorem b_43 : Body Go.Proofs.Try.prog 43 46 [] (allC tyY 59) := body_mk (by kernel_rfl) (by kernel_rfl)
theorem f_21 : Fit Go.Proofs.Try.prog tyY seeD 21 r_21 := fit_via (r1 := r_44) b_21 b_43 (by kernel_rfl) (by kernel_rfl) (one_mk (by kernel_rfl) (by kernel_rfl) rfl) (by kernel_rfl) (by kernel_rfl) (by kernel_rfl) (by kernel_rfl) (by kernel_rfl) (by kernel_rfl)
theorem b_80 : Body Go.Proofs.Try.prog 80 14 [] (stC 137 4 [(0, 0, 39), (1, 1, 38)]) := body_mk (by kernel_rfl) (by kernel_rfl)
theorem f_80 : Fit Go.Proofs.Try.prog tyY seeD 80 r_80 := fit_st b_80 (by kernel_rfl) (by kernel_rfl) (by kernel_rfl)
theorem b_83 : Body Go.Proofs.Try.prog 83 29 [] (stC 139 4 [(0, 0, 30), (1, 1, 39), (2, 2, 60), (3, 3, 61), (4, 4, 38)]) := body_mk (by kernel_rfl) (by kernel_rfl)
theorem f_83 : Fit Go.Proofs.Try.prog tyY seeD 83 r_83 := fit_st b_83 (by kernel_rfl) (by kernel_rfl) (by kernel_rfl)
theorem b_44 : Body Go.Proofs.Try.prog 44 14 [] (stC 100 4 [(0, 0, 39), (1, 1, 30)]) := body_mk (by kernel_rfl) (by kernel_rfl)
theorem f_44 : Fit Go.Proofs.Try.prog tyY seeD 44 r_44 := fit_st b_44 (by kernel_rfl) (by kernel_rfl) (by kernel_rfl)
theorem seeOk : TabOk Go.Proofs.Try.prog tyY seeD := tab_mk (List.forall_mem_cons.2 ⟨f_30, (List.forall_mem_cons.2 ⟨f_39, (List.forall_mem_cons.2 ⟨f_60, (List.forall_mem_cons.2 ⟨f_61, (List.forall_mem_cons.2 ⟨f_62, (List.forall_mem_cons.2 ⟨f_63, (List.forall_mem_cons.2 ⟨f_64, (List.forall_mem_cons.2 ⟨f_38, (List.forall_mem_cons.2 ⟨f_15, (List.forall_mem_cons.2 ⟨f_21, (List.forall_mem_cons.2 ⟨f_80, (List.forall_mem_cons.2 ⟨f_83, (List.forall_mem_cons.2 ⟨f_44, (by simp)⟩)⟩)⟩)⟩)⟩)⟩)⟩)⟩)⟩)⟩)⟩)⟩)⟩)
def o_56 : ORow := ⟨.cp 44 9 1 [.string ⟨#[]⟩], 0⟩
def o_57 : ORow := ⟨.ls 45 137 8 true [.string ⟨#[]⟩, .int .i64 0, .string ⟨#[]⟩, .int .i64 0, .slice none 0 0, .slice none 0 0, .slice none 0 0, .slice none 0 0] 73 74, 0⟩
def o_58 : ORow := ⟨.ls 46 49 7 true [.int .i64 0, .string ⟨#[]⟩, .int .i64 0, .slice none 0 0, .slice none 0 0, .slice none 0 0, .slice none 0 0] 75 37, 0⟩
def o_59 : ORow := ⟨.ls 47 139 11 true [.int .i64 0, .string ⟨#[]⟩, .int .i64 0, .slice none 0 0, .int .i64 0, .string ⟨#[]⟩, .int .i64 0, .slice none 0 0, .slice none 0 0, .slice none 0 0, .slice none 0 0] 76 77, 0⟩
def o_37 : ORow := ⟨.st 49 7 [.int .i64 0, .string ⟨#[]⟩, .int .i64 0, .slice none 0 0, .slice none 0 0, .slice none 0 0, .slice none 0 0] [⟨3, 3, 1, 44, false, 56⟩, ⟨4, 4, 1, 45, false, 57⟩, ⟨5, 5, 1, 46, false, 58⟩, ⟨6, 6, 1, 47, false, 59⟩], 1⟩
def o_14 : ORow := ⟨.st 51 8 [.int .i64 0, .string ⟨#[]⟩, .int .i64 0, .slice none 0 0, .slice none 0 0, .slice none 0 0, .slice none 0 0, .string ⟨#[]⟩] [⟨0, 0, 7, 49, true, 37⟩], 2⟩
def o_74 : ORow := ⟨.st 137 8 [.string ⟨#[]⟩, .int .i64 0, .string ⟨#[]⟩, .int .i64 0, .slice none 0 0, .slice none 0 0, .slice none 0 0, .slice none 0 0] [⟨1, 1, 7, 49, true, 37⟩], 2⟩
def o_77 : ORow := ⟨.st 139 11 [.int .i64 0, .string ⟨#[]⟩, .int .i64 0, .slice none 0 0, .int .i64 0, .string ⟨#[]⟩, .int .i64 0, .slice none 0 0, .slice none 0 0, .slice none 0 0, .slice none 0 0] [⟨3, 3, 1, 44, false, 56⟩, ⟨4, 4, 7, 49, true, 37⟩], 2⟩
def ownO : OTab := [(56, o_56), (57, o_57), (58, o_58), (59, o_59), (37, o_37), (14, o_14), (74, o_74), (77, o_77)]
theorem b_56 : Body Go.Proofs.Try.prog 56 9 [.tmp 2] (copiedC tyY 44) := body_mk (by kernel_rfl) (by kernel_rfl)
theorem of_56 : OFit Go.Proofs.Try.prog tyY ownO 56 o_56 := ofit_cp b_56 (by kernel_rfl) (el_mk (by kernel_rfl) rfl rfl) (by kernel_rfl) (by kernel_rfl) (by kernel_rfl) (by kernel_rfl)
theorem b_73 : Body Go.Proofs.Try.prog 73 9 [.tmp 2] (copiedC tyY 45) := body_mk (by kernel_rfl) (by kernel_rfl)
theorem b_57 : Body Go.Proofs.Try.prog 57 21 [.tmp 2] (ownLsC tyY 45 137 73 74) := body_mk (by kernel_rfl) (by kernel_rfl)
theorem of_57 : OFit Go.Proofs.Try.prog tyY ownO 57 o_57 := ofit_ls (r1 := o_74) b_57 b_73 (by kernel_rfl) (el_mk (by kernel_rfl) rfl rfl) (by kernel_rfl) (by kernel_rfl) (by kernel_rfl) (by kernel_rfl) (by kernel_rfl) (by kernel_rfl) (by kernel_rfl) (by kernel_rfl) (by kernel_rfl) (by kernel_rfl)
theorem b_75 : Body Go.Proofs.Try.prog 75 9 [.tmp 2] (copiedC tyY 46) := body_mk (by kernel_rfl) (by kernel_rfl)
theorem b_58 : Body Go.Proofs.Try.prog 58 21 [.tmp 2] (ownLsC tyY 46 49 75 37) := body_mk (by kernel_rfl) (by kernel_rfl)
theorem of_58 : OFit Go.Proofs.Try.prog tyY ownO 58 o_58 := ofit_ls (r1 := o_37) b_58 b_75 (by kernel_rfl) (el_mk (by kernel_rfl) rfl rfl) (by kernel_rfl) (by kernel_rfl) (by kernel_rfl) (by kernel_rfl) (by kernel_rfl) (by kernel_rfl) (by kernel_rfl) (by kernel_rfl) (by kernel_rfl) (by kernel_rfl)
theorem b_76 : Body Go.Proofs.Try.prog 76 9 [.tmp 2] (copiedC tyY 47) := body_mk (by kernel_rfl) (by kernel_rfl)
theorem b_59 : Body Go.Proofs.Try.prog 59 21 [.tmp 2] (ownLsC tyY 47 139 76 77) := body_mk (by kernel_rfl) (by kernel_rfl)
theorem of_59 : OFit Go.Proofs.Try.prog tyY ownO 59 o_59 := ofit_ls (r1 := o_77) b_59 b_76 (by kernel_rfl) (el_mk (by kernel_rfl) rfl rfl) (by kernel_rfl) (by kernel_rfl) (by kernel_rfl) (by kernel_rfl) (by kernel_rfl) (by kernel_rfl) (by kernel_rfl) (by kernel_rfl) (by kernel_rfl) (by kernel_rfl)
theorem b_37 : Body Go.Proofs.Try.prog 37 20 [.cell 2 49] (ownStC 49 [⟨3, 3, 1, 44, false, 56⟩, ⟨4, 4, 1, 45, false, 57⟩, ⟨5, 5, 1, 46, false, 58⟩, ⟨6, 6, 1, 47, false, 59⟩]) := body_mk (by kernel_rfl) (by kernel_rfl)
theorem of_37 : OFit Go.Proofs.Try.prog tyY ownO 37 o_37 := ofit_st b_37 (el_mk (by kernel_rfl) rfl rfl) (by kernel_rfl) (by kernel_rfl) (by kernel_rfl) (by kernel_rfl) (by kernel_rfl) (by kernel_rfl)
theorem b_14 : Body Go.Proofs.Try.prog 14 8 [.cell 2 51] (ownStC 51 [⟨0, 0, 7, 49, true, 37⟩]) := body_mk (by kernel_rfl) (by kernel_rfl)
theorem of_14 : OFit Go.Proofs.Try.prog tyY ownO 14 o_14 := ofit_st b_14 (el_mk (by kernel_rfl) rfl rfl) (by kernel_rfl) (by kernel_rfl) (by kernel_rfl) (by kernel_rfl) (by kernel_rfl) (by kernel_rfl)
theorem b_74 : Body Go.Proofs.Try.prog 74 8 [.cell 2 137] (ownStC 137 [⟨1, 1, 7, 49, true, 37⟩]) := body_mk (by kernel_rfl) (by kernel_rfl)
theorem of_74 : OFit Go.Proofs.Try.prog tyY ownO 74 o_74 := ofit_st b_74 (el_mk (by kernel_rfl) rfl rfl) (by kernel_rfl) (by kernel_rfl) (by kernel_rfl) (by kernel_rfl) (by kernel_rfl) (by kernel_rfl)
theorem b_77 : Body Go.Proofs.Try.prog 77 12 [.cell 2 139] (ownStC 139 [⟨3, 3, 1, 44, false, 56⟩, ⟨4, 4, 7, 49, true, 37⟩]) := body_mk (by kernel_rfl) (by kernel_rfl)
theorem of_77 : OFit Go.Proofs.Try.prog tyY ownO 77 o_77 := ofit_st b_77 (el_mk (by kernel_rfl) rfl rfl) (by kernel_rfl) (by kernel_rfl) (by kernel_rfl) (by kernel_rfl) (by kernel_rfl) (by kernel_rfl)
theorem ownOk : ∀ f r, lk ownO f = some r → OFit Go.Proofs.Try.prog tyY ownO f r := otab_mk (List.forall_mem_cons.2 ⟨of_56, (List.forall_mem_cons.2 ⟨of_57, (List.forall_mem_cons.2 ⟨of_58, (List.forall_mem_cons.2 ⟨of_59, (List.forall_mem_cons.2 ⟨of_37, (List.forall_mem_cons.2 ⟨of_14, (List.forall_mem_cons.2 ⟨of_74, (List.forall_mem_cons.2 ⟨of_77, (by simp)⟩)⟩)⟩)⟩)⟩)⟩)⟩)⟩)
def mets : List TypeId := [9, 137, 49, 139]
theorem b_24 : Body Go.Proofs.Try.prog 24 27 [.tmp 2] (greatC tyY) := body_mk (by kernel_rfl) (by kernel_rfl)
theorem b_25 : Body Go.Proofs.Try.prog 25 23 [.tmp 2] (lookC tyY tyZ) := body_mk (by kernel_rfl) (by kernel_rfl)
theorem b_26 : Body Go.Proofs.Try.prog 26 59 [.tmp 4] (sameC tyY) := body_mk (by kernel_rfl) (by kernel_rfl)
theorem b_27 : Body Go.Proofs.Try.prog 27 29 [.tmp 6] (alikeC tyY tyZ 26) := body_mk (by kernel_rfl) (by kernel_rfl)
theorem b_13 : Body Go.Proofs.Try.prog 13 95 [.tmp 8] (apartC tyY tyZ 51 64 58 24 25 26 27) := body_mk (by kernel_rfl) (by kernel_rfl)
theorem b_4 : Body Go.Proofs.Try.prog 4 9 [.tmp 2] (topC 51 64 [16, 18, 22] 13 14 15 12) := body_mk (by kernel_rfl) (by kernel_rfl)
theorem b_16 : Body Go.Proofs.Try.prog 16 12 [.tmp 2] ((.seq (.region 0 ([⟨(some 2), .assign (.const (.slice none 0 0)), 0, "", #[], none⟩] : List Oper).toArray false) (.seq (.region 0 ([⟨(some 3), .move (.tmp 0), 0, "", #[], none⟩, ⟨(some 4), .nilCheck (.tmp 3), 0, "", #[eD 0], none⟩, ⟨(some 5), .fieldAddr 51 (.tmp 4) 0, 0, "", #[eD 1], none⟩, ⟨(some 6), .load 49 (.tmp 5), 0, "", #[eD 2], none⟩, ⟨(some 7), .move (.tmp 0), 0, "", #[], none⟩, ⟨(some 8), .nilCheck (.tmp 7), 0, "", #[eD 4], none⟩, ⟨(some 9), .fieldAddr 51 (.tmp 8) 1, 0, "", #[eD 5], none⟩, ⟨(some 10), .load 9 (.tmp 9), 0, "", #[eD 6], none⟩, ⟨(some 11), .call ⟨(.value (.func 17)), #[(.tmp 6), (.tmp 10)], #[]⟩, 0, "", #[eD 3, eD 7], none⟩] : List Oper).toArray true) (.seq (.region 0 ([⟨(some 2), .assign (.const (.slice none 0 0)), 0, "", #[], none⟩] : List Oper).toArray false) .ret)))) := body_mk (by kernel_rfl) (by kernel_rfl)
theorem call_16 : CallC Go.Proofs.Try.prog seeD 51 2097152 16 := by
  intro w0 b l0 row hb0 hcw0 hty hN
  have hl0 : l0.length = 8 := (hcw0.len.trans ((WTs_iff _ _).1 hty).1).trans kit3.cks
  obtain ⟨v0, l1, rfl, hl1⟩ := cons_of hl0
  obtain ⟨v1, l2, rfl, hl2⟩ := cons_of hl1
  obtain ⟨v2, l3, rfl, hl3⟩ := cons_of hl2
  obtain ⟨v3, l4, rfl, hl4⟩ := cons_of hl3
  obtain ⟨v4, l5, rfl, hl5⟩ := cons_of hl4
  obtain ⟨v5, l6, rfl, hl6⟩ := cons_of hl5
  obtain ⟨v6, l7, rfl, hl7⟩ := cons_of hl6
  obtain ⟨v7, l8, rfl, hl8⟩ := cons_of hl7
  obtain rfl := List.eq_nil_of_length_eq_zero hl8
  refine ret_of b_16 ?_
  have hs := SL.init (n := 12) [Ptr b 0] rfl
  revert hs
  generalize ({ tmps := _, defers := [] } : Act) = a
  intro hs
  have g0 := Ch.refl (fun _ => False) w0
  refine nw_seq (nw_region ?_)
  refine L hs rfl rfl (x_mv hs (.inr rfl) rfl) fun a hs => ?_
  refine Le (nw_seq (nw_tail 8 kit.mixed (by kernel_rfl) ?_))
  have c0 := Ch.drew (fun _ => False) w0
  generalize ({ w0 with drawn := w0.drawn + 1 } : World) = w1 at c0 ⊢
  have g1 := g0.trans c0
  have hb1 := c0.at hb0 fun h => h
  have hcw1 := hcw0.ch c0
  refine T hs rfl rfl (x_mv hs (.inl rfl) rfl) fun a hs => ?_
  refine T hs rfl rfl (x_nil hs rfl rfl) fun a hs => ?_
  refine T hs rfl rfl (x_fa (off := 0) (sz := 7) hs rfl rfl (by kernel_rfl)) fun a hs => ?_
  refine T hs rfl rfl (x_ldp (ag := true) (m := 7) [v0, v1, v2, v3, v4, v5, v6] hs rfl rfl (tp_mk (by kernel_rfl) (by kernel_rfl) rfl) rfl hb1 (sub_get 0 7 rfl)) fun a hs => ?_
  refine T hs rfl rfl (x_mv hs (.inl rfl) rfl) fun a hs => ?_
  refine T hs rfl rfl (x_nil hs rfl rfl) fun a hs => ?_
  refine T hs rfl rfl (x_fa (off := 7) (sz := 1) hs rfl rfl (by kernel_rfl)) fun a hs => ?_
  refine T hs rfl rfl (x_ldp (ag := false) (m := 1) [v7] hs rfl rfl (tp_mk (by kernel_rfl) (by kernel_rfl) rfl) rfl hb1 (sub_get 7 1 rfl)) fun a hs => ?_
  refine Te ?_
  have q1 := call_of (is := [0, 1, 2, 3, 4, 5, 6, 7]) (parts := [some 7, none]) (kinds := [none, none]) (h_Of rfl rfl : Known Go.Proofs.Try.prog (stdB Go.Proofs.Try.prog (fun _ => TL.Ds.yes) fun _ => ⟨#[]⟩) stdJ s_Of) ⟨rfl, rfl, by kernel_rfl, by kernel_rfl, by kernel_rfl, by kernel_rfl, by kernel_rfl⟩ hty hcw1 hN
  rw [show chunkV [some 7, none] (pickL [0, 1, 2, 3, 4, 5, 6, 7] [v0, v1, v2, v3, v4, v5, v6, v7]) = [pk true [v0, v1, v2, v3, v4, v5, v6], pk false [v7]] by kernel_rfl, show s_Of.fn = 17 by kernel_rfl] at q1
  refine Lc hs rfl rfl rfl rfl rfl (by kernel_rfl) q1 fun v w2 a hO hs => ?_
  obtain ⟨c1, us0, rfl, hO0⟩ := hO
  obtain ⟨u0, us1, rfl, hO1⟩ := hO0.skip
  obtain ⟨u1, us2, rfl, hO2⟩ := hO1.skip
  obtain rfl := hO2.nil
  have g2 := g1.trans c1
  have hb2 := c1.at hb1 fun h => h
  have hcw2 := hcw1.ch c1
  refine Le (nw_seq (nw_region ?_))
  refine L hs rfl rfl (x_mv hs (.inr rfl) rfl) fun a hs => ?_
  exact Le (nw_ret (finV hs rfl ⟨g2, .no, ⟨none, 0, rfl⟩, trivial⟩))
theorem b_20 : Body Go.Proofs.Try.prog 20 5 [] (cloC 21) := body_mk (by kernel_rfl) (by kernel_rfl)
theorem b_18 : Body Go.Proofs.Try.prog 18 15 [.tmp 2] ((.seq (.region 0 ([⟨(some 2), .assign (.const (.slice none 0 0)), 0, "", #[], none⟩] : List Oper).toArray false) (.seq (.region 0 ([⟨(some 6), .move (.tmp 0), 0, "", #[], none⟩, ⟨(some 7), .nilCheck (.tmp 6), 0, "", #[], none⟩, ⟨(some 8), .fieldAddr 51 (.tmp 7) 0, 0, "", #[], none⟩, ⟨(some 9), .load 49 (.tmp 8), 0, "", #[], none⟩, ⟨(some 10), .call ⟨(.value (.func 19)), #[(.tmp 9)], #[]⟩, 0, "", #[], none⟩, ⟨(some 5), .move (.tmp 10), 0, "", #[], none⟩, ⟨(some 11), .extract (.tmp 5) 0, 0, "", #[], none⟩, ⟨(some 12), .extract (.tmp 5) 1, 0, "", #[], none⟩, ⟨(some 3), .alloc 59, 0, "", #[], none⟩, ⟨none, .store 59 (.tmp 3) (.tmp 11), 0, "", #[], none⟩, ⟨(some 4), .assign (.tmp 12), 0, "", #[], none⟩] : List Oper).toArray false) (.seq (.region 0 ([⟨(some 13), .makeFunc (.func 20) #[] #[(.tmp 3)], 0, "", #[], none⟩, ⟨(some 14), .buildSlice 29 1 #[(0, (.tmp 13))], 0, "", #[], none⟩, ⟨(some 2), .assign (.tmp 14), 0, "", #[], none⟩] : List Oper).toArray false) .ret)))) := body_mk (by kernel_rfl) (by kernel_rfl)
theorem call_18 : CallC Go.Proofs.Try.prog seeD 51 2097152 18 := by
  intro w0 b l0 row hb0 hcw0 hty hN
  have hl0 : l0.length = 8 := (hcw0.len.trans ((WTs_iff _ _).1 hty).1).trans kit3.cks
  obtain ⟨v0, l1, rfl, hl1⟩ := cons_of hl0
  obtain ⟨v1, l2, rfl, hl2⟩ := cons_of hl1
  obtain ⟨v2, l3, rfl, hl3⟩ := cons_of hl2
  obtain ⟨v3, l4, rfl, hl4⟩ := cons_of hl3
  obtain ⟨v4, l5, rfl, hl5⟩ := cons_of hl4
  obtain ⟨v5, l6, rfl, hl6⟩ := cons_of hl5
  obtain ⟨v6, l7, rfl, hl7⟩ := cons_of hl6
  obtain ⟨v7, l8, rfl, hl8⟩ := cons_of hl7
  obtain rfl := List.eq_nil_of_length_eq_zero hl8
  refine ret_of b_18 ?_
  have hs := SL.init (n := 15) [Ptr b 0] rfl
  revert hs
  generalize ({ tmps := _, defers := [] } : Act) = a
  intro hs
  have g0 := Ch.refl (fun _ => False) w0
  refine nw_seq (nw_region ?_)
  refine L hs rfl rfl (x_mv hs (.inr rfl) rfl) fun a hs => ?_
  refine Le (nw_seq (nw_region ?_))
  refine L hs rfl rfl (x_mv hs (.inl rfl) rfl) fun a hs => ?_
  refine L hs rfl rfl (x_nil hs rfl rfl) fun a hs => ?_
  refine L hs rfl rfl (x_fa (off := 0) (sz := 7) hs rfl rfl (by kernel_rfl)) fun a hs => ?_
  refine L hs rfl rfl (x_ldp (ag := true) (m := 7) [v0, v1, v2, v3, v4, v5, v6] hs rfl rfl (tp_mk (by kernel_rfl) (by kernel_rfl) rfl) rfl hb0 (sub_get 0 7 rfl)) fun a hs => ?_
  have q0 := call_of (is := [0, 1, 2, 3, 4, 5, 6]) (parts := [some 7]) (kinds := [some (false, [.sl 100]), none]) (h_All rfl rfl : Known Go.Proofs.Try.prog (stdB Go.Proofs.Try.prog (fun _ => TL.Ds.yes) fun _ => ⟨#[]⟩) stdJ s_All) ⟨rfl, rfl, by kernel_rfl, by kernel_rfl, by kernel_rfl, by kernel_rfl, by kernel_rfl⟩ hty hcw0 hN
  rw [show chunkV [some 7] (pickL [0, 1, 2, 3, 4, 5, 6] [v0, v1, v2, v3, v4, v5, v6, v7]) = [pk true [v0, v1, v2, v3, v4, v5, v6]] by kernel_rfl, show s_All.fn = 19 by kernel_rfl] at q0
  refine Lc hs rfl rfl rfl rfl rfl (by kernel_rfl) q0 fun v w1 a hO hs => ?_
  obtain ⟨c0, us0, rfl, hO0⟩ := hO
  obtain ⟨rr0, uu0, us1, rfl, cw0_1, wt0, hO1⟩ := hO0.take
  have sz0 := g0.size
  have cw0_1 := cw0_1.down sz0
  obtain ⟨u1, us2, rfl, hO2⟩ := hO1.skip
  obtain rfl := hO2.nil
  have g1 := g0.trans c0
  have hb1 := c0.at hb0 fun h => h
  have hcw1 := hcw0.ch c0
  refine L hs rfl rfl (x_mv hs (.inl rfl) rfl) fun a hs => ?_
  refine L hs rfl rfl (x_extract hs rfl rfl rfl) fun a hs => ?_
  refine L hs rfl rfl (x_extract hs rfl rfl rfl) fun a hs => ?_
  refine L hs rfl rfl (x_allocz (sz := 1) (zs := [.slice none 0 0]) rfl (el_mk (by kernel_rfl) rfl rfl)) fun a hs => ?_
  have hl0 : uu0.length = 1 := (cw0_1.len.trans ((WTs_iff _ _).1 wt0).1)
  refine Ls hs rfl rfl (x_stp (ag := false) (m := 1) uu0 hs rfl rfl rfl (tp_mk (by kernel_rfl) (by kernel_rfl) rfl) hl0 cw0_1.one (heap_alloc_new _ _) (by simp)) fun hs => ?_
  obtain ⟨c1, bx0_2⟩ := box_new (T := 59) (zs := [.slice none 0 0]) (us := uu0) w1 hl0
  have lo0 := g1.size
  generalize hbn0 : w1.heap.size = bn0 at *
  generalize (World.setRow _ bn0 _) = w2 at *
  have g2 := g1.trans c1
  have hb2 := c1.at hb1 fun h => h
  have hcw2 := hcw1.ch c1
  have cw0_2 := cw0_1.ch c1
  refine L hs rfl rfl (x_mv hs (.inr rfl) rfl) fun a hs => ?_
  refine Le (nw_seq (nw_region ?_))
  refine L hs rfl rfl (x_clo hs rfl rfl rfl) fun a hs => ?_
  refine L hs rfl rfl (x_bs1 (e := 39) (z := .nilFunc) (v := clo 20 bn0) hs rfl rfl (by kernel_rfl) (one_mk (by kernel_rfl) (by kernel_rfl) rfl) rfl) fun a hs => ?_
  have c2 := Ch.alloc (fun _ => False) w2 (.cells #[clo 20 bn0] 39)
  have hbl3 := heap_alloc_new w2 (.cells #[clo 20 bn0] 39)
  have ll2 := g2.size
  generalize hbm : w2.heap.size = bl at *
  generalize w2.alloc (.cells #[clo 20 bn0] 39) = w3 at *
  have g3 := g2.trans c2
  have hb3 := c2.at hb2 fun h => h
  have hcw3 := hcw2.ch c2
  have bx0_3 := c2.at bx0_2 fun h => h
  have cw0_3 := cw0_2.ch c2
  refine L hs rfl rfl (x_mv hs (.inr rfl) rfl) fun a hs => ?_
  exact Le (nw_ret (finV hs rfl ⟨g3, .one 20 21 bn0, ⟨bl, _, rfl, hbl3⟩, b_20, fun _ h => by cases h; omega, lo0, r_21, rr0, uu0, _, (by kernel_rfl), (by decide), bx0_3, cw0_3, wt0⟩))
theorem b_22 : Body Go.Proofs.Try.prog 22 12 [.tmp 2] ((.seq (.region 0 ([⟨(some 2), .assign (.const (.slice none 0 0)), 0, "", #[], none⟩] : List Oper).toArray false) (.seq (.region 0 ([⟨(some 3), .move (.tmp 0), 0, "", #[], none⟩, ⟨(some 4), .nilCheck (.tmp 3), 0, "", #[eD 0], none⟩, ⟨(some 5), .fieldAddr 51 (.tmp 4) 0, 0, "", #[eD 1], none⟩, ⟨(some 6), .load 49 (.tmp 5), 0, "", #[eD 2], none⟩, ⟨(some 7), .move (.tmp 0), 0, "", #[], none⟩, ⟨(some 8), .nilCheck (.tmp 7), 0, "", #[eD 4], none⟩, ⟨(some 9), .fieldAddr 51 (.tmp 8) 1, 0, "", #[eD 5], none⟩, ⟨(some 10), .load 9 (.tmp 9), 0, "", #[eD 6], none⟩, ⟨(some 11), .call ⟨(.value (.func 23)), #[(.tmp 6), (.tmp 10)], #[]⟩, 0, "", #[eD 3, eD 7], none⟩] : List Oper).toArray true) (.seq (.region 0 ([⟨(some 2), .assign (.const (.slice none 0 0)), 0, "", #[], none⟩] : List Oper).toArray false) .ret)))) := body_mk (by kernel_rfl) (by kernel_rfl)
theorem call_22 : CallC Go.Proofs.Try.prog seeD 51 2097152 22 := by
  intro w0 b l0 row hb0 hcw0 hty hN
  have hl0 : l0.length = 8 := (hcw0.len.trans ((WTs_iff _ _).1 hty).1).trans kit3.cks
  obtain ⟨v0, l1, rfl, hl1⟩ := cons_of hl0
  obtain ⟨v1, l2, rfl, hl2⟩ := cons_of hl1
  obtain ⟨v2, l3, rfl, hl3⟩ := cons_of hl2
  obtain ⟨v3, l4, rfl, hl4⟩ := cons_of hl3
  obtain ⟨v4, l5, rfl, hl5⟩ := cons_of hl4
  obtain ⟨v5, l6, rfl, hl6⟩ := cons_of hl5
  obtain ⟨v6, l7, rfl, hl7⟩ := cons_of hl6
  obtain ⟨v7, l8, rfl, hl8⟩ := cons_of hl7
  obtain rfl := List.eq_nil_of_length_eq_zero hl8
  refine ret_of b_22 ?_
  have hs := SL.init (n := 12) [Ptr b 0] rfl
  revert hs
  generalize ({ tmps := _, defers := [] } : Act) = a
  intro hs
  have g0 := Ch.refl (fun _ => False) w0
  refine nw_seq (nw_region ?_)
  refine L hs rfl rfl (x_mv hs (.inr rfl) rfl) fun a hs => ?_
  refine Le (nw_seq (nw_tail 8 kit.mixed (by kernel_rfl) ?_))
  have c0 := Ch.drew (fun _ => False) w0
  generalize ({ w0 with drawn := w0.drawn + 1 } : World) = w1 at c0 ⊢
  have g1 := g0.trans c0
  have hb1 := c0.at hb0 fun h => h
  have hcw1 := hcw0.ch c0
  refine T hs rfl rfl (x_mv hs (.inl rfl) rfl) fun a hs => ?_
  refine T hs rfl rfl (x_nil hs rfl rfl) fun a hs => ?_
  refine T hs rfl rfl (x_fa (off := 0) (sz := 7) hs rfl rfl (by kernel_rfl)) fun a hs => ?_
  refine T hs rfl rfl (x_ldp (ag := true) (m := 7) [v0, v1, v2, v3, v4, v5, v6] hs rfl rfl (tp_mk (by kernel_rfl) (by kernel_rfl) rfl) rfl hb1 (sub_get 0 7 rfl)) fun a hs => ?_
  refine T hs rfl rfl (x_mv hs (.inl rfl) rfl) fun a hs => ?_
  refine T hs rfl rfl (x_nil hs rfl rfl) fun a hs => ?_
  refine T hs rfl rfl (x_fa (off := 7) (sz := 1) hs rfl rfl (by kernel_rfl)) fun a hs => ?_
  refine T hs rfl rfl (x_ldp (ag := false) (m := 1) [v7] hs rfl rfl (tp_mk (by kernel_rfl) (by kernel_rfl) rfl) rfl hb1 (sub_get 7 1 rfl)) fun a hs => ?_
  refine Te ?_
  have q1 := call_of (is := [0, 1, 2, 3, 4, 5, 6, 7]) (parts := [some 7, none]) (kinds := [none, none]) (h_Count rfl rfl : Known Go.Proofs.Try.prog (stdB Go.Proofs.Try.prog (fun _ => TL.Ds.yes) fun _ => ⟨#[]⟩) stdJ s_Count) ⟨rfl, rfl, by kernel_rfl, by kernel_rfl, by kernel_rfl, by kernel_rfl, by kernel_rfl⟩ hty hcw1 hN
  rw [show chunkV [some 7, none] (pickL [0, 1, 2, 3, 4, 5, 6, 7] [v0, v1, v2, v3, v4, v5, v6, v7]) = [pk true [v0, v1, v2, v3, v4, v5, v6], pk false [v7]] by kernel_rfl, show s_Count.fn = 23 by kernel_rfl] at q1
  refine Lc hs rfl rfl rfl rfl rfl (by kernel_rfl) q1 fun v w2 a hO hs => ?_
  obtain ⟨c1, us0, rfl, hO0⟩ := hO
  obtain ⟨u0, us1, rfl, hO1⟩ := hO0.skip
  obtain ⟨u1, us2, rfl, hO2⟩ := hO1.skip
  obtain rfl := hO2.nil
  have g2 := g1.trans c1
  have hb2 := c1.at hb1 fun h => h
  have hcw2 := hcw1.ch c1
  refine Le (nw_seq (nw_region ?_))
  refine L hs rfl rfl (x_mv hs (.inr rfl) rfl) fun a hs => ?_
  exact Le (nw_ret (finV hs rfl ⟨g2, .no, ⟨none, 0, rfl⟩, trivial⟩))
theorem calls : ∀ C ∈ ([16, 18, 22] : List FuncId), calleeOk Go.Proofs.Try.prog C = true ∧ CallC Go.Proofs.Try.prog seeD 51 2097152 C := (List.forall_mem_cons.2 ⟨⟨by kernel_rfl, call_16⟩, (List.forall_mem_cons.2 ⟨⟨by kernel_rfl, call_18⟩, (List.forall_mem_cons.2 ⟨⟨by kernel_rfl, call_22⟩, (by simp)⟩)⟩)⟩)
theorem walk : ∀ (w : World) (xs : List Value) (row : List PV), RowGot Go.Proofs.Try.prog w (cks Go.Proofs.Try.prog 51) xs row → rz row ≤ 2097152 → Ret Go.Proofs.Try.prog 4 [.agg xs.toArray] w fun v w' => v = .bool true ∧ Ch (fun _ => False) w w' :=
  walk_of (E := (· ∈ mets)) kit kit2 kit3 seeOk (S := 15) (rS := r_15) (by kernel_rfl) (by kernel_rfl) ownOk (W := 14) (rO := o_14) (by kernel_rfl) (by kernel_rfl) (by kernel_rfl) (by kernel_rfl) (by kernel_rfl) b_24 b_25 b_27 b_26 (metB_v (by kernel_rfl)) (ks_mk (by kernel_rfl)) b_13 b_4 rfl rfl calls (by kernel_rfl) fun w' => true_ret (h_failing rfl rfl : Known Go.Proofs.Try.prog (stdB Go.Proofs.Try.prog (fun _ => TL.Ds.yes) fun _ => ⟨#[]⟩) stdJ s_failing) rfl w'
end Go.TL.H.occ
namespace Go.Proofs.Ytaaimmmofkldbaa.occ
open Go Go.ChangeShapes Go.WideShapes Go.ChangeAt Go.RowKit Go.TL.H Go.TL.H.occ

theorem blk (H : Type) : Blk H Rows.uptoBulk Rows.uptoBulkAll where
  str l := by simp [Rows.uptoBulk]
  one d := by
    cases d <;> (try unfold Rows.uptoBulk) <;> (try omega)
    rename_i l
    cases l <;> simp
  sl x y := by simp [Rows.uptoBulk]
  agg x := by simp [Rows.uptoBulk]
  nil := by simp [Rows.uptoBulkAll]
  cons x r := by simp [Rows.uptoBulkAll]

theorem own : ownKnob Go.Proofs.Try.prog.godebug = none := by kernel_rfl

theorem contract (H : Type) (enc : TypeId × Value → H) (W : World) (base : Nat) (args : Array Value) (ds gs : List (DataW H)) (before : List MemPlace)
    (hval : ∀ (j : Nat) t v, Try.f4.params[j]? = some t → args[j]? = some v → Value.okWide Go.Proofs.Try.prog W .any base t v)
    (hW : DataW.Whole enc Go.Proofs.Try.prog Try.f4.params.toList Rows.topSharedOccurSpec.vars false W args.toList ds gs before) (hk : Rows.uptoBulkAll (ds ++ gs) ≤ 1048576) :
    Calls Go.Proofs.Try.prog 4 args W fun e W' => ∃ v, e = .returned v ∧ Rows.topSharedOccurSpec.post enc Go.Proofs.Try.prog Try.f4 false true false false W args v W' :=
  contract_of (E := (· ∈ mets)) (blk H) (T := 51) (tb := 4) rfl rfl rfl (fun _ => rfl) (by kernel_rfl) (show Go.Proofs.Try.prog.underlying 51 = some (.struct (match Go.Proofs.Try.prog.underlying 51 with | some (.struct fs) => fs | _ => #[])) by kernel_rfl) (by kernel_rfl) (by kernel_rfl) (of_decide_eq_true (by kernel_rfl)) (by kernel_rfl) (elB_v (by kernel_rfl)) (ks_mk (by kernel_rfl)) walk W base args ds gs before hval hW hk

set_option maxRecDepth 100000 in
theorem lifted (os : Os) (started : os.Started) (H : Type) (enc : TypeId × Value → H) (F : Stop.Interp) :
    ReturnsInHanded {} Try.checked os 4 .any ((Rows.OpenSpec.upto Rows.topSharedOccurSpec).pre6 enc Go.Proofs.Try.prog Try.f4 Rows.topSharedOccurUptoRow.domain false) (((Rows.OpenSpec.upto Rows.topSharedOccurSpec).at F).post enc Go.Proofs.Try.prog Try.f4 false true false false) := by
  refine returnsInHanded_of_cond (C := Try.checked) (s := Rows.OpenSpec.upto Rows.topSharedOccurSpec) (k := Rows.uptoSmall) rfl own started (by kernel_rfl) Try.func4
    (OpenSpec.witness (enc := enc) (C := Try.checked) (s := Rows.OpenSpec.upto Rows.topSharedOccurSpec) (k := Rows.uptoSmall) rfl false ⟨#[], #[.agg #[.int .i64 0, .string ⟨#[]⟩, .int .i64 0, .slice none 0 0, .slice none 0 0, .slice none 0 0, .slice none 0 0, .string ⟨#[]⟩]], []⟩ 8 (by kernel_rfl) (by kernel_rfl) (by kernel_rfl)
      (x := ([.agg [.agg [.lit (.int .i64 0), .lit (.string []), .lit (.int .i64 0), .nil, .nil, .nil, .nil], .lit (.string [])]], [], [])) (by kernel_rfl) rfl (by kernel_rfl)) ?_
  intro W base args ds gs before hval hW _ hk _
  exact contract H enc W base args ds gs before hval hW (of_decide_eq_true hk)

theorem over : Rows.topSharedOccurUptoRow.holds Try.pinned (Rows.OpenSpec.upto Rows.topSharedOccurSpec) :=
  OpenClaim.holds_of_cond 4 Try.f4 rfl rfl rfl rfl rfl rfl rfl ⟨rfl, rfl, rfl, rfl, rfl⟩ rfl rfl rfl rfl rfl (by kernel_rfl) Try.func4 (by kernel_rfl)
    (of_decide_eq_true (by kernel_rfl)) (by unfold Func.isWrapper; first | (rw [if_pos (by decide +kernel)]; kernel_rfl) | (rw [if_neg (by decide +kernel)]; exact ⟨rfl, rfl⟩))
    (fun os started H enc _ F => lifted os started H enc F)

theorem proved : Rows.TopSharedOccurUptoSaid :=
  over
end Go.Proofs.Ytaaimmmofkldbaa.occ
