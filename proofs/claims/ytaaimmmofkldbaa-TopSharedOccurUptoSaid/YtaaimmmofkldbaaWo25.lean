/- The engine's word on this law's functions. -/
import Derived.Test.YtaaimmmofkldbaaWo23
import Derived.Test.YtaaimmmofkldbaaProg
import Derived.KernelRfl
set_option maxRecDepth 100000
namespace Go.TL.Gocc
open Go Go.TL
variable {B : Pr} {J : Ex} {T : FuncId → Ds} {ms : Int → ByteArray}
def s_names : TL.Spec := ⟨69, 1, [.p (.sl (some 0)) false], [], [(0, 137)], [], [], ⟨0, []⟩,
  [⟨1, [(1, 9)], [⟨0, [(1, -1), (5, 1)]⟩], [], [], [.p (.sl (some 1)) true]⟩]⟩
def a_names : An := ⟨19, 1, [(0, [0]), (1, [3, 0]), (2, [8, 3, 6, 7]), (3, [6, 7, 8, 3, 9]), (4, [6, 7, 8, 5, 3]), (5, [3, 6, 7, 8]), (6, [8, 3, 6, 7]), (7, [2])],
  [⟨0, [8, 3, 6, 7], [(3, .v 16 9 1 true), (8, .g true)], [], [⟨0, [(1, -1), (8, 1)]⟩, ⟨0, [(8, -1), (13, 1)]⟩, ⟨0, [(8, 1), (13, -1)]⟩], [], ⟨0, [(1, 1), (8, -1)]⟩⟩],
  [], [],
  [⟨⟨-2097152, [(13, 1), (49, 1)]⟩, 1, [(0, 1), (5, 1), (7, 1)], [(0, 1)]⟩]⟩
theorem c_names : checkS Go.Proofs.Try.prog [] [s_names] s_names a_names.ann = some [] := by kernel_rfl
theorem k_names (hB : B = stdB Go.Proofs.Try.prog T ms) (hJ : J = stdJ) : ∀ s ∈ [s_names], Known Go.Proofs.Try.prog B J s := by
  refine group_ok hB hJ (D := []) ?_ ?_
  · intro s hs; simp at hs
  intro s hs; simp only [List.mem_cons, List.mem_nil_iff, or_false] at hs; rcases hs with rfl
  · exact ⟨_, _, c_names, fun _ => Valid.nil⟩
theorem h_names (hB : B = stdB Go.Proofs.Try.prog T ms) (hJ : J = stdJ) : Known Go.Proofs.Try.prog B J s_names := k_names hB hJ _ (by simp)
def s_index : TL.Spec := ⟨88, 2, [.p (.sl (some 0)) false, .p (.st (.var 1)) true], [], [(0, 9)], [], [], ⟨0, []⟩,
  [⟨1, [], [], [], [], [.p (.int .i64 ⟨0, [(8, 1)]⟩) true]⟩]⟩
def a_index : An := ⟨19, 1, [(0, [0, 1]), (1, [8, 0, 1, 7]), (2, [0, 1, 7, 8, 9]), (3, [5, 0, 1, 7, 8]), (4, [5, 0, 1, 7, 8, 16]), (5, [4]), (6, [8, 0, 1, 7]), (7, [4])],
  [⟨0, [8, 0, 1, 7], [(8, .g true)], [], [⟨0, [(1, -1), (12, 1)]⟩, ⟨0, [(12, -1)]⟩], [], ⟨0, [(1, 1), (12, -1)]⟩⟩],
  [], [],
  []⟩
theorem c_index : checkS Go.Proofs.Try.prog [] [s_index] s_index a_index.ann = some [] := by kernel_rfl
theorem k_index (hB : B = stdB Go.Proofs.Try.prog T ms) (hJ : J = stdJ) : ∀ s ∈ [s_index], Known Go.Proofs.Try.prog B J s := by
  refine group_ok hB hJ (D := []) ?_ ?_
  · intro s hs; simp at hs
  intro s hs; simp only [List.mem_cons, List.mem_nil_iff, or_false] at hs; rcases hs with rfl
  · exact ⟨_, _, c_index, fun _ => Valid.nil⟩
theorem h_index (hB : B = stdB Go.Proofs.Try.prog T ms) (hJ : J = stdJ) : Known Go.Proofs.Try.prog B J s_index := k_index hB hJ _ (by simp)
def s_contains : TL.Spec := ⟨70, 2, [.p (.sl (some 0)) false, .p (.st (.var 1)) true], [], [(0, 9)], [], [], ⟨0, []⟩,
  [⟨1, [], [], [], [], [.p (.bl (.var 2)) true]⟩]⟩
def a_contains : An := ⟨9, 1, [(0, [1, 0]), (1, [4])],
  [],
  [], [],
  []⟩
theorem c_contains : checkS Go.Proofs.Try.prog [s_index] [s_contains] s_contains a_contains.ann = some [] := by kernel_rfl
theorem k_contains (hB : B = stdB Go.Proofs.Try.prog T ms) (hJ : J = stdJ) : ∀ s ∈ [s_contains], Known Go.Proofs.Try.prog B J s := by
  refine group_ok hB hJ (D := [s_index]) ?_ ?_
  · intro s hs; simp only [List.mem_cons, List.mem_nil_iff, or_false] at hs; rcases hs with rfl
    · exact h_index hB hJ
  intro s hs; simp only [List.mem_cons, List.mem_nil_iff, or_false] at hs; rcases hs with rfl
  · exact ⟨_, _, c_contains, fun _ => Valid.nil⟩
theorem h_contains (hB : B = stdB Go.Proofs.Try.prog T ms) (hJ : J = stdJ) : Known Go.Proofs.Try.prog B J s_contains := k_contains hB hJ _ (by simp)
def s_inLambda : TL.Spec := ⟨87, 1, [.p (.int .i64 ⟨0, [(0, 1)]⟩) true], [], [], [⟨0, [(0, -1)]⟩, ⟨-5, [(0, 1)]⟩], [], ⟨0, []⟩,
  [⟨1, [], [⟨0, [(4, -1)]⟩, ⟨-5, [(4, 1)]⟩], [], [], [.p (.int .i64 ⟨0, [(4, 1)]⟩) true]⟩]⟩
def a_inLambda : An := ⟨11, 40, [(0, [0]), (1, [0, 3]), (2, [0, 3, 4]), (3, [0, 3, 4]), (5, [8, 3]), (6, [8]), (7, [2]), (4, [2]), (8, [2])],
  [],
  [], [],
  []⟩
theorem c_inLambda : checkS Go.Proofs.Try.prog [] [s_inLambda] s_inLambda a_inLambda.ann = some [] := by kernel_rfl
theorem k_inLambda (hB : B = stdB Go.Proofs.Try.prog T ms) (hJ : J = stdJ) : ∀ s ∈ [s_inLambda], Known Go.Proofs.Try.prog B J s := by
  refine group_ok hB hJ (D := []) ?_ ?_
  · intro s hs; simp at hs
  intro s hs; simp only [List.mem_cons, List.mem_nil_iff, or_false] at hs; rcases hs with rfl
  · exact ⟨_, _, c_inLambda, fun _ => Valid.nil⟩
theorem h_inLambda (hB : B = stdB Go.Proofs.Try.prog T ms) (hJ : J = stdJ) : Known Go.Proofs.Try.prog B J s_inLambda := k_inLambda hB hJ _ (by simp)
def s_both : TL.Spec := ⟨85, 2, [.p (.int .i64 ⟨0, [(0, 1)]⟩) true, .p (.int .i64 ⟨0, [(4, 1)]⟩) true], [], [], [⟨0, [(0, -1)]⟩, ⟨-5, [(0, 1)]⟩, ⟨0, [(4, -1)]⟩, ⟨-5, [(4, 1)]⟩], [], ⟨0, []⟩,
  [⟨1, [], [⟨0, [(8, -1)]⟩, ⟨-5, [(8, 1)]⟩], [], [], [.p (.int .i64 ⟨0, [(8, 1)]⟩) true]⟩]⟩
def a_both : An := ⟨15, 40, [(0, [1, 0]), (1, [4])],
  [],
  [], [],
  []⟩
theorem c_both : checkS Go.Proofs.Try.prog [] [s_both] s_both a_both.ann = some [] := by kernel_rfl
theorem k_both (hB : B = stdB Go.Proofs.Try.prog T ms) (hJ : J = stdJ) : ∀ s ∈ [s_both], Known Go.Proofs.Try.prog B J s := by
  refine group_ok hB hJ (D := []) ?_ ?_
  · intro s hs; simp at hs
  intro s hs; simp only [List.mem_cons, List.mem_nil_iff, or_false] at hs; rcases hs with rfl
  · exact ⟨_, _, c_both, fun _ => Valid.nil⟩
theorem h_both (hB : B = stdB Go.Proofs.Try.prog T ms) (hJ : J = stdJ) : Known Go.Proofs.Try.prog B J s_both := k_both hB hJ _ (by simp)
def s_either : TL.Spec := ⟨86, 2, [.p (.int .i64 ⟨0, [(0, 1)]⟩) true, .p (.int .i64 ⟨0, [(4, 1)]⟩) true], [], [], [⟨0, [(0, -1)]⟩, ⟨-5, [(0, 1)]⟩, ⟨0, [(4, -1)]⟩, ⟨-5, [(4, 1)]⟩], [], ⟨0, []⟩,
  [⟨1, [], [⟨0, [(8, -1)]⟩, ⟨-5, [(8, 1)]⟩], [], [], [.p (.int .i64 ⟨0, [(8, 1)]⟩) true]⟩]⟩
def a_either : An := ⟨15, 40, [(0, [1, 0]), (1, [4])],
  [],
  [], [],
  []⟩
theorem c_either : checkS Go.Proofs.Try.prog [] [s_either] s_either a_either.ann = some [] := by kernel_rfl
theorem k_either (hB : B = stdB Go.Proofs.Try.prog T ms) (hJ : J = stdJ) : ∀ s ∈ [s_either], Known Go.Proofs.Try.prog B J s := by
  refine group_ok hB hJ (D := []) ?_ ?_
  · intro s hs; simp at hs
  intro s hs; simp only [List.mem_cons, List.mem_nil_iff, or_false] at hs; rcases hs with rfl
  · exact ⟨_, _, c_either, fun _ => Valid.nil⟩
theorem h_either (hB : B = stdB Go.Proofs.Try.prog T ms) (hJ : J = stdJ) : Known Go.Proofs.Try.prog B J s_either := k_either hB hJ _ (by simp)
def s_hides : TL.Spec := ⟨66, 8, [.pd [.int .i64 ⟨0, [(0, 1)]⟩, .st (.var 1), .int .i64 ⟨0, [(8, 1)]⟩, .sl (some 3), .sl (some 4), .sl (some 5), .sl (some 6)] 0 false, .p (.st (.var 7)) true], [], [(3, 9), (4, 137), (5, 49), (6, 139)], [], [], ⟨0, []⟩,
  [⟨1, [], [], [], [], [.p (.bl (.var 8)) true]⟩]⟩
def a_hides : An := ⟨20, 1, [(0, [1, 0]), (1, [4])],
  [],
  [], [],
  []⟩
theorem c_hides : checkS Go.Proofs.Try.prog [s_contains, s_names] [s_hides] s_hides a_hides.ann = some [] := by kernel_rfl
theorem k_hides (hB : B = stdB Go.Proofs.Try.prog T ms) (hJ : J = stdJ) : ∀ s ∈ [s_hides], Known Go.Proofs.Try.prog B J s := by
  refine group_ok hB hJ (D := [s_contains, s_names]) ?_ ?_
  · intro s hs; simp only [List.mem_cons, List.mem_nil_iff, or_false] at hs; rcases hs with rfl | rfl
    · exact h_contains hB hJ
    · exact h_names hB hJ
  intro s hs; simp only [List.mem_cons, List.mem_nil_iff, or_false] at hs; rcases hs with rfl
  · exact ⟨_, _, c_hides, fun _ => Valid.nil⟩
theorem h_hides (hB : B = stdB Go.Proofs.Try.prog T ms) (hJ : J = stdJ) : Known Go.Proofs.Try.prog B J s_hides := k_hides hB hJ _ (by simp)
def s_of : TL.Spec := ⟨41, 8, [.pd [.int .i64 ⟨0, [(0, 1)]⟩, .st (.var 1), .int .i64 ⟨0, [(8, 1)]⟩, .sl (some 3), .sl (some 4), .sl (some 5), .sl (some 6)] 0 false, .p (.st (.var 7)) true], [], [(3, 9), (4, 137), (5, 49), (6, 139)], [], [], ⟨15, [(7, 2), (14, 2), (18, 2), (22, 2), (26, 2)]⟩,
  [⟨1, [], [⟨0, [(32, -1)]⟩, ⟨-5, [(32, 1)]⟩], [], [], [.p (.int .i64 ⟨0, [(32, 1)]⟩) true]⟩]⟩
def s_inside : TL.Spec := ⟨67, 8, [.pd [.int .i64 ⟨0, [(0, 1)]⟩, .st (.var 1), .int .i64 ⟨0, [(8, 1)]⟩, .sl (some 3), .sl (some 4), .sl (some 5), .sl (some 6)] 0 false, .p (.st (.var 7)) true], [], [(3, 9), (4, 137), (5, 49), (6, 139)], [], [], ⟨14, [(7, 2), (14, 2), (18, 2), (22, 2), (26, 2)]⟩,
  [⟨1, [], [⟨0, [(32, -1)]⟩, ⟨-5, [(32, 1)]⟩], [], [], [.p (.int .i64 ⟨0, [(32, 1)]⟩) true]⟩]⟩
def a_of : An := ⟨11, 1, [(0, [1, 0]), (1, [1, 0, 7]), (2, [4]), (3, [4])],
  [],
  [], [],
  []⟩
theorem c_of : checkS Go.Proofs.Try.prog [s_hides, s_either, s_both, s_inLambda, s_contains] [s_of, s_inside] s_of a_of.ann = some [] := by kernel_rfl
def a_inside : An := ⟨104, 1, [(0, [1, 0]), (1, [1, 0, 5]), (2, [1, 0, 5, 22]), (3, [1, 0, 5]), (4, [28, 1, 0, 5, 27]), (5, [1, 0, 27, 28, 5, 29]), (6, [1, 0, 27, 28, 6, 5]), (7, [1, 0, 5, 27, 28]), (8, [28, 1, 0, 5, 27]), (9, [48, 1, 0, 5, 47]), (10, [1, 0, 47, 48, 5, 49]), (11, [1, 0, 47, 48, 7, 5]), (12, [1, 0, 5, 47, 48]), (13, [48, 1, 0, 5, 47]), (14, [1, 0, 8, 5]), (15, [67, 1, 0, 8, 5, 66]), (16, [1, 0, 5, 66, 67, 8, 68]), (17, [1, 0, 5, 66, 67, 9, 8]), (18, [1, 0, 5, 66, 67, 9, 8, 80]), (19, [1, 0, 8, 5, 66, 67]), (20, [67, 1, 0, 8, 5, 66]), (21, [5, 0]), (22, [5, 100]), (23, [4]), (24, [4])],
  [⟨4, [67, 1, 0, 8, 5, 66], [(8, .g true), (67, .g true)], [], [⟨0, [(60, -1)]⟩, ⟨-5, [(60, 1)]⟩, ⟨0, [(56, -1)]⟩, ⟨0, [(25, -1), (56, 1)]⟩], [], ⟨0, [(25, 1), (56, -1)]⟩⟩, ⟨2, [48, 1, 0, 5, 47], [(5, .g true), (48, .g true)], [], [⟨-5, [(52, 1)]⟩, ⟨0, [(52, -1)]⟩, ⟨0, [(48, -1)]⟩, ⟨0, [(21, -1), (48, 1)]⟩], [], ⟨0, [(21, 1), (48, -1)]⟩⟩, ⟨0, [28, 1, 0, 5, 27], [(5, .g true), (28, .g true)], [], [⟨-5, [(44, 1)]⟩, ⟨0, [(44, -1)]⟩, ⟨0, [(40, -1)]⟩, ⟨0, [(17, -1), (40, 1)]⟩], [], ⟨0, [(17, 1), (40, -1)]⟩⟩],
  [(20, [⟨-5, [(112, 1)]⟩, ⟨0, [(112, -1)]⟩, ⟨0, [(112, -1)]⟩]), (4, [⟨1, [(36, -1)]⟩, ⟨1, [(36, -1)]⟩, ⟨-2, [(36, 1)]⟩, ⟨0, [(36, -1)]⟩])], [],
  []⟩
theorem c_inside : checkS Go.Proofs.Try.prog [s_hides, s_either, s_both, s_inLambda, s_contains] [s_of, s_inside] s_inside a_inside.ann = some [] := by kernel_rfl
theorem k_of (hB : B = stdB Go.Proofs.Try.prog T ms) (hJ : J = stdJ) : ∀ s ∈ [s_of, s_inside], Known Go.Proofs.Try.prog B J s := by
  refine group_ok hB hJ (D := [s_hides, s_either, s_both, s_inLambda, s_contains]) ?_ ?_
  · intro s hs; simp only [List.mem_cons, List.mem_nil_iff, or_false] at hs; rcases hs with rfl | rfl | rfl | rfl | rfl
    · exact h_hides hB hJ
    · exact h_either hB hJ
    · exact h_both hB hJ
    · exact h_inLambda hB hJ
    · exact h_contains hB hJ
  intro s hs; simp only [List.mem_cons, List.mem_nil_iff, or_false] at hs; rcases hs with rfl | rfl
  · exact ⟨_, _, c_of, fun _ => Valid.nil⟩
  · exact ⟨_, _, c_inside, fun _ => Valid.nil⟩
theorem h_of (hB : B = stdB Go.Proofs.Try.prog T ms) (hJ : J = stdJ) : Known Go.Proofs.Try.prog B J s_of := k_of hB hJ _ (by simp)
theorem h_inside (hB : B = stdB Go.Proofs.Try.prog T ms) (hJ : J = stdJ) : Known Go.Proofs.Try.prog B J s_inside := k_of hB hJ _ (by simp)
def s_count : TL.Spec := ⟨45, 8, [.pd [.int .i64 ⟨0, [(0, 1)]⟩, .st (.var 1), .int .i64 ⟨0, [(8, 1)]⟩, .sl (some 3), .sl (some 4), .sl (some 5), .sl (some 6)] 0 false, .p (.st (.var 7)) true], [], [(3, 9), (4, 137), (5, 49), (6, 139)], [], [], ⟨7, [(7, 1), (14, 1), (18, 1), (22, 1), (26, 1)]⟩,
  [⟨1, [], [], [], [], [.p (.int .i64 ⟨0, [(32, 1)]⟩) true]⟩]⟩
def a_count : An := ⟨96, 1, [(0, [1, 0]), (1, [1, 0, 11]), (2, [4]), (3, [1, 0, 5]), (4, [1, 0, 5, 24]), (5, [1, 0, 5]), (6, [30, 1, 0, 5, 29]), (7, [1, 0, 29, 30, 5, 31]), (8, [1, 0, 29, 30, 6, 5]), (9, [1, 0, 5, 29, 30]), (10, [30, 1, 0, 5, 29]), (11, [50, 1, 0, 5, 49]), (12, [1, 0, 49, 50, 5, 51]), (13, [1, 0, 49, 50, 7, 5]), (14, [1, 0, 5, 49, 50]), (15, [50, 1, 0, 5, 49]), (16, [69, 1, 0, 5, 68]), (17, [1, 0, 68, 69, 5, 70]), (18, [1, 0, 68, 69, 8, 5]), (19, [1, 0, 68, 69, 8, 5, 82]), (20, [1, 0, 5, 68, 69]), (21, [69, 1, 0, 5, 68]), (22, [4])],
  [⟨4, [69, 1, 0, 5, 68], [(5, .g true), (69, .g true)], [], [⟨0, [(25, -1), (60, 1)]⟩, ⟨0, [(60, -1)]⟩], [], ⟨0, [(25, 1), (60, -1)]⟩⟩, ⟨2, [50, 1, 0, 5, 49], [(5, .g true), (50, .g true)], [], [⟨0, [(21, -1), (52, 1)]⟩, ⟨0, [(52, -1)]⟩], [], ⟨0, [(21, 1), (52, -1)]⟩⟩, ⟨0, [30, 1, 0, 5, 29], [(5, .g true), (30, .g true)], [], [⟨0, [(17, -1), (44, 1)]⟩, ⟨0, [(44, -1)]⟩], [], ⟨0, [(17, 1), (44, -1)]⟩⟩],
  [(21, []), (6, [⟨0, [(40, -1)]⟩, ⟨0, [(40, -1)]⟩, ⟨-1, [(40, 1)]⟩, ⟨0, [(40, -1)]⟩])], [],
  []⟩
theorem c_count : checkS Go.Proofs.Try.prog [s_hides, s_contains] [s_count] s_count a_count.ann = some [] := by kernel_rfl
theorem k_count (hB : B = stdB Go.Proofs.Try.prog T ms) (hJ : J = stdJ) : ∀ s ∈ [s_count], Known Go.Proofs.Try.prog B J s := by
  refine group_ok hB hJ (D := [s_hides, s_contains]) ?_ ?_
  · intro s hs; simp only [List.mem_cons, List.mem_nil_iff, or_false] at hs; rcases hs with rfl | rfl
    · exact h_hides hB hJ
    · exact h_contains hB hJ
  intro s hs; simp only [List.mem_cons, List.mem_nil_iff, or_false] at hs; rcases hs with rfl
  · exact ⟨_, _, c_count, fun _ => Valid.nil⟩
theorem h_count (hB : B = stdB Go.Proofs.Try.prog T ms) (hJ : J = stdJ) : Known Go.Proofs.Try.prog B J s_count := k_count hB hJ _ (by simp)
def s_size1 : TL.Spec := ⟨84, 10, [.ptr 1000000 0, .pd [.int .i64 ⟨0, [(8, 1)]⟩, .st (.var 3), .int .i64 ⟨0, [(16, 1)]⟩, .sl (some 5), .sl (some 6), .sl (some 7), .sl (some 8)] 0 false, .p (.int .i64 ⟨0, [(36, 1)]⟩) true], [(1000000, .box 157 [.p (.int .i64 ⟨0, [(0, 1)]⟩) true, .p (.bl (.var 1)) true])], [(5, 9), (6, 137), (7, 49), (8, 139)], [], [], ⟨7, [(15, 1), (22, 1), (26, 1), (30, 1), (34, 1)]⟩,
  [⟨3, [], [], [], [(1000000, .box 157 [.p (.int .i64 ⟨0, [(40, 1)]⟩) true, .p (.bl (.var 11)) true])], [.p (.bl (.var 12)) true]⟩]⟩
def a_size1 : An := ⟨91, 1, [(0, [0, 2, 1]), (1, [0, 2, 1]), (2, [0, 2, 1, 25]), (3, []), (4, [6]), (5, [34, 2, 1, 0, 33]), (6, [2, 1, 0, 33, 34, 35]), (7, [2, 1, 0, 33, 34, 7]), (8, [2, 1, 0, 33, 34, 47]), (9, [6]), (10, [34, 2, 1, 0, 33]), (11, [54, 2, 1, 0, 53]), (12, [2, 1, 0, 53, 54, 55]), (13, [2, 1, 0, 53, 54, 8]), (14, [2, 1, 0, 53, 54, 68]), (15, [6]), (16, [54, 2, 1, 0, 53]), (17, [75, 2, 1, 0, 74]), (18, [2, 1, 0, 74, 75, 76]), (19, [2, 1, 0, 74, 75, 9]), (20, [2, 1, 0, 74, 75, 89]), (21, [6]), (22, [75, 2, 1, 0, 74]), (23, [6])],
  [⟨4, [75, 2, 1, 0, 74], [(75, .g true)], [(1000000, .g true)], [⟨0, [(33, -1), (80, 1)]⟩, ⟨0, [(80, -1)]⟩], [], ⟨0, [(33, 1), (80, -1)]⟩⟩, ⟨2, [54, 2, 1, 0, 53], [(54, .g true)], [(1000000, .g true)], [⟨0, [(25, -1), (68, 1)]⟩, ⟨0, [(68, -1)]⟩], [], ⟨0, [(25, 1), (68, -1)]⟩⟩, ⟨0, [34, 2, 1, 0, 33], [(34, .g true)], [(1000000, .g true)], [⟨0, [(29, -1), (56, 1)]⟩, ⟨0, [(56, -1)]⟩], [], ⟨0, [(29, 1), (56, -1)]⟩⟩],
  [(3, [])], [],
  []⟩
theorem c_size1 : checkS Go.Proofs.Try.prog [] [s_size1] s_size1 a_size1.ann = some [] := by kernel_rfl
theorem k_size1 (hB : B = stdB Go.Proofs.Try.prog T ms) (hJ : J = stdJ) : ∀ s ∈ [s_size1], Known Go.Proofs.Try.prog B J s := by
  refine group_ok hB hJ (D := []) ?_ ?_
  · intro s hs; simp at hs
  intro s hs; simp only [List.mem_cons, List.mem_nil_iff, or_false] at hs; rcases hs with rfl
  · exact ⟨_, _, c_size1, fun _ => Valid.nil⟩
theorem h_size1 (hB : B = stdB Go.Proofs.Try.prog T ms) (hJ : J = stdJ) : Known Go.Proofs.Try.prog B J s_size1 := k_size1 hB hJ _ (by simp)
def s_body : TL.Spec := ⟨68, 8, [.pd [.int .i64 ⟨0, [(0, 1)]⟩, .st (.var 1), .int .i64 ⟨0, [(8, 1)]⟩, .sl (some 3), .sl (some 4), .sl (some 5), .sl (some 6)] 0 false, .p (.st (.var 7)) true], [], [(3, 9), (4, 137), (5, 49), (6, 139)], [], [], ⟨0, []⟩,
  [⟨1, [], [⟨0, [(32, -1)]⟩, ⟨-5, [(32, 1)]⟩], [], [], [.p (.int .i64 ⟨0, [(32, 1)]⟩) true]⟩]⟩
def a_body : An := ⟨15, 1, [(0, [1, 0]), (1, [5, 1]), (2, [5, 1, 11]), (3, [5, 1]), (4, [4])],
  [],
  [(4, [⟨0, [(0, -1), (36, 1)]⟩])], [],
  []⟩
theorem c_body : checkS Go.Proofs.Try.prog [s_inside] [s_body] s_body a_body.ann = some [] := by kernel_rfl
theorem k_body (hB : B = stdB Go.Proofs.Try.prog T ms) (hJ : J = stdJ) : ∀ s ∈ [s_body], Known Go.Proofs.Try.prog B J s := by
  refine group_ok hB hJ (D := [s_inside]) ?_ ?_
  · intro s hs; simp only [List.mem_cons, List.mem_nil_iff, or_false] at hs; rcases hs with rfl
    · exact h_inside hB hJ
  intro s hs; simp only [List.mem_cons, List.mem_nil_iff, or_false] at hs; rcases hs with rfl
  · exact ⟨_, _, c_body, fun _ => Valid.nil⟩
theorem h_body (hB : B = stdB Go.Proofs.Try.prog T ms) (hJ : J = stdJ) : Known Go.Proofs.Try.prog B J s_body := k_body hB hJ _ (by simp)
def s_sizeOf : TL.Spec := ⟨65, 7, [.agg [.p (.int .i64 ⟨0, [(0, 1)]⟩) false, .p (.st (.var 1)) false, .p (.int .i64 ⟨0, [(8, 1)]⟩) false, .p (.sl (some 3)) false, .p (.sl (some 4)) false, .p (.sl (some 5)) false, .p (.sl (some 6)) false]], [], [(3, 9), (4, 137), (5, 49), (6, 139)], [], [], ⟨0, []⟩,
  [⟨1, [], [], [], [], [.p (.int .i64 ⟨0, [(28, 1)]⟩) true]⟩]⟩
def a_sizeOf : An := ⟨13, 1, [(0, [1]), (1, [3, 1]), (2, [3, 8]), (3, [2]), (4, [2])],
  [],
  [], [],
  []⟩
theorem c_sizeOf : checkS Go.Proofs.Try.prog [s_size1] [s_sizeOf] s_sizeOf a_sizeOf.ann = some [] := by kernel_rfl
theorem k_sizeOf (hB : B = stdB Go.Proofs.Try.prog T ms) (hJ : J = stdJ) : ∀ s ∈ [s_sizeOf], Known Go.Proofs.Try.prog B J s := by
  refine group_ok hB hJ (D := [s_size1]) ?_ ?_
  · intro s hs; simp only [List.mem_cons, List.mem_nil_iff, or_false] at hs; rcases hs with rfl
    · exact h_size1 hB hJ
  intro s hs; simp only [List.mem_cons, List.mem_nil_iff, or_false] at hs; rcases hs with rfl
  · exact ⟨_, _, c_sizeOf, fun _ => Valid.nil⟩
theorem h_sizeOf (hB : B = stdB Go.Proofs.Try.prog T ms) (hJ : J = stdJ) : Known Go.Proofs.Try.prog B J s_sizeOf := k_sizeOf hB hJ _ (by simp)
def s_long : TL.Spec := ⟨40, 7, [.agg [.p (.int .i64 ⟨0, [(0, 1)]⟩) false, .p (.st (.var 1)) false, .p (.int .i64 ⟨0, [(8, 1)]⟩) false, .p (.sl (some 3)) false, .p (.sl (some 4)) false, .p (.sl (some 5)) false, .p (.sl (some 6)) false]], [], [(3, 9), (4, 137), (5, 49), (6, 139)], [], [], ⟨0, []⟩,
  [⟨1, [], [], [], [], [.p (.bl (.var 7)) true]⟩]⟩
def a_long : An := ⟨6, 1, [(0, [1]), (1, [2])],
  [],
  [], [],
  []⟩
theorem c_long : checkS Go.Proofs.Try.prog [s_sizeOf] [s_long] s_long a_long.ann = some [] := by kernel_rfl
theorem k_long (hB : B = stdB Go.Proofs.Try.prog T ms) (hJ : J = stdJ) : ∀ s ∈ [s_long], Known Go.Proofs.Try.prog B J s := by
  refine group_ok hB hJ (D := [s_sizeOf]) ?_ ?_
  · intro s hs; simp only [List.mem_cons, List.mem_nil_iff, or_false] at hs; rcases hs with rfl
    · exact h_sizeOf hB hJ
  intro s hs; simp only [List.mem_cons, List.mem_nil_iff, or_false] at hs; rcases hs with rfl
  · exact ⟨_, _, c_long, fun _ => Valid.nil⟩
theorem h_long (hB : B = stdB Go.Proofs.Try.prog T ms) (hJ : J = stdJ) : Known Go.Proofs.Try.prog B J s_long := k_long hB hJ _ (by simp)
def s_Of : TL.Spec := ⟨17, 8, [.agg [.p (.int .i64 ⟨0, [(0, 1)]⟩) false, .p (.st (.var 1)) false, .p (.int .i64 ⟨0, [(8, 1)]⟩) false, .p (.sl (some 3)) false, .p (.sl (some 4)) false, .p (.sl (some 5)) false, .p (.sl (some 6)) false], .p (.st (.var 7)) true], [], [(3, 9), (4, 137), (5, 49), (6, 139)], [], [], ⟨0, []⟩,
  [⟨2, [], [], [], [], [.p (.int .i64 ⟨0, [(32, 1)]⟩) true, .p (.int .i64 ⟨0, [(36, 1)]⟩) true]⟩]⟩
def a_Of : An := ⟨10, 1, [(0, [2, 1]), (1, [2, 1, 7]), (2, [4, 5]), (3, [4, 5])],
  [],
  [], [],
  []⟩
theorem c_Of : checkS Go.Proofs.Try.prog [s_long, s_of] [s_Of] s_Of a_Of.ann = some [] := by kernel_rfl
theorem k_Of (hB : B = stdB Go.Proofs.Try.prog T ms) (hJ : J = stdJ) : ∀ s ∈ [s_Of], Known Go.Proofs.Try.prog B J s := by
  refine group_ok hB hJ (D := [s_long, s_of]) ?_ ?_
  · intro s hs; simp only [List.mem_cons, List.mem_nil_iff, or_false] at hs; rcases hs with rfl | rfl
    · exact h_long hB hJ
    · exact h_of hB hJ
  intro s hs; simp only [List.mem_cons, List.mem_nil_iff, or_false] at hs; rcases hs with rfl
  · exact ⟨_, _, c_Of, fun _ => Valid.nil⟩
theorem h_Of (hB : B = stdB Go.Proofs.Try.prog T ms) (hJ : J = stdJ) : Known Go.Proofs.Try.prog B J s_Of := k_Of hB hJ _ (by simp)
def s_Count : TL.Spec := ⟨23, 8, [.agg [.p (.int .i64 ⟨0, [(0, 1)]⟩) false, .p (.st (.var 1)) false, .p (.int .i64 ⟨0, [(8, 1)]⟩) false, .p (.sl (some 3)) false, .p (.sl (some 4)) false, .p (.sl (some 5)) false, .p (.sl (some 6)) false], .p (.st (.var 7)) true], [], [(3, 9), (4, 137), (5, 49), (6, 139)], [], [], ⟨0, []⟩,
  [⟨2, [], [], [], [], [.p (.int .i64 ⟨0, [(32, 1)]⟩) true, .p (.int .i64 ⟨0, [(36, 1)]⟩) true]⟩]⟩
def a_Count : An := ⟨10, 1, [(0, [2, 1]), (1, [2, 1, 7]), (2, [4, 5]), (3, [4, 5])],
  [],
  [], [],
  []⟩
theorem c_Count : checkS Go.Proofs.Try.prog [s_long, s_count] [s_Count] s_Count a_Count.ann = some [] := by kernel_rfl
theorem k_Count (hB : B = stdB Go.Proofs.Try.prog T ms) (hJ : J = stdJ) : ∀ s ∈ [s_Count], Known Go.Proofs.Try.prog B J s := by
  refine group_ok hB hJ (D := [s_long, s_count]) ?_ ?_
  · intro s hs; simp only [List.mem_cons, List.mem_nil_iff, or_false] at hs; rcases hs with rfl | rfl
    · exact h_long hB hJ
    · exact h_count hB hJ
  intro s hs; simp only [List.mem_cons, List.mem_nil_iff, or_false] at hs; rcases hs with rfl
  · exact ⟨_, _, c_Count, fun _ => Valid.nil⟩
theorem h_Count (hB : B = stdB Go.Proofs.Try.prog T ms) (hJ : J = stdJ) : Known Go.Proofs.Try.prog B J s_Count := k_Count hB hJ _ (by simp)
def s_allR : TL.Spec := ⟨42, 8, [.pd [.int .i64 ⟨0, [(0, 1)]⟩, .st (.var 1), .int .i64 ⟨0, [(8, 1)]⟩, .sl (some 3), .sl (some 4), .sl (some 5), .sl (some 6)] 0 false, .vec 1000000], [(1000000, .vec 100 2 (some 7) true)], [(7, 100), (3, 9), (4, 137), (5, 49), (6, 139)], [⟨-2097145, [(7, 1), (14, 1), (18, 1), (22, 1), (26, 1), (29, 1)]⟩], [], ⟨7, [(7, 1), (14, 1), (18, 1), (22, 1), (26, 1)]⟩,
  [⟨1, [(8, 100)], [⟨-7, [(7, -1), (14, -1), (18, -1), (22, -1), (26, -1), (29, -1), (33, 1)]⟩], [], [(0, .vec 100 2 (some 8) true)], [.vec 0]⟩]⟩
def a_allR : An := ⟨133, 1, [(0, [0, 1]), (1, [19, 0, 1, 17, 18]), (2, [0, 17, 18, 19, 1, 20]), (3, [0, 17, 18, 19, 6, 1]), (4, [0, 1, 17, 18, 19]), (5, [19, 0, 1, 17, 18]), (6, [38, 0, 1, 36, 37]), (7, [0, 36, 37, 38, 1, 39]), (8, [0, 36, 37, 38, 8, 1]), (9, [0, 1, 36, 37, 38]), (10, [38, 0, 1, 36, 37]), (11, [56, 1, 0, 55]), (12, [0, 55, 56, 1, 57]), (13, [0, 55, 56, 1, 9]), (14, [1, 0, 55, 56]), (15, [56, 1, 0, 55]), (16, [74, 1, 0, 73]), (17, [0, 73, 74, 1, 75]), (18, [0, 73, 74, 1, 10]), (19, [1, 0, 73, 74]), (20, [74, 1, 0, 73]), (21, [0, 1, 91, 90]), (22, [0, 1, 90, 91, 92]), (23, [11, 0, 1, 90, 91]), (24, [103, 11, 0, 1, 101, 90, 91, 102]), (25, [11, 0, 101, 90, 91, 102, 103, 1, 104]), (26, [11, 0, 101, 90, 91, 102, 103, 13, 1]), (27, [11, 0, 1, 101, 90, 91, 102, 103]), (28, [103, 11, 0, 1, 101, 90, 91, 102]), (29, [0, 1, 90, 91]), (30, [0, 1, 91, 90]), (31, [4])],
  [⟨8, [0, 1, 91, 90], [(91, .g true)], [(30, .g true)], [⟨0, [(112, -1)]⟩, ⟨0, [(106, -1), (112, 3), (118, 1)]⟩, ⟨0, [(25, -1), (112, 1), (117, 1)]⟩, ⟨0, [(25, 1), (112, -1), (117, -1)]⟩, ⟨0, [(93, -1), (106, -1), (109, 1), (112, 2), (118, 1)]⟩], [(6, 91)], ⟨0, [(25, 1), (112, -1)]⟩⟩, ⟨10, [103, 11, 0, 1, 101, 90, 91, 102], [(103, .g true)], [(30, .g true)], [⟨0, [(110, 1), (174, -1)]⟩, ⟨0, [(109, 1), (173, -1)]⟩, ⟨0, [(133, -1), (176, 1), (181, 1)]⟩, ⟨0, [(133, 1), (176, -1), (181, -1)]⟩, ⟨0, [(109, -1), (173, 1), (176, -1)]⟩, ⟨0, [(109, 1), (173, -1), (176, 1)]⟩, ⟨0, [(109, -1), (170, -1), (173, 1), (176, 1), (182, 1)]⟩], [(33, 103)], ⟨0, [(133, 1), (176, -1)]⟩⟩, ⟨6, [74, 1, 0, 73], [(74, .g true)], [(30, .g true)], [⟨0, [(96, -1)]⟩, ⟨0, [(90, -1), (96, 3), (102, 1)]⟩, ⟨0, [(21, -1), (96, 1), (101, 1)]⟩, ⟨0, [(21, 1), (96, -1), (101, -1)]⟩, ⟨0, [(77, -1), (90, -1), (93, 1), (96, 1), (102, 1)]⟩], [(5, 74)], ⟨0, [(21, 1), (96, -1)]⟩⟩, ⟨4, [56, 1, 0, 55], [(56, .g true)], [(30, .g true)], [⟨0, [(80, -1)]⟩, ⟨0, [(74, -1), (80, 3), (86, 1)]⟩, ⟨0, [(17, -1), (80, 1), (85, 1)]⟩, ⟨0, [(17, 1), (80, -1), (85, -1)]⟩, ⟨0, [(61, -1), (74, -1), (77, 1), (80, 2), (86, 1)]⟩], [(4, 56)], ⟨0, [(17, 1), (80, -1)]⟩⟩, ⟨2, [38, 0, 1, 36, 37], [(38, .g true)], [(30, .g true)], [⟨0, [(46, 1), (62, -1)]⟩, ⟨0, [(45, 1), (61, -1)]⟩, ⟨0, [(53, -1), (64, 1), (69, 1)]⟩, ⟨0, [(53, 1), (64, -1), (69, -1)]⟩, ⟨0, [(45, -1), (61, 1), (64, -1)]⟩, ⟨0, [(45, 1), (61, -1), (64, 1)]⟩, ⟨0, [(45, -1), (58, -1), (61, 1), (64, 1), (70, 1)]⟩], [(13, 38)], ⟨0, [(53, 1), (64, -1)]⟩⟩, ⟨0, [19, 0, 1, 17, 18], [(1, .v 30 100 2 true), (19, .g true)], [(1000000, .d)], [⟨0, [(30, 1), (46, -1)]⟩, ⟨0, [(29, 1), (45, -1)]⟩, ⟨0, [(13, -1), (40, 1), (49, 1)]⟩, ⟨0, [(13, 1), (40, -1), (49, -1)]⟩, ⟨0, [(29, -1), (40, -1), (45, 1)]⟩, ⟨0, [(29, 1), (40, 1), (45, -1)]⟩, ⟨0, [(29, -1), (38, -1), (40, 1), (45, 1), (50, 1)]⟩], [(3, 19)], ⟨0, [(13, 1), (40, -1)]⟩⟩],
  [], [],
  [⟨⟨-7, [(7, -1), (14, -1), (18, -1), (22, -1), (26, -1), (29, -1), (109, 1)]⟩, 2, [(1, 4), (5, 2), (8, 2), (11, 2), (15, 2), (18, 2), (20, 2), (21, 2), (25, 2), (28, 2), (33, 2), (35, 2), (42, 2), (48, 1), (50, 1), (53, 1)], []⟩, ⟨⟨2, [(93, -1), (106, -1), (112, 2), (166, 1), (185, 1)]⟩, 2, [(0, 2), (6, 1), (8, 1), (11, 1), (14, 2), (23, 2)], []⟩, ⟨⟨-1, [(25, 1), (112, -1), (165, -1)]⟩, 1, [(15, 1), (22, 1)], []⟩, ⟨⟨-2097145, [(143, 1), (150, 1), (154, 1), (158, 1), (162, 1), (173, 1)]⟩, 2, [(5, 1), (7, 1), (10, 1), (13, 2), (18, 4), (22, 2), (25, 2), (28, 2), (32, 2), (35, 2), (37, 2), (38, 2), (42, 2), (45, 2), (50, 2), (52, 2), (59, 2), (65, 1), (67, 1), (70, 1), (74, 2)], []⟩, ⟨⟨1, [(109, 1), (176, 1), (201, -1)]⟩, 1, [(1, 1), (5, 1), (21, 1)], []⟩, ⟨⟨-1, [(133, 1), (176, -1), (189, -1)]⟩, 1, [(12, 1), (19, 1)], []⟩, ⟨⟨-2097152, [(173, 1), (197, 1)]⟩, 2, [(0, 2), (7, 1), (10, 1), (16, 1), (18, 1), (21, 1), (24, 2), (29, 4), (33, 2), (36, 2), (39, 2), (43, 2), (46, 2), (48, 2), (49, 2), (53, 2), (56, 2), (61, 2), (63, 2), (70, 2), (76, 1), (78, 1), (81, 1), (85, 2)], []⟩, ⟨⟨-1, [(21, 1), (96, -1), (133, -1)]⟩, 1, [(3, 1), (10, 1)], []⟩, ⟨⟨-2097145, [(93, 1), (111, 1), (118, 1), (122, 1), (126, 1), (130, 1)]⟩, 2, [(1, 2), (6, 2), (10, 2), (13, 2), (15, 2), (16, 2), (20, 2), (23, 2), (28, 2), (30, 2), (37, 2), (43, 1), (45, 1), (48, 1), (52, 2)], []⟩, ⟨⟨2, [(61, -1), (74, -1), (80, 2), (122, 1), (125, 1)]⟩, 1, [(0, 1), (2, 1), (11, 1)], []⟩, ⟨⟨-1, [(17, 1), (80, -1), (121, -1)]⟩, 1, [(3, 1), (10, 1)], []⟩, ⟨⟨-2097145, [(77, 1), (99, 1), (106, 1), (110, 1), (114, 1), (118, 1)]⟩, 2, [(1, 2), (2, 2), (6, 2), (9, 2), (10, 2), (13, 2), (18, 2), (20, 2), (27, 2), (33, 1), (35, 1), (38, 1), (42, 2)], [(121, 2)]⟩, ⟨⟨1, [(45, 1), (64, 1), (89, -1)]⟩, 1, [(1, 1), (5, 1), (21, 1)], []⟩, ⟨⟨-1, [(53, 1), (64, -1), (77, -1)]⟩, 1, [(12, 1), (19, 1)], []⟩, ⟨⟨0, [(45, 1), (89, -1)]⟩, 1, [(1, 1), (5, 1), (17, 1)], []⟩, ⟨⟨-2097152, [(61, 1), (85, 1)]⟩, 2, [(0, 2), (11, 2), (16, 2), (23, 2), (29, 1), (31, 1), (34, 1), (38, 2)], [(17, 2)]⟩, ⟨⟨1, [(29, 1), (40, 1), (69, -1)]⟩, 1, [(1, 1), (5, 1), (21, 1)], []⟩, ⟨⟨-1, [(13, 1), (40, -1), (57, -1)]⟩, 1, [(12, 1), (19, 1)], []⟩]⟩
theorem c_allR : checkS Go.Proofs.Try.prog [s_body, s_of, s_names] [s_allR] s_allR a_allR.ann = some [] := by kernel_rfl
theorem k_allR (hB : B = stdB Go.Proofs.Try.prog T ms) (hJ : J = stdJ) : ∀ s ∈ [s_allR], Known Go.Proofs.Try.prog B J s := by
  refine group_ok hB hJ (D := [s_body, s_of, s_names]) ?_ ?_
  · intro s hs; simp only [List.mem_cons, List.mem_nil_iff, or_false] at hs; rcases hs with rfl | rfl | rfl
    · exact h_body hB hJ
    · exact h_of hB hJ
    · exact h_names hB hJ
  intro s hs; simp only [List.mem_cons, List.mem_nil_iff, or_false] at hs; rcases hs with rfl
  · exact ⟨_, _, c_allR, fun _ => Valid.nil⟩
theorem h_allR (hB : B = stdB Go.Proofs.Try.prog T ms) (hJ : J = stdJ) : Known Go.Proofs.Try.prog B J s_allR := k_allR hB hJ _ (by simp)
def s_All : TL.Spec := ⟨19, 7, [.agg [.p (.int .i64 ⟨0, [(0, 1)]⟩) false, .p (.st (.var 1)) false, .p (.int .i64 ⟨0, [(8, 1)]⟩) false, .p (.sl (some 3)) false, .p (.sl (some 4)) false, .p (.sl (some 5)) false, .p (.sl (some 6)) false]], [], [(3, 9), (4, 137), (5, 49), (6, 139)], [⟨-2097145, [(7, 1), (14, 1), (18, 1), (22, 1), (26, 1)]⟩], [], ⟨0, []⟩,
  [⟨2, [(7, 100)], [], [], [], [.p (.sl (some 7)) true, .p (.int .i64 ⟨0, [(32, 1)]⟩) true]⟩]⟩
def a_All : An := ⟨7, 1, [(0, [1]), (1, [1, 5]), (2, [2, 3]), (3, [2, 3])],
  [],
  [], [],
  []⟩
theorem c_All : checkS Go.Proofs.Try.prog [s_allR, s_long] [s_All] s_All a_All.ann = some [] := by kernel_rfl
theorem k_All (hB : B = stdB Go.Proofs.Try.prog T ms) (hJ : J = stdJ) : ∀ s ∈ [s_All], Known Go.Proofs.Try.prog B J s := by
  refine group_ok hB hJ (D := [s_allR, s_long]) ?_ ?_
  · intro s hs; simp only [List.mem_cons, List.mem_nil_iff, or_false] at hs; rcases hs with rfl | rfl
    · exact h_allR hB hJ
    · exact h_long hB hJ
  intro s hs; simp only [List.mem_cons, List.mem_nil_iff, or_false] at hs; rcases hs with rfl
  · exact ⟨_, _, c_All, fun _ => Valid.nil⟩
theorem h_All (hB : B = stdB Go.Proofs.Try.prog T ms) (hJ : J = stdJ) : Known Go.Proofs.Try.prog B J s_All := k_All hB hJ _ (by simp)
def s_con : TL.Spec := ⟨72, 2, [.p (.st (.var 0)) true, .p (.sl (some 1)) true], [], [(1, 49)], [], [], ⟨0, []⟩,
  [⟨7, [(5, 9), (6, 137), (7, 49), (8, 139)], [], [], [], [.agg [.p (.int .i64 ⟨0, [(8, 1)]⟩) true, .p (.st (.var 3)) true, .p (.int .i64 ⟨0, [(16, 1)]⟩) true, .p (.sl (some 5)) true, .p (.sl (some 6)) true, .p (.sl (some 7)) true, .p (.sl (some 8)) true]]⟩]⟩
def a_con : An := ⟨8, 1, [(0, [4, 1, 0]), (1, [4])],
  [],
  [], [],
  []⟩
theorem c_con : checkS Go.Proofs.Try.prog [] [s_con] s_con a_con.ann = some [] := by kernel_rfl
theorem k_con (hB : B = stdB Go.Proofs.Try.prog T ms) (hJ : J = stdJ) : ∀ s ∈ [s_con], Known Go.Proofs.Try.prog B J s := by
  refine group_ok hB hJ (D := []) ?_ ?_
  · intro s hs; simp at hs
  intro s hs; simp only [List.mem_cons, List.mem_nil_iff, or_false] at hs; rcases hs with rfl
  · exact ⟨_, _, c_con, fun _ => Valid.nil⟩
theorem h_con (hB : B = stdB Go.Proofs.Try.prog T ms) (hJ : J = stdJ) : Known Go.Proofs.Try.prog B J s_con := k_con hB hJ _ (by simp)
def s_textM : TL.Spec := ⟨55, 1, [.p (.st (.var 0)) true], [], [], [], [], ⟨0, []⟩,
  [⟨7, [(4, 9), (5, 137), (6, 49), (7, 139)], [], [], [], [.agg [.p (.int .i64 ⟨0, [(4, 1)]⟩) true, .p (.st (.var 2)) true, .p (.int .i64 ⟨0, [(12, 1)]⟩) true, .p (.sl (some 4)) true, .p (.sl (some 5)) true, .p (.sl (some 6)) true, .p (.sl (some 7)) true]]⟩]⟩
def a_textM : An := ⟨22, 1, [(0, [0, 2]), (1, [0, 3, 2]), (2, [4, 0, 3, 2]), (3, [0, 3, 2, 4, 10]), (5, [0, 3, 2, 4]), (4, [4, 0, 3, 2]), (6, [2])],
  [⟨0, [4, 0, 3, 2], [(4, .g true)], [(3, .g true)], [⟨-1, [(64, -1)]⟩, ⟨1, [(3, -1), (64, 1)]⟩], [], ⟨1, [(64, 1)]⟩⟩],
  [(4, [])], [],
  []⟩
theorem c_textM : checkS Go.Proofs.Try.prog [s_con] [s_textM] s_textM a_textM.ann = some [] := by kernel_rfl
theorem k_textM (hB : B = stdB Go.Proofs.Try.prog T ms) (hJ : J = stdJ) : ∀ s ∈ [s_textM], Known Go.Proofs.Try.prog B J s := by
  refine group_ok hB hJ (D := [s_con]) ?_ ?_
  · intro s hs; simp only [List.mem_cons, List.mem_nil_iff, or_false] at hs; rcases hs with rfl
    · exact h_con hB hJ
  intro s hs; simp only [List.mem_cons, List.mem_nil_iff, or_false] at hs; rcases hs with rfl
  · exact ⟨_, _, c_textM, fun _ => Valid.nil⟩
theorem h_textM (hB : B = stdB Go.Proofs.Try.prog T ms) (hJ : J = stdJ) : Known Go.Proofs.Try.prog B J s_textM := k_textM hB hJ _ (by simp)
def s_failure : TL.Spec := ⟨36, 0, [], [], [], [], [], ⟨0, []⟩,
  [⟨4, [(3, 139), (2, 49), (1, 137), (0, 9)], [⟨1, [(9, -1)]⟩, ⟨-1, [(9, 1)]⟩], [], [], [.agg [.p (.int .i64 ⟨9, []⟩) true, .p (.st (.lit [101, 114, 114, 111, 114])) true, .p (.int .i64 ⟨0, []⟩) true, .p (.sl (some 0)) true, .p (.sl (some 1)) true, .p (.sl (some 2)) true, .p (.sl (some 3)) true]]⟩]⟩
def a_failure : An := ⟨4, 1, [(0, [0]), (1, [0])],
  [],
  [], [],
  []⟩
theorem c_failure : checkS Go.Proofs.Try.prog [s_textM] [s_failure] s_failure a_failure.ann = some [] := by kernel_rfl
theorem k_failure (hB : B = stdB Go.Proofs.Try.prog T ms) (hJ : J = stdJ) : ∀ s ∈ [s_failure], Known Go.Proofs.Try.prog B J s := by
  refine group_ok hB hJ (D := [s_textM]) ?_ ?_
  · intro s hs; simp only [List.mem_cons, List.mem_nil_iff, or_false] at hs; rcases hs with rfl
    · exact h_textM hB hJ
  intro s hs; simp only [List.mem_cons, List.mem_nil_iff, or_false] at hs; rcases hs with rfl
  · exact ⟨_, _, c_failure, fun _ => Valid.nil⟩
theorem h_failure (hB : B = stdB Go.Proofs.Try.prog T ms) (hJ : J = stdJ) : Known Go.Proofs.Try.prog B J s_failure := k_failure hB hJ _ (by simp)
def s_failing : TL.Spec := ⟨12, 0, [], [], [], [], [], ⟨0, []⟩,
  [⟨1, [], [], [.tru (.var 0)], [], [.p (.bl (.var 0)) true]⟩]⟩
def a_failing : An := ⟨17, 1, [(0, []), (1, [1]), (2, [0])],
  [],
  [], [],
  []⟩
theorem c_failing : checkS Go.Proofs.Try.prog [s_failure] [s_failing] s_failing a_failing.ann = some [] := by kernel_rfl
theorem k_failing (hB : B = stdB Go.Proofs.Try.prog T ms) (hJ : J = stdJ) : ∀ s ∈ [s_failing], Known Go.Proofs.Try.prog B J s := by
  refine group_ok hB hJ (D := [s_failure]) ?_ ?_
  · intro s hs; simp only [List.mem_cons, List.mem_nil_iff, or_false] at hs; rcases hs with rfl
    · exact h_failure hB hJ
  intro s hs; simp only [List.mem_cons, List.mem_nil_iff, or_false] at hs; rcases hs with rfl
  · exact ⟨_, _, c_failing, fun _ => Valid.nil⟩
theorem h_failing (hB : B = stdB Go.Proofs.Try.prog T ms) (hJ : J = stdJ) : Known Go.Proofs.Try.prog B J s_failing := k_failing hB hJ _ (by simp)
end Go.TL.Gocc
