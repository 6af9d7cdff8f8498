/- The engine's word on this law's functions. -/
import Derived.Test.YtaaimmmofkldbaaWl23
import Derived.Test.YtaaimmmofkldbaaProg
import Derived.KernelRfl
import Derived.Test.YtaaimmmofkldbaaWl25
set_option maxRecDepth 100000
namespace Go.TL.Glay
open Go Go.TL
open Go.TL.H.Hlay
variable {B : Pr} {J : Ex} {T : FuncId → Ds} {ms : Int → ByteArray}
def s_clipI : TL.Spec := ⟨95, 1, [.p (.sl (some 0)) true], [], [(0, 109)], [], [], ⟨0, []⟩,
  [⟨1, [(1, 109)], [⟨0, [(1, -1), (5, 1)]⟩, ⟨0, [(1, 1), (5, -1)]⟩], [.sub 1 0 ⟨0, []⟩ ⟨0, [(1, 1)]⟩], [], [.pc (some 1) true]⟩]⟩
def a_clipI : An := ⟨9, 1, [(0, [0]), (1, [2])],
  [],
  [], [],
  []⟩
theorem c_clipI : checkS Proofs.Try.prog [] [s_clipI] s_clipI a_clipI.ann = some [] := by kernel_rfl
theorem k_clipI (hB : B = stdB Proofs.Try.prog T ms) (hJ : J = stdJ) : ∀ s ∈ [s_clipI], Known Proofs.Try.prog B J s := by
  refine group_ok hB hJ (D := []) ?_ ?_
  · intro s hs; simp at hs
  intro s hs; simp only [List.mem_cons, List.mem_nil_iff, or_false] at hs; rcases hs with rfl
  · exact ⟨_, _, c_clipI, fun _ => Valid.nil⟩
theorem h_clipI (hB : B = stdB Proofs.Try.prog T ms) (hJ : J = stdJ) : Known Proofs.Try.prog B J s_clipI := k_clipI hB hJ _ (by simp)
def s_clipN : TL.Spec := ⟨96, 1, [.p (.sl (some 0)) true], [], [(0, 3)], [], [], ⟨0, []⟩,
  [⟨1, [(1, 3)], [⟨0, [(1, -1), (5, 1)]⟩, ⟨0, [(1, 1), (5, -1)]⟩], [], [], [.pc (some 1) true]⟩]⟩
def a_clipN : An := ⟨9, 1, [(0, [0]), (1, [2])],
  [],
  [], [],
  []⟩
theorem c_clipN : checkS Proofs.Try.prog [] [s_clipN] s_clipN a_clipN.ann = some [] := by kernel_rfl
theorem k_clipN (hB : B = stdB Proofs.Try.prog T ms) (hJ : J = stdJ) : ∀ s ∈ [s_clipN], Known Proofs.Try.prog B J s := by
  refine group_ok hB hJ (D := []) ?_ ?_
  · intro s hs; simp at hs
  intro s hs; simp only [List.mem_cons, List.mem_nil_iff, or_false] at hs; rcases hs with rfl
  · exact ⟨_, _, c_clipN, fun _ => Valid.nil⟩
theorem h_clipN (hB : B = stdB Proofs.Try.prog T ms) (hJ : J = stdJ) : Known Proofs.Try.prog B J s_clipN := k_clipN hB hJ _ (by simp)
def s_isMark : TL.Spec := ⟨48, 8, [.agg [.p (.int .i64 ⟨0, [(0, 1)]⟩) true, .p (.st (.var 1)) true, .p (.int .i64 ⟨0, [(8, 1)]⟩) true, .p (.int .i64 ⟨0, [(12, 1)]⟩) true, .p (.int .i64 ⟨0, [(16, 1)]⟩) true, .p (.int .i64 ⟨0, [(20, 1)]⟩) true, .p (.bl (.var 6)) true], .p (.st (.var 7)) true], [], [], [], [], ⟨0, []⟩,
  [⟨1, [], [], [], [], [.p (.bl (.var 8)) true]⟩]⟩
def a_isMark : An := ⟨14, 1, [(0, [1, 2]), (1, [4])],
  [],
  [], [],
  []⟩
theorem c_isMark : checkS Proofs.Try.prog [] [s_isMark] s_isMark a_isMark.ann = some [] := by kernel_rfl
theorem k_isMark (hB : B = stdB Proofs.Try.prog T ms) (hJ : J = stdJ) : ∀ s ∈ [s_isMark], Known Proofs.Try.prog B J s := by
  refine group_ok hB hJ (D := []) ?_ ?_
  · intro s hs; simp at hs
  intro s hs; simp only [List.mem_cons, List.mem_nil_iff, or_false] at hs; rcases hs with rfl
  · exact ⟨_, _, c_isMark, fun _ => Valid.nil⟩
theorem h_isMark (hB : B = stdB Proofs.Try.prog T ms) (hJ : J = stdJ) : Known Proofs.Try.prog B J s_isMark := k_isMark hB hJ _ (by simp)
def s_top : TL.Spec := ⟨90, 5, [.ptr 1000000 0], [(1000000, .box 106 [.p (.sl (some 0)) true, .p (.sl (some 1)) true, .p (.int .i64 ⟨0, [(8, 1)]⟩) true, .p (.sl (some 3)) true, .p (.int .i64 ⟨0, [(16, 1)]⟩) true, .p (.bl (.lit true)) true])], [(3, 3), (1, 109), (0, 109)], [], [], ⟨0, []⟩,
  [⟨0, [], [⟨0, [(13, 1)]⟩, ⟨0, [(13, -1)]⟩], [], [(1000000, .box 106 [.p (.sl (some 0)) true, .p (.sl (some 1)) true, .p (.int .i64 ⟨0, [(8, 1)]⟩) true, .p (.sl (some 3)) true, .p (.int .i64 ⟨0, [(16, 1)]⟩) true, .p (.bl (.lit true)) true])], [.p (.int .i64 ⟨-1, []⟩) true]⟩, ⟨1, [], [⟨1, [(13, -1)]⟩], [], [(1000000, .box 106 [.p (.sl (some 0)) true, .p (.sl (some 1)) true, .p (.int .i64 ⟨0, [(8, 1)]⟩) true, .p (.sl (some 3)) true, .p (.int .i64 ⟨0, [(16, 1)]⟩) true, .p (.bl (.lit true)) true])], [.p (.int .i64 ⟨0, [(20, 1)]⟩) true]⟩]⟩
def a_top : An := ⟨21, 8, [(0, [0]), (1, [0, 8]), (2, [2]), (3, [2])],
  [],
  [], [],
  []⟩
theorem c_top : checkS Proofs.Try.prog [] [s_top] s_top a_top.ann = some [] := by kernel_rfl
theorem k_top (hB : B = stdB Proofs.Try.prog T ms) (hJ : J = stdJ) : ∀ s ∈ [s_top], Known Proofs.Try.prog B J s := by
  refine group_ok hB hJ (D := []) ?_ ?_
  · intro s hs; simp at hs
  intro s hs; simp only [List.mem_cons, List.mem_nil_iff, or_false] at hs; rcases hs with rfl
  · exact ⟨_, _, c_top, fun _ => Valid.nil⟩
theorem h_top (hB : B = stdB Proofs.Try.prog T ms) (hJ : J = stdJ) : Known Proofs.Try.prog B J s_top := k_top hB hJ _ (by simp)
def s_pop : TL.Spec := ⟨91, 5, [.ptr 1000000 0], [(1000000, .box 106 [.p (.sl (some 0)) true, .p (.sl (some 1)) true, .p (.int .i64 ⟨0, [(8, 1)]⟩) true, .p (.sl (some 3)) true, .p (.int .i64 ⟨0, [(16, 1)]⟩) true, .p (.bl (.lit true)) true])], [(3, 3), (1, 109), (0, 109)], [⟨1, [(13, -1)]⟩], [], ⟨0, []⟩,
  [⟨1, [(5, 3)], [⟨1, [(13, -1), (21, 1)]⟩, ⟨-1, [(13, 1), (21, -1)]⟩], [], [(1000000, .box 106 [.p (.sl (some 0)) true, .p (.sl (some 1)) true, .p (.int .i64 ⟨0, [(8, 1)]⟩) true, .p (.sl (some 5)) true, .p (.int .i64 ⟨0, [(16, 1)]⟩) true, .p (.bl (.lit true)) true])], []⟩]⟩
def a_pop : An := ⟨16, 8, [(0, [])],
  [],
  [], [],
  []⟩
theorem c_pop : checkS Proofs.Try.prog [] [s_pop] s_pop a_pop.ann = some [] := by kernel_rfl
theorem k_pop (hB : B = stdB Proofs.Try.prog T ms) (hJ : J = stdJ) : ∀ s ∈ [s_pop], Known Proofs.Try.prog B J s := by
  refine group_ok hB hJ (D := []) ?_ ?_
  · intro s hs; simp at hs
  intro s hs; simp only [List.mem_cons, List.mem_nil_iff, or_false] at hs; rcases hs with rfl
  · exact ⟨_, _, c_pop, fun _ => Valid.nil⟩
theorem h_pop (hB : B = stdB Proofs.Try.prog T ms) (hJ : J = stdJ) : Known Proofs.Try.prog B J s_pop := k_pop hB hJ _ (by simp)
def s_push : TL.Spec := ⟨94, 6, [.ptr 1000000 0, .p (.int .i64 ⟨0, [(20, 1)]⟩) true], [(1000000, .box 106 [.p (.sl (some 0)) true, .p (.sl (some 1)) true, .p (.int .i64 ⟨0, [(8, 1)]⟩) true, .p (.sl (some 3)) true, .p (.int .i64 ⟨0, [(16, 1)]⟩) true, .p (.bl (.lit true)) true])], [(3, 3), (1, 109), (0, 109)], [⟨-2097151, [(13, 1)]⟩], [], ⟨0, []⟩,
  [⟨1, [(6, 3)], [⟨-1, [(13, -1), (25, 1)]⟩, ⟨1, [(13, 1), (25, -1)]⟩], [], [(1000000, .box 106 [.p (.sl (some 0)) true, .p (.sl (some 1)) true, .p (.int .i64 ⟨0, [(8, 1)]⟩) true, .p (.sl (some 6)) true, .p (.int .i64 ⟨0, [(16, 1)]⟩) true, .p (.bl (.lit true)) true])], []⟩]⟩
def a_push : An := ⟨15, 1, [(0, [])],
  [],
  [], [],
  []⟩
theorem c_push : checkS Proofs.Try.prog [s_clipN] [s_push] s_push a_push.ann = some [] := by kernel_rfl
theorem k_push (hB : B = stdB Proofs.Try.prog T ms) (hJ : J = stdJ) : ∀ s ∈ [s_push], Known Proofs.Try.prog B J s := by
  refine group_ok hB hJ (D := [s_clipN]) ?_ ?_
  · intro s hs; simp only [List.mem_cons, List.mem_nil_iff, or_false] at hs; rcases hs with rfl
    · exact h_clipN hB hJ
  intro s hs; simp only [List.mem_cons, List.mem_nil_iff, or_false] at hs; rcases hs with rfl
  · exact ⟨_, _, c_push, fun _ => Valid.nil⟩
theorem h_push (hB : B = stdB Proofs.Try.prog T ms) (hJ : J = stdJ) : Known Proofs.Try.prog B J s_push := k_push hB hJ _ (by simp)
def s_put : TL.Spec := ⟨93, 14, [.ptr 1000000 0, .agg [.p (.int .i64 ⟨0, [(20, 1)]⟩) true, .p (.int .i64 ⟨0, [(24, 1)]⟩) true, .p (.int .i64 ⟨0, [(28, 1)]⟩) true, .p (.st (.var 8)) true, .p (.int .i64 ⟨0, [(36, 1)]⟩) true, .p (.int .i64 ⟨0, [(40, 1)]⟩) true, .p (.int .i64 ⟨0, [(44, 1)]⟩) true, .p (.int .i64 ⟨0, [(48, 1)]⟩) true, .p (.bl (.var 13)) true]], [(1000000, .box 106 [.p (.sl (some 0)) true, .p (.sl (some 1)) true, .p (.int .i64 ⟨0, [(8, 1)]⟩) true, .p (.sl (some 3)) true, .p (.int .i64 ⟨0, [(16, 1)]⟩) true, .p (.bl (.lit true)) true])], [(3, 3), (1, 109), (0, 109)], [⟨-2097151, [(1, 1)]⟩], [.pr 79 [0], .tru (.or (.eq ⟨-1, [(20, 1)]⟩) (.eq ⟨-3, [(20, 1)]⟩))], ⟨0, []⟩,
  [⟨1, [(14, 109)], [⟨-1, [(1, -1), (57, 1)]⟩, ⟨1, [(1, 1), (57, -1)]⟩], [.pr 79 [14]], [(1000000, .box 106 [.p (.sl (some 14)) true, .p (.sl (some 1)) true, .p (.int .i64 ⟨0, [(8, 1)]⟩) true, .p (.sl (some 3)) true, .p (.int .i64 ⟨0, [(16, 1)]⟩) true, .p (.bl (.lit true)) true])], []⟩]⟩
def a_put : An := ⟨15, 1, [(0, [0, 3]), (1, [])],
  [],
  [], [],
  []⟩
theorem c_put : checkH Proofs.Try.prog [s_clipI] [s_put] s_put a_put.ann = true := by kernel_rfl
theorem k_put (hB : B = stdB Proofs.Try.prog T ms) (hJ : J = stdJ) : ∀ s ∈ [s_put], Known Proofs.Try.prog B J s := by
  refine group_ok hB hJ (D := [s_clipI]) ?_ ?_
  · intro s hs; simp only [List.mem_cons, List.mem_nil_iff, or_false] at hs; rcases hs with rfl
    · exact h_clipI hB hJ
  intro s hs; simp only [List.mem_cons, List.mem_nil_iff, or_false] at hs; rcases hs with rfl
  · exact hand_ok hB c_put
theorem h_put (hB : B = stdB Proofs.Try.prog T ms) (hJ : J = stdJ) : Known Proofs.Try.prog B J s_put := k_put hB hJ _ (by simp)
def s_take : TL.Spec := ⟨89, 5, [.ptr 1000000 0], [(1000000, .box 106 [.p (.sl (some 0)) true, .p (.sl (some 1)) true, .p (.int .i64 ⟨0, [(8, 1)]⟩) true, .p (.sl (some 3)) true, .p (.int .i64 ⟨0, [(16, 1)]⟩) true, .p (.bl (.lit true)) true])], [(3, 3), (1, 109), (0, 109)], [⟨0, [(8, -1)]⟩, ⟨0, [(5, -1), (8, 1)]⟩], [.pr 79 [0]], ⟨0, []⟩,
  [⟨10, [(5, 109)], [⟨1, [(1, -1), (21, 1)]⟩, ⟨-1, [(1, 1), (21, -1)]⟩], [.pr 79 [5], .tru (.or (.eq ⟨-1, [(24, 1)]⟩) (.eq ⟨-3, [(24, 1)]⟩))], [(1000000, .box 106 [.p (.sl (some 5)) true, .p (.sl (some 1)) true, .p (.int .i64 ⟨0, [(8, 1)]⟩) true, .p (.sl (some 3)) true, .p (.int .i64 ⟨0, [(16, 1)]⟩) true, .p (.bl (.lit true)) true])], [.agg [.p (.int .i64 ⟨0, [(24, 1)]⟩) true, .p (.int .i64 ⟨0, [(28, 1)]⟩) true, .p (.int .i64 ⟨0, [(32, 1)]⟩) true, .p (.st (.var 9)) true, .p (.int .i64 ⟨0, [(40, 1)]⟩) true, .p (.int .i64 ⟨0, [(44, 1)]⟩) true, .p (.int .i64 ⟨0, [(48, 1)]⟩) true, .p (.int .i64 ⟨0, [(52, 1)]⟩) true, .p (.bl (.var 14)) true], .p (.bl (.lit true)) true]⟩, ⟨9, [], [⟨0, [(5, -1), (8, 1)]⟩, ⟨0, [(5, 1), (8, -1)]⟩], [], [(1000000, .box 106 [.p (.sl (some 0)) true, .p (.sl (some 1)) true, .p (.int .i64 ⟨0, [(8, 1)]⟩) true, .p (.sl (some 3)) true, .p (.int .i64 ⟨0, [(16, 1)]⟩) true, .p (.bl (.lit true)) true])], [.agg [.p (.int .i64 ⟨0, [(20, 1)]⟩) true, .p (.int .i64 ⟨0, [(24, 1)]⟩) true, .p (.int .i64 ⟨0, [(28, 1)]⟩) true, .p (.st (.var 8)) true, .p (.int .i64 ⟨0, [(36, 1)]⟩) true, .p (.int .i64 ⟨0, [(40, 1)]⟩) true, .p (.int .i64 ⟨0, [(44, 1)]⟩) true, .p (.int .i64 ⟨0, [(48, 1)]⟩) true, .p (.bl (.var 13)) true], .p (.bl (.lit false)) true]⟩, ⟨10, [], [⟨-1, [(8, -1), (20, 1)]⟩, ⟨1, [(8, 1), (20, -1)]⟩, ⟨0, [(5, -1), (20, 1)]⟩], [], [(1000000, .box 106 [.p (.sl (some 0)) true, .p (.sl (some 1)) true, .p (.int .i64 ⟨0, [(20, 1)]⟩) true, .p (.sl (some 3)) true, .p (.int .i64 ⟨0, [(16, 1)]⟩) true, .p (.bl (.lit true)) true])], [.agg [.p (.int .i64 ⟨0, [(24, 1)]⟩) true, .p (.int .i64 ⟨0, [(28, 1)]⟩) true, .p (.int .i64 ⟨0, [(32, 1)]⟩) true, .p (.st (.var 9)) true, .p (.int .i64 ⟨0, [(40, 1)]⟩) true, .p (.int .i64 ⟨0, [(44, 1)]⟩) true, .p (.int .i64 ⟨0, [(48, 1)]⟩) true, .p (.int .i64 ⟨0, [(52, 1)]⟩) true, .p (.bl (.var 14)) true], .p (.bl (.lit true)) true]⟩]⟩
def a_take : An := ⟨61, 8, [(0, [2, 0]), (1, [2, 4, 0]), (2, [2, 4, 0, 12]), (3, [2, 5, 4, 0]), (4, [2, 5]), (5, [2, 3]), (6, [2, 0, 41]), (7, [2, 3]), (8, [2, 0]), (9, [2, 3])],
  [],
  [], [],
  []⟩
theorem c_take : checkH Proofs.Try.prog [] [s_take] s_take a_take.ann = true := by kernel_rfl
theorem k_take (hB : B = stdB Proofs.Try.prog T ms) (hJ : J = stdJ) : ∀ s ∈ [s_take], Known Proofs.Try.prog B J s := by
  refine group_ok hB hJ (D := []) ?_ ?_
  · intro s hs; simp at hs
  intro s hs; simp only [List.mem_cons, List.mem_nil_iff, or_false] at hs; rcases hs with rfl
  · exact hand_ok hB c_take
theorem h_take (hB : B = stdB Proofs.Try.prog T ms) (hJ : J = stdJ) : Known Proofs.Try.prog B J s_take := k_take hB hJ _ (by simp)
def s_place : TL.Spec := ⟨53, 5, [.ptr 1000000 0], [(1000000, .box 106 [.p (.sl (some 0)) true, .p (.sl (some 1)) true, .p (.int .i64 ⟨0, [(8, 1)]⟩) true, .p (.sl (some 3)) true, .p (.int .i64 ⟨0, [(16, 1)]⟩) true, .p (.bl (.lit true)) true])], [(3, 3), (1, 109), (0, 109)], [⟨0, [(8, -1)]⟩, ⟨0, [(5, -1), (8, 1)]⟩], [], ⟨0, []⟩,
  [⟨1, [], [], [], [(1000000, .box 106 [.p (.sl (some 0)) true, .p (.sl (some 1)) true, .p (.int .i64 ⟨0, [(8, 1)]⟩) true, .p (.sl (some 3)) true, .p (.int .i64 ⟨0, [(16, 1)]⟩) true, .p (.bl (.lit true)) true])], [.p (.int .i64 ⟨0, [(20, 1)]⟩) true]⟩]⟩
def a_place : An := ⟨30, 8, [(0, [0]), (1, [15, 13, 0, 14]), (2, [13, 0, 14, 15, 16]), (3, [4, 13, 0, 14, 15]), (4, [4, 13, 0, 14, 15, 21]), (5, [2]), (6, [15, 13, 0, 14]), (7, [2])],
  [⟨0, [15, 13, 0, 14], [(15, .g true)], [], [⟨0, [(32, -1)]⟩, ⟨0, [(28, -1), (32, 1)]⟩], [], ⟨0, [(28, 1), (32, -1)]⟩, []⟩],
  [(100000, [⟨0, [(28, -1)]⟩, ⟨0, [(25, 1), (28, -1)]⟩, ⟨0, [(25, -1), (28, 1)]⟩])], [],
  []⟩
theorem c_place : checkS Proofs.Try.prog [] [s_place] s_place a_place.ann = some [] := by kernel_rfl
theorem k_place (hB : B = stdB Proofs.Try.prog T ms) (hJ : J = stdJ) : ∀ s ∈ [s_place], Known Proofs.Try.prog B J s := by
  refine group_ok hB hJ (D := []) ?_ ?_
  · intro s hs; simp at hs
  intro s hs; simp only [List.mem_cons, List.mem_nil_iff, or_false] at hs; rcases hs with rfl
  · exact ⟨_, _, c_place, fun _ => Valid.nil⟩
theorem h_place (hB : B = stdB Proofs.Try.prog T ms) (hJ : J = stdJ) : Known Proofs.Try.prog B J s_place := k_place hB hJ _ (by simp)
def s_implied : TL.Spec := ⟨92, 6, [.ptr 1000000 0, .p (.st (.var 5)) true], [(1000000, .box 106 [.p (.sl (some 0)) true, .p (.sl (some 1)) true, .p (.int .i64 ⟨0, [(8, 1)]⟩) true, .p (.sl (some 3)) true, .p (.int .i64 ⟨0, [(16, 1)]⟩) true, .p (.bl (.lit true)) true])], [(3, 3), (1, 109), (0, 109)], [⟨0, [(8, -1)]⟩, ⟨0, [(5, -1), (8, 1)]⟩], [], ⟨0, []⟩,
  [⟨8, [], [], [], [(1000000, .box 106 [.p (.sl (some 0)) true, .p (.sl (some 1)) true, .p (.int .i64 ⟨0, [(8, 1)]⟩) true, .p (.sl (some 3)) true, .p (.int .i64 ⟨0, [(16, 1)]⟩) true, .p (.bl (.lit true)) true])], [.agg [.p (.int .i64 ⟨0, [(24, 1)]⟩) true, .p (.st (.var 7)) true, .p (.int .i64 ⟨0, [(32, 1)]⟩) true, .p (.int .i64 ⟨0, [(36, 1)]⟩) true, .p (.int .i64 ⟨0, [(40, 1)]⟩) true, .p (.int .i64 ⟨0, [(44, 1)]⟩) true, .p (.bl (.var 12)) true, .p (.bl (.var 13)) true]]⟩]⟩
def a_implied : An := ⟨11, 1, [(0, [4, 0, 1]), (1, [4])],
  [],
  [], [],
  []⟩
theorem c_implied : checkS Proofs.Try.prog [s_place] [s_implied] s_implied a_implied.ann = some [] := by kernel_rfl
theorem k_implied (hB : B = stdB Proofs.Try.prog T ms) (hJ : J = stdJ) : ∀ s ∈ [s_implied], Known Proofs.Try.prog B J s := by
  refine group_ok hB hJ (D := [s_place]) ?_ ?_
  · intro s hs; simp only [List.mem_cons, List.mem_nil_iff, or_false] at hs; rcases hs with rfl
    · exact h_place hB hJ
  intro s hs; simp only [List.mem_cons, List.mem_nil_iff, or_false] at hs; rcases hs with rfl
  · exact ⟨_, _, c_implied, fun _ => Valid.nil⟩
theorem h_implied (hB : B = stdB Proofs.Try.prog T ms) (hJ : J = stdJ) : Known Proofs.Try.prog B J s_implied := k_implied hB hJ _ (by simp)
def s_tell1 : TL.Spec := ⟨112, 13, [.agg [.p (.int .i64 ⟨0, [(0, 1)]⟩) true, .p (.st (.var 1)) true, .p (.int .i64 ⟨0, [(8, 1)]⟩) true, .p (.int .i64 ⟨0, [(12, 1)]⟩) true, .p (.int .i64 ⟨0, [(16, 1)]⟩) true, .p (.int .i64 ⟨0, [(20, 1)]⟩) true, .p (.bl (.var 6)) true, .p (.bl (.var 7)) true], .agg [.p (.sl (some 8)) true, .p (.sl (some 9)) true, .p (.int .i64 ⟨0, [(40, 1)]⟩) true, .p (.sl (some 11)) true, .p (.int .i64 ⟨0, [(48, 1)]⟩) true, .p (.bl (.lit true)) true]], [], [(11, 3), (9, 109), (8, 109)], [], [], ⟨0, []⟩,
  [⟨8, [], [], [], [], [.agg [.p (.int .i64 ⟨0, [(52, 1)]⟩) true, .p (.st (.var 14)) true, .p (.int .i64 ⟨0, [(60, 1)]⟩) true, .p (.int .i64 ⟨0, [(64, 1)]⟩) true, .p (.int .i64 ⟨0, [(68, 1)]⟩) true, .p (.int .i64 ⟨0, [(72, 1)]⟩) true, .p (.bl (.var 19)) true, .p (.bl (.var 20)) true], .agg [.p (.sl (some 8)) true, .p (.sl (some 9)) true, .p (.int .i64 ⟨0, [(40, 1)]⟩) true, .p (.sl (some 11)) true, .p (.int .i64 ⟨0, [(48, 1)]⟩) true, .p (.bl (.lit true)) true], .p (.int .i64 ⟨0, []⟩) true]⟩]⟩
def a_tell1 : An := ⟨10, 1, [(0, [4, 5, 2, 3]), (1, [4, 5, 6])],
  [],
  [], [],
  []⟩
theorem c_tell1 : checkS Proofs.Try.prog [] [s_tell1] s_tell1 a_tell1.ann = some [] := by kernel_rfl
theorem k_tell1 (hB : B = stdB Proofs.Try.prog T ms) (hJ : J = stdJ) : ∀ s ∈ [s_tell1], Known Proofs.Try.prog B J s := by
  refine group_ok hB hJ (D := []) ?_ ?_
  · intro s hs; simp at hs
  intro s hs; simp only [List.mem_cons, List.mem_nil_iff, or_false] at hs; rcases hs with rfl
  · exact ⟨_, _, c_tell1, fun _ => Valid.nil⟩
theorem h_tell1 (hB : B = stdB Proofs.Try.prog T ms) (hJ : J = stdJ) : Known Proofs.Try.prog B J s_tell1 := k_tell1 hB hJ _ (by simp)
def s_tell2 : TL.Spec := ⟨113, 5, [.agg [], .agg [.p (.sl (some 0)) true, .p (.sl (some 1)) true, .p (.int .i64 ⟨0, [(8, 1)]⟩) true, .p (.sl (some 3)) true, .p (.int .i64 ⟨0, [(16, 1)]⟩) true, .p (.bl (.lit true)) true]], [], [(3, 3), (1, 109), (0, 109)], [], [], ⟨0, []⟩,
  [⟨8, [], [], [], [], [.agg [.p (.int .i64 ⟨0, [(20, 1)]⟩) true, .p (.st (.var 6)) true, .p (.int .i64 ⟨0, [(28, 1)]⟩) true, .p (.int .i64 ⟨0, [(32, 1)]⟩) true, .p (.int .i64 ⟨0, [(36, 1)]⟩) true, .p (.int .i64 ⟨0, [(40, 1)]⟩) true, .p (.bl (.var 11)) true, .p (.bl (.var 12)) true], .agg [.p (.sl (some 0)) true, .p (.sl (some 1)) true, .p (.int .i64 ⟨0, [(8, 1)]⟩) true, .p (.sl (some 3)) true, .p (.int .i64 ⟨0, [(16, 1)]⟩) true, .p (.bl (.lit true)) true], .p (.int .i64 ⟨11, []⟩) true]⟩]⟩
def a_tell2 : An := ⟨9, 1, [(0, [4, 5, 3]), (1, [4, 5, 6])],
  [],
  [], [],
  []⟩
theorem c_tell2 : checkS Proofs.Try.prog [] [s_tell2] s_tell2 a_tell2.ann = some [] := by kernel_rfl
theorem k_tell2 (hB : B = stdB Proofs.Try.prog T ms) (hJ : J = stdJ) : ∀ s ∈ [s_tell2], Known Proofs.Try.prog B J s := by
  refine group_ok hB hJ (D := []) ?_ ?_
  · intro s hs; simp at hs
  intro s hs; simp only [List.mem_cons, List.mem_nil_iff, or_false] at hs; rcases hs with rfl
  · exact ⟨_, _, c_tell2, fun _ => Valid.nil⟩
theorem h_tell2 (hB : B = stdB Proofs.Try.prog T ms) (hJ : J = stdJ) : Known Proofs.Try.prog B J s_tell2 := k_tell2 hB hJ _ (by simp)
def s_tell3 : TL.Spec := ⟨114, 5, [.agg [], .agg [.p (.sl (some 0)) true, .p (.sl (some 1)) true, .p (.int .i64 ⟨0, [(8, 1)]⟩) true, .p (.sl (some 3)) true, .p (.int .i64 ⟨0, [(16, 1)]⟩) true, .p (.bl (.lit true)) true]], [], [(3, 3), (1, 109), (0, 109)], [], [], ⟨0, []⟩,
  [⟨9, [], [⟨1, [(52, -1)]⟩], [], [], [.agg [.p (.int .i64 ⟨0, [(20, 1)]⟩) true, .p (.st (.var 6)) true, .p (.int .i64 ⟨0, [(28, 1)]⟩) true, .p (.int .i64 ⟨0, [(32, 1)]⟩) true, .p (.int .i64 ⟨0, [(36, 1)]⟩) true, .p (.int .i64 ⟨0, [(40, 1)]⟩) true, .p (.bl (.var 11)) true, .p (.bl (.var 12)) true], .agg [.p (.sl (some 0)) true, .p (.sl (some 1)) true, .p (.int .i64 ⟨0, [(8, 1)]⟩) true, .p (.sl (some 3)) true, .p (.int .i64 ⟨0, [(16, 1)]⟩) true, .p (.bl (.lit true)) true], .p (.int .i64 ⟨0, [(52, 1)]⟩) true]⟩]⟩
def a_tell3 : An := ⟨9, 1, [(0, [4, 5, 3]), (1, [4, 5, 6])],
  [],
  [], [],
  []⟩
theorem c_tell3 : checkS Proofs.Try.prog [] [s_tell3] s_tell3 a_tell3.ann = some [] := by kernel_rfl
theorem k_tell3 (hB : B = stdB Proofs.Try.prog T ms) (hJ : J = stdJ) : ∀ s ∈ [s_tell3], Known Proofs.Try.prog B J s := by
  refine group_ok hB hJ (D := []) ?_ ?_
  · intro s hs; simp at hs
  intro s hs; simp only [List.mem_cons, List.mem_nil_iff, or_false] at hs; rcases hs with rfl
  · exact ⟨_, _, c_tell3, fun _ => Valid.nil⟩
theorem h_tell3 (hB : B = stdB Proofs.Try.prog T ms) (hJ : J = stdJ) : Known Proofs.Try.prog B J s_tell3 := k_tell3 hB hJ _ (by simp)
def s_none : TL.Spec := ⟨51, 5, [.ptr 1000000 0], [(1000000, .box 106 [.p (.sl (some 0)) true, .p (.sl (some 1)) true, .p (.int .i64 ⟨0, [(8, 1)]⟩) true, .p (.sl (some 3)) true, .p (.int .i64 ⟨0, [(16, 1)]⟩) true, .p (.bl (.lit true)) true])], [(3, 3), (1, 109), (0, 109)], [], [], ⟨0, []⟩,
  [⟨0, [], [], [], [(1000000, .box 106 [.p (.sl (some 0)) true, .p (.sl (some 1)) true, .p (.int .i64 ⟨0, [(8, 1)]⟩) true, .p (.sl (some 3)) true, .p (.int .i64 ⟨0, [(16, 1)]⟩) true, .p (.bl (.lit true)) true])], [.p (.bl (.lit false)) true]⟩]⟩
def a_none : An := ⟨12, 1, [(0, [0]), (1, [2])],
  [],
  [], [],
  []⟩
theorem c_none : checkS Proofs.Try.prog [] [s_none] s_none a_none.ann = some [] := by kernel_rfl
theorem k_none (hB : B = stdB Proofs.Try.prog T ms) (hJ : J = stdJ) : ∀ s ∈ [s_none], Known Proofs.Try.prog B J s := by
  refine group_ok hB hJ (D := []) ?_ ?_
  · intro s hs; simp at hs
  intro s hs; simp only [List.mem_cons, List.mem_nil_iff, or_false] at hs; rcases hs with rfl
  · exact ⟨_, _, c_none, fun _ => Valid.nil⟩
theorem h_none (hB : B = stdB Proofs.Try.prog T ms) (hJ : J = stdJ) : Known Proofs.Try.prog B J s_none := k_none hB hJ _ (by simp)
def s_next : TL.Spec := ⟨71, 5, [.ptr 1000000 0], [(1000000, .box 106 [.p (.sl (some 0)) true, .p (.sl (some 1)) true, .p (.int .i64 ⟨0, [(8, 1)]⟩) true, .p (.sl (some 3)) true, .p (.int .i64 ⟨0, [(16, 1)]⟩) true, .p (.bl (.lit true)) true])], [(3, 3), (1, 109), (0, 109)], [⟨0, [(8, -1)]⟩, ⟨0, [(5, -1), (8, 1)]⟩, ⟨-2097152, [(1, 1), (5, 4), (8, -4), (13, 1)]⟩], [.pr 79 [0]], ⟨0, []⟩,
  [⟨11, [(7, 3), (5, 109)], [⟨0, [(24, -1)]⟩, ⟨0, [(5, -1), (24, 1)]⟩, ⟨1, [(1, -1), (8, 4), (13, -1), (21, 1), (24, -4), (29, 1)]⟩], [.pr 79 [5]], [(1000000, .box 106 [.p (.sl (some 5)) true, .p (.sl (some 1)) true, .p (.int .i64 ⟨0, [(24, 1)]⟩) true, .p (.sl (some 7)) true, .p (.int .i64 ⟨0, [(16, 1)]⟩) true, .p (.bl (.lit true)) true])], [.ifc 165 (.agg [.p (.int .i64 ⟨0, [(32, 1)]⟩) true, .p (.st (.var 9)) true, .p (.int .i64 ⟨0, [(40, 1)]⟩) true, .p (.int .i64 ⟨0, [(44, 1)]⟩) true, .p (.int .i64 ⟨0, [(48, 1)]⟩) true, .p (.int .i64 ⟨0, [(52, 1)]⟩) true, .p (.bl (.var 14)) true, .p (.bl (.var 15)) true])]⟩, ⟨3, [(7, 3), (5, 109)], [], [], [(1000000, .box 106 [.p (.sl (some 5)) true, .p (.sl (some 1)) true, .p (.int .i64 ⟨0, [(24, 1)]⟩) true, .p (.sl (some 7)) true, .p (.int .i64 ⟨0, [(16, 1)]⟩) true, .p (.bl (.lit true)) true])], [.ifc 168 (.agg [])]⟩, ⟨3, [(7, 3), (5, 109)], [], [], [(1000000, .box 106 [.p (.sl (some 5)) true, .p (.sl (some 1)) true, .p (.int .i64 ⟨0, [(24, 1)]⟩) true, .p (.sl (some 7)) true, .p (.int .i64 ⟨0, [(16, 1)]⟩) true, .p (.bl (.lit true)) true])], [.ifc 169 (.agg [])]⟩]⟩
def a_next : An := ⟨149, 40, [(0, [0]), (1, [0, 3, 4]), (2, [0, 3, 5, 4]), (3, [0, 3, 5, 4, 13]), (6, [0, 3, 5, 4, 25]), (8, [0, 3, 5, 34]), (10, [0, 3, 5, 39]), (12, [0, 3, 5, 46]), (14, [0, 3, 5, 63]), (18, [0, 3, 5, 85]), (19, [0, 3, 5, 89]), (22, [0, 3, 5, 107]), (26, [3, 0, 122]), (28, [3, 0, 132]), (30, [3, 0, 138]), (31, [3]), (29, [3]), (27, [2]), (23, [0]), (24, [0]), (25, [2]), (20, [0]), (21, [2]), (15, [0]), (16, [0]), (17, [2]), (13, [2]), (11, [2]), (9, [2]), (7, [2]), (4, [0]), (5, [2]), (32, [2])],
  [⟨0, [0], [], [(1000000, .g true), (601000000, .d), (501000000, .d), (401000000, .d), (201000000, .d)], [⟨0, [(5, -1), (28, 1)]⟩, ⟨0, [(8, 1), (28, -1)]⟩, ⟨0, [(1, -1), (25, 1)]⟩], [], ⟨0, [(5, 4), (13, 1), (25, 1), (28, -4)]⟩, [.pr 79 [6]]⟩],
  [], [],
  [⟨⟨1, [(5, -4), (13, -1), (25, -1), (28, 4)]⟩, 1, [(5, 1), (6, 1), (8, 4)], []⟩, ⟨⟨1, [(5, -4), (13, -1), (25, -1), (28, 4)]⟩, 1, [(6, 1), (7, 1), (9, 4)], []⟩, ⟨⟨1, [(5, -4), (13, -1), (25, -1), (28, 4)]⟩, 1, [(8, 1), (9, 1), (11, 4)], []⟩, ⟨⟨1, [(5, -4), (13, -1), (25, -1), (28, 4)]⟩, 1, [(9, 1), (10, 1), (12, 4)], []⟩, ⟨⟨1, [(5, -4), (13, -1), (25, -1), (28, 4)]⟩, 1, [(6, 1), (8, 4)], []⟩, ⟨⟨1, [(5, -4), (13, -1), (25, -1), (28, 4)]⟩, 1, [(7, 1), (9, 4)], []⟩, ⟨⟨1, [(5, -4), (13, -1), (25, -1), (28, 4)]⟩, 1, [(8, 1), (10, 4)], []⟩, ⟨⟨-2097151, [(13, 1)]⟩, 1, [(2, 4), (3, 4), (5, 4), (11, 1)], []⟩, ⟨⟨-2097151, [(13, 1)]⟩, 1, [(4, 4), (5, 4), (7, 4), (13, 1)], []⟩, ⟨⟨-2097151, [(13, 1)]⟩, 1, [(1, 1), (5, 1), (9, 4), (10, 1)], []⟩, ⟨⟨-2097151, [(13, 1)]⟩, 1, [(3, 1), (7, 1), (11, 4), (12, 1)], []⟩, ⟨⟨-2097151, [(81, 1)]⟩, 1, [(0, 1), (9, 1), (11, 4), (12, 4), (14, 4), (15, 1), (20, 1)], []⟩, ⟨⟨-2097151, [(73, 1)]⟩, 1, [(0, 1), (10, 4), (11, 4), (13, 4), (14, 1), (19, 1)], []⟩, ⟨⟨-2097151, [(25, 1)]⟩, 1, [(8, 4), (9, 4), (11, 4), (12, 1), (17, 1)], []⟩, ⟨⟨-2097151, [(13, 1)]⟩, 1, [(7, 4), (8, 4), (10, 4), (16, 1)], []⟩, ⟨⟨-2097151, [(13, 1)]⟩, 1, [(6, 1), (10, 1), (14, 4), (15, 1)], []⟩]⟩
theorem c_next : checkH Proofs.Try.prog [s_implied, s_take, s_put, s_push, s_pop, s_top, s_markB, s_isMark] [s_next] s_next a_next.ann = true := by kernel_rfl
theorem k_next (hB : B = stdB Proofs.Try.prog T ms) (hJ : J = stdJ) : ∀ s ∈ [s_next], Known Proofs.Try.prog B J s := by
  refine group_ok hB hJ (D := [s_implied, s_take, s_put, s_push, s_pop, s_top, s_markB, s_isMark]) ?_ ?_
  · intro s hs; simp only [List.mem_cons, List.mem_nil_iff, or_false] at hs; rcases hs with rfl | rfl | rfl | rfl | rfl | rfl | rfl | rfl
    · exact h_implied hB hJ
    · exact h_take hB hJ
    · exact h_put hB hJ
    · exact h_push hB hJ
    · exact h_pop hB hJ
    · exact h_top hB hJ
    · exact h_markB hB hJ
    · exact h_isMark hB hJ
  intro s hs; simp only [List.mem_cons, List.mem_nil_iff, or_false] at hs; rcases hs with rfl
  · exact hand_ok hB c_next
theorem h_next (hB : B = stdB Proofs.Try.prog T ms) (hJ : J = stdJ) : Known Proofs.Try.prog B J s_next := k_next hB hJ _ (by simp)
def s_after : TL.Spec := ⟨50, 5, [.ptr 1000000 0], [(1000000, .box 106 [.p (.sl (some 0)) true, .p (.sl (some 1)) true, .p (.int .i64 ⟨0, [(8, 1)]⟩) true, .p (.sl (some 3)) true, .p (.int .i64 ⟨0, [(16, 1)]⟩) true, .p (.bl (.lit true)) true])], [(3, 3), (1, 109), (0, 109)], [⟨0, [(8, -1)]⟩, ⟨0, [(5, -1), (8, 1)]⟩, ⟨-2097152, [(1, 1), (5, 4), (8, -4), (13, 1)]⟩], [.pr 79 [0]], ⟨0, []⟩,
  [⟨11, [(15, 3), (13, 109)], [⟨0, [(56, -1)]⟩, ⟨0, [(5, -1), (56, 1)]⟩, ⟨1, [(1, -1), (8, 4), (13, -1), (53, 1), (56, -4), (61, 1)]⟩], [.pr 79 [13]], [(1000000, .box 106 [.p (.sl (some 0)) true, .p (.sl (some 1)) true, .p (.int .i64 ⟨0, [(8, 1)]⟩) true, .p (.sl (some 3)) true, .p (.int .i64 ⟨0, [(16, 1)]⟩) true, .p (.bl (.lit true)) true])], [.agg [.p (.int .i64 ⟨0, [(20, 1)]⟩) true, .p (.st (.var 6)) true, .p (.int .i64 ⟨0, [(28, 1)]⟩) true, .p (.int .i64 ⟨0, [(32, 1)]⟩) true, .p (.int .i64 ⟨0, [(36, 1)]⟩) true, .p (.int .i64 ⟨0, [(40, 1)]⟩) true, .p (.bl (.var 11)) true, .p (.bl (.var 12)) true], .agg [.p (.sl (some 13)) true, .p (.sl (some 1)) true, .p (.int .i64 ⟨0, [(56, 1)]⟩) true, .p (.sl (some 15)) true, .p (.int .i64 ⟨0, [(16, 1)]⟩) true, .p (.bl (.lit true)) true], .p (.int .i64 ⟨0, []⟩) true]⟩, ⟨12, [(15, 3), (13, 109)], [⟨1, [(64, -1)]⟩], [], [(1000000, .box 106 [.p (.sl (some 0)) true, .p (.sl (some 1)) true, .p (.int .i64 ⟨0, [(8, 1)]⟩) true, .p (.sl (some 3)) true, .p (.int .i64 ⟨0, [(16, 1)]⟩) true, .p (.bl (.lit true)) true])], [.agg [.p (.int .i64 ⟨0, [(20, 1)]⟩) true, .p (.st (.var 6)) true, .p (.int .i64 ⟨0, [(28, 1)]⟩) true, .p (.int .i64 ⟨0, [(32, 1)]⟩) true, .p (.int .i64 ⟨0, [(36, 1)]⟩) true, .p (.int .i64 ⟨0, [(40, 1)]⟩) true, .p (.bl (.var 11)) true, .p (.bl (.var 12)) true], .agg [.p (.sl (some 13)) true, .p (.sl (some 1)) true, .p (.int .i64 ⟨0, [(56, 1)]⟩) true, .p (.sl (some 15)) true, .p (.int .i64 ⟨0, [(16, 1)]⟩) true, .p (.bl (.lit true)) true], .p (.int .i64 ⟨0, [(64, 1)]⟩) true]⟩]⟩
def a_after : An := ⟨21, 40, [(0, [2, 3, 0]), (1, [2, 3, 0, 8]), (2, [2, 3, 4]), (3, [2, 3, 5]), (4, [2, 3, 5, 6]), (5, [2, 3, 4])],
  [],
  [], [],
  []⟩
theorem c_after : checkS Proofs.Try.prog [s_next, s_none, s_tell3, s_tell2, s_tell1] [s_after] s_after a_after.ann = some [] := by kernel_rfl
theorem k_after (hB : B = stdB Proofs.Try.prog T ms) (hJ : J = stdJ) : ∀ s ∈ [s_after], Known Proofs.Try.prog B J s := by
  refine group_ok hB hJ (D := [s_next, s_none, s_tell3, s_tell2, s_tell1]) ?_ ?_
  · intro s hs; simp only [List.mem_cons, List.mem_nil_iff, or_false] at hs; rcases hs with rfl | rfl | rfl | rfl | rfl
    · exact h_next hB hJ
    · exact h_none hB hJ
    · exact h_tell3 hB hJ
    · exact h_tell2 hB hJ
    · exact h_tell1 hB hJ
  intro s hs; simp only [List.mem_cons, List.mem_nil_iff, or_false] at hs; rcases hs with rfl
  · exact ⟨_, _, c_after, fun _ => Valid.nil⟩
theorem h_after (hB : B = stdB Proofs.Try.prog T ms) (hJ : J = stdJ) : Known Proofs.Try.prog B J s_after := k_after hB hJ _ (by simp)
def s_Peek : TL.Spec := ⟨52, 5, [.ptr 1000000 0], [(1000000, .box 106 [.p (.sl (some 0)) true, .p (.sl (some 1)) true, .p (.int .i64 ⟨0, [(8, 1)]⟩) true, .p (.sl (some 3)) true, .p (.int .i64 ⟨0, [(16, 1)]⟩) true, .p (.bl (.lit true)) true])], [(3, 3), (1, 109), (0, 109)], [⟨0, [(8, -1)]⟩, ⟨0, [(5, -1), (8, 1)]⟩, ⟨-2097152, [(1, 1), (5, 4), (8, -4), (13, 1)]⟩], [.pr 79 [0]], ⟨0, []⟩,
  [⟨9, [], [], [], [(1000000, .box 106 [.p (.sl (some 0)) true, .p (.sl (some 1)) true, .p (.int .i64 ⟨0, [(8, 1)]⟩) true, .p (.sl (some 3)) true, .p (.int .i64 ⟨0, [(16, 1)]⟩) true, .p (.bl (.lit true)) true])], [.agg [.p (.int .i64 ⟨0, [(20, 1)]⟩) true, .p (.st (.var 6)) true, .p (.int .i64 ⟨0, [(28, 1)]⟩) true, .p (.int .i64 ⟨0, [(32, 1)]⟩) true, .p (.int .i64 ⟨0, [(36, 1)]⟩) true, .p (.int .i64 ⟨0, [(40, 1)]⟩) true, .p (.bl (.var 11)) true, .p (.bl (.var 12)) true], .p (.int .i64 ⟨0, [(52, 1)]⟩) true]⟩]⟩
def a_Peek : An := ⟨15, 8, [(0, [2, 0]), (1, [2, 6, 4]), (2, [2, 3])],
  [],
  [], [],
  []⟩
theorem c_Peek : checkS Proofs.Try.prog [s_after] [s_Peek] s_Peek a_Peek.ann = some [] := by kernel_rfl
theorem k_Peek (hB : B = stdB Proofs.Try.prog T ms) (hJ : J = stdJ) : ∀ s ∈ [s_Peek], Known Proofs.Try.prog B J s := by
  refine group_ok hB hJ (D := [s_after]) ?_ ?_
  · intro s hs; simp only [List.mem_cons, List.mem_nil_iff, or_false] at hs; rcases hs with rfl
    · exact h_after hB hJ
  intro s hs; simp only [List.mem_cons, List.mem_nil_iff, or_false] at hs; rcases hs with rfl
  · exact ⟨_, _, c_Peek, fun _ => Valid.nil⟩
theorem h_Peek (hB : B = stdB Proofs.Try.prog T ms) (hJ : J = stdJ) : Known Proofs.Try.prog B J s_Peek := k_Peek hB hJ _ (by simp)
def s_Wrong : TL.Spec := ⟨33, 5, [.ptr 1000000 0], [(1000000, .box 106 [.p (.sl (some 0)) true, .p (.sl (some 1)) true, .p (.int .i64 ⟨0, [(8, 1)]⟩) true, .p (.sl (some 3)) true, .p (.int .i64 ⟨0, [(16, 1)]⟩) true, .p (.bl (.lit true)) true])], [(3, 3), (1, 109), (0, 109)], [⟨0, [(8, -1)]⟩, ⟨0, [(5, -1), (8, 1)]⟩, ⟨-2097152, [(1, 1), (5, 4), (8, -4), (13, 1)]⟩], [.pr 79 [0]], ⟨0, []⟩,
  [⟨1, [], [], [], [(1000000, .box 106 [.p (.sl (some 0)) true, .p (.sl (some 1)) true, .p (.int .i64 ⟨0, [(8, 1)]⟩) true, .p (.sl (some 3)) true, .p (.int .i64 ⟨0, [(16, 1)]⟩) true, .p (.bl (.lit true)) true])], [.p (.int .i64 ⟨0, [(20, 1)]⟩) true]⟩]⟩
def a_Wrong : An := ⟨16, 8, [(0, [0]), (1, [0, 6]), (2, [2]), (3, [0, 4]), (4, [0, 13]), (5, [2]), (6, [2])],
  [],
  [], [],
  []⟩
theorem c_Wrong : checkS Proofs.Try.prog [s_Peek, s_none, s_place] [s_Wrong] s_Wrong a_Wrong.ann = some [] := by kernel_rfl
theorem k_Wrong (hB : B = stdB Proofs.Try.prog T ms) (hJ : J = stdJ) : ∀ s ∈ [s_Wrong], Known Proofs.Try.prog B J s := by
  refine group_ok hB hJ (D := [s_Peek, s_none, s_place]) ?_ ?_
  · intro s hs; simp only [List.mem_cons, List.mem_nil_iff, or_false] at hs; rcases hs with rfl | rfl | rfl
    · exact h_Peek hB hJ
    · exact h_none hB hJ
    · exact h_place hB hJ
  intro s hs; simp only [List.mem_cons, List.mem_nil_iff, or_false] at hs; rcases hs with rfl
  · exact ⟨_, _, c_Wrong, fun _ => Valid.nil⟩
theorem h_Wrong (hB : B = stdB Proofs.Try.prog T ms) (hJ : J = stdJ) : Known Proofs.Try.prog B J s_Wrong := k_Wrong hB hJ _ (by simp)
def s_Take : TL.Spec := ⟨32, 5, [.ptr 1000000 0], [(1000000, .box 106 [.p (.sl (some 0)) true, .p (.sl (some 1)) true, .p (.int .i64 ⟨0, [(8, 1)]⟩) true, .p (.sl (some 3)) true, .p (.int .i64 ⟨0, [(16, 1)]⟩) true, .p (.bl (.lit true)) true])], [(3, 3), (1, 109), (0, 109)], [⟨0, [(8, -1)]⟩, ⟨0, [(5, -1), (8, 1)]⟩, ⟨-2097152, [(1, 1), (5, 4), (8, -4), (13, 1)]⟩], [.pr 79 [0]], ⟨0, []⟩,
  [⟨11, [(7, 3), (5, 109)], [⟨0, [(24, -1)]⟩, ⟨0, [(5, -1), (24, 1)]⟩, ⟨1, [(1, -1), (8, 4), (13, -1), (21, 1), (24, -4), (29, 1)]⟩], [.pr 79 [5]], [(1000000, .box 106 [.p (.sl (some 5)) true, .p (.sl (some 1)) true, .p (.int .i64 ⟨0, [(24, 1)]⟩) true, .p (.sl (some 7)) true, .p (.int .i64 ⟨0, [(16, 1)]⟩) true, .p (.bl (.lit true)) true])], [.agg [.p (.int .i64 ⟨0, [(32, 1)]⟩) true, .p (.st (.var 9)) true, .p (.int .i64 ⟨0, [(40, 1)]⟩) true, .p (.int .i64 ⟨0, [(44, 1)]⟩) true, .p (.int .i64 ⟨0, [(48, 1)]⟩) true, .p (.int .i64 ⟨0, [(52, 1)]⟩) true, .p (.bl (.var 14)) true, .p (.bl (.var 15)) true], .p (.int .i64 ⟨0, []⟩) true]⟩, ⟨9, [], [⟨1, [(52, -1)]⟩], [], [(1000000, .box 106 [.p (.sl (some 0)) true, .p (.sl (some 1)) true, .p (.int .i64 ⟨0, [(8, 1)]⟩) true, .p (.sl (some 3)) true, .p (.int .i64 ⟨0, [(16, 1)]⟩) true, .p (.bl (.lit true)) true])], [.agg [.p (.int .i64 ⟨0, [(20, 1)]⟩) true, .p (.st (.var 6)) true, .p (.int .i64 ⟨0, [(28, 1)]⟩) true, .p (.int .i64 ⟨0, [(32, 1)]⟩) true, .p (.int .i64 ⟨0, [(36, 1)]⟩) true, .p (.int .i64 ⟨0, [(40, 1)]⟩) true, .p (.bl (.var 11)) true, .p (.bl (.var 12)) true], .p (.int .i64 ⟨0, [(52, 1)]⟩) true]⟩]⟩
def a_Take : An := ⟨20, 8, [(0, [2, 0]), (1, [2, 6, 4, 5, 0]), (2, [2, 6, 4, 5, 0, 14]), (3, [2, 6, 4]), (4, [2, 3])],
  [],
  [], [],
  []⟩
theorem c_Take : checkS Proofs.Try.prog [s_after] [s_Take] s_Take a_Take.ann = some [] := by kernel_rfl
theorem k_Take (hB : B = stdB Proofs.Try.prog T ms) (hJ : J = stdJ) : ∀ s ∈ [s_Take], Known Proofs.Try.prog B J s := by
  refine group_ok hB hJ (D := [s_after]) ?_ ?_
  · intro s hs; simp only [List.mem_cons, List.mem_nil_iff, or_false] at hs; rcases hs with rfl
    · exact h_after hB hJ
  intro s hs; simp only [List.mem_cons, List.mem_nil_iff, or_false] at hs; rcases hs with rfl
  · exact ⟨_, _, c_Take, fun _ => Valid.nil⟩
theorem h_Take (hB : B = stdB Proofs.Try.prog T ms) (hJ : J = stdJ) : Known Proofs.Try.prog B J s_Take := k_Take hB hJ _ (by simp)
def s_New : TL.Spec := ⟨31, 2, [.p (.sl (some 0)) false, .p (.int .i64 ⟨0, [(4, 1)]⟩) true], [], [(0, 75)], [⟨-262143, [(1, 1)]⟩], [], ⟨0, []⟩,
  [⟨5, [(5, 3), (3, 109), (2, 109)], [⟨0, [(16, -1)]⟩, ⟨0, [(13, -1), (16, 1)]⟩, ⟨0, [(16, 1)]⟩, ⟨0, [(16, -1)]⟩, ⟨0, [(9, 1)]⟩, ⟨0, [(9, -1)]⟩, ⟨0, [(21, 1)]⟩, ⟨0, [(21, -1)]⟩, ⟨-1, [(1, -2), (13, 1)]⟩], [], [(11, .box 106 [.p (.sl (some 2)) true, .p (.sl (some 3)) true, .p (.int .i64 ⟨0, [(16, 1)]⟩) true, .p (.sl (some 5)) true, .p (.int .i64 ⟨0, [(24, 1)]⟩) true, .p (.bl (.lit true)) true])], [.ptr 11 0]⟩]⟩
def a_New : An := ⟨82, 200, [(0, [0, 1]), (1, [5, 0]), (2, [5, 6, 0]), (3, [14, 5, 6, 12, 13]), (4, [5, 12, 13, 14, 6, 15]), (5, [5, 12, 13, 14, 8, 6]), (6, [5, 12, 13, 14, 8, 6, 18]), (8, [5, 12, 13, 14, 8, 37]), (9, [5, 12, 13, 14, 8]), (7, [5, 12, 13, 14, 8]), (10, [5, 12, 13, 14, 8]), (11, [5, 6, 12, 13, 14]), (12, [14, 5, 6, 12, 13]), (13, [5, 70]), (14, [5]), (15, [4])],
  [⟨0, [14, 5, 6, 12, 13], [(6, .g true), (14, .g true)], [(600000011, .d), (500000011, .d), (400000011, .d), (300000011, .d), (200000011, .v 64 109 9 true), (100000011, .d), (11, .g true)], [⟨0, [(1, -1), (16, 1)]⟩, ⟨0, [(13, -1), (16, 1)]⟩, ⟨0, [(13, 1), (16, -2)]⟩], [], ⟨0, [(1, 1), (16, -1)]⟩, []⟩],
  [], [],
  [⟨⟨-1, [(1, -2), (29, 1)]⟩, 1, [(0, 1), (4, 1), (9, 2), (11, 1)], []⟩, ⟨⟨1, [(16, 1), (57, -1)]⟩, 1, [(1, 1), (5, 1), (11, 1)], []⟩, ⟨⟨1, [(16, 1), (61, -1)]⟩, 1, [(1, 1), (5, 1), (11, 1)], []⟩, ⟨⟨1, [(16, 1), (65, -1)]⟩, 1, [(1, 1), (5, 1), (9, 1), (13, 1), (19, 1)], []⟩, ⟨⟨1, [(16, 1), (69, -1)]⟩, 1, [(1, 1), (5, 1), (9, 1), (13, 1), (19, 1)], []⟩, ⟨⟨-2097152, [(57, 1), (61, 1)]⟩, 1, [(0, 1), (4, 1), (8, 1), (13, 2), (16, 1), (19, 2)], []⟩, ⟨⟨-2097152, [(61, 1), (65, 1)]⟩, 1, [(0, 1), (4, 1), (8, 1), (13, 2), (16, 1), (19, 2)], []⟩, ⟨⟨0, [(16, -1)]⟩, 2, [(3, 1)], []⟩]⟩
theorem c_New : checkS Proofs.Try.prog [s_opens, s_markB, s_isMark] [s_New] s_New a_New.ann = some [] := by kernel_rfl
theorem k_New (hB : B = stdB Proofs.Try.prog T ms) (hJ : J = stdJ) : ∀ s ∈ [s_New], Known Proofs.Try.prog B J s := by
  refine group_ok hB hJ (D := [s_opens, s_markB, s_isMark]) ?_ ?_
  · intro s hs; simp only [List.mem_cons, List.mem_nil_iff, or_false] at hs; rcases hs with rfl | rfl | rfl
    · exact h_opens hB hJ
    · exact h_markB hB hJ
    · exact h_isMark hB hJ
  intro s hs; simp only [List.mem_cons, List.mem_nil_iff, or_false] at hs; rcases hs with rfl
  · exact ⟨_, _, c_New, fun _ => Valid.nil⟩
theorem h_New (hB : B = stdB Proofs.Try.prog T ms) (hJ : J = stdJ) : Known Proofs.Try.prog B J s_New := k_New hB hJ _ (by simp)
def s_All : TL.Spec := ⟨9, 2, [.p (.sl (some 0)) false, .p (.int .i64 ⟨0, [(4, 1)]⟩) true], [], [(0, 75)], [⟨-262143, [(1, 1)]⟩], [], ⟨0, []⟩,
  [⟨3, [(2, 83)], [], [], [], [.p (.sl (some 2)) true, .agg [.p (.int .i64 ⟨0, [(12, 1)]⟩) true, .p (.int .i64 ⟨0, [(16, 1)]⟩) true]]⟩]⟩
def a_All : An := ⟨33, 8, [(0, [5, 1, 0]), (1, [5, 6]), (2, [7, 5, 6]), (3, [5, 6, 8, 7, 9]), (4, [5, 6, 8, 7, 9, 18]), (6, [5, 6, 8, 7, 9, 18, 23]), (8, [5, 7, 6, 9, 29]), (5, [4, 5]), (9, [4, 5]), (7, [7, 5, 6])],
  [⟨0, [7, 5, 6], [(7, .v 28 83 8 true)], [(600000012, .d), (500000012, .d), (200000012, .d), (12, .g true)], [⟨0, [(17, -1), (36, 1)]⟩, ⟨0, [(13, -1), (20, 4), (25, -1), (33, 1), (36, -4), (41, 1), (45, 1)]⟩], [], ⟨0, [(17, 4), (33, 1), (36, -4), (41, 1)]⟩, [.pr 79 [8]]⟩],
  [], [],
  [⟨⟨0, [(36, -1)]⟩, 4, [(3, 1), (7, 4), (8, 1), (10, 1)], []⟩, ⟨⟨0, [(36, -1)]⟩, 4, [(1, 1), (5, 4), (6, 1), (8, 1)], []⟩]⟩
theorem c_All : checkH Proofs.Try.prog [s_New, s_Take, s_Wrong] [s_All] s_All a_All.ann = true := by kernel_rfl
theorem k_All (hB : B = stdB Proofs.Try.prog T ms) (hJ : J = stdJ) : ∀ s ∈ [s_All], Known Proofs.Try.prog B J s := by
  refine group_ok hB hJ (D := [s_New, s_Take, s_Wrong]) ?_ ?_
  · intro s hs; simp only [List.mem_cons, List.mem_nil_iff, or_false] at hs; rcases hs with rfl | rfl | rfl
    · exact h_New hB hJ
    · exact h_Take hB hJ
    · exact h_Wrong hB hJ
  intro s hs; simp only [List.mem_cons, List.mem_nil_iff, or_false] at hs; rcases hs with rfl
  · exact hand_ok hB c_All
theorem h_All (hB : B = stdB Proofs.Try.prog T ms) (hJ : J = stdJ) : Known Proofs.Try.prog B J s_All := k_All hB hJ _ (by simp)
def s_con : TL.Spec := ⟨72, 2, [.p (.st (.var 0)) true, .p (.sl (some 1)) true], [], [(1, 49)], [], [], ⟨0, []⟩,
  [⟨7, [(5, 9), (6, 137), (7, 49), (8, 139)], [], [], [], [.agg [.p (.int .i64 ⟨0, [(8, 1)]⟩) true, .p (.st (.var 3)) true, .p (.int .i64 ⟨0, [(16, 1)]⟩) true, .p (.sl (some 5)) true, .p (.sl (some 6)) true, .p (.sl (some 7)) true, .p (.sl (some 8)) true]]⟩]⟩
def a_con : An := ⟨8, 1, [(0, [4, 1, 0]), (1, [4])],
  [],
  [], [],
  []⟩
theorem c_con : checkS Proofs.Try.prog [] [s_con] s_con a_con.ann = some [] := by kernel_rfl
theorem k_con (hB : B = stdB Proofs.Try.prog T ms) (hJ : J = stdJ) : ∀ s ∈ [s_con], Known Proofs.Try.prog B J s := by
  refine group_ok hB hJ (D := []) ?_ ?_
  · intro s hs; simp at hs
  intro s hs; simp only [List.mem_cons, List.mem_nil_iff, or_false] at hs; rcases hs with rfl
  · exact ⟨_, _, c_con, fun _ => Valid.nil⟩
theorem h_con (hB : B = stdB Proofs.Try.prog T ms) (hJ : J = stdJ) : Known Proofs.Try.prog B J s_con := k_con hB hJ _ (by simp)
def s_textM : TL.Spec := ⟨55, 1, [.p (.st (.var 0)) true], [], [], [], [], ⟨0, []⟩,
  [⟨7, [(4, 9), (5, 137), (6, 49), (7, 139)], [], [], [], [.agg [.p (.int .i64 ⟨0, [(4, 1)]⟩) true, .p (.st (.var 2)) true, .p (.int .i64 ⟨0, [(12, 1)]⟩) true, .p (.sl (some 4)) true, .p (.sl (some 5)) true, .p (.sl (some 6)) true, .p (.sl (some 7)) true]]⟩]⟩
def a_textM : An := ⟨22, 1, [(0, [0, 2]), (1, [0, 3, 2]), (2, [4, 0, 3, 2]), (3, [0, 3, 2, 4, 10]), (5, [0, 3, 2, 4]), (4, [4, 0, 3, 2]), (6, [2])],
  [⟨0, [4, 0, 3, 2], [(4, .g true)], [(3, .g true)], [⟨-1, [(64, -1)]⟩, ⟨1, [(3, -1), (64, 1)]⟩], [], ⟨1, [(64, 1)]⟩, []⟩],
  [(4, [])], [],
  []⟩
theorem c_textM : checkS Proofs.Try.prog [s_con] [s_textM] s_textM a_textM.ann = some [] := by kernel_rfl
theorem k_textM (hB : B = stdB Proofs.Try.prog T ms) (hJ : J = stdJ) : ∀ s ∈ [s_textM], Known Proofs.Try.prog B J s := by
  refine group_ok hB hJ (D := [s_con]) ?_ ?_
  · intro s hs; simp only [List.mem_cons, List.mem_nil_iff, or_false] at hs; rcases hs with rfl
    · exact h_con hB hJ
  intro s hs; simp only [List.mem_cons, List.mem_nil_iff, or_false] at hs; rcases hs with rfl
  · exact ⟨_, _, c_textM, fun _ => Valid.nil⟩
theorem h_textM (hB : B = stdB Proofs.Try.prog T ms) (hJ : J = stdJ) : Known Proofs.Try.prog B J s_textM := k_textM hB hJ _ (by simp)
def s_failure : TL.Spec := ⟨36, 0, [], [], [], [], [], ⟨0, []⟩,
  [⟨4, [(3, 139), (2, 49), (1, 137), (0, 9)], [⟨-1, [(9, 1)]⟩, ⟨1, [(9, -1)]⟩], [], [], [.agg [.p (.int .i64 ⟨9, []⟩) true, .p (.st (.lit [101, 114, 114, 111, 114])) true, .p (.int .i64 ⟨0, []⟩) true, .p (.sl (some 0)) true, .p (.sl (some 1)) true, .p (.sl (some 2)) true, .p (.sl (some 3)) true]]⟩]⟩
def a_failure : An := ⟨4, 1, [(0, [0]), (1, [0])],
  [],
  [], [],
  []⟩
theorem c_failure : checkS Proofs.Try.prog [s_textM] [s_failure] s_failure a_failure.ann = some [] := by kernel_rfl
theorem k_failure (hB : B = stdB Proofs.Try.prog T ms) (hJ : J = stdJ) : ∀ s ∈ [s_failure], Known Proofs.Try.prog B J s := by
  refine group_ok hB hJ (D := [s_textM]) ?_ ?_
  · intro s hs; simp only [List.mem_cons, List.mem_nil_iff, or_false] at hs; rcases hs with rfl
    · exact h_textM hB hJ
  intro s hs; simp only [List.mem_cons, List.mem_nil_iff, or_false] at hs; rcases hs with rfl
  · exact ⟨_, _, c_failure, fun _ => Valid.nil⟩
theorem h_failure (hB : B = stdB Proofs.Try.prog T ms) (hJ : J = stdJ) : Known Proofs.Try.prog B J s_failure := k_failure hB hJ _ (by simp)
def s_failing : TL.Spec := ⟨12, 0, [], [], [], [], [], ⟨0, []⟩,
  [⟨1, [], [], [.tru (.var 0)], [], [.p (.bl (.var 0)) true]⟩]⟩
def a_failing : An := ⟨17, 1, [(0, []), (1, [1]), (2, [0])],
  [],
  [], [],
  []⟩
theorem c_failing : checkS Proofs.Try.prog [s_failure] [s_failing] s_failing a_failing.ann = some [] := by kernel_rfl
theorem k_failing (hB : B = stdB Proofs.Try.prog T ms) (hJ : J = stdJ) : ∀ s ∈ [s_failing], Known Proofs.Try.prog B J s := by
  refine group_ok hB hJ (D := [s_failure]) ?_ ?_
  · intro s hs; simp only [List.mem_cons, List.mem_nil_iff, or_false] at hs; rcases hs with rfl
    · exact h_failure hB hJ
  intro s hs; simp only [List.mem_cons, List.mem_nil_iff, or_false] at hs; rcases hs with rfl
  · exact ⟨_, _, c_failing, fun _ => Valid.nil⟩
theorem h_failing (hB : B = stdB Proofs.Try.prog T ms) (hJ : J = stdJ) : Known Proofs.Try.prog B J s_failing := k_failing hB hJ _ (by simp)
end Go.TL.Glay
