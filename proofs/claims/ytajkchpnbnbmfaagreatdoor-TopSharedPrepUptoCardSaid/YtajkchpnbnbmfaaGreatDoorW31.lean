/- For every input that holds at most 1048576 values and letters TopSharedPrep returns true, and its argument reads behind the call as it read before. Conditions: those of the row. -/
import Derived.Test.YtajkchpnbnbmfaaGreatDoorW24
import Derived.Test.YtajkchpnbnbmfaaGreatDoorW29
import Derived.Test.YtajkchpnbnbmfaaGreatDoorRows
import Derived.OpenShut
import Derived.WalkKit
import Derived.ProofKit
import Derived.JoinedCond
import Derived.Test.YtajkchpnbnbmfaaGreatDoorW30
import Derived.Test.YtajkchpnbnbmfaaGreatDoorCards
import Derived.Test.YtajkchpnbnbmfaaGreatDoorTie
import Derived.SevenTiedAt
import Derived.Deep.DeepHandedRow
set_option maxRecDepth 100000
namespace Go.TL.H.prep
open Go Go.TL.Gprep
abbrev tyY : TY := ⟨56,3,4,9,54,26,5,132⟩
abbrev tyZ : TZ := ⟨57,37,44⟩
theorem kit : Kit Proofs.Tryz.prog tyY where
 mixed := by kernel_rfl
 e0 := by kernel_rfl
 e1 := by kernel_rfl
 e2 := by kernel_rfl
 e3 := by kernel_rfl
 e4 := by kernel_rfl
 i := db (by kernel_rfl) (by kernel_rfl) rfl
 b := db (by kernel_rfl) (by kernel_rfl) rfl
 s := db (by kernel_rfl) (by kernel_rfl) rfl
 nl := db (by kernel_rfl) (by kernel_rfl) rfl
 ss := db (by kernel_rfl) (by kernel_rfl) rfl
 by' := db (by kernel_rfl) (by kernel_rfl) rfl
 i16 := CP (by kernel_rfl)
 s16 := CP (by kernel_rfl)
 iU := by kernel_rfl
 bU := by kernel_rfl
 sU := by kernel_rfl
 nlU := by kernel_rfl
 ssU := by kernel_rfl
 byU := by kernel_rfl
 blU := by kernel_rfl
 eB := PH (by kernel_rfl) (by kernel_rfl)
theorem RY : uy Proofs.Tryz.prog tyY tyZ := ⟨by kernel_rfl,by kernel_rfl,db (by kernel_rfl) (by kernel_rfl) rfl⟩
theorem yO : uB Proofs.Tryz.prog tyY tyZ 32 51 45 9 [.slice none 0 0,.slice none 0 0,.int .i64 0,.string ⟨#[]⟩,.int .i64 0,.slice none 0 0,.slice none 0 0,.slice none 0 0,.slice none 0 0] where
 bu1 := by kernel_rfl
 bu2 := by kernel_rfl
 bu3 := fun _ => by kernel_rfl
 lcU := by kernel_rfl
 ct := db (by kernel_rfl) (by kernel_rfl) rfl
 tp := dT (by kernel_rfl) (by kernel_rfl) rfl
 el := fe (by kernel_rfl) rfl rfl
 cks := by kernel_rfl
 small := by decide
def QA : Row := ⟨.via 22 63 64 74 4,[.sl 74],true,0⟩
def QB : Row := ⟨.via 23 65 66 71 8,[.sl 71],true,0⟩
def L0 : Row := ⟨.st 25 [(0,0,32),(1,1,33)],[.sl 74,.sl 71],true,1⟩
def QC : Row := ⟨.num 3,[.int .i64],true,0⟩
def L3 : Row := ⟨.str,[.str],false,0⟩
def QD : Row := ⟨.num 2,[.int .i64],true,0⟩
def L4 : Row := ⟨.via 26 39 40 9 1,[.sl 9],true,0⟩
def QE : Row := ⟨.via 27 78 28 30 7,[.sl 30],true,0⟩
def QF : Row := ⟨.via 28 79 80 120 11,[.sl 120],true,0⟩
def L5 : Row := ⟨.st 30 [(0,0,47),(1,1,40),(2,2,48),(3,3,20),(4,4,33),(5,5,49),(6,6,50)],[.int .i64,.str,.int .i64,.sl 9,.sl 71,.sl 30,.sl 120],true,1⟩
def r_6 : Row := ⟨.st 32 [(0,0,10),(1,2,28)],[.sl 74,.sl 71,.int .i64,.str,.int .i64,.sl 9,.sl 71,.sl 30,.sl 120],true,2⟩
def L6 : Row := ⟨.st 74 [(0,0,40),(1,1,47),(2,2,40),(3,3,47)],[.str,.int .i64,.str,.int .i64],true,1⟩
def L7 : Row := ⟨.st 71 [(0,0,40),(1,1,28)],[.str,.int .i64,.str,.int .i64,.sl 9,.sl 71,.sl 30,.sl 120],true,2⟩
def L8 : Row := ⟨.st 120 [(0,0,47),(1,1,40),(2,2,48),(3,3,20),(4,4,28)],[.int .i64,.str,.int .i64,.sl 9,.int .i64,.str,.int .i64,.sl 9,.sl 71,.sl 30,.sl 120],true,2⟩
def eF : cX := [(32,QA),(33,QB),(10,L0),(47,QC),(40,L3),(48,QD),(20,L4),(49,QE),(50,QF),(28,L5),(6,r_6),(64,L6),(66,L7),(80,L8)]
theorem RZ : Body Proofs.Tryz.prog 32 9 [] (ux 22 63 64) := aF (by kernel_rfl) (by kernel_rfl)
theorem R0 : Body Proofs.Tryz.prog 63 46 [] (rB tyY 22) := aF (by kernel_rfl) (by kernel_rfl)
theorem R3 : Fit Proofs.Tryz.prog tyY eF 32 QA := oI (r1 := L6) RZ R0 (by kernel_rfl) (by kernel_rfl) (db (by kernel_rfl) (by kernel_rfl) rfl) (by kernel_rfl) (by kernel_rfl) (by kernel_rfl) (by kernel_rfl) (by kernel_rfl) (by kernel_rfl)
theorem R4 : Body Proofs.Tryz.prog 33 9 [] (ux 23 65 66) := aF (by kernel_rfl) (by kernel_rfl)
theorem R5 : Body Proofs.Tryz.prog 65 46 [] (rB tyY 23) := aF (by kernel_rfl) (by kernel_rfl)
theorem R6 : Fit Proofs.Tryz.prog tyY eF 33 QB := oI (r1 := L7) R4 R5 (by kernel_rfl) (by kernel_rfl) (db (by kernel_rfl) (by kernel_rfl) rfl) (by kernel_rfl) (by kernel_rfl) (by kernel_rfl) (by kernel_rfl) (by kernel_rfl) (by kernel_rfl)
theorem R7 : Body Proofs.Tryz.prog 10 14 [] (stC 25 4 [(0,0,32),(1,1,33)]) := aF (by kernel_rfl) (by kernel_rfl)
theorem R8 : Fit Proofs.Tryz.prog tyY eF 10 L0 := oH R7 (by kernel_rfl) (by kernel_rfl) (by kernel_rfl)
theorem R9 : Body Proofs.Tryz.prog 47 33 [] (A4 tyY 3) := aF (by kernel_rfl) (by kernel_rfl)
theorem Sa : Fit Proofs.Tryz.prog tyY eF 47 QC := ES R9 (show One Proofs.Tryz.prog 3 (.int .i64 0) from db (by kernel_rfl) (by kernel_rfl) rfl)
theorem Sb : Body Proofs.Tryz.prog 40 49 [] (FB tyY) := aF (by kernel_rfl) (by kernel_rfl)
theorem Sd : Fit Proofs.Tryz.prog tyY eF 40 L3 := Nz Sb
theorem Se : Body Proofs.Tryz.prog 48 33 [] (A4 tyY 2) := aF (by kernel_rfl) (by kernel_rfl)
theorem Sf : Fit Proofs.Tryz.prog tyY eF 48 QD := ES Se (show One Proofs.Tryz.prog 2 (.int .i64 0) from db (by kernel_rfl) (by kernel_rfl) rfl)
theorem Sg : Body Proofs.Tryz.prog 20 9 [] (ux 26 39 40) := aF (by kernel_rfl) (by kernel_rfl)
theorem Sh : Body Proofs.Tryz.prog 39 46 [] (rB tyY 26) := aF (by kernel_rfl) (by kernel_rfl)
theorem Si : Fit Proofs.Tryz.prog tyY eF 20 L4 := oI (r1 := L3) Sg Sh (by kernel_rfl) (by kernel_rfl) (db (by kernel_rfl) (by kernel_rfl) rfl) (by kernel_rfl) (by kernel_rfl) (by kernel_rfl) (by kernel_rfl) (by kernel_rfl) (by kernel_rfl)
theorem Sj : Body Proofs.Tryz.prog 49 9 [] (ux 27 78 28) := aF (by kernel_rfl) (by kernel_rfl)
theorem Sk : Body Proofs.Tryz.prog 78 46 [] (rB tyY 27) := aF (by kernel_rfl) (by kernel_rfl)
theorem Sm : Fit Proofs.Tryz.prog tyY eF 49 QE := oI (r1 := L5) Sj Sk (by kernel_rfl) (by kernel_rfl) (db (by kernel_rfl) (by kernel_rfl) rfl) (by kernel_rfl) (by kernel_rfl) (by kernel_rfl) (by kernel_rfl) (by kernel_rfl) (by kernel_rfl)
theorem Sn : Body Proofs.Tryz.prog 50 9 [] (ux 28 79 80) := aF (by kernel_rfl) (by kernel_rfl)
theorem Sp : Body Proofs.Tryz.prog 79 46 [] (rB tyY 28) := aF (by kernel_rfl) (by kernel_rfl)
theorem Sq : Fit Proofs.Tryz.prog tyY eF 50 QF := oI (r1 := L8) Sn Sp (by kernel_rfl) (by kernel_rfl) (db (by kernel_rfl) (by kernel_rfl) rfl) (by kernel_rfl) (by kernel_rfl) (by kernel_rfl) (by kernel_rfl) (by kernel_rfl) (by kernel_rfl)
theorem Ss : Body Proofs.Tryz.prog 28 39 [] (stC 30 4 [(0,0,47),(1,1,40),(2,2,48),(3,3,20),(4,4,33),(5,5,49),(6,6,50)]) := aF (by kernel_rfl) (by kernel_rfl)
theorem Su : Fit Proofs.Tryz.prog tyY eF 28 L5 := oH Ss (by kernel_rfl) (by kernel_rfl) (by kernel_rfl)
theorem b_6 : Body Proofs.Tryz.prog 6 14 [] (stC 32 4 [(0,0,10),(1,2,28)]) := aF (by kernel_rfl) (by kernel_rfl)
theorem f_6 : Fit Proofs.Tryz.prog tyY eF 6 r_6 := oH b_6 (by kernel_rfl) (by kernel_rfl) (by kernel_rfl)
theorem Sv : Body Proofs.Tryz.prog 64 24 [] (stC 74 4 [(0,0,40),(1,1,47),(2,2,40),(3,3,47)]) := aF (by kernel_rfl) (by kernel_rfl)
theorem Sw : Fit Proofs.Tryz.prog tyY eF 64 L6 := oH Sv (by kernel_rfl) (by kernel_rfl) (by kernel_rfl)
theorem Sy : Body Proofs.Tryz.prog 66 14 [] (stC 71 4 [(0,0,40),(1,1,28)]) := aF (by kernel_rfl) (by kernel_rfl)
theorem Sz : Fit Proofs.Tryz.prog tyY eF 66 L7 := oH Sy (by kernel_rfl) (by kernel_rfl) (by kernel_rfl)
theorem SA : Body Proofs.Tryz.prog 80 29 [] (stC 120 4 [(0,0,47),(1,1,40),(2,2,48),(3,3,20),(4,4,28)]) := aF (by kernel_rfl) (by kernel_rfl)
theorem SB : Fit Proofs.Tryz.prog tyY eF 80 L8 := oH SA (by kernel_rfl) (by kernel_rfl) (by kernel_rfl)
theorem Rn : jI Proofs.Tryz.prog tyY eF := PI (List.forall_mem_cons.2 ⟨R3,(List.forall_mem_cons.2 ⟨R6,(List.forall_mem_cons.2 ⟨R8,(List.forall_mem_cons.2 ⟨Sa,(List.forall_mem_cons.2 ⟨Sd,(List.forall_mem_cons.2 ⟨Sf,(List.forall_mem_cons.2 ⟨Si,(List.forall_mem_cons.2 ⟨Sm,(List.forall_mem_cons.2 ⟨Sq,(List.forall_mem_cons.2 ⟨Su,(List.forall_mem_cons.2 ⟨f_6,(List.forall_mem_cons.2 ⟨Sw,(List.forall_mem_cons.2 ⟨Sz,(List.forall_mem_cons.2 ⟨SB,(by simp)⟩)⟩)⟩)⟩)⟩)⟩)⟩)⟩)⟩)⟩)⟩)⟩)⟩)⟩)
def QG : dw := ⟨.cp 22 74 4 [.string ⟨#[]⟩,.int .i64 0,.string ⟨#[]⟩,.int .i64 0],0⟩
def QH : dw := ⟨.ls 23 71 8 true [.string ⟨#[]⟩,.int .i64 0,.string ⟨#[]⟩,.int .i64 0,.slice none 0 0,.slice none 0 0,.slice none 0 0,.slice none 0 0] 73 74,0⟩
def QI : dw := ⟨.st 25 2 [.slice none 0 0,.slice none 0 0] [⟨0,0,1,22,false,42⟩,⟨1,1,1,23,false,43⟩],1⟩
def QJ : dw := ⟨.cp 26 9 1 [.string ⟨#[]⟩],0⟩
def QK : dw := ⟨.ls 27 30 7 true [.int .i64 0,.string ⟨#[]⟩,.int .i64 0,.slice none 0 0,.slice none 0 0,.slice none 0 0,.slice none 0 0] 75 27,0⟩
def QL : dw := ⟨.ls 28 120 11 true [.int .i64 0,.string ⟨#[]⟩,.int .i64 0,.slice none 0 0,.int .i64 0,.string ⟨#[]⟩,.int .i64 0,.slice none 0 0,.slice none 0 0,.slice none 0 0,.slice none 0 0] 76 77,0⟩
def L9 : dw := ⟨.st 30 7 [.int .i64 0,.string ⟨#[]⟩,.int .i64 0,.slice none 0 0,.slice none 0 0,.slice none 0 0,.slice none 0 0] [⟨3,3,1,26,false,44⟩,⟨4,4,1,23,false,43⟩,⟨5,5,1,27,false,45⟩,⟨6,6,1,28,false,46⟩],1⟩
def o_5 : dw := ⟨.st 32 9 [.slice none 0 0,.slice none 0 0,.int .i64 0,.string ⟨#[]⟩,.int .i64 0,.slice none 0 0,.slice none 0 0,.slice none 0 0,.slice none 0 0] [⟨0,0,2,25,true,26⟩,⟨1,2,7,30,true,27⟩],2⟩
def Ma : dw := ⟨.st 71 8 [.string ⟨#[]⟩,.int .i64 0,.string ⟨#[]⟩,.int .i64 0,.slice none 0 0,.slice none 0 0,.slice none 0 0,.slice none 0 0] [⟨1,1,7,30,true,27⟩],2⟩
def Mb : dw := ⟨.st 120 11 [.int .i64 0,.string ⟨#[]⟩,.int .i64 0,.slice none 0 0,.int .i64 0,.string ⟨#[]⟩,.int .i64 0,.slice none 0 0,.slice none 0 0,.slice none 0 0,.slice none 0 0] [⟨3,3,1,26,false,44⟩,⟨4,4,7,30,true,27⟩],2⟩
def kx : rC := [(42,QG),(43,QH),(26,QI),(44,QJ),(45,QK),(46,QL),(27,L9),(5,o_5),(74,Ma),(77,Mb)]
theorem SC : Body Proofs.Tryz.prog 42 9 [.tmp 2] (ea tyY 22) := aF (by kernel_rfl) (by kernel_rfl)
theorem Rp : e8 Proofs.Tryz.prog tyY kx 42 QG := EU SC (by kernel_rfl) (fe (by kernel_rfl) rfl rfl) (by kernel_rfl) (by kernel_rfl) (by kernel_rfl) (by kernel_rfl)
theorem SD : Body Proofs.Tryz.prog 73 9 [.tmp 2] (ea tyY 23) := aF (by kernel_rfl) (by kernel_rfl)
theorem SF : Body Proofs.Tryz.prog 43 21 [.tmp 2] (nN tyY 23 71 73 74) := aF (by kernel_rfl) (by kernel_rfl)
theorem Rq : e8 Proofs.Tryz.prog tyY kx 43 QH := yC (r1 := Ma) SF SD (by kernel_rfl) (fe (by kernel_rfl) rfl rfl) (by kernel_rfl) (by kernel_rfl) (by kernel_rfl) (by kernel_rfl) (by kernel_rfl) (by kernel_rfl) (by kernel_rfl) (by kernel_rfl) (by kernel_rfl) (by kernel_rfl)
theorem SG : Body Proofs.Tryz.prog 26 12 [.cell 2 25] (jX 25 [⟨0,0,1,22,false,42⟩,⟨1,1,1,23,false,43⟩]) := aF (by kernel_rfl) (by kernel_rfl)
theorem Rr : e8 Proofs.Tryz.prog tyY kx 26 QI := oJ SG (fe (by kernel_rfl) rfl rfl) (by kernel_rfl) (by kernel_rfl) (by kernel_rfl) (by kernel_rfl) (by kernel_rfl) (by kernel_rfl)
theorem SH : Body Proofs.Tryz.prog 44 9 [.tmp 2] (ea tyY 26) := aF (by kernel_rfl) (by kernel_rfl)
theorem Rs : e8 Proofs.Tryz.prog tyY kx 44 QJ := EU SH (by kernel_rfl) (fe (by kernel_rfl) rfl rfl) (by kernel_rfl) (by kernel_rfl) (by kernel_rfl) (by kernel_rfl)
theorem SI : Body Proofs.Tryz.prog 75 9 [.tmp 2] (ea tyY 27) := aF (by kernel_rfl) (by kernel_rfl)
theorem SJ : Body Proofs.Tryz.prog 45 21 [.tmp 2] (nN tyY 27 30 75 27) := aF (by kernel_rfl) (by kernel_rfl)
theorem Rt : e8 Proofs.Tryz.prog tyY kx 45 QK := yC (r1 := L9) SJ SI (by kernel_rfl) (fe (by kernel_rfl) rfl rfl) (by kernel_rfl) (by kernel_rfl) (by kernel_rfl) (by kernel_rfl) (by kernel_rfl) (by kernel_rfl) (by kernel_rfl) (by kernel_rfl) (by kernel_rfl) (by kernel_rfl)
theorem SK : Body Proofs.Tryz.prog 76 9 [.tmp 2] (ea tyY 28) := aF (by kernel_rfl) (by kernel_rfl)
theorem SM : Body Proofs.Tryz.prog 46 21 [.tmp 2] (nN tyY 28 120 76 77) := aF (by kernel_rfl) (by kernel_rfl)
theorem Ru : e8 Proofs.Tryz.prog tyY kx 46 QL := yC (r1 := Mb) SM SK (by kernel_rfl) (fe (by kernel_rfl) rfl rfl) (by kernel_rfl) (by kernel_rfl) (by kernel_rfl) (by kernel_rfl) (by kernel_rfl) (by kernel_rfl) (by kernel_rfl) (by kernel_rfl) (by kernel_rfl) (by kernel_rfl)
theorem SN : Body Proofs.Tryz.prog 27 20 [.cell 2 30] (jX 30 [⟨3,3,1,26,false,44⟩,⟨4,4,1,23,false,43⟩,⟨5,5,1,27,false,45⟩,⟨6,6,1,28,false,46⟩]) := aF (by kernel_rfl) (by kernel_rfl)
theorem Rv : e8 Proofs.Tryz.prog tyY kx 27 L9 := oJ SN (fe (by kernel_rfl) rfl rfl) (by kernel_rfl) (by kernel_rfl) (by kernel_rfl) (by kernel_rfl) (by kernel_rfl) (by kernel_rfl)
theorem b_5 : Body Proofs.Tryz.prog 5 12 [.cell 2 32] (jX 32 [⟨0,0,2,25,true,26⟩,⟨1,2,7,30,true,27⟩]) := aF (by kernel_rfl) (by kernel_rfl)
theorem SO : e8 Proofs.Tryz.prog tyY kx 5 o_5 := oJ b_5 (fe (by kernel_rfl) rfl rfl) (by kernel_rfl) (by kernel_rfl) (by kernel_rfl) (by kernel_rfl) (by kernel_rfl) (by kernel_rfl)
theorem SP : Body Proofs.Tryz.prog 74 8 [.cell 2 71] (jX 71 [⟨1,1,7,30,true,27⟩]) := aF (by kernel_rfl) (by kernel_rfl)
theorem Rw : e8 Proofs.Tryz.prog tyY kx 74 Ma := oJ SP (fe (by kernel_rfl) rfl rfl) (by kernel_rfl) (by kernel_rfl) (by kernel_rfl) (by kernel_rfl) (by kernel_rfl) (by kernel_rfl)
theorem SQ : Body Proofs.Tryz.prog 77 12 [.cell 2 120] (jX 120 [⟨3,3,1,26,false,44⟩,⟨4,4,7,30,true,27⟩]) := aF (by kernel_rfl) (by kernel_rfl)
theorem Rx : e8 Proofs.Tryz.prog tyY kx 77 Mb := oJ SQ (fe (by kernel_rfl) rfl rfl) (by kernel_rfl) (by kernel_rfl) (by kernel_rfl) (by kernel_rfl) (by kernel_rfl) (by kernel_rfl)
theorem Ry : ∀ f r,lk kx f = some r → e8 Proofs.Tryz.prog tyY kx f r := NA (List.forall_mem_cons.2 ⟨Rp,(List.forall_mem_cons.2 ⟨Rq,(List.forall_mem_cons.2 ⟨Rr,(List.forall_mem_cons.2 ⟨Rs,(List.forall_mem_cons.2 ⟨Rt,(List.forall_mem_cons.2 ⟨Ru,(List.forall_mem_cons.2 ⟨Rv,(List.forall_mem_cons.2 ⟨SO,(List.forall_mem_cons.2 ⟨Rw,(List.forall_mem_cons.2 ⟨Rx,(by simp)⟩)⟩)⟩)⟩)⟩)⟩)⟩)⟩)⟩)⟩)
def SR : List TypeId := [74,71,9,30,120]
theorem SU : Body Proofs.Tryz.prog 22 27 [.tmp 2] (vN tyY) := aF (by kernel_rfl) (by kernel_rfl)
theorem SW : Body Proofs.Tryz.prog 23 23 [.tmp 2] (sP tyY tyZ) := aF (by kernel_rfl) (by kernel_rfl)
theorem SX : Body Proofs.Tryz.prog 24 59 [.tmp 4] (mK tyY) := aF (by kernel_rfl) (by kernel_rfl)
theorem SY : Body Proofs.Tryz.prog 25 29 [.tmp 6] (nM tyY tyZ 24) := aF (by kernel_rfl) (by kernel_rfl)
theorem b_4 : Body Proofs.Tryz.prog 4 95 [.tmp 8] (Bc tyY tyZ 32 51 45 22 23 24 25) := aF (by kernel_rfl) (by kernel_rfl)
theorem b_3 : Body Proofs.Tryz.prog 3 9 [.tmp 2] (JW 32 51 [7,11,13,15,17] 4 5 6 21) := aF (by kernel_rfl) (by kernel_rfl)
theorem b_9 : Body Proofs.Tryz.prog 9 5 [] (A8 10) := aF (by kernel_rfl) (by kernel_rfl)
theorem b_7 : Body Proofs.Tryz.prog 7 15 [.tmp 2] ((.seq (.region 0 ([⟨(some 2),.assign (.const (.slice none 0 0)),0, "", #[],none⟩] : List Oper).toArray false) (.seq (.region 0 ([⟨(some 6),.move (.tmp 0),0, "", #[],none⟩,⟨(some 7),.nilCheck (.tmp 6),0, "", #[],none⟩,⟨(some 8),.fieldAddr 32 (.tmp 7) 0,0, "", #[],none⟩,⟨(some 9),.load 25 (.tmp 8),0, "", #[],none⟩,⟨(some 10),.call ⟨(.value (.func 8)), #[(.tmp 9)], #[]⟩,0, "", #[],none⟩,⟨(some 5),.move (.tmp 10),0, "", #[],none⟩,⟨(some 11),.extract (.tmp 5) 0,0, "", #[],none⟩,⟨(some 12),.extract (.tmp 5) 1,0, "", #[],none⟩,⟨(some 3),.alloc 25,0, "", #[],none⟩,⟨none,.store 25 (.tmp 3) (.tmp 11),0, "", #[],none⟩,⟨(some 4),.assign (.tmp 12),0, "", #[],none⟩] : List Oper).toArray false) (.seq (.region 0 ([⟨(some 13),.makeFunc (.func 9) #[] #[(.tmp 3)],0, "", #[],none⟩,⟨(some 14),.buildSlice 37 1 #[(0,(.tmp 13))],0, "", #[],none⟩,⟨(some 2),.assign (.tmp 14),0, "", #[],none⟩] : List Oper).toArray false) .ret)))) := aF (by kernel_rfl) (by kernel_rfl)
theorem QM : kO Proofs.Tryz.prog eF 32 2097152 7 := by
 intro w0 b l0 row hb0 hld0 hcw0 hty hN
 have hl0 : l0.length = 9 := (hcw0.len.trans ((aY _ _).1 hty).1).trans yO.cks
 obtain ⟨v0,l1,rfl,hl1⟩ := aK hl0
 obtain ⟨v1,l2,rfl,hl2⟩ := aK hl1
 obtain ⟨v2,l3,rfl,hl3⟩ := aK hl2
 obtain ⟨v3,l4,rfl,hl4⟩ := aK hl3
 obtain ⟨v4,l5,rfl,hl5⟩ := aK hl4
 obtain ⟨v5,l6,rfl,hl6⟩ := aK hl5
 obtain ⟨v6,l7,rfl,hl7⟩ := aK hl6
 obtain ⟨v7,l8,rfl,hl8⟩ := aK hl7
 obtain ⟨v8,l9,rfl,hl9⟩ := aK hl8
 obtain rfl := List.eq_nil_of_length_eq_zero hl9
 refine bW b_7 ?_
 have hs := SL.init (n := 15) [Ptr b 0] rfl
 revert hs
 generalize ({ tmps := _,defers := [] } : Act) = a
 intro hs
 have g0 := Ch.refl (fun _ => False) w0
 refine ae (aa ?_)
 refine L hs rfl rfl (ah hs (.inr rfl) rfl) fun a hs => ?_
 refine Le (ae (aa ?_))
 refine L hs rfl rfl (ah hs (.inl rfl) rfl) fun a hs => ?_
 refine L hs rfl rfl (bB hs rfl rfl) fun a hs => ?_
 refine L hs rfl rfl (bE (off := 0) (sz := 2) hs rfl rfl (by kernel_rfl)) fun a hs => ?_
 refine L hs rfl rfl (cY (ag := true) (m := 2) [v0,v1] hs rfl rfl (dT (by kernel_rfl) (by kernel_rfl) rfl) rfl hb0 (oL 0 2 rfl)) fun a hs => ?_
 have q0 := oK (is := [0,1]) (parts := [some 2]) (kinds := [some (true,[.sl 74,.sl 71]),none]) (Qz : aC Proofs.Tryz.prog aH sD) ⟨rfl,rfl,by kernel_rfl,by kernel_rfl,by kernel_rfl,by kernel_rfl,by kernel_rfl⟩ hld0 hty hcw0 hN
 rw [show dO [some 2] (cS [0,1] [v0,v1,v2,v3,v4,v5,v6,v7,v8]) = [pk true [v0,v1]] by kernel_rfl,show sD.fn = 8 by kernel_rfl] at q0
 refine Lc hs rfl rfl rfl rfl rfl (by kernel_rfl) q0 fun v w1 a hO hs => ?_
 obtain ⟨c0,us0,rfl,hO0⟩ := hO
 obtain ⟨rr0,uu0,us1,rfl,cw0_1,wt0,hO1⟩ := hO0.take
 have sz0 := g0.size
 have cw0_1 := cw0_1.down sz0
 obtain ⟨u1,us2,rfl,hO2⟩ := hO1.skip
 obtain rfl := hO2.nil
 have g1 := g0.trans c0
 have hb1 := c0.at hb0 fun h => h
 have hcw1 := hcw0.ch c0
 have hld1 := hld0.ch c0
 refine L hs rfl rfl (ah hs (.inl rfl) rfl) fun a hs => ?_
 refine L hs rfl rfl (yT hs rfl rfl rfl) fun a hs => ?_
 refine L hs rfl rfl (yT hs rfl rfl rfl) fun a hs => ?_
 refine L hs rfl rfl (ji (sz := 2) (zs := [.slice none 0 0,.slice none 0 0]) rfl (fe (by kernel_rfl) rfl rfl)) fun a hs => ?_
 have hl0 : uu0.length = 2 := (cw0_1.len.trans ((aY _ _).1 wt0).1)
 refine Ls hs rfl rfl (kM (ag := true) (m := 2) uu0 hs rfl rfl rfl (dT (by kernel_rfl) (by kernel_rfl) rfl) hl0 cw0_1.one (heap_alloc_new _ _) (by simp)) fun hs => ?_
 obtain ⟨c1,bx0_2⟩ := tF (T := 25) (zs := [.slice none 0 0,.slice none 0 0]) (us := uu0) w1 hl0
 have lo0 := g1.size
 generalize hbn0 : w1.heap.size = bn0 at *
 generalize (World.setRow _ bn0 _) = w2 at *
 have g2 := g1.trans c1
 have hb2 := c1.at hb1 fun h => h
 have hcw2 := hcw1.ch c1
 have hld2 := hld1.ch c1
 have cw0_2 := cw0_1.ch c1
 refine L hs rfl rfl (ah hs (.inr rfl) rfl) fun a hs => ?_
 refine Le (ae (aa ?_))
 refine L hs rfl rfl (MG hs rfl rfl rfl) fun a hs => ?_
 refine L hs rfl rfl (gU (e := 44) (z := .nilFunc) (v := clo 9 bn0) hs rfl rfl (by kernel_rfl) (db (by kernel_rfl) (by kernel_rfl) rfl) rfl) fun a hs => ?_
 have c2 := Ch.alloc (fun _ => False) w2 (.cells #[clo 9 bn0] 44)
 have hbl3 := heap_alloc_new w2 (.cells #[clo 9 bn0] 44)
 have ll2 := g2.size
 generalize hbm : w2.heap.size = bl at *
 generalize w2.alloc (.cells #[clo 9 bn0] 44) = w3 at *
 have g3 := g2.trans c2
 have hb3 := c2.at hb2 fun h => h
 have hcw3 := hcw2.ch c2
 have hld3 := hld2.ch c2
 have bx0_3 := c2.at bx0_2 fun h => h
 have cw0_3 := cw0_2.ch c2
 refine L hs rfl rfl (ah hs (.inr rfl) rfl) fun a hs => ?_
 exact Le (cW (eK hs rfl ⟨g3,.one 9 10 bn0,⟨bl,_,rfl,hbl3⟩,b_9,fun _ h => by cases h; omega,lo0,L0,rr0,uu0,_,(by kernel_rfl),(by decide),bx0_3,cw0_3,wt0,by kernel_rfl⟩))
theorem SZ : Body Proofs.Tryz.prog 11 8 [.tmp 2] ((.seq (.region 0 ([⟨(some 2),.assign (.const (.slice none 0 0)),0, "", #[],none⟩] : List Oper).toArray false) (.seq (.region 0 ([⟨(some 3),.move (.tmp 0),0, "", #[],none⟩,⟨(some 4),.nilCheck (.tmp 3),0, "", #[],none⟩,⟨(some 5),.fieldAddr 32 (.tmp 4) 0,0, "", #[],none⟩,⟨(some 6),.load 25 (.tmp 5),0, "", #[],none⟩,⟨(some 7),.call ⟨(.value (.func 12)), #[(.tmp 6)], #[]⟩,0, "", #[],none⟩] : List Oper).toArray false) (.seq (.region 0 ([⟨(some 2),.assign (.const (.slice none 0 0)),0, "", #[],none⟩] : List Oper).toArray false) .ret)))) := aF (by kernel_rfl) (by kernel_rfl)
theorem Ox : kO Proofs.Tryz.prog eF 32 2097152 11 := by
 intro w0 b l0 row hb0 hld0 hcw0 hty hN
 have hl0 : l0.length = 9 := (hcw0.len.trans ((aY _ _).1 hty).1).trans yO.cks
 obtain ⟨v0,l1,rfl,hl1⟩ := aK hl0
 obtain ⟨v1,l2,rfl,hl2⟩ := aK hl1
 obtain ⟨v2,l3,rfl,hl3⟩ := aK hl2
 obtain ⟨v3,l4,rfl,hl4⟩ := aK hl3
 obtain ⟨v4,l5,rfl,hl5⟩ := aK hl4
 obtain ⟨v5,l6,rfl,hl6⟩ := aK hl5
 obtain ⟨v6,l7,rfl,hl7⟩ := aK hl6
 obtain ⟨v7,l8,rfl,hl8⟩ := aK hl7
 obtain ⟨v8,l9,rfl,hl9⟩ := aK hl8
 obtain rfl := List.eq_nil_of_length_eq_zero hl9
 refine bW SZ ?_
 have hs := SL.init (n := 8) [Ptr b 0] rfl
 revert hs
 generalize ({ tmps := _,defers := [] } : Act) = a
 intro hs
 have g0 := Ch.refl (fun _ => False) w0
 refine ae (aa ?_)
 refine L hs rfl rfl (ah hs (.inr rfl) rfl) fun a hs => ?_
 refine Le (ae (aa ?_))
 refine L hs rfl rfl (ah hs (.inl rfl) rfl) fun a hs => ?_
 refine L hs rfl rfl (bB hs rfl rfl) fun a hs => ?_
 refine L hs rfl rfl (bE (off := 0) (sz := 2) hs rfl rfl (by kernel_rfl)) fun a hs => ?_
 refine L hs rfl rfl (cY (ag := true) (m := 2) [v0,v1] hs rfl rfl (dT (by kernel_rfl) (by kernel_rfl) rfl) rfl hb0 (oL 0 2 rfl)) fun a hs => ?_
 have q0 := oK (is := [0,1]) (parts := [some 2]) (kinds := [none]) (Hp : aC Proofs.Tryz.prog aH jd) ⟨rfl,rfl,by kernel_rfl,by kernel_rfl,by kernel_rfl,by kernel_rfl,by kernel_rfl⟩ hld0 hty hcw0 hN
 rw [show dO [some 2] (cS [0,1] [v0,v1,v2,v3,v4,v5,v6,v7,v8]) = [pk true [v0,v1]] by kernel_rfl,show jd.fn = 12 by kernel_rfl] at q0
 refine Lc hs rfl rfl rfl rfl rfl (by kernel_rfl) q0 fun v w1 a hO hs => ?_
 obtain ⟨c0,us0,rfl,hO0⟩ := hO
 obtain ⟨u0,us1,rfl,hO1⟩ := hO0.skip
 obtain rfl := hO1.nil
 have g1 := g0.trans c0
 have hb1 := c0.at hb0 fun h => h
 have hcw1 := hcw0.ch c0
 have hld1 := hld0.ch c0
 refine Le (ae (aa ?_))
 refine L hs rfl rfl (ah hs (.inr rfl) rfl) fun a hs => ?_
 exact Le (cW (eK hs rfl ⟨g1,.no,⟨none,0,rfl⟩,trivial⟩))
theorem S3 : Body Proofs.Tryz.prog 13 8 [.tmp 2] ((.seq (.region 0 ([⟨(some 2),.assign (.const (.slice none 0 0)),0, "", #[],none⟩] : List Oper).toArray false) (.seq (.region 0 ([⟨(some 3),.move (.tmp 0),0, "", #[],none⟩,⟨(some 4),.nilCheck (.tmp 3),0, "", #[],none⟩,⟨(some 5),.fieldAddr 32 (.tmp 4) 1,0, "", #[],none⟩,⟨(some 6),.load 30 (.tmp 5),0, "", #[],none⟩,⟨(some 7),.call ⟨(.value (.func 14)), #[(.tmp 6)], #[]⟩,0, "", #[],none⟩] : List Oper).toArray false) (.seq (.region 0 ([⟨(some 2),.assign (.const (.slice none 0 0)),0, "", #[],none⟩] : List Oper).toArray false) .ret)))) := aF (by kernel_rfl) (by kernel_rfl)
theorem Oy : kO Proofs.Tryz.prog eF 32 2097152 13 := by
 intro w0 b l0 row hb0 hld0 hcw0 hty hN
 have hl0 : l0.length = 9 := (hcw0.len.trans ((aY _ _).1 hty).1).trans yO.cks
 obtain ⟨v0,l1,rfl,hl1⟩ := aK hl0
 obtain ⟨v1,l2,rfl,hl2⟩ := aK hl1
 obtain ⟨v2,l3,rfl,hl3⟩ := aK hl2
 obtain ⟨v3,l4,rfl,hl4⟩ := aK hl3
 obtain ⟨v4,l5,rfl,hl5⟩ := aK hl4
 obtain ⟨v5,l6,rfl,hl6⟩ := aK hl5
 obtain ⟨v6,l7,rfl,hl7⟩ := aK hl6
 obtain ⟨v7,l8,rfl,hl8⟩ := aK hl7
 obtain ⟨v8,l9,rfl,hl9⟩ := aK hl8
 obtain rfl := List.eq_nil_of_length_eq_zero hl9
 refine bW S3 ?_
 have hs := SL.init (n := 8) [Ptr b 0] rfl
 revert hs
 generalize ({ tmps := _,defers := [] } : Act) = a
 intro hs
 have g0 := Ch.refl (fun _ => False) w0
 refine ae (aa ?_)
 refine L hs rfl rfl (ah hs (.inr rfl) rfl) fun a hs => ?_
 refine Le (ae (aa ?_))
 refine L hs rfl rfl (ah hs (.inl rfl) rfl) fun a hs => ?_
 refine L hs rfl rfl (bB hs rfl rfl) fun a hs => ?_
 refine L hs rfl rfl (bE (off := 2) (sz := 7) hs rfl rfl (by kernel_rfl)) fun a hs => ?_
 refine L hs rfl rfl (cY (ag := true) (m := 7) [v2,v3,v4,v5,v6,v7,v8] hs rfl rfl (dT (by kernel_rfl) (by kernel_rfl) rfl) rfl hb0 (oL 2 7 rfl)) fun a hs => ?_
 have q0 := oK (is := [2,3,4,5,6,7,8]) (parts := [some 7]) (kinds := [none]) (Dc : aC Proofs.Tryz.prog aH mv) ⟨rfl,rfl,by kernel_rfl,by kernel_rfl,by kernel_rfl,by kernel_rfl,by kernel_rfl⟩ hld0 hty hcw0 hN
 rw [show dO [some 7] (cS [2,3,4,5,6,7,8] [v0,v1,v2,v3,v4,v5,v6,v7,v8]) = [pk true [v2,v3,v4,v5,v6,v7,v8]] by kernel_rfl,show mv.fn = 14 by kernel_rfl] at q0
 refine Lc hs rfl rfl rfl rfl rfl (by kernel_rfl) q0 fun v w1 a hO hs => ?_
 obtain ⟨c0,us0,rfl,hO0⟩ := hO
 obtain ⟨u0,us1,rfl,hO1⟩ := hO0.skip
 obtain rfl := hO1.nil
 have g1 := g0.trans c0
 have hb1 := c0.at hb0 fun h => h
 have hcw1 := hcw0.ch c0
 have hld1 := hld0.ch c0
 refine Le (ae (aa ?_))
 refine L hs rfl rfl (ah hs (.inr rfl) rfl) fun a hs => ?_
 exact Le (cW (eK hs rfl ⟨g1,.no,⟨none,0,rfl⟩,trivial⟩))
theorem S4 : Body Proofs.Tryz.prog 15 8 [.tmp 2] ((.seq (.region 0 ([⟨(some 2),.assign (.const (.slice none 0 0)),0, "", #[],none⟩] : List Oper).toArray false) (.seq (.region 0 ([⟨(some 3),.move (.tmp 0),0, "", #[],none⟩,⟨(some 4),.nilCheck (.tmp 3),0, "", #[],none⟩,⟨(some 5),.fieldAddr 32 (.tmp 4) 1,0, "", #[],none⟩,⟨(some 6),.load 30 (.tmp 5),0, "", #[],none⟩,⟨(some 7),.call ⟨(.value (.func 16)), #[(.tmp 6)], #[]⟩,0, "", #[],none⟩] : List Oper).toArray false) (.seq (.region 0 ([⟨(some 2),.assign (.const (.slice none 0 0)),0, "", #[],none⟩] : List Oper).toArray false) .ret)))) := aF (by kernel_rfl) (by kernel_rfl)
theorem Oz : kO Proofs.Tryz.prog eF 32 2097152 15 := by
 intro w0 b l0 row hb0 hld0 hcw0 hty hN
 have hl0 : l0.length = 9 := (hcw0.len.trans ((aY _ _).1 hty).1).trans yO.cks
 obtain ⟨v0,l1,rfl,hl1⟩ := aK hl0
 obtain ⟨v1,l2,rfl,hl2⟩ := aK hl1
 obtain ⟨v2,l3,rfl,hl3⟩ := aK hl2
 obtain ⟨v3,l4,rfl,hl4⟩ := aK hl3
 obtain ⟨v4,l5,rfl,hl5⟩ := aK hl4
 obtain ⟨v5,l6,rfl,hl6⟩ := aK hl5
 obtain ⟨v6,l7,rfl,hl7⟩ := aK hl6
 obtain ⟨v7,l8,rfl,hl8⟩ := aK hl7
 obtain ⟨v8,l9,rfl,hl9⟩ := aK hl8
 obtain rfl := List.eq_nil_of_length_eq_zero hl9
 refine bW S4 ?_
 have hs := SL.init (n := 8) [Ptr b 0] rfl
 revert hs
 generalize ({ tmps := _,defers := [] } : Act) = a
 intro hs
 have g0 := Ch.refl (fun _ => False) w0
 refine ae (aa ?_)
 refine L hs rfl rfl (ah hs (.inr rfl) rfl) fun a hs => ?_
 refine Le (ae (aa ?_))
 refine L hs rfl rfl (ah hs (.inl rfl) rfl) fun a hs => ?_
 refine L hs rfl rfl (bB hs rfl rfl) fun a hs => ?_
 refine L hs rfl rfl (bE (off := 2) (sz := 7) hs rfl rfl (by kernel_rfl)) fun a hs => ?_
 refine L hs rfl rfl (cY (ag := true) (m := 7) [v2,v3,v4,v5,v6,v7,v8] hs rfl rfl (dT (by kernel_rfl) (by kernel_rfl) rfl) rfl hb0 (oL 2 7 rfl)) fun a hs => ?_
 have q0 := oK (is := [2,3,4,5,6,7,8]) (parts := [some 7]) (kinds := [none]) (LW : aC Proofs.Tryz.prog aH mz) ⟨rfl,rfl,by kernel_rfl,by kernel_rfl,by kernel_rfl,by kernel_rfl,by kernel_rfl⟩ hld0 hty hcw0 hN
 rw [show dO [some 7] (cS [2,3,4,5,6,7,8] [v0,v1,v2,v3,v4,v5,v6,v7,v8]) = [pk true [v2,v3,v4,v5,v6,v7,v8]] by kernel_rfl,show mz.fn = 16 by kernel_rfl] at q0
 refine Lc hs rfl rfl rfl rfl rfl (by kernel_rfl) q0 fun v w1 a hO hs => ?_
 obtain ⟨c0,us0,rfl,hO0⟩ := hO
 obtain ⟨u0,us1,rfl,hO1⟩ := hO0.skip
 obtain rfl := hO1.nil
 have g1 := g0.trans c0
 have hb1 := c0.at hb0 fun h => h
 have hcw1 := hcw0.ch c0
 have hld1 := hld0.ch c0
 refine Le (ae (aa ?_))
 refine L hs rfl rfl (ah hs (.inr rfl) rfl) fun a hs => ?_
 exact Le (cW (eK hs rfl ⟨g1,.no,⟨none,0,rfl⟩,trivial⟩))
theorem S5 : Body Proofs.Tryz.prog 19 5 [] (A8 20) := aF (by kernel_rfl) (by kernel_rfl)
theorem S6 : Body Proofs.Tryz.prog 17 11 [.tmp 2] ((.seq (.region 0 ([⟨(some 2),.assign (.const (.slice none 0 0)),0, "", #[],none⟩] : List Oper).toArray false) (.seq (.region 0 ([⟨(some 4),.move (.tmp 0),0, "", #[],none⟩,⟨(some 5),.nilCheck (.tmp 4),0, "", #[],none⟩,⟨(some 6),.fieldAddr 32 (.tmp 5) 0,0, "", #[],none⟩,⟨(some 7),.load 25 (.tmp 6),0, "", #[],none⟩,⟨(some 8),.call ⟨(.value (.func 18)), #[(.tmp 7)], #[]⟩,0, "", #[],none⟩,⟨(some 3),.alloc 26,0, "", #[],none⟩,⟨none,.store 26 (.tmp 3) (.tmp 8),0, "", #[],none⟩] : List Oper).toArray false) (.seq (.region 0 ([⟨(some 9),.makeFunc (.func 19) #[] #[(.tmp 3)],0, "", #[],none⟩,⟨(some 10),.buildSlice 37 1 #[(0,(.tmp 9))],0, "", #[],none⟩,⟨(some 2),.assign (.tmp 10),0, "", #[],none⟩] : List Oper).toArray false) .ret)))) := aF (by kernel_rfl) (by kernel_rfl)
theorem OA : kO Proofs.Tryz.prog eF 32 2097152 17 := by
 intro w0 b l0 row hb0 hld0 hcw0 hty hN
 have hl0 : l0.length = 9 := (hcw0.len.trans ((aY _ _).1 hty).1).trans yO.cks
 obtain ⟨v0,l1,rfl,hl1⟩ := aK hl0
 obtain ⟨v1,l2,rfl,hl2⟩ := aK hl1
 obtain ⟨v2,l3,rfl,hl3⟩ := aK hl2
 obtain ⟨v3,l4,rfl,hl4⟩ := aK hl3
 obtain ⟨v4,l5,rfl,hl5⟩ := aK hl4
 obtain ⟨v5,l6,rfl,hl6⟩ := aK hl5
 obtain ⟨v6,l7,rfl,hl7⟩ := aK hl6
 obtain ⟨v7,l8,rfl,hl8⟩ := aK hl7
 obtain ⟨v8,l9,rfl,hl9⟩ := aK hl8
 obtain rfl := List.eq_nil_of_length_eq_zero hl9
 refine bW S6 ?_
 have hs := SL.init (n := 11) [Ptr b 0] rfl
 revert hs
 generalize ({ tmps := _,defers := [] } : Act) = a
 intro hs
 have g0 := Ch.refl (fun _ => False) w0
 refine ae (aa ?_)
 refine L hs rfl rfl (ah hs (.inr rfl) rfl) fun a hs => ?_
 refine Le (ae (aa ?_))
 refine L hs rfl rfl (ah hs (.inl rfl) rfl) fun a hs => ?_
 refine L hs rfl rfl (bB hs rfl rfl) fun a hs => ?_
 refine L hs rfl rfl (bE (off := 0) (sz := 2) hs rfl rfl (by kernel_rfl)) fun a hs => ?_
 refine L hs rfl rfl (cY (ag := true) (m := 2) [v0,v1] hs rfl rfl (dT (by kernel_rfl) (by kernel_rfl) rfl) rfl hb0 (oL 0 2 rfl)) fun a hs => ?_
 have q0 := oK (is := [0,1]) (parts := [some 2]) (kinds := [some (false,[.sl 9])]) (Ot : aC Proofs.Tryz.prog aH oS) ⟨rfl,rfl,by kernel_rfl,by kernel_rfl,by kernel_rfl,by kernel_rfl,by kernel_rfl⟩ hld0 hty hcw0 hN
 rw [show dO [some 2] (cS [0,1] [v0,v1,v2,v3,v4,v5,v6,v7,v8]) = [pk true [v0,v1]] by kernel_rfl,show oS.fn = 18 by kernel_rfl] at q0
 refine Lc hs rfl rfl rfl rfl rfl (by kernel_rfl) q0 fun v w1 a hO hs => ?_
 obtain ⟨c0,us0,rfl,hO0⟩ := hO
 obtain ⟨rr0,uu0,us1,rfl,cw0_1,wt0,hO1⟩ := hO0.take
 have sz0 := g0.size
 have cw0_1 := cw0_1.down sz0
 obtain rfl := hO1.nil
 have g1 := g0.trans c0
 have hb1 := c0.at hb0 fun h => h
 have hcw1 := hcw0.ch c0
 have hld1 := hld0.ch c0
 refine L hs rfl rfl (ji (sz := 1) (zs := [.slice none 0 0]) rfl (fe (by kernel_rfl) rfl rfl)) fun a hs => ?_
 have hl0 : uu0.length = 1 := (cw0_1.len.trans ((aY _ _).1 wt0).1)
 refine Ls hs rfl rfl (kM (ag := false) (m := 1) uu0 hs rfl rfl rfl (dT (by kernel_rfl) (by kernel_rfl) rfl) hl0 cw0_1.one (heap_alloc_new _ _) (by simp)) fun hs => ?_
 obtain ⟨c1,bx0_2⟩ := tF (T := 26) (zs := [.slice none 0 0]) (us := uu0) w1 hl0
 have lo0 := g1.size
 generalize hbn0 : w1.heap.size = bn0 at *
 generalize (World.setRow _ bn0 _) = w2 at *
 have g2 := g1.trans c1
 have hb2 := c1.at hb1 fun h => h
 have hcw2 := hcw1.ch c1
 have hld2 := hld1.ch c1
 have cw0_2 := cw0_1.ch c1
 refine Le (ae (aa ?_))
 refine L hs rfl rfl (MG hs rfl rfl rfl) fun a hs => ?_
 refine L hs rfl rfl (gU (e := 44) (z := .nilFunc) (v := clo 19 bn0) hs rfl rfl (by kernel_rfl) (db (by kernel_rfl) (by kernel_rfl) rfl) rfl) fun a hs => ?_
 have c2 := Ch.alloc (fun _ => False) w2 (.cells #[clo 19 bn0] 44)
 have hbl3 := heap_alloc_new w2 (.cells #[clo 19 bn0] 44)
 have ll2 := g2.size
 generalize hbm : w2.heap.size = bl at *
 generalize w2.alloc (.cells #[clo 19 bn0] 44) = w3 at *
 have g3 := g2.trans c2
 have hb3 := c2.at hb2 fun h => h
 have hcw3 := hcw2.ch c2
 have hld3 := hld2.ch c2
 have bx0_3 := c2.at bx0_2 fun h => h
 have cw0_3 := cw0_2.ch c2
 refine L hs rfl rfl (ah hs (.inr rfl) rfl) fun a hs => ?_
 exact Le (cW (eK hs rfl ⟨g3,.one 19 20 bn0,⟨bl,_,rfl,hbl3⟩,S5,fun _ h => by cases h; omega,lo0,L4,rr0,uu0,_,(by kernel_rfl),(by decide),bx0_3,cw0_3,wt0,by kernel_rfl⟩))
theorem calls : ∀ C ∈ ([7,11,13,15,17] : List FuncId),aE Proofs.Tryz.prog C = true ∧ kO Proofs.Tryz.prog eF 32 2097152 C := (List.forall_mem_cons.2 ⟨⟨by kernel_rfl,QM⟩,(List.forall_mem_cons.2 ⟨⟨by kernel_rfl,Ox⟩,(List.forall_mem_cons.2 ⟨⟨by kernel_rfl,Oy⟩,(List.forall_mem_cons.2 ⟨⟨by kernel_rfl,Oz⟩,(List.forall_mem_cons.2 ⟨⟨by kernel_rfl,OA⟩,(by simp)⟩)⟩)⟩)⟩)⟩)
theorem walk : ∀ (w : World) (xs : List Value) (row : List PV),dq Proofs.Tryz.prog w → dx Proofs.Tryz.prog w (cks Proofs.Tryz.prog 32) xs row → rz row ≤ 2097152 → Ret Proofs.Tryz.prog 3 [.agg xs.toArray] w fun v w' => v = .bool true ∧ Ch (fun _ => False) w w' :=
 NC kit RY yO Rn (S := 6) (rS := r_6) (by kernel_rfl) (by kernel_rfl) Ry (W := 5) (rO := o_5) (by kernel_rfl) (by kernel_rfl) (by kernel_rfl) (by kernel_rfl) (by kernel_rfl) SU SW SY SX b_4 b_3 rfl rfl calls (by kernel_rfl) fun w' hl => KM (Jp : aC Proofs.Tryz.prog aH ng) rfl w' hl
end Go.TL.H.prep
namespace Go.Proofs.YtajkchpnbnbmfaaGreatDoor.prep
open Go Go.ChangeShapes Go.WideShapes Go.ChangeAt Go.RowKit Go.TL.H Go.TL.H.prep
theorem blk (H : Type) : Blk H Rows.uptoBulk Rows.uptoBulkAll where
 str l := by simp [Rows.uptoBulk]
 one d := by
  cases d <;> (try unfold Rows.uptoBulk) <;> (try omega)
  rename_i l
  cases l <;> simp
 sl x y := by simp [Rows.uptoBulk]
 agg x := by simp [Rows.uptoBulk]
 nil := by simp [Rows.uptoBulkAll]
 cons x r := by simp [Rows.uptoBulkAll]
theorem own : ownKnob Proofs.Tryz.prog.godebug = none := by kernel_rfl
theorem Mc (H : Type) (enc : TypeId × Value → H) (W : World) (hla : dq Proofs.Tryz.prog W) (base : Nat) (args : Array Value) (ds gs : List (DataW H)) (before : List MemPlace)
  (hval : ∀ (j : Nat) t v,Tryz.f3.params[j]? = some t → args[j]? = some v → Value.okWide Proofs.Tryz.prog W .any base t v)
  (hW : DataW.Whole enc Proofs.Tryz.prog Tryz.f3.params.toList Rows.topSharedPrepSpec.vars false W args.toList ds gs before) (hk : Rows.uptoBulkAll (ds ++ gs) ≤ 1048576) :
  Calls Proofs.Tryz.prog 3 args W fun e W' => ∃ v,e = .returned v ∧ Rows.topSharedPrepSpec.post enc Proofs.Tryz.prog Tryz.f3 false true false false W args v W' :=
 DL (E := (· ∈ SR)) (blk H) (T := 32) (tb := 4) rfl rfl rfl (fun _ => rfl) (by kernel_rfl) (show Proofs.Tryz.prog.underlying 32 = some (.struct (match Proofs.Tryz.prog.underlying 32 with | some (.struct fs) => fs | _ => #[])) by kernel_rfl) (by kernel_rfl) (by kernel_rfl) (of_decide_eq_true (by kernel_rfl)) (by kernel_rfl) (Ra (by kernel_rfl)) (Rb (by kernel_rfl)) walk W hla base args ds gs before hval hW hk
noncomputable def lw (os : Os) : World := zP Proofs.Tryz.prog os Rows.topSharedPrepUptoRow.laid
theorem Md (os : Os) : laidMet Proofs.Tryz.prog Rows.topSharedPrepUptoRow.laid ((lw os).forCall (fun _ _ => 0) ⟨#[], #[.agg #[.slice none 0 0,.slice none 0 0,.int .i64 0,.string ⟨#[]⟩,.int .i64 0,.slice none 0 0,.slice none 0 0,.slice none 0 0,.slice none 0 0]],[]⟩).memory :=
 laidMet_of_run' 8 (by kernel_rfl) (by kernel_rfl)
theorem reads (os : Os) {H : Type} (enc : TypeId × Value → H) : ∃ places,DataW.whole enc Proofs.Tryz.prog ((lw os).forCall (fun _ _ => 0) ⟨#[], #[.agg #[.slice none 0 0,.slice none 0 0,.int .i64 0,.string ⟨#[]⟩,.int .i64 0,.slice none 0 0,.slice none 0 0,.slice none 0 0,.slice none 0 0]],[]⟩).memory Tryz.f3.params.toList Rows.topSharedPrepSpec.vars false #[.agg #[.slice none 0 0,.slice none 0 0,.int .i64 0,.string ⟨#[]⟩,.int .i64 0,.slice none 0 0,.slice none 0 0,.slice none 0 0,.slice none 0 0]].toList 8 = some ([.agg [.agg [.nil,.nil],.agg [.lit (.int .i64 0),.lit (.string []),.lit (.int .i64 0),.nil,.nil,.nil,.nil]]],[],places) :=
 ⟨[],by kernel_rfl⟩
set_option maxRecDepth 100000 in
theorem lifted (os : Os) (started : os.Started) (H : Type) (enc : TypeId × Value → H) (F : Stop.Interp) :
  ReturnsInHanded {} Tryz.checked os 3 .any ((Rows.OpenSpec.upto Rows.topSharedPrepSpec).preRow enc Proofs.Tryz.prog Tryz.f3 Rows.topSharedPrepUptoRow.domain false Rows.topSharedPrepUptoRow.laid) (((Rows.OpenSpec.upto Rows.topSharedPrepSpec).at F).post enc Proofs.Tryz.prog Tryz.f3 false true false false) := by
 obtain ⟨places,hx⟩ := reads os enc
 refine returnsInHanded_of_row (C := Tryz.checked) (s := (Rows.OpenSpec.upto Rows.topSharedPrepSpec)) own started (by kernel_rfl) Tryz.func3
  (witness_row_at (enc := enc) (C := Tryz.checked) false (lw os) #[.agg #[.slice none 0 0,.slice none 0 0,.int .i64 0,.string ⟨#[]⟩,.int .i64 0,.slice none 0 0,.slice none 0 0,.slice none 0 0,.slice none 0 0]] rfl (by kernel_rfl) (by kernel_rfl) (by kernel_rfl)
   (OpenSpec.preRow_of_cond 8 hx (by kernel_rfl) (fun k hk => by cases hk; kernel_rfl) (by kernel_rfl) (Md os))) ?_
 intro W base args ds gs before hval hW _ hcond _ hL _ _
 exact Mc H enc W (LY (g := ((Proofs.Tryz.prog.globalNamed "internal/strconv.uint64pow10").getD 0)) (t := (((Proofs.Tryz.prog.globals[((Proofs.Tryz.prog.globalNamed "internal/strconv.uint64pow10").getD 0)]?).map (·.type)).getD 0)) (e := (match Proofs.Tryz.prog.underlying (((Proofs.Tryz.prog.globals[((Proofs.Tryz.prog.globalNamed "internal/strconv.uint64pow10").getD 0)]?).map (·.type)).getD 0) with | some (.array _ e) => e | _ => 0)) (by kernel_rfl) (by kernel_rfl) (by kernel_rfl) (by kernel_rfl) (by kernel_rfl) (by kernel_rfl) (by kernel_rfl) hL) base args ds gs before hval hW (of_decide_eq_true (hcond _ rfl))
theorem over : Rows.topSharedPrepUptoRow.holds Tryz.pinned (Rows.OpenSpec.upto Rows.topSharedPrepSpec) :=
 OpenClaim.holds_of_cond 3 Tryz.f3 rfl rfl rfl rfl rfl rfl rfl ⟨rfl,rfl,rfl,rfl,rfl⟩ rfl rfl rfl rfl rfl (by kernel_rfl) Tryz.func3 (by kernel_rfl)
  (of_decide_eq_true (by kernel_rfl)) (by unfold Func.isWrapper; first | (rw [if_pos (by decide +kernel)]; kernel_rfl) | (rw [if_neg (by decide +kernel)]; exact ⟨rfl,rfl⟩))
  (fun os started H enc _ F => by rw [OpenClaim.pre_eq_preRow]; exact lifted os started H enc F)
theorem plain (f : FuncId) (fn : Func) (hf : Tryz.pinned.checked.prog.funcNamed Rows.topSharedPrepUptoRow.func = some f) (hfn : Tryz.pinned.checked.prog.funcs[f]? = some fn) :
  Rows.topSharedPrepUptoCard.stood.looks = Tryz.pinned.checked.prog.looks [] ∧ ∀ (j : Nat) t,fn.params[j]? = some t → Tryz.pinned.checked.prog.wantsStandIn t = false := by
 obtain rfl : f = 3 := (Option.some.inj ((show Proofs.Tryz.prog.funcNamed Rows.topSharedPrepUptoRow.func = some 3 by kernel_rfl).symm.trans hf)).symm
 obtain rfl : fn = Tryz.f3 := (Option.some.inj (Tryz.func3.symm.trans hfn)).symm
 refine ⟨by kernel_rfl,fun j t ht => ?_⟩
 rw [show Tryz.f3.params = #[32] from rfl] at ht
 obtain rfl : t = 32 := by simpa using Array.mem_of_getElem? ht
 exact (show Proofs.Tryz.prog.wantsStandIn 32 = false by kernel_rfl)
theorem proved : Rows.TopSharedPrepUptoCardSaid :=
 Claim7.holds_tied_plain_at .later [] _ _ _ _ over (fun _ h => by cases h) (by kernel_rfl) (fun _ h => by cases h) topSharedPrepUpto_row_tie rfl ⟨rfl,rfl⟩ (by kernel_rfl) rfl plain (by kernel_rfl)
end Go.Proofs.YtajkchpnbnbmfaaGreatDoor.prep
