/- For every input that holds at most 1048576 values and letters TopSharedCore returns true, and its argument reads behind the call as it read before. Conditions: those of the row. -/
import Derived.Test.YtpoamlpahljebaaGreatDoorW26
import Derived.Test.YtpoamlpahljebaaGreatDoorW32
import Derived.Test.YtpoamlpahljebaaGreatDoorRows
import Derived.OpenShut
import Derived.WalkKit
import Derived.ProofKit
import Derived.JoinedCond
import Derived.Test.YtpoamlpahljebaaGreatDoorW33
import Derived.Test.YtpoamlpahljebaaGreatDoorCards
import Derived.Test.YtpoamlpahljebaaGreatDoorTie
import Derived.SevenTiedAt
import Derived.Deep.DeepHandedRow
set_option maxRecDepth 100000
namespace Go.TL.H.core
open Go Go.TL.Gcore
abbrev tyY:TY:=⟨64,3,4,9,62,26,5,123⟩
abbrev tyZ:TZ:=⟨65,37,49⟩
theorem kit:Kit Proofs.Tryz.prog tyY where
 mixed:=by kernel_rfl
 e0:=by kernel_rfl
 e1:=by kernel_rfl
 e2:=by kernel_rfl
 e3:=by kernel_rfl
 e4:=by kernel_rfl
 i:=fb (by kernel_rfl) (by kernel_rfl) rfl
 b:=fb (by kernel_rfl) (by kernel_rfl) rfl
 s:=fb (by kernel_rfl) (by kernel_rfl) rfl
 nl:=fb (by kernel_rfl) (by kernel_rfl) rfl
 ss:=fb (by kernel_rfl) (by kernel_rfl) rfl
 by':=fb (by kernel_rfl) (by kernel_rfl) rfl
 i16:=Iy (by kernel_rfl)
 s16:=Iy (by kernel_rfl)
 iU:=by kernel_rfl
 bU:=by kernel_rfl
 sU:=by kernel_rfl
 nlU:=by kernel_rfl
 ssU:=by kernel_rfl
 byU:=by kernel_rfl
 blU:=by kernel_rfl
 eB:=Wa (by kernel_rfl) (by kernel_rfl)
theorem YT:AE Proofs.Tryz.prog tyY tyZ:=⟨by kernel_rfl,by kernel_rfl,fb (by kernel_rfl) (by kernel_rfl) rfl⟩
theorem qo:AI Proofs.Tryz.prog tyY tyZ 32 59 40 37 [.slice none 0 0,.slice none 0 0,.int .i64 0,.string ⟨#[]⟩,.int .i64 0,.slice none 0 0,.slice none 0 0,.slice none 0 0,.slice none 0 0,.slice none 0 0,.int .i64 0,.string ⟨#[]⟩,.int .i64 0,.slice none 0 0,.slice none 0 0,.slice none 0 0,.slice none 0 0,.int .i64 0,.string ⟨#[]⟩,.int .i64 0,.slice none 0 0,.slice none 0 0,.slice none 0 0,.slice none 0 0,.slice none 0 0,.slice none 0 0,.slice none 0 0,.slice none 0 0,.string ⟨#[]⟩,.int .i64 0,.string ⟨#[]⟩,.int .i64 0,.slice none 0 0,.slice none 0 0,.slice none 0 0,.slice none 0 0,.string ⟨#[]⟩]where
 bu1:=by kernel_rfl
 bu2:=by kernel_rfl
 bu3:=fun _=>by kernel_rfl
 lcU:=by kernel_rfl
 ct:=fb (by kernel_rfl) (by kernel_rfl) rfl
 tp:=du (by kernel_rfl) (by kernel_rfl) rfl
 el:=ic (by kernel_rfl) rfl rfl
 cks:=by kernel_rfl
 small:=by decide
def RY:Row:=⟨.via 22 75 76 96 4,[.sl 96],true,0⟩
def Xj:Row:=⟨.via 23 98 99 84 8,[.sl 84],true,0⟩
def Xk:Row:=⟨.st 25 [(0,0,32),(1,1,68)],[.sl 96,.sl 84],true,1⟩
def Xl:Row:=⟨.num 3,[.int .i64],true,0⟩
def RZ:Row:=⟨.str,[.str],false,0⟩
def Xm:Row:=⟨.num 2,[.int .i64],true,0⟩
def R0:Row:=⟨.via 26 63 45 9 1,[.sl 9],true,0⟩
def Xn:Row:=⟨.via 27 100 24 30 7,[.sl 30],true,0⟩
def Xo:Row:=⟨.via 28 101 102 152 11,[.sl 152],true,0⟩
def IZ:Row:=⟨.st 30 [(0,0,66),(1,1,45),(2,2,67),(3,3,20),(4,4,68),(5,5,69),(6,6,70)],[.int .i64,.str,.int .i64,.sl 9,.sl 84,.sl 30,.sl 152],true,1⟩
def r_6:Row:=⟨.st 32 [(0,0,44),(1,2,24),(2,9,20),(3,10,24),(4,17,24),(5,24,44),(6,26,44),(7,28,45),(8,29,24),(9,36,45)],[.sl 96,.sl 84,.int .i64,.str,.int .i64,.sl 9,.sl 84,.sl 30,.sl 152,.sl 9,.int .i64,.str,.int .i64,.sl 9,.sl 84,.sl 30,.sl 152,.int .i64,.str,.int .i64,.sl 9,.sl 84,.sl 30,.sl 152,.sl 96,.sl 84,.sl 96,.sl 84,.str,.int .i64,.str,.int .i64,.sl 9,.sl 84,.sl 30,.sl 152,.str],true,2⟩
def R3:Row:=⟨.st 96 [(0,0,45),(1,1,66),(2,2,45),(3,3,66)],[.str,.int .i64,.str,.int .i64],true,1⟩
def R4:Row:=⟨.st 84 [(0,0,45),(1,1,24)],[.str,.int .i64,.str,.int .i64,.sl 9,.sl 84,.sl 30,.sl 152],true,2⟩
def Ng:Row:=⟨.st 152 [(0,0,66),(1,1,45),(2,2,67),(3,3,20),(4,4,24)],[.int .i64,.str,.int .i64,.sl 9,.int .i64,.str,.int .i64,.sl 9,.sl 84,.sl 30,.sl 152],true,2⟩
def fE:eZ:=[(32,RY),(68,Xj),(44,Xk),(66,Xl),(45,RZ),(67,Xm),(20,R0),(69,Xn),(70,Xo),(24,IZ),(6,r_6),(76,R3),(99,R4),(102,Ng)]
theorem YU:Body Proofs.Tryz.prog 32 9 [] (AD 22 75 76):=aM (by kernel_rfl) (by kernel_rfl)
theorem YV:Body Proofs.Tryz.prog 75 46 [] (xL tyY 22):=aM (by kernel_rfl) (by kernel_rfl)
theorem YW:Fit Proofs.Tryz.prog tyY fE 32 RY:=ve (r1:=R3) YU YV (by kernel_rfl) (by kernel_rfl) (fb (by kernel_rfl) (by kernel_rfl) rfl) (by kernel_rfl) (by kernel_rfl) (by kernel_rfl) (by kernel_rfl) (by kernel_rfl) (by kernel_rfl)
theorem YX:Body Proofs.Tryz.prog 68 9 [] (AD 23 98 99):=aM (by kernel_rfl) (by kernel_rfl)
theorem YY:Body Proofs.Tryz.prog 98 46 [] (xL tyY 23):=aM (by kernel_rfl) (by kernel_rfl)
theorem YZ:Fit Proofs.Tryz.prog tyY fE 68 Xj:=ve (r1:=R4) YX YY (by kernel_rfl) (by kernel_rfl) (fb (by kernel_rfl) (by kernel_rfl) rfl) (by kernel_rfl) (by kernel_rfl) (by kernel_rfl) (by kernel_rfl) (by kernel_rfl) (by kernel_rfl)
theorem Y0:Body Proofs.Tryz.prog 44 14 [] (stC 25 4 [(0,0,32),(1,1,68)]):=aM (by kernel_rfl) (by kernel_rfl)
theorem Y3:Fit Proofs.Tryz.prog tyY fE 44 Xk:=vd Y0 (by kernel_rfl) (by kernel_rfl) (by kernel_rfl)
theorem Y4:Body Proofs.Tryz.prog 66 33 [] (GP tyY 3):=aM (by kernel_rfl) (by kernel_rfl)
theorem Y5:Fit Proofs.Tryz.prog tyY fE 66 Xl:=Kt Y4 (show One Proofs.Tryz.prog 3 (.int .i64 0)from fb (by kernel_rfl) (by kernel_rfl) rfl)
theorem Y6:Body Proofs.Tryz.prog 45 49 [] (K0 tyY):=aM (by kernel_rfl) (by kernel_rfl)
theorem Y7:Fit Proofs.Tryz.prog tyY fE 45 RZ:=TM Y6
theorem Y8:Body Proofs.Tryz.prog 67 33 [] (GP tyY 2):=aM (by kernel_rfl) (by kernel_rfl)
theorem Y9:Fit Proofs.Tryz.prog tyY fE 67 Xm:=Kt Y8 (show One Proofs.Tryz.prog 2 (.int .i64 0)from fb (by kernel_rfl) (by kernel_rfl) rfl)
theorem Za:Body Proofs.Tryz.prog 20 9 [] (AD 26 63 45):=aM (by kernel_rfl) (by kernel_rfl)
theorem Zb:Body Proofs.Tryz.prog 63 46 [] (xL tyY 26):=aM (by kernel_rfl) (by kernel_rfl)
theorem Zc:Fit Proofs.Tryz.prog tyY fE 20 R0:=ve (r1:=RZ) Za Zb (by kernel_rfl) (by kernel_rfl) (fb (by kernel_rfl) (by kernel_rfl) rfl) (by kernel_rfl) (by kernel_rfl) (by kernel_rfl) (by kernel_rfl) (by kernel_rfl) (by kernel_rfl)
theorem Zd:Body Proofs.Tryz.prog 69 9 [] (AD 27 100 24):=aM (by kernel_rfl) (by kernel_rfl)
theorem Yg:Body Proofs.Tryz.prog 100 46 [] (xL tyY 27):=aM (by kernel_rfl) (by kernel_rfl)
theorem Ze:Fit Proofs.Tryz.prog tyY fE 69 Xn:=ve (r1:=IZ) Zd Yg (by kernel_rfl) (by kernel_rfl) (fb (by kernel_rfl) (by kernel_rfl) rfl) (by kernel_rfl) (by kernel_rfl) (by kernel_rfl) (by kernel_rfl) (by kernel_rfl) (by kernel_rfl)
theorem Zf:Body Proofs.Tryz.prog 70 9 [] (AD 28 101 102):=aM (by kernel_rfl) (by kernel_rfl)
theorem Yh:Body Proofs.Tryz.prog 101 46 [] (xL tyY 28):=aM (by kernel_rfl) (by kernel_rfl)
theorem Zg:Fit Proofs.Tryz.prog tyY fE 70 Xo:=ve (r1:=Ng) Zf Yh (by kernel_rfl) (by kernel_rfl) (fb (by kernel_rfl) (by kernel_rfl) rfl) (by kernel_rfl) (by kernel_rfl) (by kernel_rfl) (by kernel_rfl) (by kernel_rfl) (by kernel_rfl)
theorem Zh:Body Proofs.Tryz.prog 24 39 [] (stC 30 4 [(0,0,66),(1,1,45),(2,2,67),(3,3,20),(4,4,68),(5,5,69),(6,6,70)]):=aM (by kernel_rfl) (by kernel_rfl)
theorem Zi:Fit Proofs.Tryz.prog tyY fE 24 IZ:=vd Zh (by kernel_rfl) (by kernel_rfl) (by kernel_rfl)
theorem b_6:Body Proofs.Tryz.prog 6 54 [] (stC 32 4 [(0,0,44),(1,2,24),(2,9,20),(3,10,24),(4,17,24),(5,24,44),(6,26,44),(7,28,45),(8,29,24),(9,36,45)]):=aM (by kernel_rfl) (by kernel_rfl)
theorem f_6:Fit Proofs.Tryz.prog tyY fE 6 r_6:=vd b_6 (by kernel_rfl) (by kernel_rfl) (by kernel_rfl)
theorem Zj:Body Proofs.Tryz.prog 76 24 [] (stC 96 4 [(0,0,45),(1,1,66),(2,2,45),(3,3,66)]):=aM (by kernel_rfl) (by kernel_rfl)
theorem Zk:Fit Proofs.Tryz.prog tyY fE 76 R3:=vd Zj (by kernel_rfl) (by kernel_rfl) (by kernel_rfl)
theorem Zl:Body Proofs.Tryz.prog 99 14 [] (stC 84 4 [(0,0,45),(1,1,24)]):=aM (by kernel_rfl) (by kernel_rfl)
theorem Zm:Fit Proofs.Tryz.prog tyY fE 99 R4:=vd Zl (by kernel_rfl) (by kernel_rfl) (by kernel_rfl)
theorem Yi:Body Proofs.Tryz.prog 102 29 [] (stC 152 4 [(0,0,66),(1,1,45),(2,2,67),(3,3,20),(4,4,24)]):=aM (by kernel_rfl) (by kernel_rfl)
theorem Yj:Fit Proofs.Tryz.prog tyY fE 102 Ng:=vd Yi (by kernel_rfl) (by kernel_rfl) (by kernel_rfl)
theorem Yk:pC Proofs.Tryz.prog tyY fE:=Wb (List.forall_mem_cons.2 ⟨YW,(List.forall_mem_cons.2 ⟨YZ,(List.forall_mem_cons.2 ⟨Y3,(List.forall_mem_cons.2 ⟨Y5,(List.forall_mem_cons.2 ⟨Y7,(List.forall_mem_cons.2 ⟨Y9,(List.forall_mem_cons.2 ⟨Zc,(List.forall_mem_cons.2 ⟨Ze,(List.forall_mem_cons.2 ⟨Zg,(List.forall_mem_cons.2 ⟨Zi,(List.forall_mem_cons.2 ⟨f_6,(List.forall_mem_cons.2 ⟨Zk,(List.forall_mem_cons.2 ⟨Zm,(List.forall_mem_cons.2 ⟨Yj,(by simp)⟩)⟩)⟩)⟩)⟩)⟩)⟩)⟩)⟩)⟩)⟩)⟩)⟩)⟩)
def Xp:gd:=⟨.cp 22 96 4 [.string ⟨#[]⟩,.int .i64 0,.string ⟨#[]⟩,.int .i64 0],0⟩
def Xq:gd:=⟨.ls 23 84 8 true [.string ⟨#[]⟩,.int .i64 0,.string ⟨#[]⟩,.int .i64 0,.slice none 0 0,.slice none 0 0,.slice none 0 0,.slice none 0 0] 112 113,0⟩
def Xr:gd:=⟨.st 25 2 [.slice none 0 0,.slice none 0 0] [⟨0,0,1,22,false,79⟩,⟨1,1,1,23,false,80⟩],1⟩
def Xs:gd:=⟨.cp 26 9 1 [.string ⟨#[]⟩],0⟩
def Xt:gd:=⟨.ls 27 30 7 true [.int .i64 0,.string ⟨#[]⟩,.int .i64 0,.slice none 0 0,.slice none 0 0,.slice none 0 0,.slice none 0 0] 114 42,0⟩
def Xu:gd:=⟨.ls 28 152 11 true [.int .i64 0,.string ⟨#[]⟩,.int .i64 0,.slice none 0 0,.int .i64 0,.string ⟨#[]⟩,.int .i64 0,.slice none 0 0,.slice none 0 0,.slice none 0 0,.slice none 0 0] 115 116,0⟩
def R5:gd:=⟨.st 30 7 [.int .i64 0,.string ⟨#[]⟩,.int .i64 0,.slice none 0 0,.slice none 0 0,.slice none 0 0,.slice none 0 0] [⟨3,3,1,26,false,43⟩,⟨4,4,1,23,false,80⟩,⟨5,5,1,27,false,81⟩,⟨6,6,1,28,false,82⟩],1⟩
def o_5:gd:=⟨.st 32 37 [.slice none 0 0,.slice none 0 0,.int .i64 0,.string ⟨#[]⟩,.int .i64 0,.slice none 0 0,.slice none 0 0,.slice none 0 0,.slice none 0 0,.slice none 0 0,.int .i64 0,.string ⟨#[]⟩,.int .i64 0,.slice none 0 0,.slice none 0 0,.slice none 0 0,.slice none 0 0,.int .i64 0,.string ⟨#[]⟩,.int .i64 0,.slice none 0 0,.slice none 0 0,.slice none 0 0,.slice none 0 0,.slice none 0 0,.slice none 0 0,.slice none 0 0,.slice none 0 0,.string ⟨#[]⟩,.int .i64 0,.string ⟨#[]⟩,.int .i64 0,.slice none 0 0,.slice none 0 0,.slice none 0 0,.slice none 0 0,.string ⟨#[]⟩] [⟨0,0,2,25,true,41⟩,⟨1,2,7,30,true,42⟩,⟨2,9,1,26,false,43⟩,⟨3,10,7,30,true,42⟩,⟨4,17,7,30,true,42⟩,⟨5,24,2,25,true,41⟩,⟨6,26,2,25,true,41⟩,⟨8,29,7,30,true,42⟩],2⟩
def Nh:gd:=⟨.st 84 8 [.string ⟨#[]⟩,.int .i64 0,.string ⟨#[]⟩,.int .i64 0,.slice none 0 0,.slice none 0 0,.slice none 0 0,.slice none 0 0] [⟨1,1,7,30,true,42⟩],2⟩
def Ni:gd:=⟨.st 152 11 [.int .i64 0,.string ⟨#[]⟩,.int .i64 0,.slice none 0 0,.int .i64 0,.string ⟨#[]⟩,.int .i64 0,.slice none 0 0,.slice none 0 0,.slice none 0 0,.slice none 0 0] [⟨3,3,1,26,false,43⟩,⟨4,4,7,30,true,42⟩],2⟩
def qp:xM:=[(79,Xp),(80,Xq),(41,Xr),(43,Xs),(81,Xt),(82,Xu),(42,R5),(5,o_5),(113,Nh),(116,Ni)]
theorem Zo:Body Proofs.Tryz.prog 79 9 [.tmp 2] (gV tyY 22):=aM (by kernel_rfl) (by kernel_rfl)
theorem Yl:jI Proofs.Tryz.prog tyY qp 79 Xp:=Kv Zo (by kernel_rfl) (ic (by kernel_rfl) rfl rfl) (by kernel_rfl) (by kernel_rfl) (by kernel_rfl) (by kernel_rfl)
theorem Ym:Body Proofs.Tryz.prog 112 9 [.tmp 2] (gV tyY 23):=aM (by kernel_rfl) (by kernel_rfl)
theorem Zp:Body Proofs.Tryz.prog 80 21 [.tmp 2] (uo tyY 23 84 112 113):=aM (by kernel_rfl) (by kernel_rfl)
theorem Yn:jI Proofs.Tryz.prog tyY qp 80 Xq:=Es (r1:=Nh) Zp Ym (by kernel_rfl) (ic (by kernel_rfl) rfl rfl) (by kernel_rfl) (by kernel_rfl) (by kernel_rfl) (by kernel_rfl) (by kernel_rfl) (by kernel_rfl) (by kernel_rfl) (by kernel_rfl) (by kernel_rfl) (by kernel_rfl)
theorem Zq:Body Proofs.Tryz.prog 41 12 [.cell 2 25] (pS 25 [⟨0,0,1,22,false,79⟩,⟨1,1,1,23,false,80⟩]):=aM (by kernel_rfl) (by kernel_rfl)
theorem Yo:jI Proofs.Tryz.prog tyY qp 41 Xr:=vf Zq (ic (by kernel_rfl) rfl rfl) (by kernel_rfl) (by kernel_rfl) (by kernel_rfl) (by kernel_rfl) (by kernel_rfl) (by kernel_rfl)
theorem Zr:Body Proofs.Tryz.prog 43 9 [.tmp 2] (gV tyY 26):=aM (by kernel_rfl) (by kernel_rfl)
theorem Yp:jI Proofs.Tryz.prog tyY qp 43 Xs:=Kv Zr (by kernel_rfl) (ic (by kernel_rfl) rfl rfl) (by kernel_rfl) (by kernel_rfl) (by kernel_rfl) (by kernel_rfl)
theorem Yq:Body Proofs.Tryz.prog 114 9 [.tmp 2] (gV tyY 27):=aM (by kernel_rfl) (by kernel_rfl)
theorem Zs:Body Proofs.Tryz.prog 81 21 [.tmp 2] (uo tyY 27 30 114 42):=aM (by kernel_rfl) (by kernel_rfl)
theorem Yr:jI Proofs.Tryz.prog tyY qp 81 Xt:=Es (r1:=R5) Zs Yq (by kernel_rfl) (ic (by kernel_rfl) rfl rfl) (by kernel_rfl) (by kernel_rfl) (by kernel_rfl) (by kernel_rfl) (by kernel_rfl) (by kernel_rfl) (by kernel_rfl) (by kernel_rfl) (by kernel_rfl) (by kernel_rfl)
theorem Ys:Body Proofs.Tryz.prog 115 9 [.tmp 2] (gV tyY 28):=aM (by kernel_rfl) (by kernel_rfl)
theorem Zt:Body Proofs.Tryz.prog 82 21 [.tmp 2] (uo tyY 28 152 115 116):=aM (by kernel_rfl) (by kernel_rfl)
theorem Yt:jI Proofs.Tryz.prog tyY qp 82 Xu:=Es (r1:=Ni) Zt Ys (by kernel_rfl) (ic (by kernel_rfl) rfl rfl) (by kernel_rfl) (by kernel_rfl) (by kernel_rfl) (by kernel_rfl) (by kernel_rfl) (by kernel_rfl) (by kernel_rfl) (by kernel_rfl) (by kernel_rfl) (by kernel_rfl)
theorem Zu:Body Proofs.Tryz.prog 42 20 [.cell 2 30] (pS 30 [⟨3,3,1,26,false,43⟩,⟨4,4,1,23,false,80⟩,⟨5,5,1,27,false,81⟩,⟨6,6,1,28,false,82⟩]):=aM (by kernel_rfl) (by kernel_rfl)
theorem Yu:jI Proofs.Tryz.prog tyY qp 42 R5:=vf Zu (ic (by kernel_rfl) rfl rfl) (by kernel_rfl) (by kernel_rfl) (by kernel_rfl) (by kernel_rfl) (by kernel_rfl) (by kernel_rfl)
theorem b_5:Body Proofs.Tryz.prog 5 36 [.cell 2 32] (pS 32 [⟨0,0,2,25,true,41⟩,⟨1,2,7,30,true,42⟩,⟨2,9,1,26,false,43⟩,⟨3,10,7,30,true,42⟩,⟨4,17,7,30,true,42⟩,⟨5,24,2,25,true,41⟩,⟨6,26,2,25,true,41⟩,⟨8,29,7,30,true,42⟩]):=aM (by kernel_rfl) (by kernel_rfl)
theorem Zv:jI Proofs.Tryz.prog tyY qp 5 o_5:=vf b_5 (ic (by kernel_rfl) rfl rfl) (by kernel_rfl) (by kernel_rfl) (by kernel_rfl) (by kernel_rfl) (by kernel_rfl) (by kernel_rfl)
theorem Yv:Body Proofs.Tryz.prog 113 8 [.cell 2 84] (pS 84 [⟨1,1,7,30,true,42⟩]):=aM (by kernel_rfl) (by kernel_rfl)
theorem Xv:jI Proofs.Tryz.prog tyY qp 113 Nh:=vf Yv (ic (by kernel_rfl) rfl rfl) (by kernel_rfl) (by kernel_rfl) (by kernel_rfl) (by kernel_rfl) (by kernel_rfl) (by kernel_rfl)
theorem Yw:Body Proofs.Tryz.prog 116 12 [.cell 2 152] (pS 152 [⟨3,3,1,26,false,43⟩,⟨4,4,7,30,true,42⟩]):=aM (by kernel_rfl) (by kernel_rfl)
theorem Xw:jI Proofs.Tryz.prog tyY qp 116 Ni:=vf Yw (ic (by kernel_rfl) rfl rfl) (by kernel_rfl) (by kernel_rfl) (by kernel_rfl) (by kernel_rfl) (by kernel_rfl) (by kernel_rfl)
theorem Yx:∀f r,lk qp f=some r→jI Proofs.Tryz.prog tyY qp f r:=TN (List.forall_mem_cons.2 ⟨Yl,(List.forall_mem_cons.2 ⟨Yn,(List.forall_mem_cons.2 ⟨Yo,(List.forall_mem_cons.2 ⟨Yp,(List.forall_mem_cons.2 ⟨Yr,(List.forall_mem_cons.2 ⟨Yt,(List.forall_mem_cons.2 ⟨Yu,(List.forall_mem_cons.2 ⟨Zv,(List.forall_mem_cons.2 ⟨Xv,(List.forall_mem_cons.2 ⟨Xw,(by simp)⟩)⟩)⟩)⟩)⟩)⟩)⟩)⟩)⟩)⟩)
def Zw:List TypeId:=[96,84,9,30,152]
theorem Zx:Body Proofs.Tryz.prog 37 27 [.tmp 2] (BQ tyY):=aM (by kernel_rfl) (by kernel_rfl)
theorem Zy:Body Proofs.Tryz.prog 38 23 [.tmp 2] (yZ tyY tyZ):=aM (by kernel_rfl) (by kernel_rfl)
theorem Zz:Body Proofs.Tryz.prog 39 59 [.tmp 4] (tk tyY):=aM (by kernel_rfl) (by kernel_rfl)
theorem ZA:Body Proofs.Tryz.prog 40 29 [.tmp 6] (um tyY tyZ 39):=aM (by kernel_rfl) (by kernel_rfl)
theorem b_4:Body Proofs.Tryz.prog 4 95 [.tmp 8] (GY tyY tyZ 32 59 40 37 38 39 40):=aM (by kernel_rfl) (by kernel_rfl)
theorem b_3:Body Proofs.Tryz.prog 3 9 [.tmp 2] (Qh 32 59 [7,9,11,13,15,17,21,25,27,29,33] 4 5 6 36):=aM (by kernel_rfl) (by kernel_rfl)
theorem b_7:Body Proofs.Tryz.prog 7 8 [.tmp 2] ((.seq (.region 0 ([⟨(some 2),.assign (.const (.slice none 0 0)),0, "", #[],none⟩]:List Oper).toArray false) (.seq (.region 0 ([⟨(some 3),.move (.tmp 0),0, "", #[],none⟩,⟨(some 4),.nilCheck (.tmp 3),0, "", #[],none⟩,⟨(some 5),.fieldAddr 32 (.tmp 4) 0,0, "", #[],none⟩,⟨(some 6),.load 25 (.tmp 5),0, "", #[],none⟩,⟨(some 7),.call ⟨(.value (.func 8)), #[(.tmp 6)], #[]⟩,0, "", #[],none⟩]:List Oper).toArray false) (.seq (.region 0 ([⟨(some 2),.assign (.const (.slice none 0 0)),0, "", #[],none⟩]:List Oper).toArray false) .ret)))):=aM (by kernel_rfl) (by kernel_rfl)
theorem Xx:jJ Proofs.Tryz.prog fE 32 2097152 7:=by
 intro w0 b l0 row dO fh dn aJ hN
 have bB:l0.length=37:=(dn.len.trans ((ay _ _).1 aJ).1).trans qo.cks
 obtain⟨v0,l1,rfl,ig⟩:=aa bB
 obtain⟨v1,l2,rfl,dQ⟩:=aa ig
 obtain⟨v2,l3,rfl,my⟩:=aa dQ
 obtain⟨v3,l4,rfl,kV⟩:=aa my
 obtain⟨v4,l5,rfl,mz⟩:=aa kV
 obtain⟨v5,l6,rfl,mA⟩:=aa mz
 obtain⟨v6,l7,rfl,mB⟩:=aa mA
 obtain⟨v7,l8,rfl,mC⟩:=aa mB
 obtain⟨v8,l9,rfl,mD⟩:=aa mC
 obtain⟨v9,l10,rfl,iy⟩:=aa mD
 obtain⟨v10,l11,rfl,iz⟩:=aa iy
 obtain⟨v11,l12,rfl,iA⟩:=aa iz
 obtain⟨v12,l13,rfl,iB⟩:=aa iA
 obtain⟨kY,l14,rfl,iC⟩:=aa iB
 obtain⟨kZ,l15,rfl,iD⟩:=aa iC
 obtain⟨k7,l16,rfl,iE⟩:=aa iD
 obtain⟨k8,l17,rfl,iF⟩:=aa iE
 obtain⟨jy,l18,rfl,iG⟩:=aa iF
 obtain⟨kz,l19,rfl,iH⟩:=aa iG
 obtain⟨jZ,l20,rfl,iI⟩:=aa iH
 obtain⟨v20,l21,rfl,iJ⟩:=aa iI
 obtain⟨v21,l22,rfl,iK⟩:=aa iJ
 obtain⟨k9,l23,rfl,iL⟩:=aa iK
 obtain⟨lf,l24,rfl,iM⟩:=aa iL
 obtain⟨v24,l25,rfl,iN⟩:=aa iM
 obtain⟨lg,l26,rfl,iO⟩:=aa iN
 obtain⟨lh,l27,rfl,iP⟩:=aa iO
 obtain⟨lj,l28,rfl,iQ⟩:=aa iP
 obtain⟨v28,l29,rfl,iR⟩:=aa iQ
 obtain⟨fp,l30,rfl,iS⟩:=aa iR
 obtain⟨v30,l31,rfl,iT⟩:=aa iS
 obtain⟨v31,l32,rfl,iV⟩:=aa iT
 obtain⟨fq,l33,rfl,iW⟩:=aa iV
 obtain⟨fu,l34,rfl,iX⟩:=aa iW
 obtain⟨fw,l35,rfl,iY⟩:=aa iX
 obtain⟨fx,l36,rfl,iZ⟩:=aa iY
 obtain⟨mF,l37,rfl,ja⟩:=aa iZ
 obtain rfl:=List.eq_nil_of_length_eq_zero ja
 refine cN b_7 ?_
 have hs:=SL.init (n:=8) [Ptr b 0] rfl
 revert hs
 generalize({tmps:=_,defers:=[]}:Act)=a
 intro hs
 have g0:=Ch.refl (fun _=>False) w0
 refine ai (ae ?_)
 refine L hs rfl rfl (aj hs (.inr rfl) rfl) fun a hs=>?_
 refine Le (ai (ae ?_))
 refine L hs rfl rfl (aj hs (.inl rfl) rfl) fun a hs=>?_
 refine L hs rfl rfl (bH hs rfl rfl) fun a hs=>?_
 refine L hs rfl rfl (bW (off:=0) (sz:=2) hs rfl rfl (by kernel_rfl)) fun a hs=>?_
 refine L hs rfl rfl (aL (ag:=true) (m:=2) [v0,v1] hs rfl rfl (du (by kernel_rfl) (by kernel_rfl) rfl) rfl dO (aG 0 2 rfl)) fun a hs=>?_
 have q0:=bG (is:=[0,1]) (parts:=[some 2]) (kinds:=[none]) (Us:aA Proofs.Tryz.prog aI vo) ⟨rfl,rfl,by kernel_rfl,by kernel_rfl,by kernel_rfl,by kernel_rfl,by kernel_rfl⟩ fh aJ dn hN
 rw[show eh [some 2] (dw [0,1] [v0,v1,v2,v3,v4,v5,v6,v7,v8,v9,v10,v11,v12,kY,kZ,k7,k8,jy,kz,jZ,v20,v21,k9,lf,v24,lg,lh,lj,v28,fp,v30,v31,fq,fu,fw,fx,mF])=[pk true [v0,v1]] by kernel_rfl,show vo.fn=8 by kernel_rfl]at q0
 refine Lc hs rfl rfl rfl rfl rfl (by kernel_rfl) q0 fun v w1 a hO hs=>?_
 obtain⟨c0,fi,rfl,cg⟩:=hO
 obtain⟨u0,fj,rfl,cj⟩:=cg.skip
 obtain rfl:=cj.nil
 have g1:=g0.trans c0
 have bq:=c0.at dO fun h=>h
 have dj:=dn.ch c0
 have dk:=fh.ch c0
 refine Le (ai (ae ?_))
 refine L hs rfl rfl (aj hs (.inr rfl) rfl) fun a hs=>?_
 exact Le (dG (gu hs rfl ⟨g1,.no,⟨none,0,rfl⟩,trivial⟩))
theorem b_9:Body Proofs.Tryz.prog 9 16 [.tmp 2] ((.seq (.region 0 ([⟨(some 2),.assign (.const (.slice none 0 0)),0, "", #[],none⟩]:List Oper).toArray false) (.seq (.region 0 ([⟨(some 3),.move (.tmp 0),0, "", #[],none⟩,⟨(some 4),.nilCheck (.tmp 3),0, "", #[eD 0],none⟩,⟨(some 5),.fieldAddr 32 (.tmp 4) 0,0, "", #[eD 1],none⟩,⟨(some 6),.load 25 (.tmp 5),0, "", #[eD 2],none⟩,⟨(some 7),.move (.tmp 0),0, "", #[],none⟩,⟨(some 8),.nilCheck (.tmp 7),0, "", #[eD 4],none⟩,⟨(some 9),.fieldAddr 32 (.tmp 8) 1,0, "", #[eD 5],none⟩,⟨(some 10),.load 30 (.tmp 9),0, "", #[eD 6],none⟩,⟨(some 11),.move (.tmp 0),0, "", #[],none⟩,⟨(some 12),.nilCheck (.tmp 11),0, "", #[eD 8],none⟩,⟨(some 13),.fieldAddr 32 (.tmp 12) 2,0, "", #[eD 9],none⟩,⟨(some 14),.load 26 (.tmp 13),0, "", #[eD 10],none⟩,⟨(some 15),.call ⟨(.value (.func 10)), #[(.tmp 6),(.tmp 10),(.tmp 14)], #[]⟩,0, "", #[eD 3,eD 7,eD 11],none⟩]:List Oper).toArray true) (.seq (.region 0 ([⟨(some 2),.assign (.const (.slice none 0 0)),0, "", #[],none⟩]:List Oper).toArray false) .ret)))):=aM (by kernel_rfl) (by kernel_rfl)
theorem Xy:jJ Proofs.Tryz.prog fE 32 2097152 9:=by
 intro w0 b l0 row dO fh dn aJ hN
 have bB:l0.length=37:=(dn.len.trans ((ay _ _).1 aJ).1).trans qo.cks
 obtain⟨v0,l1,rfl,ig⟩:=aa bB
 obtain⟨v1,l2,rfl,dQ⟩:=aa ig
 obtain⟨v2,l3,rfl,my⟩:=aa dQ
 obtain⟨v3,l4,rfl,kV⟩:=aa my
 obtain⟨v4,l5,rfl,mz⟩:=aa kV
 obtain⟨v5,l6,rfl,mA⟩:=aa mz
 obtain⟨v6,l7,rfl,mB⟩:=aa mA
 obtain⟨v7,l8,rfl,mC⟩:=aa mB
 obtain⟨v8,l9,rfl,mD⟩:=aa mC
 obtain⟨v9,l10,rfl,iy⟩:=aa mD
 obtain⟨v10,l11,rfl,iz⟩:=aa iy
 obtain⟨v11,l12,rfl,iA⟩:=aa iz
 obtain⟨v12,l13,rfl,iB⟩:=aa iA
 obtain⟨kY,l14,rfl,iC⟩:=aa iB
 obtain⟨kZ,l15,rfl,iD⟩:=aa iC
 obtain⟨k7,l16,rfl,iE⟩:=aa iD
 obtain⟨k8,l17,rfl,iF⟩:=aa iE
 obtain⟨jy,l18,rfl,iG⟩:=aa iF
 obtain⟨kz,l19,rfl,iH⟩:=aa iG
 obtain⟨jZ,l20,rfl,iI⟩:=aa iH
 obtain⟨v20,l21,rfl,iJ⟩:=aa iI
 obtain⟨v21,l22,rfl,iK⟩:=aa iJ
 obtain⟨k9,l23,rfl,iL⟩:=aa iK
 obtain⟨lf,l24,rfl,iM⟩:=aa iL
 obtain⟨v24,l25,rfl,iN⟩:=aa iM
 obtain⟨lg,l26,rfl,iO⟩:=aa iN
 obtain⟨lh,l27,rfl,iP⟩:=aa iO
 obtain⟨lj,l28,rfl,iQ⟩:=aa iP
 obtain⟨v28,l29,rfl,iR⟩:=aa iQ
 obtain⟨fp,l30,rfl,iS⟩:=aa iR
 obtain⟨v30,l31,rfl,iT⟩:=aa iS
 obtain⟨v31,l32,rfl,iV⟩:=aa iT
 obtain⟨fq,l33,rfl,iW⟩:=aa iV
 obtain⟨fu,l34,rfl,iX⟩:=aa iW
 obtain⟨fw,l35,rfl,iY⟩:=aa iX
 obtain⟨fx,l36,rfl,iZ⟩:=aa iY
 obtain⟨mF,l37,rfl,ja⟩:=aa iZ
 obtain rfl:=List.eq_nil_of_length_eq_zero ja
 refine cN b_9 ?_
 have hs:=SL.init (n:=16) [Ptr b 0] rfl
 revert hs
 generalize({tmps:=_,defers:=[]}:Act)=a
 intro hs
 have g0:=Ch.refl (fun _=>False) w0
 refine ai (ae ?_)
 refine L hs rfl rfl (aj hs (.inr rfl) rfl) fun a hs=>?_
 refine Le (ai (rA 12 kit.mixed (by kernel_rfl) ?_))
 have c0:=Ch.drew (fun _=>False) w0
 generalize({w0 with drawn:=w0.drawn+1}:World)=w1 at c0 ⊢
 have g1:=g0.trans c0
 have bq:=c0.at dO fun h=>h
 have dj:=dn.ch c0
 have dk:=fh.ch c0
 refine T hs rfl rfl (aj hs (.inl rfl) rfl) fun a hs=>?_
 refine T hs rfl rfl (bH hs rfl rfl) fun a hs=>?_
 refine T hs rfl rfl (bW (off:=0) (sz:=2) hs rfl rfl (by kernel_rfl)) fun a hs=>?_
 refine T hs rfl rfl (aL (ag:=true) (m:=2) [v0,v1] hs rfl rfl (du (by kernel_rfl) (by kernel_rfl) rfl) rfl bq (aG 0 2 rfl)) fun a hs=>?_
 refine T hs rfl rfl (aj hs (.inl rfl) rfl) fun a hs=>?_
 refine T hs rfl rfl (bH hs rfl rfl) fun a hs=>?_
 refine T hs rfl rfl (bW (off:=2) (sz:=7) hs rfl rfl (by kernel_rfl)) fun a hs=>?_
 refine T hs rfl rfl (aL (ag:=true) (m:=7) [v2,v3,v4,v5,v6,v7,v8] hs rfl rfl (du (by kernel_rfl) (by kernel_rfl) rfl) rfl bq (aG 2 7 rfl)) fun a hs=>?_
 refine T hs rfl rfl (aj hs (.inl rfl) rfl) fun a hs=>?_
 refine T hs rfl rfl (bH hs rfl rfl) fun a hs=>?_
 refine T hs rfl rfl (bW (off:=9) (sz:=1) hs rfl rfl (by kernel_rfl)) fun a hs=>?_
 refine T hs rfl rfl (aL (ag:=false) (m:=1) [v9] hs rfl rfl (du (by kernel_rfl) (by kernel_rfl) rfl) rfl bq (aG 9 1 rfl)) fun a hs=>?_
 refine Te ?_
 have q1:=bG (is:=[0,1,2,3,4,5,6,7,8,9]) (parts:=[some 2,some 7,none]) (kinds:=[none]) (Jz:aA Proofs.Tryz.prog aI mr) ⟨rfl,rfl,by kernel_rfl,by kernel_rfl,by kernel_rfl,by kernel_rfl,by kernel_rfl⟩ dk aJ dj hN
 rw[show eh [some 2,some 7,none] (dw [0,1,2,3,4,5,6,7,8,9] [v0,v1,v2,v3,v4,v5,v6,v7,v8,v9,v10,v11,v12,kY,kZ,k7,k8,jy,kz,jZ,v20,v21,k9,lf,v24,lg,lh,lj,v28,fp,v30,v31,fq,fu,fw,fx,mF])=[pk true [v0,v1],pk true [v2,v3,v4,v5,v6,v7,v8],pk false [v9]] by kernel_rfl,show mr.fn=10 by kernel_rfl]at q1
 refine Lc hs rfl rfl rfl rfl rfl (by kernel_rfl) q1 fun v w2 a hO hs=>?_
 obtain⟨c1,fi,rfl,cg⟩:=hO
 obtain⟨u0,fj,rfl,cj⟩:=cg.skip
 obtain rfl:=cj.nil
 have g2:=g1.trans c1
 have bz:=c1.at bq fun h=>h
 have b9:=dj.ch c1
 have cS:=dk.ch c1
 refine Le (ai (ae ?_))
 refine L hs rfl rfl (aj hs (.inr rfl) rfl) fun a hs=>?_
 exact Le (dG (gu hs rfl ⟨g2,.no,⟨none,0,rfl⟩,trivial⟩))
theorem ZB:Body Proofs.Tryz.prog 11 12 [.tmp 2] ((.seq (.region 0 ([⟨(some 2),.assign (.const (.slice none 0 0)),0, "", #[],none⟩]:List Oper).toArray false) (.seq (.region 0 ([⟨(some 3),.move (.tmp 0),0, "", #[],none⟩,⟨(some 4),.nilCheck (.tmp 3),0, "", #[eD 0],none⟩,⟨(some 5),.fieldAddr 32 (.tmp 4) 3,0, "", #[eD 1],none⟩,⟨(some 6),.load 30 (.tmp 5),0, "", #[eD 2],none⟩,⟨(some 7),.move (.tmp 0),0, "", #[],none⟩,⟨(some 8),.nilCheck (.tmp 7),0, "", #[eD 4],none⟩,⟨(some 9),.fieldAddr 32 (.tmp 8) 4,0, "", #[eD 5],none⟩,⟨(some 10),.load 30 (.tmp 9),0, "", #[eD 6],none⟩,⟨(some 11),.call ⟨(.value (.func 12)), #[(.tmp 6),(.tmp 10)], #[]⟩,0, "", #[eD 3,eD 7],none⟩]:List Oper).toArray true) (.seq (.region 0 ([⟨(some 2),.assign (.const (.slice none 0 0)),0, "", #[],none⟩]:List Oper).toArray false) .ret)))):=aM (by kernel_rfl) (by kernel_rfl)
theorem US:jJ Proofs.Tryz.prog fE 32 2097152 11:=by
 intro w0 b l0 row dO fh dn aJ hN
 have bB:l0.length=37:=(dn.len.trans ((ay _ _).1 aJ).1).trans qo.cks
 obtain⟨v0,l1,rfl,ig⟩:=aa bB
 obtain⟨v1,l2,rfl,dQ⟩:=aa ig
 obtain⟨v2,l3,rfl,my⟩:=aa dQ
 obtain⟨v3,l4,rfl,kV⟩:=aa my
 obtain⟨v4,l5,rfl,mz⟩:=aa kV
 obtain⟨v5,l6,rfl,mA⟩:=aa mz
 obtain⟨v6,l7,rfl,mB⟩:=aa mA
 obtain⟨v7,l8,rfl,mC⟩:=aa mB
 obtain⟨v8,l9,rfl,mD⟩:=aa mC
 obtain⟨v9,l10,rfl,iy⟩:=aa mD
 obtain⟨v10,l11,rfl,iz⟩:=aa iy
 obtain⟨v11,l12,rfl,iA⟩:=aa iz
 obtain⟨v12,l13,rfl,iB⟩:=aa iA
 obtain⟨kY,l14,rfl,iC⟩:=aa iB
 obtain⟨kZ,l15,rfl,iD⟩:=aa iC
 obtain⟨k7,l16,rfl,iE⟩:=aa iD
 obtain⟨k8,l17,rfl,iF⟩:=aa iE
 obtain⟨jy,l18,rfl,iG⟩:=aa iF
 obtain⟨kz,l19,rfl,iH⟩:=aa iG
 obtain⟨jZ,l20,rfl,iI⟩:=aa iH
 obtain⟨v20,l21,rfl,iJ⟩:=aa iI
 obtain⟨v21,l22,rfl,iK⟩:=aa iJ
 obtain⟨k9,l23,rfl,iL⟩:=aa iK
 obtain⟨lf,l24,rfl,iM⟩:=aa iL
 obtain⟨v24,l25,rfl,iN⟩:=aa iM
 obtain⟨lg,l26,rfl,iO⟩:=aa iN
 obtain⟨lh,l27,rfl,iP⟩:=aa iO
 obtain⟨lj,l28,rfl,iQ⟩:=aa iP
 obtain⟨v28,l29,rfl,iR⟩:=aa iQ
 obtain⟨fp,l30,rfl,iS⟩:=aa iR
 obtain⟨v30,l31,rfl,iT⟩:=aa iS
 obtain⟨v31,l32,rfl,iV⟩:=aa iT
 obtain⟨fq,l33,rfl,iW⟩:=aa iV
 obtain⟨fu,l34,rfl,iX⟩:=aa iW
 obtain⟨fw,l35,rfl,iY⟩:=aa iX
 obtain⟨fx,l36,rfl,iZ⟩:=aa iY
 obtain⟨mF,l37,rfl,ja⟩:=aa iZ
 obtain rfl:=List.eq_nil_of_length_eq_zero ja
 refine cN ZB ?_
 have hs:=SL.init (n:=12) [Ptr b 0] rfl
 revert hs
 generalize({tmps:=_,defers:=[]}:Act)=a
 intro hs
 have g0:=Ch.refl (fun _=>False) w0
 refine ai (ae ?_)
 refine L hs rfl rfl (aj hs (.inr rfl) rfl) fun a hs=>?_
 refine Le (ai (rA 8 kit.mixed (by kernel_rfl) ?_))
 have c0:=Ch.drew (fun _=>False) w0
 generalize({w0 with drawn:=w0.drawn+1}:World)=w1 at c0 ⊢
 have g1:=g0.trans c0
 have bq:=c0.at dO fun h=>h
 have dj:=dn.ch c0
 have dk:=fh.ch c0
 refine T hs rfl rfl (aj hs (.inl rfl) rfl) fun a hs=>?_
 refine T hs rfl rfl (bH hs rfl rfl) fun a hs=>?_
 refine T hs rfl rfl (bW (off:=10) (sz:=7) hs rfl rfl (by kernel_rfl)) fun a hs=>?_
 refine T hs rfl rfl (aL (ag:=true) (m:=7) [v10,v11,v12,kY,kZ,k7,k8] hs rfl rfl (du (by kernel_rfl) (by kernel_rfl) rfl) rfl bq (aG 10 7 rfl)) fun a hs=>?_
 refine T hs rfl rfl (aj hs (.inl rfl) rfl) fun a hs=>?_
 refine T hs rfl rfl (bH hs rfl rfl) fun a hs=>?_
 refine T hs rfl rfl (bW (off:=17) (sz:=7) hs rfl rfl (by kernel_rfl)) fun a hs=>?_
 refine T hs rfl rfl (aL (ag:=true) (m:=7) [jy,kz,jZ,v20,v21,k9,lf] hs rfl rfl (du (by kernel_rfl) (by kernel_rfl) rfl) rfl bq (aG 17 7 rfl)) fun a hs=>?_
 refine Te ?_
 have q1:=bG (is:=[10,11,12,13,14,15,16,17,18,19,20,21,22,23]) (parts:=[some 7,some 7]) (kinds:=[none]) (Xd:aA Proofs.Tryz.prog aI yH) ⟨rfl,rfl,by kernel_rfl,by kernel_rfl,by kernel_rfl,by kernel_rfl,by kernel_rfl⟩ dk aJ dj hN
 rw[show eh [some 7,some 7] (dw [10,11,12,13,14,15,16,17,18,19,20,21,22,23] [v0,v1,v2,v3,v4,v5,v6,v7,v8,v9,v10,v11,v12,kY,kZ,k7,k8,jy,kz,jZ,v20,v21,k9,lf,v24,lg,lh,lj,v28,fp,v30,v31,fq,fu,fw,fx,mF])=[pk true [v10,v11,v12,kY,kZ,k7,k8],pk true [jy,kz,jZ,v20,v21,k9,lf]] by kernel_rfl,show yH.fn=12 by kernel_rfl]at q1
 refine Lc hs rfl rfl rfl rfl rfl (by kernel_rfl) q1 fun v w2 a hO hs=>?_
 obtain⟨c1,fi,rfl,cg⟩:=hO
 obtain⟨u0,fj,rfl,cj⟩:=cg.skip
 obtain rfl:=cj.nil
 have g2:=g1.trans c1
 have bz:=c1.at bq fun h=>h
 have b9:=dj.ch c1
 have cS:=dk.ch c1
 refine Le (ai (ae ?_))
 refine L hs rfl rfl (aj hs (.inr rfl) rfl) fun a hs=>?_
 exact Le (dG (gu hs rfl ⟨g2,.no,⟨none,0,rfl⟩,trivial⟩))
theorem ZC:Body Proofs.Tryz.prog 13 12 [.tmp 2] ((.seq (.region 0 ([⟨(some 2),.assign (.const (.slice none 0 0)),0, "", #[],none⟩]:List Oper).toArray false) (.seq (.region 0 ([⟨(some 3),.move (.tmp 0),0, "", #[],none⟩,⟨(some 4),.nilCheck (.tmp 3),0, "", #[eD 0],none⟩,⟨(some 5),.fieldAddr 32 (.tmp 4) 5,0, "", #[eD 1],none⟩,⟨(some 6),.load 25 (.tmp 5),0, "", #[eD 2],none⟩,⟨(some 7),.move (.tmp 0),0, "", #[],none⟩,⟨(some 8),.nilCheck (.tmp 7),0, "", #[eD 4],none⟩,⟨(some 9),.fieldAddr 32 (.tmp 8) 6,0, "", #[eD 5],none⟩,⟨(some 10),.load 25 (.tmp 9),0, "", #[eD 6],none⟩,⟨(some 11),.call ⟨(.value (.func 14)), #[(.tmp 6),(.tmp 10)], #[]⟩,0, "", #[eD 3,eD 7],none⟩]:List Oper).toArray true) (.seq (.region 0 ([⟨(some 2),.assign (.const (.slice none 0 0)),0, "", #[],none⟩]:List Oper).toArray false) .ret)))):=aM (by kernel_rfl) (by kernel_rfl)
theorem UT:jJ Proofs.Tryz.prog fE 32 2097152 13:=by
 intro w0 b l0 row dO fh dn aJ hN
 have bB:l0.length=37:=(dn.len.trans ((ay _ _).1 aJ).1).trans qo.cks
 obtain⟨v0,l1,rfl,ig⟩:=aa bB
 obtain⟨v1,l2,rfl,dQ⟩:=aa ig
 obtain⟨v2,l3,rfl,my⟩:=aa dQ
 obtain⟨v3,l4,rfl,kV⟩:=aa my
 obtain⟨v4,l5,rfl,mz⟩:=aa kV
 obtain⟨v5,l6,rfl,mA⟩:=aa mz
 obtain⟨v6,l7,rfl,mB⟩:=aa mA
 obtain⟨v7,l8,rfl,mC⟩:=aa mB
 obtain⟨v8,l9,rfl,mD⟩:=aa mC
 obtain⟨v9,l10,rfl,iy⟩:=aa mD
 obtain⟨v10,l11,rfl,iz⟩:=aa iy
 obtain⟨v11,l12,rfl,iA⟩:=aa iz
 obtain⟨v12,l13,rfl,iB⟩:=aa iA
 obtain⟨kY,l14,rfl,iC⟩:=aa iB
 obtain⟨kZ,l15,rfl,iD⟩:=aa iC
 obtain⟨k7,l16,rfl,iE⟩:=aa iD
 obtain⟨k8,l17,rfl,iF⟩:=aa iE
 obtain⟨jy,l18,rfl,iG⟩:=aa iF
 obtain⟨kz,l19,rfl,iH⟩:=aa iG
 obtain⟨jZ,l20,rfl,iI⟩:=aa iH
 obtain⟨v20,l21,rfl,iJ⟩:=aa iI
 obtain⟨v21,l22,rfl,iK⟩:=aa iJ
 obtain⟨k9,l23,rfl,iL⟩:=aa iK
 obtain⟨lf,l24,rfl,iM⟩:=aa iL
 obtain⟨v24,l25,rfl,iN⟩:=aa iM
 obtain⟨lg,l26,rfl,iO⟩:=aa iN
 obtain⟨lh,l27,rfl,iP⟩:=aa iO
 obtain⟨lj,l28,rfl,iQ⟩:=aa iP
 obtain⟨v28,l29,rfl,iR⟩:=aa iQ
 obtain⟨fp,l30,rfl,iS⟩:=aa iR
 obtain⟨v30,l31,rfl,iT⟩:=aa iS
 obtain⟨v31,l32,rfl,iV⟩:=aa iT
 obtain⟨fq,l33,rfl,iW⟩:=aa iV
 obtain⟨fu,l34,rfl,iX⟩:=aa iW
 obtain⟨fw,l35,rfl,iY⟩:=aa iX
 obtain⟨fx,l36,rfl,iZ⟩:=aa iY
 obtain⟨mF,l37,rfl,ja⟩:=aa iZ
 obtain rfl:=List.eq_nil_of_length_eq_zero ja
 refine cN ZC ?_
 have hs:=SL.init (n:=12) [Ptr b 0] rfl
 revert hs
 generalize({tmps:=_,defers:=[]}:Act)=a
 intro hs
 have g0:=Ch.refl (fun _=>False) w0
 refine ai (ae ?_)
 refine L hs rfl rfl (aj hs (.inr rfl) rfl) fun a hs=>?_
 refine Le (ai (rA 8 kit.mixed (by kernel_rfl) ?_))
 have c0:=Ch.drew (fun _=>False) w0
 generalize({w0 with drawn:=w0.drawn+1}:World)=w1 at c0 ⊢
 have g1:=g0.trans c0
 have bq:=c0.at dO fun h=>h
 have dj:=dn.ch c0
 have dk:=fh.ch c0
 refine T hs rfl rfl (aj hs (.inl rfl) rfl) fun a hs=>?_
 refine T hs rfl rfl (bH hs rfl rfl) fun a hs=>?_
 refine T hs rfl rfl (bW (off:=24) (sz:=2) hs rfl rfl (by kernel_rfl)) fun a hs=>?_
 refine T hs rfl rfl (aL (ag:=true) (m:=2) [v24,lg] hs rfl rfl (du (by kernel_rfl) (by kernel_rfl) rfl) rfl bq (aG 24 2 rfl)) fun a hs=>?_
 refine T hs rfl rfl (aj hs (.inl rfl) rfl) fun a hs=>?_
 refine T hs rfl rfl (bH hs rfl rfl) fun a hs=>?_
 refine T hs rfl rfl (bW (off:=26) (sz:=2) hs rfl rfl (by kernel_rfl)) fun a hs=>?_
 refine T hs rfl rfl (aL (ag:=true) (m:=2) [lh,lj] hs rfl rfl (du (by kernel_rfl) (by kernel_rfl) rfl) rfl bq (aG 26 2 rfl)) fun a hs=>?_
 refine Te ?_
 have q1:=bG (is:=[24,25,26,27]) (parts:=[some 2,some 2]) (kinds:=[none]) (Nb:aA Proofs.Tryz.prog aI oa) ⟨rfl,rfl,by kernel_rfl,by kernel_rfl,by kernel_rfl,by kernel_rfl,by kernel_rfl⟩ dk aJ dj hN
 rw[show eh [some 2,some 2] (dw [24,25,26,27] [v0,v1,v2,v3,v4,v5,v6,v7,v8,v9,v10,v11,v12,kY,kZ,k7,k8,jy,kz,jZ,v20,v21,k9,lf,v24,lg,lh,lj,v28,fp,v30,v31,fq,fu,fw,fx,mF])=[pk true [v24,lg],pk true [lh,lj]] by kernel_rfl,show oa.fn=14 by kernel_rfl]at q1
 refine Lc hs rfl rfl rfl rfl rfl (by kernel_rfl) q1 fun v w2 a hO hs=>?_
 obtain⟨c1,fi,rfl,cg⟩:=hO
 obtain⟨u0,fj,rfl,cj⟩:=cg.skip
 obtain rfl:=cj.nil
 have g2:=g1.trans c1
 have bz:=c1.at bq fun h=>h
 have b9:=dj.ch c1
 have cS:=dk.ch c1
 refine Le (ai (ae ?_))
 refine L hs rfl rfl (aj hs (.inr rfl) rfl) fun a hs=>?_
 exact Le (dG (gu hs rfl ⟨g2,.no,⟨none,0,rfl⟩,trivial⟩))
theorem ZD:Body Proofs.Tryz.prog 15 8 [.tmp 2] ((.seq (.region 0 ([⟨(some 2),.assign (.const (.slice none 0 0)),0, "", #[],none⟩]:List Oper).toArray false) (.seq (.region 0 ([⟨(some 3),.move (.tmp 0),0, "", #[],none⟩,⟨(some 4),.nilCheck (.tmp 3),0, "", #[],none⟩,⟨(some 5),.fieldAddr 32 (.tmp 4) 1,0, "", #[],none⟩,⟨(some 6),.load 30 (.tmp 5),0, "", #[],none⟩,⟨(some 7),.call ⟨(.value (.func 16)), #[(.tmp 6)], #[]⟩,0, "", #[],none⟩]:List Oper).toArray false) (.seq (.region 0 ([⟨(some 2),.assign (.const (.slice none 0 0)),0, "", #[],none⟩]:List Oper).toArray false) .ret)))):=aM (by kernel_rfl) (by kernel_rfl)
theorem UU:jJ Proofs.Tryz.prog fE 32 2097152 15:=by
 intro w0 b l0 row dO fh dn aJ hN
 have bB:l0.length=37:=(dn.len.trans ((ay _ _).1 aJ).1).trans qo.cks
 obtain⟨v0,l1,rfl,ig⟩:=aa bB
 obtain⟨v1,l2,rfl,dQ⟩:=aa ig
 obtain⟨v2,l3,rfl,my⟩:=aa dQ
 obtain⟨v3,l4,rfl,kV⟩:=aa my
 obtain⟨v4,l5,rfl,mz⟩:=aa kV
 obtain⟨v5,l6,rfl,mA⟩:=aa mz
 obtain⟨v6,l7,rfl,mB⟩:=aa mA
 obtain⟨v7,l8,rfl,mC⟩:=aa mB
 obtain⟨v8,l9,rfl,mD⟩:=aa mC
 obtain⟨v9,l10,rfl,iy⟩:=aa mD
 obtain⟨v10,l11,rfl,iz⟩:=aa iy
 obtain⟨v11,l12,rfl,iA⟩:=aa iz
 obtain⟨v12,l13,rfl,iB⟩:=aa iA
 obtain⟨kY,l14,rfl,iC⟩:=aa iB
 obtain⟨kZ,l15,rfl,iD⟩:=aa iC
 obtain⟨k7,l16,rfl,iE⟩:=aa iD
 obtain⟨k8,l17,rfl,iF⟩:=aa iE
 obtain⟨jy,l18,rfl,iG⟩:=aa iF
 obtain⟨kz,l19,rfl,iH⟩:=aa iG
 obtain⟨jZ,l20,rfl,iI⟩:=aa iH
 obtain⟨v20,l21,rfl,iJ⟩:=aa iI
 obtain⟨v21,l22,rfl,iK⟩:=aa iJ
 obtain⟨k9,l23,rfl,iL⟩:=aa iK
 obtain⟨lf,l24,rfl,iM⟩:=aa iL
 obtain⟨v24,l25,rfl,iN⟩:=aa iM
 obtain⟨lg,l26,rfl,iO⟩:=aa iN
 obtain⟨lh,l27,rfl,iP⟩:=aa iO
 obtain⟨lj,l28,rfl,iQ⟩:=aa iP
 obtain⟨v28,l29,rfl,iR⟩:=aa iQ
 obtain⟨fp,l30,rfl,iS⟩:=aa iR
 obtain⟨v30,l31,rfl,iT⟩:=aa iS
 obtain⟨v31,l32,rfl,iV⟩:=aa iT
 obtain⟨fq,l33,rfl,iW⟩:=aa iV
 obtain⟨fu,l34,rfl,iX⟩:=aa iW
 obtain⟨fw,l35,rfl,iY⟩:=aa iX
 obtain⟨fx,l36,rfl,iZ⟩:=aa iY
 obtain⟨mF,l37,rfl,ja⟩:=aa iZ
 obtain rfl:=List.eq_nil_of_length_eq_zero ja
 refine cN ZD ?_
 have hs:=SL.init (n:=8) [Ptr b 0] rfl
 revert hs
 generalize({tmps:=_,defers:=[]}:Act)=a
 intro hs
 have g0:=Ch.refl (fun _=>False) w0
 refine ai (ae ?_)
 refine L hs rfl rfl (aj hs (.inr rfl) rfl) fun a hs=>?_
 refine Le (ai (ae ?_))
 refine L hs rfl rfl (aj hs (.inl rfl) rfl) fun a hs=>?_
 refine L hs rfl rfl (bH hs rfl rfl) fun a hs=>?_
 refine L hs rfl rfl (bW (off:=2) (sz:=7) hs rfl rfl (by kernel_rfl)) fun a hs=>?_
 refine L hs rfl rfl (aL (ag:=true) (m:=7) [v2,v3,v4,v5,v6,v7,v8] hs rfl rfl (du (by kernel_rfl) (by kernel_rfl) rfl) rfl dO (aG 2 7 rfl)) fun a hs=>?_
 have q0:=bG (is:=[2,3,4,5,6,7,8]) (parts:=[some 7]) (kinds:=[none]) (WS:aA Proofs.Tryz.prog aI yD) ⟨rfl,rfl,by kernel_rfl,by kernel_rfl,by kernel_rfl,by kernel_rfl,by kernel_rfl⟩ fh aJ dn hN
 rw[show eh [some 7] (dw [2,3,4,5,6,7,8] [v0,v1,v2,v3,v4,v5,v6,v7,v8,v9,v10,v11,v12,kY,kZ,k7,k8,jy,kz,jZ,v20,v21,k9,lf,v24,lg,lh,lj,v28,fp,v30,v31,fq,fu,fw,fx,mF])=[pk true [v2,v3,v4,v5,v6,v7,v8]] by kernel_rfl,show yD.fn=16 by kernel_rfl]at q0
 refine Lc hs rfl rfl rfl rfl rfl (by kernel_rfl) q0 fun v w1 a hO hs=>?_
 obtain⟨c0,fi,rfl,cg⟩:=hO
 obtain⟨u0,fj,rfl,cj⟩:=cg.skip
 obtain rfl:=cj.nil
 have g1:=g0.trans c0
 have bq:=c0.at dO fun h=>h
 have dj:=dn.ch c0
 have dk:=fh.ch c0
 refine Le (ai (ae ?_))
 refine L hs rfl rfl (aj hs (.inr rfl) rfl) fun a hs=>?_
 exact Le (dG (gu hs rfl ⟨g1,.no,⟨none,0,rfl⟩,trivial⟩))
theorem ZE:Body Proofs.Tryz.prog 19 5 [] (AF 20):=aM (by kernel_rfl) (by kernel_rfl)
theorem ZF:Body Proofs.Tryz.prog 17 11 [.tmp 2] ((.seq (.region 0 ([⟨(some 2),.assign (.const (.slice none 0 0)),0, "", #[],none⟩]:List Oper).toArray false) (.seq (.region 0 ([⟨(some 4),.move (.tmp 0),0, "", #[],none⟩,⟨(some 5),.nilCheck (.tmp 4),0, "", #[],none⟩,⟨(some 6),.fieldAddr 32 (.tmp 5) 1,0, "", #[],none⟩,⟨(some 7),.load 30 (.tmp 6),0, "", #[],none⟩,⟨(some 8),.call ⟨(.value (.func 18)), #[(.tmp 7)], #[]⟩,0, "", #[],none⟩,⟨(some 3),.alloc 26,0, "", #[],none⟩,⟨none,.store 26 (.tmp 3) (.tmp 8),0, "", #[],none⟩]:List Oper).toArray false) (.seq (.region 0 ([⟨(some 9),.makeFunc (.func 19) #[] #[(.tmp 3)],0, "", #[],none⟩,⟨(some 10),.buildSlice 37 1 #[(0,(.tmp 9))],0, "", #[],none⟩,⟨(some 2),.assign (.tmp 10),0, "", #[],none⟩]:List Oper).toArray false) .ret)))):=aM (by kernel_rfl) (by kernel_rfl)
theorem UW:jJ Proofs.Tryz.prog fE 32 2097152 17:=by
 intro w0 b l0 row dO fh dn aJ hN
 have bB:l0.length=37:=(dn.len.trans ((ay _ _).1 aJ).1).trans qo.cks
 obtain⟨v0,l1,rfl,ig⟩:=aa bB
 obtain⟨v1,l2,rfl,dQ⟩:=aa ig
 obtain⟨v2,l3,rfl,my⟩:=aa dQ
 obtain⟨v3,l4,rfl,kV⟩:=aa my
 obtain⟨v4,l5,rfl,mz⟩:=aa kV
 obtain⟨v5,l6,rfl,mA⟩:=aa mz
 obtain⟨v6,l7,rfl,mB⟩:=aa mA
 obtain⟨v7,l8,rfl,mC⟩:=aa mB
 obtain⟨v8,l9,rfl,mD⟩:=aa mC
 obtain⟨v9,l10,rfl,iy⟩:=aa mD
 obtain⟨v10,l11,rfl,iz⟩:=aa iy
 obtain⟨v11,l12,rfl,iA⟩:=aa iz
 obtain⟨v12,l13,rfl,iB⟩:=aa iA
 obtain⟨kY,l14,rfl,iC⟩:=aa iB
 obtain⟨kZ,l15,rfl,iD⟩:=aa iC
 obtain⟨k7,l16,rfl,iE⟩:=aa iD
 obtain⟨k8,l17,rfl,iF⟩:=aa iE
 obtain⟨jy,l18,rfl,iG⟩:=aa iF
 obtain⟨kz,l19,rfl,iH⟩:=aa iG
 obtain⟨jZ,l20,rfl,iI⟩:=aa iH
 obtain⟨v20,l21,rfl,iJ⟩:=aa iI
 obtain⟨v21,l22,rfl,iK⟩:=aa iJ
 obtain⟨k9,l23,rfl,iL⟩:=aa iK
 obtain⟨lf,l24,rfl,iM⟩:=aa iL
 obtain⟨v24,l25,rfl,iN⟩:=aa iM
 obtain⟨lg,l26,rfl,iO⟩:=aa iN
 obtain⟨lh,l27,rfl,iP⟩:=aa iO
 obtain⟨lj,l28,rfl,iQ⟩:=aa iP
 obtain⟨v28,l29,rfl,iR⟩:=aa iQ
 obtain⟨fp,l30,rfl,iS⟩:=aa iR
 obtain⟨v30,l31,rfl,iT⟩:=aa iS
 obtain⟨v31,l32,rfl,iV⟩:=aa iT
 obtain⟨fq,l33,rfl,iW⟩:=aa iV
 obtain⟨fu,l34,rfl,iX⟩:=aa iW
 obtain⟨fw,l35,rfl,iY⟩:=aa iX
 obtain⟨fx,l36,rfl,iZ⟩:=aa iY
 obtain⟨mF,l37,rfl,ja⟩:=aa iZ
 obtain rfl:=List.eq_nil_of_length_eq_zero ja
 refine cN ZF ?_
 have hs:=SL.init (n:=11) [Ptr b 0] rfl
 revert hs
 generalize({tmps:=_,defers:=[]}:Act)=a
 intro hs
 have g0:=Ch.refl (fun _=>False) w0
 refine ai (ae ?_)
 refine L hs rfl rfl (aj hs (.inr rfl) rfl) fun a hs=>?_
 refine Le (ai (ae ?_))
 refine L hs rfl rfl (aj hs (.inl rfl) rfl) fun a hs=>?_
 refine L hs rfl rfl (bH hs rfl rfl) fun a hs=>?_
 refine L hs rfl rfl (bW (off:=2) (sz:=7) hs rfl rfl (by kernel_rfl)) fun a hs=>?_
 refine L hs rfl rfl (aL (ag:=true) (m:=7) [v2,v3,v4,v5,v6,v7,v8] hs rfl rfl (du (by kernel_rfl) (by kernel_rfl) rfl) rfl dO (aG 2 7 rfl)) fun a hs=>?_
 have q0:=bG (is:=[2,3,4,5,6,7,8]) (parts:=[some 7]) (kinds:=[some (false,[.sl 9])]) (W3:aA Proofs.Tryz.prog aI yF) ⟨rfl,rfl,by kernel_rfl,by kernel_rfl,by kernel_rfl,by kernel_rfl,by kernel_rfl⟩ fh aJ dn hN
 rw[show eh [some 7] (dw [2,3,4,5,6,7,8] [v0,v1,v2,v3,v4,v5,v6,v7,v8,v9,v10,v11,v12,kY,kZ,k7,k8,jy,kz,jZ,v20,v21,k9,lf,v24,lg,lh,lj,v28,fp,v30,v31,fq,fu,fw,fx,mF])=[pk true [v2,v3,v4,v5,v6,v7,v8]] by kernel_rfl,show yF.fn=18 by kernel_rfl]at q0
 refine Lc hs rfl rfl rfl rfl rfl (by kernel_rfl) q0 fun v w1 a hO hs=>?_
 obtain⟨c0,fi,rfl,cg⟩:=hO
 obtain⟨rr0,bM,fj,rfl,il,bw,cj⟩:=cg.take
 have cO:=g0.size
 have il:=il.down cO
 obtain rfl:=cj.nil
 have g1:=g0.trans c0
 have bq:=c0.at dO fun h=>h
 have dj:=dn.ch c0
 have dk:=fh.ch c0
 refine L hs rfl rfl (cf (sz:=1) (zs:=[.slice none 0 0]) rfl (ic (by kernel_rfl) rfl rfl)) fun a hs=>?_
 have bB:bM.length=1:=(il.len.trans ((ay _ _).1 bw).1)
 refine Ls hs rfl rfl (mI (ag:=false) (m:=1) bM hs rfl rfl rfl (du (by kernel_rfl) (by kernel_rfl) rfl) bB il.one (heap_alloc_new _ _) (by simp)) fun hs=>?_
 obtain⟨c1,bx0_2⟩:=vg (T:=26) (zs:=[.slice none 0 0]) (us:=bM) w1 bB
 have lo0:=g1.size
 generalize hbn0:w1.heap.size=jz at*
 generalize(World.setRow _ jz _)=w2 at*
 have g2:=g1.trans c1
 have bz:=c1.at bq fun h=>h
 have b9:=dj.ch c1
 have cS:=dk.ch c1
 have cw0_2:=il.ch c1
 refine Le (ai (ae ?_))
 refine L hs rfl rfl (Gn hs rfl rfl rfl) fun a hs=>?_
 refine L hs rfl rfl (km (e:=49) (z:= .nilFunc) (v:=clo 19 jz) hs rfl rfl (by kernel_rfl) (fb (by kernel_rfl) (by kernel_rfl) rfl) rfl) fun a hs=>?_
 have c2:=Ch.alloc (fun _=>False) w2 (.cells #[clo 19 jz] 49)
 have hbl3:=heap_alloc_new w2 (.cells #[clo 19 jz] 49)
 have ll2:=g2.size
 generalize hbm:w2.heap.size=bl at*
 generalize w2.alloc (.cells #[clo 19 jz] 49)=w3 at*
 have g3:=g2.trans c2
 have hb3:=c2.at bz fun h=>h
 have hcw3:=b9.ch c2
 have hld3:=cS.ch c2
 have bx0_3:=c2.at bx0_2 fun h=>h
 have cw0_3:=cw0_2.ch c2
 refine L hs rfl rfl (aj hs (.inr rfl) rfl) fun a hs=>?_
 exact Le (dG (gu hs rfl ⟨g3,.one 19 20 jz,⟨bl,_,rfl,hbl3⟩,ZE,fun _ h=>by cases h;omega,lo0,R0,rr0,bM,_,(by kernel_rfl),(by decide),bx0_3,cw0_3,bw,by kernel_rfl⟩))
theorem ZG:Body Proofs.Tryz.prog 23 5 [] (AF 24):=aM (by kernel_rfl) (by kernel_rfl)
theorem br:Tp Proofs.Tryz.prog 30 true 7:=du (by kernel_rfl) (by kernel_rfl) rfl
theorem lP:Tp Proofs.Tryz.prog 9 false 1:=du (by kernel_rfl) (by kernel_rfl) rfl
theorem fB:El Proofs.Tryz.prog 30 7 [.int .i64 0,.string ⟨#[]⟩,.int .i64 0,.slice none 0 0,.slice none 0 0,.slice none 0 0,.slice none 0 0]:=ic (by kernel_rfl) rfl rfl
theorem ZH:Body Proofs.Tryz.prog 21 19 [.tmp 2] ((.seq (.region 0 ([⟨(some 2),.assign (.const (.slice none 0 0)),0, "", #[],none⟩]:List Oper).toArray false) (.seq (.region 0 ([⟨(some 4),.move (.tmp 0),0, "", #[],none⟩,⟨(some 5),.nilCheck (.tmp 4),0, "", #[eD 0],none⟩,⟨(some 6),.fieldAddr 32 (.tmp 5) 1,0, "", #[eD 1],none⟩,⟨(some 7),.load 30 (.tmp 6),0, "", #[eD 2],none⟩,⟨(some 8),.move (.tmp 0),0, "", #[],none⟩,⟨(some 9),.nilCheck (.tmp 8),0, "", #[eD 4],none⟩,⟨(some 10),.fieldAddr 32 (.tmp 9) 7,0, "", #[eD 5],none⟩,⟨(some 11),.load 9 (.tmp 10),0, "", #[eD 6],none⟩,⟨(some 12),.move (.tmp 0),0, "", #[],none⟩,⟨(some 13),.nilCheck (.tmp 12),0, "", #[eD 8],none⟩,⟨(some 14),.fieldAddr 32 (.tmp 13) 8,0, "", #[eD 9],none⟩,⟨(some 15),.load 30 (.tmp 14),0, "", #[eD 10],none⟩,⟨(some 16),.call ⟨(.value (.func 22)), #[(.tmp 7),(.tmp 11),(.tmp 15)], #[]⟩,0, "", #[eD 3,eD 7,eD 11],none⟩,⟨(some 3),.alloc 30,0, "", #[],none⟩,⟨none,.store 30 (.tmp 3) (.tmp 16),0, "", #[eD 13,eD 12,eC 12,eP 0,eP 1,eP 2,eP 3,eP 4,eP 5,eP 6,eP 7,eP 8,eP 9,eP 10,eP 11,eP 12,eP 13],none⟩]:List Oper).toArray true) (.seq (.region 0 ([⟨(some 17),.makeFunc (.func 23) #[] #[(.tmp 3)],0, "", #[],none⟩,⟨(some 18),.buildSlice 37 1 #[(0,(.tmp 17))],0, "", #[],none⟩,⟨(some 2),.assign (.tmp 18),0, "", #[],none⟩]:List Oper).toArray false) .ret)))):=aM (by kernel_rfl) (by kernel_rfl)
theorem UX:jJ Proofs.Tryz.prog fE 32 2097152 21:=by
 intro w0 b l0 row dO fh dn aJ hN
 have bB:l0.length=37:=(dn.len.trans ((ay _ _).1 aJ).1).trans qo.cks
 obtain⟨v0,l1,rfl,ig⟩:=aa bB
 obtain⟨v1,l2,rfl,dQ⟩:=aa ig
 obtain⟨v2,l3,rfl,my⟩:=aa dQ
 obtain⟨v3,l4,rfl,kV⟩:=aa my
 obtain⟨v4,l5,rfl,mz⟩:=aa kV
 obtain⟨v5,l6,rfl,mA⟩:=aa mz
 obtain⟨v6,l7,rfl,mB⟩:=aa mA
 obtain⟨v7,l8,rfl,mC⟩:=aa mB
 obtain⟨v8,l9,rfl,mD⟩:=aa mC
 obtain⟨v9,l10,rfl,iy⟩:=aa mD
 obtain⟨v10,l11,rfl,iz⟩:=aa iy
 obtain⟨v11,l12,rfl,iA⟩:=aa iz
 obtain⟨v12,l13,rfl,iB⟩:=aa iA
 obtain⟨kY,l14,rfl,iC⟩:=aa iB
 obtain⟨kZ,l15,rfl,iD⟩:=aa iC
 obtain⟨k7,l16,rfl,iE⟩:=aa iD
 obtain⟨k8,l17,rfl,iF⟩:=aa iE
 obtain⟨jy,l18,rfl,iG⟩:=aa iF
 obtain⟨kz,l19,rfl,iH⟩:=aa iG
 obtain⟨jZ,l20,rfl,iI⟩:=aa iH
 obtain⟨v20,l21,rfl,iJ⟩:=aa iI
 obtain⟨v21,l22,rfl,iK⟩:=aa iJ
 obtain⟨k9,l23,rfl,iL⟩:=aa iK
 obtain⟨lf,l24,rfl,iM⟩:=aa iL
 obtain⟨v24,l25,rfl,iN⟩:=aa iM
 obtain⟨lg,l26,rfl,iO⟩:=aa iN
 obtain⟨lh,l27,rfl,iP⟩:=aa iO
 obtain⟨lj,l28,rfl,iQ⟩:=aa iP
 obtain⟨v28,l29,rfl,iR⟩:=aa iQ
 obtain⟨fp,l30,rfl,iS⟩:=aa iR
 obtain⟨v30,l31,rfl,iT⟩:=aa iS
 obtain⟨v31,l32,rfl,iV⟩:=aa iT
 obtain⟨fq,l33,rfl,iW⟩:=aa iV
 obtain⟨fu,l34,rfl,iX⟩:=aa iW
 obtain⟨fw,l35,rfl,iY⟩:=aa iX
 obtain⟨fx,l36,rfl,iZ⟩:=aa iY
 obtain⟨mF,l37,rfl,ja⟩:=aa iZ
 obtain rfl:=List.eq_nil_of_length_eq_zero ja
 refine cN ZH ?_
 have hs:=SL.init (n:=19) [Ptr b 0] rfl
 revert hs
 generalize({tmps:=_,defers:=[]}:Act)=a
 intro hs
 have g0:=Ch.refl (fun _=>False) w0
 refine ai (ae ?_)
 refine L hs rfl rfl (aj hs (.inr rfl) rfl) fun a hs=>?_
 refine Le (ai (r8 15 rfl kit.mixed ?_))
 refine Rh (SK Proofs.Tryz.prog 19 3 30 [.int .i64,.str,.int .i64,.sl 9,.sl 84,.sl 30,.sl 152] w0) (fun _ _ _ h=>h) (fun a w100 hl=>?_) fun hp hQ=>?_
 rotate_left
 have hK:aA Proofs.Tryz.prog aI rQ:=UG
 have dx:O3 Proofs.Tryz.prog 32 rQ [2,3,4,5,6,7,8,28,29,30,31,32,33,34,35] [some 7,none,some 7] [some (true,[.int .i64,.str,.int .i64,.sl 9,.sl 84,.sl 30,.sl 152])]:=⟨rfl,rfl,by kernel_rfl,by kernel_rfl,by kernel_rfl,by kernel_rfl,by kernel_rfl⟩
 have cY:eh [some 7,none,some 7] (dw [2,3,4,5,6,7,8,28,29,30,31,32,33,34,35] [v0,v1,v2,v3,v4,v5,v6,v7,v8,v9,v10,v11,v12,kY,kZ,k7,k8,jy,kz,jZ,v20,v21,k9,lf,v24,lg,lh,lj,v28,fp,v30,v31,fq,fu,fw,fx,mF])=[pk true [v2,v3,v4,v5,v6,v7,v8],pk false [v28],pk true [fp,v30,v31,fq,fu,fw,fx]]:=by kernel_rfl
 have fJ:rQ.fn=22:=by kernel_rfl
 have c0:=Ch.drew (fun _=>False) w0
 generalize({w0 with drawn:=w0.drawn+1}:World)=w1 at c0 ⊢
 have g1:=g0.trans c0
 have bq:=c0.at dO fun h=>h
 have dj:=dn.ch c0
 have dk:=fh.ch c0
 ·skip
  refine Yb 0 hs rfl rfl rfl (by kernel_rfl) hp (fun w=>aj hs (.inl rfl) rfl) fun a hs=>?_
  refine Yb 1 hs rfl rfl rfl (by kernel_rfl) hp (fun w=>bH hs rfl rfl) fun a hs=>?_
  refine Yb 2 hs rfl rfl rfl (by kernel_rfl) hp (fun w=>bW (off:=2) (sz:=7) hs rfl rfl (by kernel_rfl)) fun a hs=>?_
  refine Yb 4 hs rfl rfl rfl (by kernel_rfl) hp (fun w=>aj hs (.inl rfl) rfl) fun a hs=>?_
  refine Yb 5 hs rfl rfl rfl (by kernel_rfl) hp (fun w=>bH hs rfl rfl) fun a hs=>?_
  refine Yb 6 hs rfl rfl rfl (by kernel_rfl) hp (fun w=>bW (off:=28) (sz:=1) hs rfl rfl (by kernel_rfl)) fun a hs=>?_
  refine Yb 8 hs rfl rfl rfl (by kernel_rfl) hp (fun w=>aj hs (.inl rfl) rfl) fun a hs=>?_
  refine Yb 9 hs rfl rfl rfl (by kernel_rfl) hp (fun w=>bH hs rfl rfl) fun a hs=>?_
  refine Yb 10 hs rfl rfl rfl (by kernel_rfl) hp (fun w=>bW (off:=29) (sz:=7) hs rfl rfl (by kernel_rfl)) fun a hs=>?_
  refine wpAny_all (rs:=[3,7,11,13]) (by kernel_rfl) (by simp) fun j hj=>?_
  simp only[List.mem_cons,List.mem_nil_iff,or_false]at hj
  rcases hj with rfl|rfl|rfl|rfl
  ·refine ak hs rfl rfl rfl (aL [v2,v3,v4,v5,v6,v7,v8] hs rfl rfl br rfl bq (aG 2 7 rfl)) fun a hs=>?_
   refine wpAny_all (rs:=[7,11,13]) (by kernel_rfl) (by simp) fun j hj=>?_
   simp only[List.mem_cons,List.mem_nil_iff,or_false]at hj
   rcases hj with rfl|rfl|rfl
   ·refine ak hs rfl rfl rfl (aL [v28] hs rfl rfl lP rfl bq (aG 28 1 rfl)) fun a hs=>?_
    refine wpAny_all (rs:=[11,13]) (by kernel_rfl) (by simp) fun j hj=>?_
    simp only[List.mem_cons,List.mem_nil_iff,or_false]at hj
    rcases hj with rfl|rfl
    ·refine ak hs rfl rfl rfl (aL [fp,v30,v31,fq,fu,fw,fx] hs rfl rfl br rfl bq (aG 29 7 rfl)) fun a hs=>?_
     refine wpAny_all (rs:=[12,13]) (by kernel_rfl) (by simp) fun j hj=>?_
     simp only[List.mem_cons,List.mem_nil_iff,or_false]at hj
     rcases hj with rfl|rfl
     ·have q1:=bG (is:=[2,3,4,5,6,7,8,28,29,30,31,32,33,34,35]) (parts:=[some 7,none,some 7]) (kinds:=[some (true,[.int .i64,.str,.int .i64,.sl 9,.sl 84,.sl 30,.sl 152])]) hK dx dk aJ dj hN
      rw[cY,fJ]at q1
      refine bs hs rfl rfl rfl rfl rfl rfl (by kernel_rfl) q1 fun v w2 a hO hs=>?_
      obtain⟨c1,fi,rfl,cg⟩:=hO
      obtain⟨rr0,bM,fj,rfl,aY,bw,cj⟩:=cg.take
      obtain rfl:=cj.nil
      have cO:=g1.size
      have bB:bM.length=7:=(aY.len.trans ((ay _ _).1 bw).1)
      have g2:=g1.trans c1
      have gc:=Ch.refl (fun _=>False) w2
      refine Y1 13 (by kernel_rfl) (ak hs rfl rfl rfl (cf rfl fB) fun a hs=>?_)
      have c2:=Ch.alloc (fun _=>False) w2 (.cells [.int .i64 0,.string ⟨#[]⟩,.int .i64 0,.slice none 0 0,.slice none 0 0,.slice none 0 0,.slice none 0 0].toArray 30)
      have aZ:=heap_alloc_new w2 (.cells [.int .i64 0,.string ⟨#[]⟩,.int .i64 0,.slice none 0 0,.slice none 0 0,.slice none 0 0,.slice none 0 0].toArray 30)
      have cI:=g2.size
      have ge13:=gc.size
      generalize fN:w2.heap.size=cZ at*
      generalize w2.alloc (.cells [.int .i64 0,.string ⟨#[]⟩,.int .i64 0,.slice none 0 0,.slice none 0 0,.slice none 0 0,.slice none 0 0].toArray 30)=w3 at*
      have g3:=g2.trans c2
      have gc:=gc.trans c2
      exact b7 (i1:=14) (rr0:=rr0) (by kernel_rfl) (by kernel_rfl) rfl rfl rfl rfl br rfl hQ (hs.keep [3,16]) g3 aZ rfl bB aY.one cI
       (fun w' hw=>(aY.keep fun b o hb hh=>have:=an hh;hw b o (by omega) (gc.at hh id)).down cO) bw
     ·refine ak hs rfl rfl rfl (cf rfl fB) fun a hs=>?_
      have c1:=Ch.alloc (fun _=>False) w1 (.cells [.int .i64 0,.string ⟨#[]⟩,.int .i64 0,.slice none 0 0,.slice none 0 0,.slice none 0 0,.slice none 0 0].toArray 30)
      have aT:=heap_alloc_new w1 (.cells [.int .i64 0,.string ⟨#[]⟩,.int .i64 0,.slice none 0 0,.slice none 0 0,.slice none 0 0,.slice none 0 0].toArray 30)
      have cI:=g1.size
      generalize fN:w1.heap.size=cZ at*
      generalize w1.alloc (.cells [.int .i64 0,.string ⟨#[]⟩,.int .i64 0,.slice none 0 0,.slice none 0 0,.slice none 0 0,.slice none 0 0].toArray 30)=w2 at*
      have g2:=g1.trans c1
      have bz:=c1.at bq id
      have b9:=dj.ch c1
      have cS:=dk.ch c1
      have gK:cZ<w2.heap.size:=an aT
      have q2:=bG (is:=[2,3,4,5,6,7,8,28,29,30,31,32,33,34,35]) (parts:=[some 7,none,some 7]) (kinds:=[some (true,[.int .i64,.str,.int .i64,.sl 9,.sl 84,.sl 30,.sl 152])]) hK dx cS aJ b9 hN
      rw[cY,fJ]at q2
      refine Y1 12 (by kernel_rfl) (bs hs rfl rfl rfl rfl rfl rfl (by kernel_rfl) q2 fun v w3 a hO hs=>?_)
      obtain⟨c2,fi,rfl,cg⟩:=hO
      obtain⟨rr0,bM,fj,rfl,aY,bw,cj⟩:=cg.take
      obtain rfl:=cj.nil
      have cO:=g2.size
      have bB:bM.length=7:=(aY.len.trans ((ay _ _).1 bw).1)
      have g3:=g2.trans c2
      have aZ:=c2.at aT id
      have gc:=Ch.refl (fun _=>False) w3
      exact b7 (i1:=14) (rr0:=rr0) (by kernel_rfl) (by kernel_rfl) rfl rfl rfl rfl br rfl hQ (hs.keep [3,16]) g3 aZ rfl bB aY.one cI
       (fun w' hw=>(aY.keep fun b o hb hh=>have:=an hh;hw b o (by omega) (gc.at hh id)).down cO) bw
    ·refine ak hs rfl rfl rfl (cf rfl fB) fun a hs=>?_
     have c1:=Ch.alloc (fun _=>False) w1 (.cells [.int .i64 0,.string ⟨#[]⟩,.int .i64 0,.slice none 0 0,.slice none 0 0,.slice none 0 0,.slice none 0 0].toArray 30)
     have aT:=heap_alloc_new w1 (.cells [.int .i64 0,.string ⟨#[]⟩,.int .i64 0,.slice none 0 0,.slice none 0 0,.slice none 0 0,.slice none 0 0].toArray 30)
     have cI:=g1.size
     generalize fN:w1.heap.size=cZ at*
     generalize w1.alloc (.cells [.int .i64 0,.string ⟨#[]⟩,.int .i64 0,.slice none 0 0,.slice none 0 0,.slice none 0 0,.slice none 0 0].toArray 30)=w2 at*
     have g2:=g1.trans c1
     have bz:=c1.at bq id
     have b9:=dj.ch c1
     have cS:=dk.ch c1
     refine Y1 11 (by kernel_rfl) (ak hs rfl rfl rfl (aL [fp,v30,v31,fq,fu,fw,fx] hs rfl rfl br rfl bz (aG 29 7 rfl)) fun a hs=>?_)
     have gK:cZ<w2.heap.size:=an aT
     have q2:=bG (is:=[2,3,4,5,6,7,8,28,29,30,31,32,33,34,35]) (parts:=[some 7,none,some 7]) (kinds:=[some (true,[.int .i64,.str,.int .i64,.sl 9,.sl 84,.sl 30,.sl 152])]) hK dx cS aJ b9 hN
     rw[cY,fJ]at q2
     refine Y1 12 (by kernel_rfl) (bs hs rfl rfl rfl rfl rfl rfl (by kernel_rfl) q2 fun v w3 a hO hs=>?_)
     obtain⟨c2,fi,rfl,cg⟩:=hO
     obtain⟨rr0,bM,fj,rfl,aY,bw,cj⟩:=cg.take
     obtain rfl:=cj.nil
     have cO:=g2.size
     have bB:bM.length=7:=(aY.len.trans ((ay _ _).1 bw).1)
     have g3:=g2.trans c2
     have aZ:=c2.at aT id
     have gc:=Ch.refl (fun _=>False) w3
     exact b7 (i1:=14) (rr0:=rr0) (by kernel_rfl) (by kernel_rfl) rfl rfl rfl rfl br rfl hQ (hs.keep [3,16]) g3 aZ rfl bB aY.one cI
      (fun w' hw=>(aY.keep fun b o hb hh=>have:=an hh;hw b o (by omega) (gc.at hh id)).down cO) bw
   ·refine ak hs rfl rfl rfl (aL [fp,v30,v31,fq,fu,fw,fx] hs rfl rfl br rfl bq (aG 29 7 rfl)) fun a hs=>?_
    refine wpAny_all (rs:=[7,13]) (by kernel_rfl) (by simp) fun j hj=>?_
    simp only[List.mem_cons,List.mem_nil_iff,or_false]at hj
    rcases hj with rfl|rfl
    ·refine ak hs rfl rfl rfl (aL [v28] hs rfl rfl lP rfl bq (aG 28 1 rfl)) fun a hs=>?_
     refine wpAny_all (rs:=[12,13]) (by kernel_rfl) (by simp) fun j hj=>?_
     simp only[List.mem_cons,List.mem_nil_iff,or_false]at hj
     rcases hj with rfl|rfl
     ·have q1:=bG (is:=[2,3,4,5,6,7,8,28,29,30,31,32,33,34,35]) (parts:=[some 7,none,some 7]) (kinds:=[some (true,[.int .i64,.str,.int .i64,.sl 9,.sl 84,.sl 30,.sl 152])]) hK dx dk aJ dj hN
      rw[cY,fJ]at q1
      refine bs hs rfl rfl rfl rfl rfl rfl (by kernel_rfl) q1 fun v w2 a hO hs=>?_
      obtain⟨c1,fi,rfl,cg⟩:=hO
      obtain⟨rr0,bM,fj,rfl,aY,bw,cj⟩:=cg.take
      obtain rfl:=cj.nil
      have cO:=g1.size
      have bB:bM.length=7:=(aY.len.trans ((ay _ _).1 bw).1)
      have g2:=g1.trans c1
      have gc:=Ch.refl (fun _=>False) w2
      refine Y1 13 (by kernel_rfl) (ak hs rfl rfl rfl (cf rfl fB) fun a hs=>?_)
      have c2:=Ch.alloc (fun _=>False) w2 (.cells [.int .i64 0,.string ⟨#[]⟩,.int .i64 0,.slice none 0 0,.slice none 0 0,.slice none 0 0,.slice none 0 0].toArray 30)
      have aZ:=heap_alloc_new w2 (.cells [.int .i64 0,.string ⟨#[]⟩,.int .i64 0,.slice none 0 0,.slice none 0 0,.slice none 0 0,.slice none 0 0].toArray 30)
      have cI:=g2.size
      have ge13:=gc.size
      generalize fN:w2.heap.size=cZ at*
      generalize w2.alloc (.cells [.int .i64 0,.string ⟨#[]⟩,.int .i64 0,.slice none 0 0,.slice none 0 0,.slice none 0 0,.slice none 0 0].toArray 30)=w3 at*
      have g3:=g2.trans c2
      have gc:=gc.trans c2
      exact b7 (i1:=14) (rr0:=rr0) (by kernel_rfl) (by kernel_rfl) rfl rfl rfl rfl br rfl hQ (hs.keep [3,16]) g3 aZ rfl bB aY.one cI
       (fun w' hw=>(aY.keep fun b o hb hh=>have:=an hh;hw b o (by omega) (gc.at hh id)).down cO) bw
     ·refine ak hs rfl rfl rfl (cf rfl fB) fun a hs=>?_
      have c1:=Ch.alloc (fun _=>False) w1 (.cells [.int .i64 0,.string ⟨#[]⟩,.int .i64 0,.slice none 0 0,.slice none 0 0,.slice none 0 0,.slice none 0 0].toArray 30)
      have aT:=heap_alloc_new w1 (.cells [.int .i64 0,.string ⟨#[]⟩,.int .i64 0,.slice none 0 0,.slice none 0 0,.slice none 0 0,.slice none 0 0].toArray 30)
      have cI:=g1.size
      generalize fN:w1.heap.size=cZ at*
      generalize w1.alloc (.cells [.int .i64 0,.string ⟨#[]⟩,.int .i64 0,.slice none 0 0,.slice none 0 0,.slice none 0 0,.slice none 0 0].toArray 30)=w2 at*
      have g2:=g1.trans c1
      have bz:=c1.at bq id
      have b9:=dj.ch c1
      have cS:=dk.ch c1
      have gK:cZ<w2.heap.size:=an aT
      have q2:=bG (is:=[2,3,4,5,6,7,8,28,29,30,31,32,33,34,35]) (parts:=[some 7,none,some 7]) (kinds:=[some (true,[.int .i64,.str,.int .i64,.sl 9,.sl 84,.sl 30,.sl 152])]) hK dx cS aJ b9 hN
      rw[cY,fJ]at q2
      refine Y1 12 (by kernel_rfl) (bs hs rfl rfl rfl rfl rfl rfl (by kernel_rfl) q2 fun v w3 a hO hs=>?_)
      obtain⟨c2,fi,rfl,cg⟩:=hO
      obtain⟨rr0,bM,fj,rfl,aY,bw,cj⟩:=cg.take
      obtain rfl:=cj.nil
      have cO:=g2.size
      have bB:bM.length=7:=(aY.len.trans ((ay _ _).1 bw).1)
      have g3:=g2.trans c2
      have aZ:=c2.at aT id
      have gc:=Ch.refl (fun _=>False) w3
      exact b7 (i1:=14) (rr0:=rr0) (by kernel_rfl) (by kernel_rfl) rfl rfl rfl rfl br rfl hQ (hs.keep [3,16]) g3 aZ rfl bB aY.one cI
       (fun w' hw=>(aY.keep fun b o hb hh=>have:=an hh;hw b o (by omega) (gc.at hh id)).down cO) bw
    ·refine ak hs rfl rfl rfl (cf rfl fB) fun a hs=>?_
     have c1:=Ch.alloc (fun _=>False) w1 (.cells [.int .i64 0,.string ⟨#[]⟩,.int .i64 0,.slice none 0 0,.slice none 0 0,.slice none 0 0,.slice none 0 0].toArray 30)
     have aT:=heap_alloc_new w1 (.cells [.int .i64 0,.string ⟨#[]⟩,.int .i64 0,.slice none 0 0,.slice none 0 0,.slice none 0 0,.slice none 0 0].toArray 30)
     have cI:=g1.size
     generalize fN:w1.heap.size=cZ at*
     generalize w1.alloc (.cells [.int .i64 0,.string ⟨#[]⟩,.int .i64 0,.slice none 0 0,.slice none 0 0,.slice none 0 0,.slice none 0 0].toArray 30)=w2 at*
     have g2:=g1.trans c1
     have bz:=c1.at bq id
     have b9:=dj.ch c1
     have cS:=dk.ch c1
     refine Y1 7 (by kernel_rfl) (ak hs rfl rfl rfl (aL [v28] hs rfl rfl lP rfl bz (aG 28 1 rfl)) fun a hs=>?_)
     have gK:cZ<w2.heap.size:=an aT
     have q2:=bG (is:=[2,3,4,5,6,7,8,28,29,30,31,32,33,34,35]) (parts:=[some 7,none,some 7]) (kinds:=[some (true,[.int .i64,.str,.int .i64,.sl 9,.sl 84,.sl 30,.sl 152])]) hK dx cS aJ b9 hN
     rw[cY,fJ]at q2
     refine Y1 12 (by kernel_rfl) (bs hs rfl rfl rfl rfl rfl rfl (by kernel_rfl) q2 fun v w3 a hO hs=>?_)
     obtain⟨c2,fi,rfl,cg⟩:=hO
     obtain⟨rr0,bM,fj,rfl,aY,bw,cj⟩:=cg.take
     obtain rfl:=cj.nil
     have cO:=g2.size
     have bB:bM.length=7:=(aY.len.trans ((ay _ _).1 bw).1)
     have g3:=g2.trans c2
     have aZ:=c2.at aT id
     have gc:=Ch.refl (fun _=>False) w3
     exact b7 (i1:=14) (rr0:=rr0) (by kernel_rfl) (by kernel_rfl) rfl rfl rfl rfl br rfl hQ (hs.keep [3,16]) g3 aZ rfl bB aY.one cI
      (fun w' hw=>(aY.keep fun b o hb hh=>have:=an hh;hw b o (by omega) (gc.at hh id)).down cO) bw
   ·refine ak hs rfl rfl rfl (cf rfl fB) fun a hs=>?_
    have c1:=Ch.alloc (fun _=>False) w1 (.cells [.int .i64 0,.string ⟨#[]⟩,.int .i64 0,.slice none 0 0,.slice none 0 0,.slice none 0 0,.slice none 0 0].toArray 30)
    have aT:=heap_alloc_new w1 (.cells [.int .i64 0,.string ⟨#[]⟩,.int .i64 0,.slice none 0 0,.slice none 0 0,.slice none 0 0,.slice none 0 0].toArray 30)
    have cI:=g1.size
    generalize fN:w1.heap.size=cZ at*
    generalize w1.alloc (.cells [.int .i64 0,.string ⟨#[]⟩,.int .i64 0,.slice none 0 0,.slice none 0 0,.slice none 0 0,.slice none 0 0].toArray 30)=w2 at*
    have g2:=g1.trans c1
    have bz:=c1.at bq id
    have b9:=dj.ch c1
    have cS:=dk.ch c1
    refine wpAny_all (rs:=[7,11]) (by kernel_rfl) (by simp) fun j hj=>?_
    simp only[List.mem_cons,List.mem_nil_iff,or_false]at hj
    rcases hj with rfl|rfl
    ·refine ak hs rfl rfl rfl (aL [v28] hs rfl rfl lP rfl bz (aG 28 1 rfl)) fun a hs=>?_
     refine Y1 11 (by kernel_rfl) (ak hs rfl rfl rfl (aL [fp,v30,v31,fq,fu,fw,fx] hs rfl rfl br rfl bz (aG 29 7 rfl)) fun a hs=>?_)
     have gK:cZ<w2.heap.size:=an aT
     have q2:=bG (is:=[2,3,4,5,6,7,8,28,29,30,31,32,33,34,35]) (parts:=[some 7,none,some 7]) (kinds:=[some (true,[.int .i64,.str,.int .i64,.sl 9,.sl 84,.sl 30,.sl 152])]) hK dx cS aJ b9 hN
     rw[cY,fJ]at q2
     refine Y1 12 (by kernel_rfl) (bs hs rfl rfl rfl rfl rfl rfl (by kernel_rfl) q2 fun v w3 a hO hs=>?_)
     obtain⟨c2,fi,rfl,cg⟩:=hO
     obtain⟨rr0,bM,fj,rfl,aY,bw,cj⟩:=cg.take
     obtain rfl:=cj.nil
     have cO:=g2.size
     have bB:bM.length=7:=(aY.len.trans ((ay _ _).1 bw).1)
     have g3:=g2.trans c2
     have aZ:=c2.at aT id
     have gc:=Ch.refl (fun _=>False) w3
     exact b7 (i1:=14) (rr0:=rr0) (by kernel_rfl) (by kernel_rfl) rfl rfl rfl rfl br rfl hQ (hs.keep [3,16]) g3 aZ rfl bB aY.one cI
      (fun w' hw=>(aY.keep fun b o hb hh=>have:=an hh;hw b o (by omega) (gc.at hh id)).down cO) bw
    ·refine ak hs rfl rfl rfl (aL [fp,v30,v31,fq,fu,fw,fx] hs rfl rfl br rfl bz (aG 29 7 rfl)) fun a hs=>?_
     refine Y1 7 (by kernel_rfl) (ak hs rfl rfl rfl (aL [v28] hs rfl rfl lP rfl bz (aG 28 1 rfl)) fun a hs=>?_)
     have gK:cZ<w2.heap.size:=an aT
     have q2:=bG (is:=[2,3,4,5,6,7,8,28,29,30,31,32,33,34,35]) (parts:=[some 7,none,some 7]) (kinds:=[some (true,[.int .i64,.str,.int .i64,.sl 9,.sl 84,.sl 30,.sl 152])]) hK dx cS aJ b9 hN
     rw[cY,fJ]at q2
     refine Y1 12 (by kernel_rfl) (bs hs rfl rfl rfl rfl rfl rfl (by kernel_rfl) q2 fun v w3 a hO hs=>?_)
     obtain⟨c2,fi,rfl,cg⟩:=hO
     obtain⟨rr0,bM,fj,rfl,aY,bw,cj⟩:=cg.take
     obtain rfl:=cj.nil
     have cO:=g2.size
     have bB:bM.length=7:=(aY.len.trans ((ay _ _).1 bw).1)
     have g3:=g2.trans c2
     have aZ:=c2.at aT id
     have gc:=Ch.refl (fun _=>False) w3
     exact b7 (i1:=14) (rr0:=rr0) (by kernel_rfl) (by kernel_rfl) rfl rfl rfl rfl br rfl hQ (hs.keep [3,16]) g3 aZ rfl bB aY.one cI
      (fun w' hw=>(aY.keep fun b o hb hh=>have:=an hh;hw b o (by omega) (gc.at hh id)).down cO) bw
  ·refine ak hs rfl rfl rfl (aL [v28] hs rfl rfl lP rfl bq (aG 28 1 rfl)) fun a hs=>?_
   refine wpAny_all (rs:=[3,11,13]) (by kernel_rfl) (by simp) fun j hj=>?_
   simp only[List.mem_cons,List.mem_nil_iff,or_false]at hj
   rcases hj with rfl|rfl|rfl
   ·refine ak hs rfl rfl rfl (aL [v2,v3,v4,v5,v6,v7,v8] hs rfl rfl br rfl bq (aG 2 7 rfl)) fun a hs=>?_
    refine wpAny_all (rs:=[11,13]) (by kernel_rfl) (by simp) fun j hj=>?_
    simp only[List.mem_cons,List.mem_nil_iff,or_false]at hj
    rcases hj with rfl|rfl
    ·refine ak hs rfl rfl rfl (aL [fp,v30,v31,fq,fu,fw,fx] hs rfl rfl br rfl bq (aG 29 7 rfl)) fun a hs=>?_
     refine wpAny_all (rs:=[12,13]) (by kernel_rfl) (by simp) fun j hj=>?_
     simp only[List.mem_cons,List.mem_nil_iff,or_false]at hj
     rcases hj with rfl|rfl
     ·have q1:=bG (is:=[2,3,4,5,6,7,8,28,29,30,31,32,33,34,35]) (parts:=[some 7,none,some 7]) (kinds:=[some (true,[.int .i64,.str,.int .i64,.sl 9,.sl 84,.sl 30,.sl 152])]) hK dx dk aJ dj hN
      rw[cY,fJ]at q1
      refine bs hs rfl rfl rfl rfl rfl rfl (by kernel_rfl) q1 fun v w2 a hO hs=>?_
      obtain⟨c1,fi,rfl,cg⟩:=hO
      obtain⟨rr0,bM,fj,rfl,aY,bw,cj⟩:=cg.take
      obtain rfl:=cj.nil
      have cO:=g1.size
      have bB:bM.length=7:=(aY.len.trans ((ay _ _).1 bw).1)
      have g2:=g1.trans c1
      have gc:=Ch.refl (fun _=>False) w2
      refine Y1 13 (by kernel_rfl) (ak hs rfl rfl rfl (cf rfl fB) fun a hs=>?_)
      have c2:=Ch.alloc (fun _=>False) w2 (.cells [.int .i64 0,.string ⟨#[]⟩,.int .i64 0,.slice none 0 0,.slice none 0 0,.slice none 0 0,.slice none 0 0].toArray 30)
      have aZ:=heap_alloc_new w2 (.cells [.int .i64 0,.string ⟨#[]⟩,.int .i64 0,.slice none 0 0,.slice none 0 0,.slice none 0 0,.slice none 0 0].toArray 30)
      have cI:=g2.size
      have ge13:=gc.size
      generalize fN:w2.heap.size=cZ at*
      generalize w2.alloc (.cells [.int .i64 0,.string ⟨#[]⟩,.int .i64 0,.slice none 0 0,.slice none 0 0,.slice none 0 0,.slice none 0 0].toArray 30)=w3 at*
      have g3:=g2.trans c2
      have gc:=gc.trans c2
      exact b7 (i1:=14) (rr0:=rr0) (by kernel_rfl) (by kernel_rfl) rfl rfl rfl rfl br rfl hQ (hs.keep [3,16]) g3 aZ rfl bB aY.one cI
       (fun w' hw=>(aY.keep fun b o hb hh=>have:=an hh;hw b o (by omega) (gc.at hh id)).down cO) bw
     ·refine ak hs rfl rfl rfl (cf rfl fB) fun a hs=>?_
      have c1:=Ch.alloc (fun _=>False) w1 (.cells [.int .i64 0,.string ⟨#[]⟩,.int .i64 0,.slice none 0 0,.slice none 0 0,.slice none 0 0,.slice none 0 0].toArray 30)
      have aT:=heap_alloc_new w1 (.cells [.int .i64 0,.string ⟨#[]⟩,.int .i64 0,.slice none 0 0,.slice none 0 0,.slice none 0 0,.slice none 0 0].toArray 30)
      have cI:=g1.size
      generalize fN:w1.heap.size=cZ at*
      generalize w1.alloc (.cells [.int .i64 0,.string ⟨#[]⟩,.int .i64 0,.slice none 0 0,.slice none 0 0,.slice none 0 0,.slice none 0 0].toArray 30)=w2 at*
      have g2:=g1.trans c1
      have bz:=c1.at bq id
      have b9:=dj.ch c1
      have cS:=dk.ch c1
      have gK:cZ<w2.heap.size:=an aT
      have q2:=bG (is:=[2,3,4,5,6,7,8,28,29,30,31,32,33,34,35]) (parts:=[some 7,none,some 7]) (kinds:=[some (true,[.int .i64,.str,.int .i64,.sl 9,.sl 84,.sl 30,.sl 152])]) hK dx cS aJ b9 hN
      rw[cY,fJ]at q2
      refine Y1 12 (by kernel_rfl) (bs hs rfl rfl rfl rfl rfl rfl (by kernel_rfl) q2 fun v w3 a hO hs=>?_)
      obtain⟨c2,fi,rfl,cg⟩:=hO
      obtain⟨rr0,bM,fj,rfl,aY,bw,cj⟩:=cg.take
      obtain rfl:=cj.nil
      have cO:=g2.size
      have bB:bM.length=7:=(aY.len.trans ((ay _ _).1 bw).1)
      have g3:=g2.trans c2
      have aZ:=c2.at aT id
      have gc:=Ch.refl (fun _=>False) w3
      exact b7 (i1:=14) (rr0:=rr0) (by kernel_rfl) (by kernel_rfl) rfl rfl rfl rfl br rfl hQ (hs.keep [3,16]) g3 aZ rfl bB aY.one cI
       (fun w' hw=>(aY.keep fun b o hb hh=>have:=an hh;hw b o (by omega) (gc.at hh id)).down cO) bw
    ·refine ak hs rfl rfl rfl (cf rfl fB) fun a hs=>?_
     have c1:=Ch.alloc (fun _=>False) w1 (.cells [.int .i64 0,.string ⟨#[]⟩,.int .i64 0,.slice none 0 0,.slice none 0 0,.slice none 0 0,.slice none 0 0].toArray 30)
     have aT:=heap_alloc_new w1 (.cells [.int .i64 0,.string ⟨#[]⟩,.int .i64 0,.slice none 0 0,.slice none 0 0,.slice none 0 0,.slice none 0 0].toArray 30)
     have cI:=g1.size
     generalize fN:w1.heap.size=cZ at*
     generalize w1.alloc (.cells [.int .i64 0,.string ⟨#[]⟩,.int .i64 0,.slice none 0 0,.slice none 0 0,.slice none 0 0,.slice none 0 0].toArray 30)=w2 at*
     have g2:=g1.trans c1
     have bz:=c1.at bq id
     have b9:=dj.ch c1
     have cS:=dk.ch c1
     refine Y1 11 (by kernel_rfl) (ak hs rfl rfl rfl (aL [fp,v30,v31,fq,fu,fw,fx] hs rfl rfl br rfl bz (aG 29 7 rfl)) fun a hs=>?_)
     have gK:cZ<w2.heap.size:=an aT
     have q2:=bG (is:=[2,3,4,5,6,7,8,28,29,30,31,32,33,34,35]) (parts:=[some 7,none,some 7]) (kinds:=[some (true,[.int .i64,.str,.int .i64,.sl 9,.sl 84,.sl 30,.sl 152])]) hK dx cS aJ b9 hN
     rw[cY,fJ]at q2
     refine Y1 12 (by kernel_rfl) (bs hs rfl rfl rfl rfl rfl rfl (by kernel_rfl) q2 fun v w3 a hO hs=>?_)
     obtain⟨c2,fi,rfl,cg⟩:=hO
     obtain⟨rr0,bM,fj,rfl,aY,bw,cj⟩:=cg.take
     obtain rfl:=cj.nil
     have cO:=g2.size
     have bB:bM.length=7:=(aY.len.trans ((ay _ _).1 bw).1)
     have g3:=g2.trans c2
     have aZ:=c2.at aT id
     have gc:=Ch.refl (fun _=>False) w3
     exact b7 (i1:=14) (rr0:=rr0) (by kernel_rfl) (by kernel_rfl) rfl rfl rfl rfl br rfl hQ (hs.keep [3,16]) g3 aZ rfl bB aY.one cI
      (fun w' hw=>(aY.keep fun b o hb hh=>have:=an hh;hw b o (by omega) (gc.at hh id)).down cO) bw
   ·refine ak hs rfl rfl rfl (aL [fp,v30,v31,fq,fu,fw,fx] hs rfl rfl br rfl bq (aG 29 7 rfl)) fun a hs=>?_
    refine wpAny_all (rs:=[3,13]) (by kernel_rfl) (by simp) fun j hj=>?_
    simp only[List.mem_cons,List.mem_nil_iff,or_false]at hj
    rcases hj with rfl|rfl
    ·refine ak hs rfl rfl rfl (aL [v2,v3,v4,v5,v6,v7,v8] hs rfl rfl br rfl bq (aG 2 7 rfl)) fun a hs=>?_
     refine wpAny_all (rs:=[12,13]) (by kernel_rfl) (by simp) fun j hj=>?_
     simp only[List.mem_cons,List.mem_nil_iff,or_false]at hj
     rcases hj with rfl|rfl
     ·have q1:=bG (is:=[2,3,4,5,6,7,8,28,29,30,31,32,33,34,35]) (parts:=[some 7,none,some 7]) (kinds:=[some (true,[.int .i64,.str,.int .i64,.sl 9,.sl 84,.sl 30,.sl 152])]) hK dx dk aJ dj hN
      rw[cY,fJ]at q1
      refine bs hs rfl rfl rfl rfl rfl rfl (by kernel_rfl) q1 fun v w2 a hO hs=>?_
      obtain⟨c1,fi,rfl,cg⟩:=hO
      obtain⟨rr0,bM,fj,rfl,aY,bw,cj⟩:=cg.take
      obtain rfl:=cj.nil
      have cO:=g1.size
      have bB:bM.length=7:=(aY.len.trans ((ay _ _).1 bw).1)
      have g2:=g1.trans c1
      have gc:=Ch.refl (fun _=>False) w2
      refine Y1 13 (by kernel_rfl) (ak hs rfl rfl rfl (cf rfl fB) fun a hs=>?_)
      have c2:=Ch.alloc (fun _=>False) w2 (.cells [.int .i64 0,.string ⟨#[]⟩,.int .i64 0,.slice none 0 0,.slice none 0 0,.slice none 0 0,.slice none 0 0].toArray 30)
      have aZ:=heap_alloc_new w2 (.cells [.int .i64 0,.string ⟨#[]⟩,.int .i64 0,.slice none 0 0,.slice none 0 0,.slice none 0 0,.slice none 0 0].toArray 30)
      have cI:=g2.size
      have ge13:=gc.size
      generalize fN:w2.heap.size=cZ at*
      generalize w2.alloc (.cells [.int .i64 0,.string ⟨#[]⟩,.int .i64 0,.slice none 0 0,.slice none 0 0,.slice none 0 0,.slice none 0 0].toArray 30)=w3 at*
      have g3:=g2.trans c2
      have gc:=gc.trans c2
      exact b7 (i1:=14) (rr0:=rr0) (by kernel_rfl) (by kernel_rfl) rfl rfl rfl rfl br rfl hQ (hs.keep [3,16]) g3 aZ rfl bB aY.one cI
       (fun w' hw=>(aY.keep fun b o hb hh=>have:=an hh;hw b o (by omega) (gc.at hh id)).down cO) bw
     ·refine ak hs rfl rfl rfl (cf rfl fB) fun a hs=>?_
      have c1:=Ch.alloc (fun _=>False) w1 (.cells [.int .i64 0,.string ⟨#[]⟩,.int .i64 0,.slice none 0 0,.slice none 0 0,.slice none 0 0,.slice none 0 0].toArray 30)
      have aT:=heap_alloc_new w1 (.cells [.int .i64 0,.string ⟨#[]⟩,.int .i64 0,.slice none 0 0,.slice none 0 0,.slice none 0 0,.slice none 0 0].toArray 30)
      have cI:=g1.size
      generalize fN:w1.heap.size=cZ at*
      generalize w1.alloc (.cells [.int .i64 0,.string ⟨#[]⟩,.int .i64 0,.slice none 0 0,.slice none 0 0,.slice none 0 0,.slice none 0 0].toArray 30)=w2 at*
      have g2:=g1.trans c1
      have bz:=c1.at bq id
      have b9:=dj.ch c1
      have cS:=dk.ch c1
      have gK:cZ<w2.heap.size:=an aT
      have q2:=bG (is:=[2,3,4,5,6,7,8,28,29,30,31,32,33,34,35]) (parts:=[some 7,none,some 7]) (kinds:=[some (true,[.int .i64,.str,.int .i64,.sl 9,.sl 84,.sl 30,.sl 152])]) hK dx cS aJ b9 hN
      rw[cY,fJ]at q2
      refine Y1 12 (by kernel_rfl) (bs hs rfl rfl rfl rfl rfl rfl (by kernel_rfl) q2 fun v w3 a hO hs=>?_)
      obtain⟨c2,fi,rfl,cg⟩:=hO
      obtain⟨rr0,bM,fj,rfl,aY,bw,cj⟩:=cg.take
      obtain rfl:=cj.nil
      have cO:=g2.size
      have bB:bM.length=7:=(aY.len.trans ((ay _ _).1 bw).1)
      have g3:=g2.trans c2
      have aZ:=c2.at aT id
      have gc:=Ch.refl (fun _=>False) w3
      exact b7 (i1:=14) (rr0:=rr0) (by kernel_rfl) (by kernel_rfl) rfl rfl rfl rfl br rfl hQ (hs.keep [3,16]) g3 aZ rfl bB aY.one cI
       (fun w' hw=>(aY.keep fun b o hb hh=>have:=an hh;hw b o (by omega) (gc.at hh id)).down cO) bw
    ·refine ak hs rfl rfl rfl (cf rfl fB) fun a hs=>?_
     have c1:=Ch.alloc (fun _=>False) w1 (.cells [.int .i64 0,.string ⟨#[]⟩,.int .i64 0,.slice none 0 0,.slice none 0 0,.slice none 0 0,.slice none 0 0].toArray 30)
     have aT:=heap_alloc_new w1 (.cells [.int .i64 0,.string ⟨#[]⟩,.int .i64 0,.slice none 0 0,.slice none 0 0,.slice none 0 0,.slice none 0 0].toArray 30)
     have cI:=g1.size
     generalize fN:w1.heap.size=cZ at*
     generalize w1.alloc (.cells [.int .i64 0,.string ⟨#[]⟩,.int .i64 0,.slice none 0 0,.slice none 0 0,.slice none 0 0,.slice none 0 0].toArray 30)=w2 at*
     have g2:=g1.trans c1
     have bz:=c1.at bq id
     have b9:=dj.ch c1
     have cS:=dk.ch c1
     refine Y1 3 (by kernel_rfl) (ak hs rfl rfl rfl (aL [v2,v3,v4,v5,v6,v7,v8] hs rfl rfl br rfl bz (aG 2 7 rfl)) fun a hs=>?_)
     have gK:cZ<w2.heap.size:=an aT
     have q2:=bG (is:=[2,3,4,5,6,7,8,28,29,30,31,32,33,34,35]) (parts:=[some 7,none,some 7]) (kinds:=[some (true,[.int .i64,.str,.int .i64,.sl 9,.sl 84,.sl 30,.sl 152])]) hK dx cS aJ b9 hN
     rw[cY,fJ]at q2
     refine Y1 12 (by kernel_rfl) (bs hs rfl rfl rfl rfl rfl rfl (by kernel_rfl) q2 fun v w3 a hO hs=>?_)
     obtain⟨c2,fi,rfl,cg⟩:=hO
     obtain⟨rr0,bM,fj,rfl,aY,bw,cj⟩:=cg.take
     obtain rfl:=cj.nil
     have cO:=g2.size
     have bB:bM.length=7:=(aY.len.trans ((ay _ _).1 bw).1)
     have g3:=g2.trans c2
     have aZ:=c2.at aT id
     have gc:=Ch.refl (fun _=>False) w3
     exact b7 (i1:=14) (rr0:=rr0) (by kernel_rfl) (by kernel_rfl) rfl rfl rfl rfl br rfl hQ (hs.keep [3,16]) g3 aZ rfl bB aY.one cI
      (fun w' hw=>(aY.keep fun b o hb hh=>have:=an hh;hw b o (by omega) (gc.at hh id)).down cO) bw
   ·refine ak hs rfl rfl rfl (cf rfl fB) fun a hs=>?_
    have c1:=Ch.alloc (fun _=>False) w1 (.cells [.int .i64 0,.string ⟨#[]⟩,.int .i64 0,.slice none 0 0,.slice none 0 0,.slice none 0 0,.slice none 0 0].toArray 30)
    have aT:=heap_alloc_new w1 (.cells [.int .i64 0,.string ⟨#[]⟩,.int .i64 0,.slice none 0 0,.slice none 0 0,.slice none 0 0,.slice none 0 0].toArray 30)
    have cI:=g1.size
    generalize fN:w1.heap.size=cZ at*
    generalize w1.alloc (.cells [.int .i64 0,.string ⟨#[]⟩,.int .i64 0,.slice none 0 0,.slice none 0 0,.slice none 0 0,.slice none 0 0].toArray 30)=w2 at*
    have g2:=g1.trans c1
    have bz:=c1.at bq id
    have b9:=dj.ch c1
    have cS:=dk.ch c1
    refine wpAny_all (rs:=[3,11]) (by kernel_rfl) (by simp) fun j hj=>?_
    simp only[List.mem_cons,List.mem_nil_iff,or_false]at hj
    rcases hj with rfl|rfl
    ·refine ak hs rfl rfl rfl (aL [v2,v3,v4,v5,v6,v7,v8] hs rfl rfl br rfl bz (aG 2 7 rfl)) fun a hs=>?_
     refine Y1 11 (by kernel_rfl) (ak hs rfl rfl rfl (aL [fp,v30,v31,fq,fu,fw,fx] hs rfl rfl br rfl bz (aG 29 7 rfl)) fun a hs=>?_)
     have gK:cZ<w2.heap.size:=an aT
     have q2:=bG (is:=[2,3,4,5,6,7,8,28,29,30,31,32,33,34,35]) (parts:=[some 7,none,some 7]) (kinds:=[some (true,[.int .i64,.str,.int .i64,.sl 9,.sl 84,.sl 30,.sl 152])]) hK dx cS aJ b9 hN
     rw[cY,fJ]at q2
     refine Y1 12 (by kernel_rfl) (bs hs rfl rfl rfl rfl rfl rfl (by kernel_rfl) q2 fun v w3 a hO hs=>?_)
     obtain⟨c2,fi,rfl,cg⟩:=hO
     obtain⟨rr0,bM,fj,rfl,aY,bw,cj⟩:=cg.take
     obtain rfl:=cj.nil
     have cO:=g2.size
     have bB:bM.length=7:=(aY.len.trans ((ay _ _).1 bw).1)
     have g3:=g2.trans c2
     have aZ:=c2.at aT id
     have gc:=Ch.refl (fun _=>False) w3
     exact b7 (i1:=14) (rr0:=rr0) (by kernel_rfl) (by kernel_rfl) rfl rfl rfl rfl br rfl hQ (hs.keep [3,16]) g3 aZ rfl bB aY.one cI
      (fun w' hw=>(aY.keep fun b o hb hh=>have:=an hh;hw b o (by omega) (gc.at hh id)).down cO) bw
    ·refine ak hs rfl rfl rfl (aL [fp,v30,v31,fq,fu,fw,fx] hs rfl rfl br rfl bz (aG 29 7 rfl)) fun a hs=>?_
     refine Y1 3 (by kernel_rfl) (ak hs rfl rfl rfl (aL [v2,v3,v4,v5,v6,v7,v8] hs rfl rfl br rfl bz (aG 2 7 rfl)) fun a hs=>?_)
     have gK:cZ<w2.heap.size:=an aT
     have q2:=bG (is:=[2,3,4,5,6,7,8,28,29,30,31,32,33,34,35]) (parts:=[some 7,none,some 7]) (kinds:=[some (true,[.int .i64,.str,.int .i64,.sl 9,.sl 84,.sl 30,.sl 152])]) hK dx cS aJ b9 hN
     rw[cY,fJ]at q2
     refine Y1 12 (by kernel_rfl) (bs hs rfl rfl rfl rfl rfl rfl (by kernel_rfl) q2 fun v w3 a hO hs=>?_)
     obtain⟨c2,fi,rfl,cg⟩:=hO
     obtain⟨rr0,bM,fj,rfl,aY,bw,cj⟩:=cg.take
     obtain rfl:=cj.nil
     have cO:=g2.size
     have bB:bM.length=7:=(aY.len.trans ((ay _ _).1 bw).1)
     have g3:=g2.trans c2
     have aZ:=c2.at aT id
     have gc:=Ch.refl (fun _=>False) w3
     exact b7 (i1:=14) (rr0:=rr0) (by kernel_rfl) (by kernel_rfl) rfl rfl rfl rfl br rfl hQ (hs.keep [3,16]) g3 aZ rfl bB aY.one cI
      (fun w' hw=>(aY.keep fun b o hb hh=>have:=an hh;hw b o (by omega) (gc.at hh id)).down cO) bw
  ·refine ak hs rfl rfl rfl (aL [fp,v30,v31,fq,fu,fw,fx] hs rfl rfl br rfl bq (aG 29 7 rfl)) fun a hs=>?_
   refine wpAny_all (rs:=[3,7,13]) (by kernel_rfl) (by simp) fun j hj=>?_
   simp only[List.mem_cons,List.mem_nil_iff,or_false]at hj
   rcases hj with rfl|rfl|rfl
   ·refine ak hs rfl rfl rfl (aL [v2,v3,v4,v5,v6,v7,v8] hs rfl rfl br rfl bq (aG 2 7 rfl)) fun a hs=>?_
    refine wpAny_all (rs:=[7,13]) (by kernel_rfl) (by simp) fun j hj=>?_
    simp only[List.mem_cons,List.mem_nil_iff,or_false]at hj
    rcases hj with rfl|rfl
    ·refine ak hs rfl rfl rfl (aL [v28] hs rfl rfl lP rfl bq (aG 28 1 rfl)) fun a hs=>?_
     refine wpAny_all (rs:=[12,13]) (by kernel_rfl) (by simp) fun j hj=>?_
     simp only[List.mem_cons,List.mem_nil_iff,or_false]at hj
     rcases hj with rfl|rfl
     ·have q1:=bG (is:=[2,3,4,5,6,7,8,28,29,30,31,32,33,34,35]) (parts:=[some 7,none,some 7]) (kinds:=[some (true,[.int .i64,.str,.int .i64,.sl 9,.sl 84,.sl 30,.sl 152])]) hK dx dk aJ dj hN
      rw[cY,fJ]at q1
      refine bs hs rfl rfl rfl rfl rfl rfl (by kernel_rfl) q1 fun v w2 a hO hs=>?_
      obtain⟨c1,fi,rfl,cg⟩:=hO
      obtain⟨rr0,bM,fj,rfl,aY,bw,cj⟩:=cg.take
      obtain rfl:=cj.nil
      have cO:=g1.size
      have bB:bM.length=7:=(aY.len.trans ((ay _ _).1 bw).1)
      have g2:=g1.trans c1
      have gc:=Ch.refl (fun _=>False) w2
      refine Y1 13 (by kernel_rfl) (ak hs rfl rfl rfl (cf rfl fB) fun a hs=>?_)
      have c2:=Ch.alloc (fun _=>False) w2 (.cells [.int .i64 0,.string ⟨#[]⟩,.int .i64 0,.slice none 0 0,.slice none 0 0,.slice none 0 0,.slice none 0 0].toArray 30)
      have aZ:=heap_alloc_new w2 (.cells [.int .i64 0,.string ⟨#[]⟩,.int .i64 0,.slice none 0 0,.slice none 0 0,.slice none 0 0,.slice none 0 0].toArray 30)
      have cI:=g2.size
      have ge13:=gc.size
      generalize fN:w2.heap.size=cZ at*
      generalize w2.alloc (.cells [.int .i64 0,.string ⟨#[]⟩,.int .i64 0,.slice none 0 0,.slice none 0 0,.slice none 0 0,.slice none 0 0].toArray 30)=w3 at*
      have g3:=g2.trans c2
      have gc:=gc.trans c2
      exact b7 (i1:=14) (rr0:=rr0) (by kernel_rfl) (by kernel_rfl) rfl rfl rfl rfl br rfl hQ (hs.keep [3,16]) g3 aZ rfl bB aY.one cI
       (fun w' hw=>(aY.keep fun b o hb hh=>have:=an hh;hw b o (by omega) (gc.at hh id)).down cO) bw
     ·refine ak hs rfl rfl rfl (cf rfl fB) fun a hs=>?_
      have c1:=Ch.alloc (fun _=>False) w1 (.cells [.int .i64 0,.string ⟨#[]⟩,.int .i64 0,.slice none 0 0,.slice none 0 0,.slice none 0 0,.slice none 0 0].toArray 30)
      have aT:=heap_alloc_new w1 (.cells [.int .i64 0,.string ⟨#[]⟩,.int .i64 0,.slice none 0 0,.slice none 0 0,.slice none 0 0,.slice none 0 0].toArray 30)
      have cI:=g1.size
      generalize fN:w1.heap.size=cZ at*
      generalize w1.alloc (.cells [.int .i64 0,.string ⟨#[]⟩,.int .i64 0,.slice none 0 0,.slice none 0 0,.slice none 0 0,.slice none 0 0].toArray 30)=w2 at*
      have g2:=g1.trans c1
      have bz:=c1.at bq id
      have b9:=dj.ch c1
      have cS:=dk.ch c1
      have gK:cZ<w2.heap.size:=an aT
      have q2:=bG (is:=[2,3,4,5,6,7,8,28,29,30,31,32,33,34,35]) (parts:=[some 7,none,some 7]) (kinds:=[some (true,[.int .i64,.str,.int .i64,.sl 9,.sl 84,.sl 30,.sl 152])]) hK dx cS aJ b9 hN
      rw[cY,fJ]at q2
      refine Y1 12 (by kernel_rfl) (bs hs rfl rfl rfl rfl rfl rfl (by kernel_rfl) q2 fun v w3 a hO hs=>?_)
      obtain⟨c2,fi,rfl,cg⟩:=hO
      obtain⟨rr0,bM,fj,rfl,aY,bw,cj⟩:=cg.take
      obtain rfl:=cj.nil
      have cO:=g2.size
      have bB:bM.length=7:=(aY.len.trans ((ay _ _).1 bw).1)
      have g3:=g2.trans c2
      have aZ:=c2.at aT id
      have gc:=Ch.refl (fun _=>False) w3
      exact b7 (i1:=14) (rr0:=rr0) (by kernel_rfl) (by kernel_rfl) rfl rfl rfl rfl br rfl hQ (hs.keep [3,16]) g3 aZ rfl bB aY.one cI
       (fun w' hw=>(aY.keep fun b o hb hh=>have:=an hh;hw b o (by omega) (gc.at hh id)).down cO) bw
    ·refine ak hs rfl rfl rfl (cf rfl fB) fun a hs=>?_
     have c1:=Ch.alloc (fun _=>False) w1 (.cells [.int .i64 0,.string ⟨#[]⟩,.int .i64 0,.slice none 0 0,.slice none 0 0,.slice none 0 0,.slice none 0 0].toArray 30)
     have aT:=heap_alloc_new w1 (.cells [.int .i64 0,.string ⟨#[]⟩,.int .i64 0,.slice none 0 0,.slice none 0 0,.slice none 0 0,.slice none 0 0].toArray 30)
     have cI:=g1.size
     generalize fN:w1.heap.size=cZ at*
     generalize w1.alloc (.cells [.int .i64 0,.string ⟨#[]⟩,.int .i64 0,.slice none 0 0,.slice none 0 0,.slice none 0 0,.slice none 0 0].toArray 30)=w2 at*
     have g2:=g1.trans c1
     have bz:=c1.at bq id
     have b9:=dj.ch c1
     have cS:=dk.ch c1
     refine Y1 7 (by kernel_rfl) (ak hs rfl rfl rfl (aL [v28] hs rfl rfl lP rfl bz (aG 28 1 rfl)) fun a hs=>?_)
     have gK:cZ<w2.heap.size:=an aT
     have q2:=bG (is:=[2,3,4,5,6,7,8,28,29,30,31,32,33,34,35]) (parts:=[some 7,none,some 7]) (kinds:=[some (true,[.int .i64,.str,.int .i64,.sl 9,.sl 84,.sl 30,.sl 152])]) hK dx cS aJ b9 hN
     rw[cY,fJ]at q2
     refine Y1 12 (by kernel_rfl) (bs hs rfl rfl rfl rfl rfl rfl (by kernel_rfl) q2 fun v w3 a hO hs=>?_)
     obtain⟨c2,fi,rfl,cg⟩:=hO
     obtain⟨rr0,bM,fj,rfl,aY,bw,cj⟩:=cg.take
     obtain rfl:=cj.nil
     have cO:=g2.size
     have bB:bM.length=7:=(aY.len.trans ((ay _ _).1 bw).1)
     have g3:=g2.trans c2
     have aZ:=c2.at aT id
     have gc:=Ch.refl (fun _=>False) w3
     exact b7 (i1:=14) (rr0:=rr0) (by kernel_rfl) (by kernel_rfl) rfl rfl rfl rfl br rfl hQ (hs.keep [3,16]) g3 aZ rfl bB aY.one cI
      (fun w' hw=>(aY.keep fun b o hb hh=>have:=an hh;hw b o (by omega) (gc.at hh id)).down cO) bw
   ·refine ak hs rfl rfl rfl (aL [v28] hs rfl rfl lP rfl bq (aG 28 1 rfl)) fun a hs=>?_
    refine wpAny_all (rs:=[3,13]) (by kernel_rfl) (by simp) fun j hj=>?_
    simp only[List.mem_cons,List.mem_nil_iff,or_false]at hj
    rcases hj with rfl|rfl
    ·refine ak hs rfl rfl rfl (aL [v2,v3,v4,v5,v6,v7,v8] hs rfl rfl br rfl bq (aG 2 7 rfl)) fun a hs=>?_
     refine wpAny_all (rs:=[12,13]) (by kernel_rfl) (by simp) fun j hj=>?_
     simp only[List.mem_cons,List.mem_nil_iff,or_false]at hj
     rcases hj with rfl|rfl
     ·have q1:=bG (is:=[2,3,4,5,6,7,8,28,29,30,31,32,33,34,35]) (parts:=[some 7,none,some 7]) (kinds:=[some (true,[.int .i64,.str,.int .i64,.sl 9,.sl 84,.sl 30,.sl 152])]) hK dx dk aJ dj hN
      rw[cY,fJ]at q1
      refine bs hs rfl rfl rfl rfl rfl rfl (by kernel_rfl) q1 fun v w2 a hO hs=>?_
      obtain⟨c1,fi,rfl,cg⟩:=hO
      obtain⟨rr0,bM,fj,rfl,aY,bw,cj⟩:=cg.take
      obtain rfl:=cj.nil
      have cO:=g1.size
      have bB:bM.length=7:=(aY.len.trans ((ay _ _).1 bw).1)
      have g2:=g1.trans c1
      have gc:=Ch.refl (fun _=>False) w2
      refine Y1 13 (by kernel_rfl) (ak hs rfl rfl rfl (cf rfl fB) fun a hs=>?_)
      have c2:=Ch.alloc (fun _=>False) w2 (.cells [.int .i64 0,.string ⟨#[]⟩,.int .i64 0,.slice none 0 0,.slice none 0 0,.slice none 0 0,.slice none 0 0].toArray 30)
      have aZ:=heap_alloc_new w2 (.cells [.int .i64 0,.string ⟨#[]⟩,.int .i64 0,.slice none 0 0,.slice none 0 0,.slice none 0 0,.slice none 0 0].toArray 30)
      have cI:=g2.size
      have ge13:=gc.size
      generalize fN:w2.heap.size=cZ at*
      generalize w2.alloc (.cells [.int .i64 0,.string ⟨#[]⟩,.int .i64 0,.slice none 0 0,.slice none 0 0,.slice none 0 0,.slice none 0 0].toArray 30)=w3 at*
      have g3:=g2.trans c2
      have gc:=gc.trans c2
      exact b7 (i1:=14) (rr0:=rr0) (by kernel_rfl) (by kernel_rfl) rfl rfl rfl rfl br rfl hQ (hs.keep [3,16]) g3 aZ rfl bB aY.one cI
       (fun w' hw=>(aY.keep fun b o hb hh=>have:=an hh;hw b o (by omega) (gc.at hh id)).down cO) bw
     ·refine ak hs rfl rfl rfl (cf rfl fB) fun a hs=>?_
      have c1:=Ch.alloc (fun _=>False) w1 (.cells [.int .i64 0,.string ⟨#[]⟩,.int .i64 0,.slice none 0 0,.slice none 0 0,.slice none 0 0,.slice none 0 0].toArray 30)
      have aT:=heap_alloc_new w1 (.cells [.int .i64 0,.string ⟨#[]⟩,.int .i64 0,.slice none 0 0,.slice none 0 0,.slice none 0 0,.slice none 0 0].toArray 30)
      have cI:=g1.size
      generalize fN:w1.heap.size=cZ at*
      generalize w1.alloc (.cells [.int .i64 0,.string ⟨#[]⟩,.int .i64 0,.slice none 0 0,.slice none 0 0,.slice none 0 0,.slice none 0 0].toArray 30)=w2 at*
      have g2:=g1.trans c1
      have bz:=c1.at bq id
      have b9:=dj.ch c1
      have cS:=dk.ch c1
      have gK:cZ<w2.heap.size:=an aT
      have q2:=bG (is:=[2,3,4,5,6,7,8,28,29,30,31,32,33,34,35]) (parts:=[some 7,none,some 7]) (kinds:=[some (true,[.int .i64,.str,.int .i64,.sl 9,.sl 84,.sl 30,.sl 152])]) hK dx cS aJ b9 hN
      rw[cY,fJ]at q2
      refine Y1 12 (by kernel_rfl) (bs hs rfl rfl rfl rfl rfl rfl (by kernel_rfl) q2 fun v w3 a hO hs=>?_)
      obtain⟨c2,fi,rfl,cg⟩:=hO
      obtain⟨rr0,bM,fj,rfl,aY,bw,cj⟩:=cg.take
      obtain rfl:=cj.nil
      have cO:=g2.size
      have bB:bM.length=7:=(aY.len.trans ((ay _ _).1 bw).1)
      have g3:=g2.trans c2
      have aZ:=c2.at aT id
      have gc:=Ch.refl (fun _=>False) w3
      exact b7 (i1:=14) (rr0:=rr0) (by kernel_rfl) (by kernel_rfl) rfl rfl rfl rfl br rfl hQ (hs.keep [3,16]) g3 aZ rfl bB aY.one cI
       (fun w' hw=>(aY.keep fun b o hb hh=>have:=an hh;hw b o (by omega) (gc.at hh id)).down cO) bw
    ·refine ak hs rfl rfl rfl (cf rfl fB) fun a hs=>?_
     have c1:=Ch.alloc (fun _=>False) w1 (.cells [.int .i64 0,.string ⟨#[]⟩,.int .i64 0,.slice none 0 0,.slice none 0 0,.slice none 0 0,.slice none 0 0].toArray 30)
     have aT:=heap_alloc_new w1 (.cells [.int .i64 0,.string ⟨#[]⟩,.int .i64 0,.slice none 0 0,.slice none 0 0,.slice none 0 0,.slice none 0 0].toArray 30)
     have cI:=g1.size
     generalize fN:w1.heap.size=cZ at*
     generalize w1.alloc (.cells [.int .i64 0,.string ⟨#[]⟩,.int .i64 0,.slice none 0 0,.slice none 0 0,.slice none 0 0,.slice none 0 0].toArray 30)=w2 at*
     have g2:=g1.trans c1
     have bz:=c1.at bq id
     have b9:=dj.ch c1
     have cS:=dk.ch c1
     refine Y1 3 (by kernel_rfl) (ak hs rfl rfl rfl (aL [v2,v3,v4,v5,v6,v7,v8] hs rfl rfl br rfl bz (aG 2 7 rfl)) fun a hs=>?_)
     have gK:cZ<w2.heap.size:=an aT
     have q2:=bG (is:=[2,3,4,5,6,7,8,28,29,30,31,32,33,34,35]) (parts:=[some 7,none,some 7]) (kinds:=[some (true,[.int .i64,.str,.int .i64,.sl 9,.sl 84,.sl 30,.sl 152])]) hK dx cS aJ b9 hN
     rw[cY,fJ]at q2
     refine Y1 12 (by kernel_rfl) (bs hs rfl rfl rfl rfl rfl rfl (by kernel_rfl) q2 fun v w3 a hO hs=>?_)
     obtain⟨c2,fi,rfl,cg⟩:=hO
     obtain⟨rr0,bM,fj,rfl,aY,bw,cj⟩:=cg.take
     obtain rfl:=cj.nil
     have cO:=g2.size
     have bB:bM.length=7:=(aY.len.trans ((ay _ _).1 bw).1)
     have g3:=g2.trans c2
     have aZ:=c2.at aT id
     have gc:=Ch.refl (fun _=>False) w3
     exact b7 (i1:=14) (rr0:=rr0) (by kernel_rfl) (by kernel_rfl) rfl rfl rfl rfl br rfl hQ (hs.keep [3,16]) g3 aZ rfl bB aY.one cI
      (fun w' hw=>(aY.keep fun b o hb hh=>have:=an hh;hw b o (by omega) (gc.at hh id)).down cO) bw
   ·refine ak hs rfl rfl rfl (cf rfl fB) fun a hs=>?_
    have c1:=Ch.alloc (fun _=>False) w1 (.cells [.int .i64 0,.string ⟨#[]⟩,.int .i64 0,.slice none 0 0,.slice none 0 0,.slice none 0 0,.slice none 0 0].toArray 30)
    have aT:=heap_alloc_new w1 (.cells [.int .i64 0,.string ⟨#[]⟩,.int .i64 0,.slice none 0 0,.slice none 0 0,.slice none 0 0,.slice none 0 0].toArray 30)
    have cI:=g1.size
    generalize fN:w1.heap.size=cZ at*
    generalize w1.alloc (.cells [.int .i64 0,.string ⟨#[]⟩,.int .i64 0,.slice none 0 0,.slice none 0 0,.slice none 0 0,.slice none 0 0].toArray 30)=w2 at*
    have g2:=g1.trans c1
    have bz:=c1.at bq id
    have b9:=dj.ch c1
    have cS:=dk.ch c1
    refine wpAny_all (rs:=[3,7]) (by kernel_rfl) (by simp) fun j hj=>?_
    simp only[List.mem_cons,List.mem_nil_iff,or_false]at hj
    rcases hj with rfl|rfl
    ·refine ak hs rfl rfl rfl (aL [v2,v3,v4,v5,v6,v7,v8] hs rfl rfl br rfl bz (aG 2 7 rfl)) fun a hs=>?_
     refine Y1 7 (by kernel_rfl) (ak hs rfl rfl rfl (aL [v28] hs rfl rfl lP rfl bz (aG 28 1 rfl)) fun a hs=>?_)
     have gK:cZ<w2.heap.size:=an aT
     have q2:=bG (is:=[2,3,4,5,6,7,8,28,29,30,31,32,33,34,35]) (parts:=[some 7,none,some 7]) (kinds:=[some (true,[.int .i64,.str,.int .i64,.sl 9,.sl 84,.sl 30,.sl 152])]) hK dx cS aJ b9 hN
     rw[cY,fJ]at q2
     refine Y1 12 (by kernel_rfl) (bs hs rfl rfl rfl rfl rfl rfl (by kernel_rfl) q2 fun v w3 a hO hs=>?_)
     obtain⟨c2,fi,rfl,cg⟩:=hO
     obtain⟨rr0,bM,fj,rfl,aY,bw,cj⟩:=cg.take
     obtain rfl:=cj.nil
     have cO:=g2.size
     have bB:bM.length=7:=(aY.len.trans ((ay _ _).1 bw).1)
     have g3:=g2.trans c2
     have aZ:=c2.at aT id
     have gc:=Ch.refl (fun _=>False) w3
     exact b7 (i1:=14) (rr0:=rr0) (by kernel_rfl) (by kernel_rfl) rfl rfl rfl rfl br rfl hQ (hs.keep [3,16]) g3 aZ rfl bB aY.one cI
      (fun w' hw=>(aY.keep fun b o hb hh=>have:=an hh;hw b o (by omega) (gc.at hh id)).down cO) bw
    ·refine ak hs rfl rfl rfl (aL [v28] hs rfl rfl lP rfl bz (aG 28 1 rfl)) fun a hs=>?_
     refine Y1 3 (by kernel_rfl) (ak hs rfl rfl rfl (aL [v2,v3,v4,v5,v6,v7,v8] hs rfl rfl br rfl bz (aG 2 7 rfl)) fun a hs=>?_)
     have gK:cZ<w2.heap.size:=an aT
     have q2:=bG (is:=[2,3,4,5,6,7,8,28,29,30,31,32,33,34,35]) (parts:=[some 7,none,some 7]) (kinds:=[some (true,[.int .i64,.str,.int .i64,.sl 9,.sl 84,.sl 30,.sl 152])]) hK dx cS aJ b9 hN
     rw[cY,fJ]at q2
     refine Y1 12 (by kernel_rfl) (bs hs rfl rfl rfl rfl rfl rfl (by kernel_rfl) q2 fun v w3 a hO hs=>?_)
     obtain⟨c2,fi,rfl,cg⟩:=hO
     obtain⟨rr0,bM,fj,rfl,aY,bw,cj⟩:=cg.take
     obtain rfl:=cj.nil
     have cO:=g2.size
     have bB:bM.length=7:=(aY.len.trans ((ay _ _).1 bw).1)
     have g3:=g2.trans c2
     have aZ:=c2.at aT id
     have gc:=Ch.refl (fun _=>False) w3
     exact b7 (i1:=14) (rr0:=rr0) (by kernel_rfl) (by kernel_rfl) rfl rfl rfl rfl br rfl hQ (hs.keep [3,16]) g3 aZ rfl bB aY.one cI
      (fun w' hw=>(aY.keep fun b o hb hh=>have:=an hh;hw b o (by omega) (gc.at hh id)).down cO) bw
  ·refine ak hs rfl rfl rfl (cf rfl fB) fun a hs=>?_
   have c1:=Ch.alloc (fun _=>False) w1 (.cells [.int .i64 0,.string ⟨#[]⟩,.int .i64 0,.slice none 0 0,.slice none 0 0,.slice none 0 0,.slice none 0 0].toArray 30)
   have aT:=heap_alloc_new w1 (.cells [.int .i64 0,.string ⟨#[]⟩,.int .i64 0,.slice none 0 0,.slice none 0 0,.slice none 0 0,.slice none 0 0].toArray 30)
   have cI:=g1.size
   generalize fN:w1.heap.size=cZ at*
   generalize w1.alloc (.cells [.int .i64 0,.string ⟨#[]⟩,.int .i64 0,.slice none 0 0,.slice none 0 0,.slice none 0 0,.slice none 0 0].toArray 30)=w2 at*
   have g2:=g1.trans c1
   have bz:=c1.at bq id
   have b9:=dj.ch c1
   have cS:=dk.ch c1
   refine wpAny_all (rs:=[3,7,11]) (by kernel_rfl) (by simp) fun j hj=>?_
   simp only[List.mem_cons,List.mem_nil_iff,or_false]at hj
   rcases hj with rfl|rfl|rfl
   ·refine ak hs rfl rfl rfl (aL [v2,v3,v4,v5,v6,v7,v8] hs rfl rfl br rfl bz (aG 2 7 rfl)) fun a hs=>?_
    refine wpAny_all (rs:=[7,11]) (by kernel_rfl) (by simp) fun j hj=>?_
    simp only[List.mem_cons,List.mem_nil_iff,or_false]at hj
    rcases hj with rfl|rfl
    ·refine ak hs rfl rfl rfl (aL [v28] hs rfl rfl lP rfl bz (aG 28 1 rfl)) fun a hs=>?_
     refine Y1 11 (by kernel_rfl) (ak hs rfl rfl rfl (aL [fp,v30,v31,fq,fu,fw,fx] hs rfl rfl br rfl bz (aG 29 7 rfl)) fun a hs=>?_)
     have gK:cZ<w2.heap.size:=an aT
     have q2:=bG (is:=[2,3,4,5,6,7,8,28,29,30,31,32,33,34,35]) (parts:=[some 7,none,some 7]) (kinds:=[some (true,[.int .i64,.str,.int .i64,.sl 9,.sl 84,.sl 30,.sl 152])]) hK dx cS aJ b9 hN
     rw[cY,fJ]at q2
     refine Y1 12 (by kernel_rfl) (bs hs rfl rfl rfl rfl rfl rfl (by kernel_rfl) q2 fun v w3 a hO hs=>?_)
     obtain⟨c2,fi,rfl,cg⟩:=hO
     obtain⟨rr0,bM,fj,rfl,aY,bw,cj⟩:=cg.take
     obtain rfl:=cj.nil
     have cO:=g2.size
     have bB:bM.length=7:=(aY.len.trans ((ay _ _).1 bw).1)
     have g3:=g2.trans c2
     have aZ:=c2.at aT id
     have gc:=Ch.refl (fun _=>False) w3
     exact b7 (i1:=14) (rr0:=rr0) (by kernel_rfl) (by kernel_rfl) rfl rfl rfl rfl br rfl hQ (hs.keep [3,16]) g3 aZ rfl bB aY.one cI
      (fun w' hw=>(aY.keep fun b o hb hh=>have:=an hh;hw b o (by omega) (gc.at hh id)).down cO) bw
    ·refine ak hs rfl rfl rfl (aL [fp,v30,v31,fq,fu,fw,fx] hs rfl rfl br rfl bz (aG 29 7 rfl)) fun a hs=>?_
     refine Y1 7 (by kernel_rfl) (ak hs rfl rfl rfl (aL [v28] hs rfl rfl lP rfl bz (aG 28 1 rfl)) fun a hs=>?_)
     have gK:cZ<w2.heap.size:=an aT
     have q2:=bG (is:=[2,3,4,5,6,7,8,28,29,30,31,32,33,34,35]) (parts:=[some 7,none,some 7]) (kinds:=[some (true,[.int .i64,.str,.int .i64,.sl 9,.sl 84,.sl 30,.sl 152])]) hK dx cS aJ b9 hN
     rw[cY,fJ]at q2
     refine Y1 12 (by kernel_rfl) (bs hs rfl rfl rfl rfl rfl rfl (by kernel_rfl) q2 fun v w3 a hO hs=>?_)
     obtain⟨c2,fi,rfl,cg⟩:=hO
     obtain⟨rr0,bM,fj,rfl,aY,bw,cj⟩:=cg.take
     obtain rfl:=cj.nil
     have cO:=g2.size
     have bB:bM.length=7:=(aY.len.trans ((ay _ _).1 bw).1)
     have g3:=g2.trans c2
     have aZ:=c2.at aT id
     have gc:=Ch.refl (fun _=>False) w3
     exact b7 (i1:=14) (rr0:=rr0) (by kernel_rfl) (by kernel_rfl) rfl rfl rfl rfl br rfl hQ (hs.keep [3,16]) g3 aZ rfl bB aY.one cI
      (fun w' hw=>(aY.keep fun b o hb hh=>have:=an hh;hw b o (by omega) (gc.at hh id)).down cO) bw
   ·refine ak hs rfl rfl rfl (aL [v28] hs rfl rfl lP rfl bz (aG 28 1 rfl)) fun a hs=>?_
    refine wpAny_all (rs:=[3,11]) (by kernel_rfl) (by simp) fun j hj=>?_
    simp only[List.mem_cons,List.mem_nil_iff,or_false]at hj
    rcases hj with rfl|rfl
    ·refine ak hs rfl rfl rfl (aL [v2,v3,v4,v5,v6,v7,v8] hs rfl rfl br rfl bz (aG 2 7 rfl)) fun a hs=>?_
     refine Y1 11 (by kernel_rfl) (ak hs rfl rfl rfl (aL [fp,v30,v31,fq,fu,fw,fx] hs rfl rfl br rfl bz (aG 29 7 rfl)) fun a hs=>?_)
     have gK:cZ<w2.heap.size:=an aT
     have q2:=bG (is:=[2,3,4,5,6,7,8,28,29,30,31,32,33,34,35]) (parts:=[some 7,none,some 7]) (kinds:=[some (true,[.int .i64,.str,.int .i64,.sl 9,.sl 84,.sl 30,.sl 152])]) hK dx cS aJ b9 hN
     rw[cY,fJ]at q2
     refine Y1 12 (by kernel_rfl) (bs hs rfl rfl rfl rfl rfl rfl (by kernel_rfl) q2 fun v w3 a hO hs=>?_)
     obtain⟨c2,fi,rfl,cg⟩:=hO
     obtain⟨rr0,bM,fj,rfl,aY,bw,cj⟩:=cg.take
     obtain rfl:=cj.nil
     have cO:=g2.size
     have bB:bM.length=7:=(aY.len.trans ((ay _ _).1 bw).1)
     have g3:=g2.trans c2
     have aZ:=c2.at aT id
     have gc:=Ch.refl (fun _=>False) w3
     exact b7 (i1:=14) (rr0:=rr0) (by kernel_rfl) (by kernel_rfl) rfl rfl rfl rfl br rfl hQ (hs.keep [3,16]) g3 aZ rfl bB aY.one cI
      (fun w' hw=>(aY.keep fun b o hb hh=>have:=an hh;hw b o (by omega) (gc.at hh id)).down cO) bw
    ·refine ak hs rfl rfl rfl (aL [fp,v30,v31,fq,fu,fw,fx] hs rfl rfl br rfl bz (aG 29 7 rfl)) fun a hs=>?_
     refine Y1 3 (by kernel_rfl) (ak hs rfl rfl rfl (aL [v2,v3,v4,v5,v6,v7,v8] hs rfl rfl br rfl bz (aG 2 7 rfl)) fun a hs=>?_)
     have gK:cZ<w2.heap.size:=an aT
     have q2:=bG (is:=[2,3,4,5,6,7,8,28,29,30,31,32,33,34,35]) (parts:=[some 7,none,some 7]) (kinds:=[some (true,[.int .i64,.str,.int .i64,.sl 9,.sl 84,.sl 30,.sl 152])]) hK dx cS aJ b9 hN
     rw[cY,fJ]at q2
     refine Y1 12 (by kernel_rfl) (bs hs rfl rfl rfl rfl rfl rfl (by kernel_rfl) q2 fun v w3 a hO hs=>?_)
     obtain⟨c2,fi,rfl,cg⟩:=hO
     obtain⟨rr0,bM,fj,rfl,aY,bw,cj⟩:=cg.take
     obtain rfl:=cj.nil
     have cO:=g2.size
     have bB:bM.length=7:=(aY.len.trans ((ay _ _).1 bw).1)
     have g3:=g2.trans c2
     have aZ:=c2.at aT id
     have gc:=Ch.refl (fun _=>False) w3
     exact b7 (i1:=14) (rr0:=rr0) (by kernel_rfl) (by kernel_rfl) rfl rfl rfl rfl br rfl hQ (hs.keep [3,16]) g3 aZ rfl bB aY.one cI
      (fun w' hw=>(aY.keep fun b o hb hh=>have:=an hh;hw b o (by omega) (gc.at hh id)).down cO) bw
   ·refine ak hs rfl rfl rfl (aL [fp,v30,v31,fq,fu,fw,fx] hs rfl rfl br rfl bz (aG 29 7 rfl)) fun a hs=>?_
    refine wpAny_all (rs:=[3,7]) (by kernel_rfl) (by simp) fun j hj=>?_
    simp only[List.mem_cons,List.mem_nil_iff,or_false]at hj
    rcases hj with rfl|rfl
    ·refine ak hs rfl rfl rfl (aL [v2,v3,v4,v5,v6,v7,v8] hs rfl rfl br rfl bz (aG 2 7 rfl)) fun a hs=>?_
     refine Y1 7 (by kernel_rfl) (ak hs rfl rfl rfl (aL [v28] hs rfl rfl lP rfl bz (aG 28 1 rfl)) fun a hs=>?_)
     have gK:cZ<w2.heap.size:=an aT
     have q2:=bG (is:=[2,3,4,5,6,7,8,28,29,30,31,32,33,34,35]) (parts:=[some 7,none,some 7]) (kinds:=[some (true,[.int .i64,.str,.int .i64,.sl 9,.sl 84,.sl 30,.sl 152])]) hK dx cS aJ b9 hN
     rw[cY,fJ]at q2
     refine Y1 12 (by kernel_rfl) (bs hs rfl rfl rfl rfl rfl rfl (by kernel_rfl) q2 fun v w3 a hO hs=>?_)
     obtain⟨c2,fi,rfl,cg⟩:=hO
     obtain⟨rr0,bM,fj,rfl,aY,bw,cj⟩:=cg.take
     obtain rfl:=cj.nil
     have cO:=g2.size
     have bB:bM.length=7:=(aY.len.trans ((ay _ _).1 bw).1)
     have g3:=g2.trans c2
     have aZ:=c2.at aT id
     have gc:=Ch.refl (fun _=>False) w3
     exact b7 (i1:=14) (rr0:=rr0) (by kernel_rfl) (by kernel_rfl) rfl rfl rfl rfl br rfl hQ (hs.keep [3,16]) g3 aZ rfl bB aY.one cI
      (fun w' hw=>(aY.keep fun b o hb hh=>have:=an hh;hw b o (by omega) (gc.at hh id)).down cO) bw
    ·refine ak hs rfl rfl rfl (aL [v28] hs rfl rfl lP rfl bz (aG 28 1 rfl)) fun a hs=>?_
     refine Y1 3 (by kernel_rfl) (ak hs rfl rfl rfl (aL [v2,v3,v4,v5,v6,v7,v8] hs rfl rfl br rfl bz (aG 2 7 rfl)) fun a hs=>?_)
     have gK:cZ<w2.heap.size:=an aT
     have q2:=bG (is:=[2,3,4,5,6,7,8,28,29,30,31,32,33,34,35]) (parts:=[some 7,none,some 7]) (kinds:=[some (true,[.int .i64,.str,.int .i64,.sl 9,.sl 84,.sl 30,.sl 152])]) hK dx cS aJ b9 hN
     rw[cY,fJ]at q2
     refine Y1 12 (by kernel_rfl) (bs hs rfl rfl rfl rfl rfl rfl (by kernel_rfl) q2 fun v w3 a hO hs=>?_)
     obtain⟨c2,fi,rfl,cg⟩:=hO
     obtain⟨rr0,bM,fj,rfl,aY,bw,cj⟩:=cg.take
     obtain rfl:=cj.nil
     have cO:=g2.size
     have bB:bM.length=7:=(aY.len.trans ((ay _ _).1 bw).1)
     have g3:=g2.trans c2
     have aZ:=c2.at aT id
     have gc:=Ch.refl (fun _=>False) w3
     exact b7 (i1:=14) (rr0:=rr0) (by kernel_rfl) (by kernel_rfl) rfl rfl rfl rfl br rfl hQ (hs.keep [3,16]) g3 aZ rfl bB aY.one cI
      (fun w' hw=>(aY.keep fun b o hb hh=>have:=an hh;hw b o (by omega) (gc.at hh id)).down cO) bw
 obtain⟨jz,rr0,bM,hs,g100,lo0,bx0_100,cw0_100,bw⟩:=hl
 have hb100:=g100.at dO fun h=>h
 have hcw100:=dn.ch g100
 have hld100:=fh.ch g100
 refine ai (ae ?_)
 refine L hs rfl rfl (Gn hs rfl rfl rfl) fun a hs=>?_
 refine L hs rfl rfl (km (e:=49) (z:= .nilFunc) (v:=clo 23 jz) hs rfl rfl (by kernel_rfl) (fb (by kernel_rfl) (by kernel_rfl) rfl) rfl) fun a hs=>?_
 have c100:=Ch.alloc (fun _=>False) w100 (.cells #[clo 23 jz] 49)
 have hbl101:=heap_alloc_new w100 (.cells #[clo 23 jz] 49)
 have ll100:=g100.size
 generalize hbm:w100.heap.size=bl at*
 generalize w100.alloc (.cells #[clo 23 jz] 49)=w101 at*
 have g101:=g100.trans c100
 have hb101:=c100.at hb100 fun h=>h
 have hcw101:=hcw100.ch c100
 have hld101:=hld100.ch c100
 have bx0_101:=c100.at bx0_100 fun h=>h
 have cw0_101:=cw0_100.ch c100
 refine L hs rfl rfl (aj hs (.inr rfl) rfl) fun a hs=>?_
 exact Le (dG (gu hs rfl ⟨g101,.one 23 24 jz,⟨bl,_,rfl,hbl101⟩,ZG,fun _ h=>by cases h;omega,lo0,IZ,rr0,bM,_,(by kernel_rfl),(by decide),bx0_101,cw0_101,bw,by kernel_rfl⟩))
theorem ZI:Body Proofs.Tryz.prog 25 8 [.tmp 2] ((.seq (.region 0 ([⟨(some 2),.assign (.const (.slice none 0 0)),0, "", #[],none⟩]:List Oper).toArray false) (.seq (.region 0 ([⟨(some 3),.move (.tmp 0),0, "", #[],none⟩,⟨(some 4),.nilCheck (.tmp 3),0, "", #[],none⟩,⟨(some 5),.fieldAddr 32 (.tmp 4) 1,0, "", #[],none⟩,⟨(some 6),.load 30 (.tmp 5),0, "", #[],none⟩,⟨(some 7),.call ⟨(.value (.func 26)), #[(.tmp 6)], #[]⟩,0, "", #[],none⟩]:List Oper).toArray false) (.seq (.region 0 ([⟨(some 2),.assign (.const (.slice none 0 0)),0, "", #[],none⟩]:List Oper).toArray false) .ret)))):=aM (by kernel_rfl) (by kernel_rfl)
theorem UY:jJ Proofs.Tryz.prog fE 32 2097152 25:=by
 intro w0 b l0 row dO fh dn aJ hN
 have bB:l0.length=37:=(dn.len.trans ((ay _ _).1 aJ).1).trans qo.cks
 obtain⟨v0,l1,rfl,ig⟩:=aa bB
 obtain⟨v1,l2,rfl,dQ⟩:=aa ig
 obtain⟨v2,l3,rfl,my⟩:=aa dQ
 obtain⟨v3,l4,rfl,kV⟩:=aa my
 obtain⟨v4,l5,rfl,mz⟩:=aa kV
 obtain⟨v5,l6,rfl,mA⟩:=aa mz
 obtain⟨v6,l7,rfl,mB⟩:=aa mA
 obtain⟨v7,l8,rfl,mC⟩:=aa mB
 obtain⟨v8,l9,rfl,mD⟩:=aa mC
 obtain⟨v9,l10,rfl,iy⟩:=aa mD
 obtain⟨v10,l11,rfl,iz⟩:=aa iy
 obtain⟨v11,l12,rfl,iA⟩:=aa iz
 obtain⟨v12,l13,rfl,iB⟩:=aa iA
 obtain⟨kY,l14,rfl,iC⟩:=aa iB
 obtain⟨kZ,l15,rfl,iD⟩:=aa iC
 obtain⟨k7,l16,rfl,iE⟩:=aa iD
 obtain⟨k8,l17,rfl,iF⟩:=aa iE
 obtain⟨jy,l18,rfl,iG⟩:=aa iF
 obtain⟨kz,l19,rfl,iH⟩:=aa iG
 obtain⟨jZ,l20,rfl,iI⟩:=aa iH
 obtain⟨v20,l21,rfl,iJ⟩:=aa iI
 obtain⟨v21,l22,rfl,iK⟩:=aa iJ
 obtain⟨k9,l23,rfl,iL⟩:=aa iK
 obtain⟨lf,l24,rfl,iM⟩:=aa iL
 obtain⟨v24,l25,rfl,iN⟩:=aa iM
 obtain⟨lg,l26,rfl,iO⟩:=aa iN
 obtain⟨lh,l27,rfl,iP⟩:=aa iO
 obtain⟨lj,l28,rfl,iQ⟩:=aa iP
 obtain⟨v28,l29,rfl,iR⟩:=aa iQ
 obtain⟨fp,l30,rfl,iS⟩:=aa iR
 obtain⟨v30,l31,rfl,iT⟩:=aa iS
 obtain⟨v31,l32,rfl,iV⟩:=aa iT
 obtain⟨fq,l33,rfl,iW⟩:=aa iV
 obtain⟨fu,l34,rfl,iX⟩:=aa iW
 obtain⟨fw,l35,rfl,iY⟩:=aa iX
 obtain⟨fx,l36,rfl,iZ⟩:=aa iY
 obtain⟨mF,l37,rfl,ja⟩:=aa iZ
 obtain rfl:=List.eq_nil_of_length_eq_zero ja
 refine cN ZI ?_
 have hs:=SL.init (n:=8) [Ptr b 0] rfl
 revert hs
 generalize({tmps:=_,defers:=[]}:Act)=a
 intro hs
 have g0:=Ch.refl (fun _=>False) w0
 refine ai (ae ?_)
 refine L hs rfl rfl (aj hs (.inr rfl) rfl) fun a hs=>?_
 refine Le (ai (ae ?_))
 refine L hs rfl rfl (aj hs (.inl rfl) rfl) fun a hs=>?_
 refine L hs rfl rfl (bH hs rfl rfl) fun a hs=>?_
 refine L hs rfl rfl (bW (off:=2) (sz:=7) hs rfl rfl (by kernel_rfl)) fun a hs=>?_
 refine L hs rfl rfl (aL (ag:=true) (m:=7) [v2,v3,v4,v5,v6,v7,v8] hs rfl rfl (du (by kernel_rfl) (by kernel_rfl) rfl) rfl dO (aG 2 7 rfl)) fun a hs=>?_
 have q0:=bG (is:=[2,3,4,5,6,7,8]) (parts:=[some 7]) (kinds:=[none]) (Py:aA Proofs.Tryz.prog aI vr) ⟨rfl,rfl,by kernel_rfl,by kernel_rfl,by kernel_rfl,by kernel_rfl,by kernel_rfl⟩ fh aJ dn hN
 rw[show eh [some 7] (dw [2,3,4,5,6,7,8] [v0,v1,v2,v3,v4,v5,v6,v7,v8,v9,v10,v11,v12,kY,kZ,k7,k8,jy,kz,jZ,v20,v21,k9,lf,v24,lg,lh,lj,v28,fp,v30,v31,fq,fu,fw,fx,mF])=[pk true [v2,v3,v4,v5,v6,v7,v8]] by kernel_rfl,show vr.fn=26 by kernel_rfl]at q0
 refine Lc hs rfl rfl rfl rfl rfl (by kernel_rfl) q0 fun v w1 a hO hs=>?_
 obtain⟨c0,fi,rfl,cg⟩:=hO
 obtain⟨u0,fj,rfl,cj⟩:=cg.skip
 obtain rfl:=cj.nil
 have g1:=g0.trans c0
 have bq:=c0.at dO fun h=>h
 have dj:=dn.ch c0
 have dk:=fh.ch c0
 refine Le (ai (ae ?_))
 refine L hs rfl rfl (aj hs (.inr rfl) rfl) fun a hs=>?_
 exact Le (dG (gu hs rfl ⟨g1,.no,⟨none,0,rfl⟩,trivial⟩))
theorem ZJ:Body Proofs.Tryz.prog 27 8 [.tmp 2] ((.seq (.region 0 ([⟨(some 2),.assign (.const (.slice none 0 0)),0, "", #[],none⟩]:List Oper).toArray false) (.seq (.region 0 ([⟨(some 3),.move (.tmp 0),0, "", #[],none⟩,⟨(some 4),.nilCheck (.tmp 3),0, "", #[],none⟩,⟨(some 5),.fieldAddr 32 (.tmp 4) 0,0, "", #[],none⟩,⟨(some 6),.load 25 (.tmp 5),0, "", #[],none⟩,⟨(some 7),.call ⟨(.value (.func 28)), #[(.tmp 6)], #[]⟩,0, "", #[],none⟩]:List Oper).toArray false) (.seq (.region 0 ([⟨(some 2),.assign (.const (.slice none 0 0)),0, "", #[],none⟩]:List Oper).toArray false) .ret)))):=aM (by kernel_rfl) (by kernel_rfl)
theorem UZ:jJ Proofs.Tryz.prog fE 32 2097152 27:=by
 intro w0 b l0 row dO fh dn aJ hN
 have bB:l0.length=37:=(dn.len.trans ((ay _ _).1 aJ).1).trans qo.cks
 obtain⟨v0,l1,rfl,ig⟩:=aa bB
 obtain⟨v1,l2,rfl,dQ⟩:=aa ig
 obtain⟨v2,l3,rfl,my⟩:=aa dQ
 obtain⟨v3,l4,rfl,kV⟩:=aa my
 obtain⟨v4,l5,rfl,mz⟩:=aa kV
 obtain⟨v5,l6,rfl,mA⟩:=aa mz
 obtain⟨v6,l7,rfl,mB⟩:=aa mA
 obtain⟨v7,l8,rfl,mC⟩:=aa mB
 obtain⟨v8,l9,rfl,mD⟩:=aa mC
 obtain⟨v9,l10,rfl,iy⟩:=aa mD
 obtain⟨v10,l11,rfl,iz⟩:=aa iy
 obtain⟨v11,l12,rfl,iA⟩:=aa iz
 obtain⟨v12,l13,rfl,iB⟩:=aa iA
 obtain⟨kY,l14,rfl,iC⟩:=aa iB
 obtain⟨kZ,l15,rfl,iD⟩:=aa iC
 obtain⟨k7,l16,rfl,iE⟩:=aa iD
 obtain⟨k8,l17,rfl,iF⟩:=aa iE
 obtain⟨jy,l18,rfl,iG⟩:=aa iF
 obtain⟨kz,l19,rfl,iH⟩:=aa iG
 obtain⟨jZ,l20,rfl,iI⟩:=aa iH
 obtain⟨v20,l21,rfl,iJ⟩:=aa iI
 obtain⟨v21,l22,rfl,iK⟩:=aa iJ
 obtain⟨k9,l23,rfl,iL⟩:=aa iK
 obtain⟨lf,l24,rfl,iM⟩:=aa iL
 obtain⟨v24,l25,rfl,iN⟩:=aa iM
 obtain⟨lg,l26,rfl,iO⟩:=aa iN
 obtain⟨lh,l27,rfl,iP⟩:=aa iO
 obtain⟨lj,l28,rfl,iQ⟩:=aa iP
 obtain⟨v28,l29,rfl,iR⟩:=aa iQ
 obtain⟨fp,l30,rfl,iS⟩:=aa iR
 obtain⟨v30,l31,rfl,iT⟩:=aa iS
 obtain⟨v31,l32,rfl,iV⟩:=aa iT
 obtain⟨fq,l33,rfl,iW⟩:=aa iV
 obtain⟨fu,l34,rfl,iX⟩:=aa iW
 obtain⟨fw,l35,rfl,iY⟩:=aa iX
 obtain⟨fx,l36,rfl,iZ⟩:=aa iY
 obtain⟨mF,l37,rfl,ja⟩:=aa iZ
 obtain rfl:=List.eq_nil_of_length_eq_zero ja
 refine cN ZJ ?_
 have hs:=SL.init (n:=8) [Ptr b 0] rfl
 revert hs
 generalize({tmps:=_,defers:=[]}:Act)=a
 intro hs
 have g0:=Ch.refl (fun _=>False) w0
 refine ai (ae ?_)
 refine L hs rfl rfl (aj hs (.inr rfl) rfl) fun a hs=>?_
 refine Le (ai (ae ?_))
 refine L hs rfl rfl (aj hs (.inl rfl) rfl) fun a hs=>?_
 refine L hs rfl rfl (bH hs rfl rfl) fun a hs=>?_
 refine L hs rfl rfl (bW (off:=0) (sz:=2) hs rfl rfl (by kernel_rfl)) fun a hs=>?_
 refine L hs rfl rfl (aL (ag:=true) (m:=2) [v0,v1] hs rfl rfl (du (by kernel_rfl) (by kernel_rfl) rfl) rfl dO (aG 0 2 rfl)) fun a hs=>?_
 have q0:=bG (is:=[0,1]) (parts:=[some 2]) (kinds:=[none]) (Nf:aA Proofs.Tryz.prog aI oc) ⟨rfl,rfl,by kernel_rfl,by kernel_rfl,by kernel_rfl,by kernel_rfl,by kernel_rfl⟩ fh aJ dn hN
 rw[show eh [some 2] (dw [0,1] [v0,v1,v2,v3,v4,v5,v6,v7,v8,v9,v10,v11,v12,kY,kZ,k7,k8,jy,kz,jZ,v20,v21,k9,lf,v24,lg,lh,lj,v28,fp,v30,v31,fq,fu,fw,fx,mF])=[pk true [v0,v1]] by kernel_rfl,show oc.fn=28 by kernel_rfl]at q0
 refine Lc hs rfl rfl rfl rfl rfl (by kernel_rfl) q0 fun v w1 a hO hs=>?_
 obtain⟨c0,fi,rfl,cg⟩:=hO
 obtain⟨u0,fj,rfl,cj⟩:=cg.skip
 obtain rfl:=cj.nil
 have g1:=g0.trans c0
 have bq:=c0.at dO fun h=>h
 have dj:=dn.ch c0
 have dk:=fh.ch c0
 refine Le (ai (ae ?_))
 refine L hs rfl rfl (aj hs (.inr rfl) rfl) fun a hs=>?_
 exact Le (dG (gu hs rfl ⟨g1,.no,⟨none,0,rfl⟩,trivial⟩))
theorem ZK:Body Proofs.Tryz.prog 31 5 [] (AF 32):=aM (by kernel_rfl) (by kernel_rfl)
theorem ZL:Body Proofs.Tryz.prog 29 7 [.tmp 2] ((.seq (.region 0 ([⟨(some 2),.assign (.const (.slice none 0 0)),0, "", #[],none⟩]:List Oper).toArray false) (.seq (.region 0 ([⟨(some 4),.call ⟨(.value (.func 30)), #[], #[]⟩,0, "", #[],none⟩,⟨(some 3),.alloc 22,0, "", #[],none⟩,⟨none,.store 22 (.tmp 3) (.tmp 4),0, "", #[],none⟩]:List Oper).toArray false) (.seq (.region 0 ([⟨(some 5),.makeFunc (.func 31) #[] #[(.tmp 3)],0, "", #[],none⟩,⟨(some 6),.buildSlice 37 1 #[(0,(.tmp 5))],0, "", #[],none⟩,⟨(some 2),.assign (.tmp 6),0, "", #[],none⟩]:List Oper).toArray false) .ret)))):=aM (by kernel_rfl) (by kernel_rfl)
theorem U0:jJ Proofs.Tryz.prog fE 32 2097152 29:=by
 intro w0 b l0 row dO fh dn aJ hN
 have bB:l0.length=37:=(dn.len.trans ((ay _ _).1 aJ).1).trans qo.cks
 obtain⟨v0,l1,rfl,ig⟩:=aa bB
 obtain⟨v1,l2,rfl,dQ⟩:=aa ig
 obtain⟨v2,l3,rfl,my⟩:=aa dQ
 obtain⟨v3,l4,rfl,kV⟩:=aa my
 obtain⟨v4,l5,rfl,mz⟩:=aa kV
 obtain⟨v5,l6,rfl,mA⟩:=aa mz
 obtain⟨v6,l7,rfl,mB⟩:=aa mA
 obtain⟨v7,l8,rfl,mC⟩:=aa mB
 obtain⟨v8,l9,rfl,mD⟩:=aa mC
 obtain⟨v9,l10,rfl,iy⟩:=aa mD
 obtain⟨v10,l11,rfl,iz⟩:=aa iy
 obtain⟨v11,l12,rfl,iA⟩:=aa iz
 obtain⟨v12,l13,rfl,iB⟩:=aa iA
 obtain⟨kY,l14,rfl,iC⟩:=aa iB
 obtain⟨kZ,l15,rfl,iD⟩:=aa iC
 obtain⟨k7,l16,rfl,iE⟩:=aa iD
 obtain⟨k8,l17,rfl,iF⟩:=aa iE
 obtain⟨jy,l18,rfl,iG⟩:=aa iF
 obtain⟨kz,l19,rfl,iH⟩:=aa iG
 obtain⟨jZ,l20,rfl,iI⟩:=aa iH
 obtain⟨v20,l21,rfl,iJ⟩:=aa iI
 obtain⟨v21,l22,rfl,iK⟩:=aa iJ
 obtain⟨k9,l23,rfl,iL⟩:=aa iK
 obtain⟨lf,l24,rfl,iM⟩:=aa iL
 obtain⟨v24,l25,rfl,iN⟩:=aa iM
 obtain⟨lg,l26,rfl,iO⟩:=aa iN
 obtain⟨lh,l27,rfl,iP⟩:=aa iO
 obtain⟨lj,l28,rfl,iQ⟩:=aa iP
 obtain⟨v28,l29,rfl,iR⟩:=aa iQ
 obtain⟨fp,l30,rfl,iS⟩:=aa iR
 obtain⟨v30,l31,rfl,iT⟩:=aa iS
 obtain⟨v31,l32,rfl,iV⟩:=aa iT
 obtain⟨fq,l33,rfl,iW⟩:=aa iV
 obtain⟨fu,l34,rfl,iX⟩:=aa iW
 obtain⟨fw,l35,rfl,iY⟩:=aa iX
 obtain⟨fx,l36,rfl,iZ⟩:=aa iY
 obtain⟨mF,l37,rfl,ja⟩:=aa iZ
 obtain rfl:=List.eq_nil_of_length_eq_zero ja
 refine cN ZL ?_
 have hs:=SL.init (n:=7) [Ptr b 0] rfl
 revert hs
 generalize({tmps:=_,defers:=[]}:Act)=a
 intro hs
 have g0:=Ch.refl (fun _=>False) w0
 refine ai (ae ?_)
 refine L hs rfl rfl (aj hs (.inr rfl) rfl) fun a hs=>?_
 refine Le (ai (ae ?_))
 have q0:=bG (is:=[]) (parts:=[]) (kinds:=[some (false,[.sl 96])]) (FC:aA Proofs.Tryz.prog aI nF) ⟨rfl,rfl,by kernel_rfl,by kernel_rfl,by kernel_rfl,by kernel_rfl,by kernel_rfl⟩ fh aJ dn hN
 rw[show eh [] (dw [] [v0,v1,v2,v3,v4,v5,v6,v7,v8,v9,v10,v11,v12,kY,kZ,k7,k8,jy,kz,jZ,v20,v21,k9,lf,v24,lg,lh,lj,v28,fp,v30,v31,fq,fu,fw,fx,mF])=[] by kernel_rfl,show nF.fn=30 by kernel_rfl]at q0
 refine Lc hs rfl rfl rfl rfl rfl (by kernel_rfl) q0 fun v w1 a hO hs=>?_
 obtain⟨c0,fi,rfl,cg⟩:=hO
 obtain⟨rr0,bM,fj,rfl,il,bw,cj⟩:=cg.take
 have cO:=g0.size
 have il:=il.down cO
 obtain rfl:=cj.nil
 have g1:=g0.trans c0
 have bq:=c0.at dO fun h=>h
 have dj:=dn.ch c0
 have dk:=fh.ch c0
 refine L hs rfl rfl (cf (sz:=1) (zs:=[.slice none 0 0]) rfl (ic (by kernel_rfl) rfl rfl)) fun a hs=>?_
 have bB:bM.length=1:=(il.len.trans ((ay _ _).1 bw).1)
 refine Ls hs rfl rfl (mI (ag:=false) (m:=1) bM hs rfl rfl rfl (du (by kernel_rfl) (by kernel_rfl) rfl) bB il.one (heap_alloc_new _ _) (by simp)) fun hs=>?_
 obtain⟨c1,bx0_2⟩:=vg (T:=22) (zs:=[.slice none 0 0]) (us:=bM) w1 bB
 have lo0:=g1.size
 generalize hbn0:w1.heap.size=jz at*
 generalize(World.setRow _ jz _)=w2 at*
 have g2:=g1.trans c1
 have bz:=c1.at bq fun h=>h
 have b9:=dj.ch c1
 have cS:=dk.ch c1
 have cw0_2:=il.ch c1
 refine Le (ai (ae ?_))
 refine L hs rfl rfl (Gn hs rfl rfl rfl) fun a hs=>?_
 refine L hs rfl rfl (km (e:=49) (z:= .nilFunc) (v:=clo 31 jz) hs rfl rfl (by kernel_rfl) (fb (by kernel_rfl) (by kernel_rfl) rfl) rfl) fun a hs=>?_
 have c2:=Ch.alloc (fun _=>False) w2 (.cells #[clo 31 jz] 49)
 have hbl3:=heap_alloc_new w2 (.cells #[clo 31 jz] 49)
 have ll2:=g2.size
 generalize hbm:w2.heap.size=bl at*
 generalize w2.alloc (.cells #[clo 31 jz] 49)=w3 at*
 have g3:=g2.trans c2
 have hb3:=c2.at bz fun h=>h
 have hcw3:=b9.ch c2
 have hld3:=cS.ch c2
 have bx0_3:=c2.at bx0_2 fun h=>h
 have cw0_3:=cw0_2.ch c2
 refine L hs rfl rfl (aj hs (.inr rfl) rfl) fun a hs=>?_
 exact Le (dG (gu hs rfl ⟨g3,.one 31 32 jz,⟨bl,_,rfl,hbl3⟩,ZK,fun _ h=>by cases h;omega,lo0,RY,rr0,bM,_,(by kernel_rfl),(by decide),bx0_3,cw0_3,bw,by kernel_rfl⟩))
theorem ZM:Body Proofs.Tryz.prog 35 5 [] (AF 24):=aM (by kernel_rfl) (by kernel_rfl)
theorem ZN:Body Proofs.Tryz.prog 33 11 [.tmp 2] ((.seq (.region 0 ([⟨(some 2),.assign (.const (.slice none 0 0)),0, "", #[],none⟩]:List Oper).toArray false) (.seq (.region 0 ([⟨(some 4),.move (.tmp 0),0, "", #[],none⟩,⟨(some 5),.nilCheck (.tmp 4),0, "", #[],none⟩,⟨(some 6),.fieldAddr 32 (.tmp 5) 1,0, "", #[],none⟩,⟨(some 7),.load 30 (.tmp 6),0, "", #[],none⟩,⟨(some 8),.call ⟨(.value (.func 34)), #[(.tmp 7)], #[]⟩,0, "", #[],none⟩,⟨(some 3),.alloc 30,0, "", #[],none⟩,⟨none,.store 30 (.tmp 3) (.tmp 8),0, "", #[],none⟩]:List Oper).toArray false) (.seq (.region 0 ([⟨(some 9),.makeFunc (.func 35) #[] #[(.tmp 3)],0, "", #[],none⟩,⟨(some 10),.buildSlice 37 1 #[(0,(.tmp 9))],0, "", #[],none⟩,⟨(some 2),.assign (.tmp 10),0, "", #[],none⟩]:List Oper).toArray false) .ret)))):=aM (by kernel_rfl) (by kernel_rfl)
theorem U1:jJ Proofs.Tryz.prog fE 32 2097152 33:=by
 intro w0 b l0 row dO fh dn aJ hN
 have bB:l0.length=37:=(dn.len.trans ((ay _ _).1 aJ).1).trans qo.cks
 obtain⟨v0,l1,rfl,ig⟩:=aa bB
 obtain⟨v1,l2,rfl,dQ⟩:=aa ig
 obtain⟨v2,l3,rfl,my⟩:=aa dQ
 obtain⟨v3,l4,rfl,kV⟩:=aa my
 obtain⟨v4,l5,rfl,mz⟩:=aa kV
 obtain⟨v5,l6,rfl,mA⟩:=aa mz
 obtain⟨v6,l7,rfl,mB⟩:=aa mA
 obtain⟨v7,l8,rfl,mC⟩:=aa mB
 obtain⟨v8,l9,rfl,mD⟩:=aa mC
 obtain⟨v9,l10,rfl,iy⟩:=aa mD
 obtain⟨v10,l11,rfl,iz⟩:=aa iy
 obtain⟨v11,l12,rfl,iA⟩:=aa iz
 obtain⟨v12,l13,rfl,iB⟩:=aa iA
 obtain⟨kY,l14,rfl,iC⟩:=aa iB
 obtain⟨kZ,l15,rfl,iD⟩:=aa iC
 obtain⟨k7,l16,rfl,iE⟩:=aa iD
 obtain⟨k8,l17,rfl,iF⟩:=aa iE
 obtain⟨jy,l18,rfl,iG⟩:=aa iF
 obtain⟨kz,l19,rfl,iH⟩:=aa iG
 obtain⟨jZ,l20,rfl,iI⟩:=aa iH
 obtain⟨v20,l21,rfl,iJ⟩:=aa iI
 obtain⟨v21,l22,rfl,iK⟩:=aa iJ
 obtain⟨k9,l23,rfl,iL⟩:=aa iK
 obtain⟨lf,l24,rfl,iM⟩:=aa iL
 obtain⟨v24,l25,rfl,iN⟩:=aa iM
 obtain⟨lg,l26,rfl,iO⟩:=aa iN
 obtain⟨lh,l27,rfl,iP⟩:=aa iO
 obtain⟨lj,l28,rfl,iQ⟩:=aa iP
 obtain⟨v28,l29,rfl,iR⟩:=aa iQ
 obtain⟨fp,l30,rfl,iS⟩:=aa iR
 obtain⟨v30,l31,rfl,iT⟩:=aa iS
 obtain⟨v31,l32,rfl,iV⟩:=aa iT
 obtain⟨fq,l33,rfl,iW⟩:=aa iV
 obtain⟨fu,l34,rfl,iX⟩:=aa iW
 obtain⟨fw,l35,rfl,iY⟩:=aa iX
 obtain⟨fx,l36,rfl,iZ⟩:=aa iY
 obtain⟨mF,l37,rfl,ja⟩:=aa iZ
 obtain rfl:=List.eq_nil_of_length_eq_zero ja
 refine cN ZN ?_
 have hs:=SL.init (n:=11) [Ptr b 0] rfl
 revert hs
 generalize({tmps:=_,defers:=[]}:Act)=a
 intro hs
 have g0:=Ch.refl (fun _=>False) w0
 refine ai (ae ?_)
 refine L hs rfl rfl (aj hs (.inr rfl) rfl) fun a hs=>?_
 refine Le (ai (ae ?_))
 refine L hs rfl rfl (aj hs (.inl rfl) rfl) fun a hs=>?_
 refine L hs rfl rfl (bH hs rfl rfl) fun a hs=>?_
 refine L hs rfl rfl (bW (off:=2) (sz:=7) hs rfl rfl (by kernel_rfl)) fun a hs=>?_
 refine L hs rfl rfl (aL (ag:=true) (m:=7) [v2,v3,v4,v5,v6,v7,v8] hs rfl rfl (du (by kernel_rfl) (by kernel_rfl) rfl) rfl dO (aG 2 7 rfl)) fun a hs=>?_
 have q0:=bG (is:=[2,3,4,5,6,7,8]) (parts:=[some 7]) (kinds:=[some (true,[.int .i64,.str,.int .i64,.sl 9,.sl 84,.sl 30,.sl 152])]) (Xg:aA Proofs.Tryz.prog aI yI) ⟨rfl,rfl,by kernel_rfl,by kernel_rfl,by kernel_rfl,by kernel_rfl,by kernel_rfl⟩ fh aJ dn hN
 rw[show eh [some 7] (dw [2,3,4,5,6,7,8] [v0,v1,v2,v3,v4,v5,v6,v7,v8,v9,v10,v11,v12,kY,kZ,k7,k8,jy,kz,jZ,v20,v21,k9,lf,v24,lg,lh,lj,v28,fp,v30,v31,fq,fu,fw,fx,mF])=[pk true [v2,v3,v4,v5,v6,v7,v8]] by kernel_rfl,show yI.fn=34 by kernel_rfl]at q0
 refine Lc hs rfl rfl rfl rfl rfl (by kernel_rfl) q0 fun v w1 a hO hs=>?_
 obtain⟨c0,fi,rfl,cg⟩:=hO
 obtain⟨rr0,bM,fj,rfl,il,bw,cj⟩:=cg.take
 have cO:=g0.size
 have il:=il.down cO
 obtain rfl:=cj.nil
 have g1:=g0.trans c0
 have bq:=c0.at dO fun h=>h
 have dj:=dn.ch c0
 have dk:=fh.ch c0
 refine L hs rfl rfl (cf (sz:=7) (zs:=[.int .i64 0,.string ⟨#[]⟩,.int .i64 0,.slice none 0 0,.slice none 0 0,.slice none 0 0,.slice none 0 0]) rfl (ic (by kernel_rfl) rfl rfl)) fun a hs=>?_
 have bB:bM.length=7:=(il.len.trans ((ay _ _).1 bw).1)
 refine Ls hs rfl rfl (mI (ag:=true) (m:=7) bM hs rfl rfl rfl (du (by kernel_rfl) (by kernel_rfl) rfl) bB il.one (heap_alloc_new _ _) (by simp)) fun hs=>?_
 obtain⟨c1,bx0_2⟩:=vg (T:=30) (zs:=[.int .i64 0,.string ⟨#[]⟩,.int .i64 0,.slice none 0 0,.slice none 0 0,.slice none 0 0,.slice none 0 0]) (us:=bM) w1 bB
 have lo0:=g1.size
 generalize hbn0:w1.heap.size=jz at*
 generalize(World.setRow _ jz _)=w2 at*
 have g2:=g1.trans c1
 have bz:=c1.at bq fun h=>h
 have b9:=dj.ch c1
 have cS:=dk.ch c1
 have cw0_2:=il.ch c1
 refine Le (ai (ae ?_))
 refine L hs rfl rfl (Gn hs rfl rfl rfl) fun a hs=>?_
 refine L hs rfl rfl (km (e:=49) (z:= .nilFunc) (v:=clo 35 jz) hs rfl rfl (by kernel_rfl) (fb (by kernel_rfl) (by kernel_rfl) rfl) rfl) fun a hs=>?_
 have c2:=Ch.alloc (fun _=>False) w2 (.cells #[clo 35 jz] 49)
 have hbl3:=heap_alloc_new w2 (.cells #[clo 35 jz] 49)
 have ll2:=g2.size
 generalize hbm:w2.heap.size=bl at*
 generalize w2.alloc (.cells #[clo 35 jz] 49)=w3 at*
 have g3:=g2.trans c2
 have hb3:=c2.at bz fun h=>h
 have hcw3:=b9.ch c2
 have hld3:=cS.ch c2
 have bx0_3:=c2.at bx0_2 fun h=>h
 have cw0_3:=cw0_2.ch c2
 refine L hs rfl rfl (aj hs (.inr rfl) rfl) fun a hs=>?_
 exact Le (dG (gu hs rfl ⟨g3,.one 35 24 jz,⟨bl,_,rfl,hbl3⟩,ZM,fun _ h=>by cases h;omega,lo0,IZ,rr0,bM,_,(by kernel_rfl),(by decide),bx0_3,cw0_3,bw,by kernel_rfl⟩))
theorem calls:∀C∈([7,9,11,13,15,17,21,25,27,29,33]:List FuncId),aP Proofs.Tryz.prog C=true∧jJ Proofs.Tryz.prog fE 32 2097152 C:=(List.forall_mem_cons.2 ⟨⟨by kernel_rfl,Xx⟩,(List.forall_mem_cons.2 ⟨⟨by kernel_rfl,Xy⟩,(List.forall_mem_cons.2 ⟨⟨by kernel_rfl,US⟩,(List.forall_mem_cons.2 ⟨⟨by kernel_rfl,UT⟩,(List.forall_mem_cons.2 ⟨⟨by kernel_rfl,UU⟩,(List.forall_mem_cons.2 ⟨⟨by kernel_rfl,UW⟩,(List.forall_mem_cons.2 ⟨⟨by kernel_rfl,UX⟩,(List.forall_mem_cons.2 ⟨⟨by kernel_rfl,UY⟩,(List.forall_mem_cons.2 ⟨⟨by kernel_rfl,UZ⟩,(List.forall_mem_cons.2 ⟨⟨by kernel_rfl,U0⟩,(List.forall_mem_cons.2 ⟨⟨by kernel_rfl,U1⟩,(by simp)⟩)⟩)⟩)⟩)⟩)⟩)⟩)⟩)⟩)⟩)⟩)
theorem walk:∀(w:World) (xs:List Value) (row:List PV),fV Proofs.Tryz.prog w→gi Proofs.Tryz.prog w (cks Proofs.Tryz.prog 32) xs row→rz row≤2097152→Ret Proofs.Tryz.prog 3 [.agg xs.toArray] w fun v w'=>v= .bool true∧Ch (fun _=>False) w w':=
 TO kit YT qo Yk (S:=6) (rS:=r_6) (by kernel_rfl) (by kernel_rfl) Yx (W:=5) (rO:=o_5) (by kernel_rfl) (by kernel_rfl) (by kernel_rfl) (by kernel_rfl) (by kernel_rfl) Zx Zy ZA Zz b_4 b_3 rfl rfl calls (by kernel_rfl) fun w' hl=>Re (PH:aA Proofs.Tryz.prog aI tG) rfl w' hl
end Go.TL.H.core
namespace Go.Proofs.YtpoamlpahljebaaGreatDoor.core
open Go Go.ChangeShapes Go.WideShapes Go.ChangeAt Go.RowKit Go.TL.H Go.TL.H.core
theorem blk(H:Type):Blk H Rows.uptoBulk Rows.uptoBulkAll where
 str l:=by simp[Rows.uptoBulk]
 one d:=by
  cases d<;>(try unfold Rows.uptoBulk)<;>(try omega)
  rename_i l
  cases l<;>simp
 sl x y:=by simp[Rows.uptoBulk]
 agg x:=by simp[Rows.uptoBulk]
 nil:=by simp[Rows.uptoBulkAll]
 cons x r:=by simp[Rows.uptoBulkAll]
theorem own:ownKnob Proofs.Tryz.prog.godebug=none:=by kernel_rfl
theorem R6(H:Type)(enc:TypeId×Value→H)(W:World)(hla:fV Proofs.Tryz.prog W)(base:Nat)(args:Array Value)(ds gs:List (DataW H))(before:List MemPlace)
  (dB:∀(j:Nat) t v,Tryz.f3.params[j]? =some t→args[j]? =some v→Value.okWide Proofs.Tryz.prog W .any base t v)
  (hW:DataW.Whole enc Proofs.Tryz.prog Tryz.f3.params.toList Rows.topSharedCoreSpec.vars false W args.toList ds gs before)(hk:Rows.uptoBulkAll (ds++gs)≤1048576):
  Calls Proofs.Tryz.prog 3 args W fun e W'=>∃v,e= .returned v∧Rows.topSharedCoreSpec.post enc Proofs.Tryz.prog Tryz.f3 false true false false W args v W':=
 Js (E:=(· ∈Zw)) (blk H) (T:=32) (tb:=4) rfl rfl rfl (fun _=>rfl) (by kernel_rfl) (show Proofs.Tryz.prog.underlying 32=some (.struct (match Proofs.Tryz.prog.underlying 32 with|some (.struct fs)=>fs|_=> #[])) by kernel_rfl) (by kernel_rfl) (by kernel_rfl) (of_decide_eq_true (by kernel_rfl)) (by kernel_rfl) (XV (by kernel_rfl)) (XW (by kernel_rfl)) walk W hla base args ds gs before dB hW hk
noncomputable def lw(os:Os):World:=FD Proofs.Tryz.prog os Rows.topSharedCoreUptoRow.laid
def Nj:Value:= .agg [.slice none 0 0,.slice none 0 0,.int .i64 0,.string ⟨#[]⟩,.int .i64 0,.slice none 0 0,.slice none 0 0,.slice none 0 0,.slice none 0 0,.slice none 0 0,.int .i64 0,.string ⟨#[]⟩,.int .i64 0,.slice none 0 0,.slice none 0 0,.slice none 0 0,.slice none 0 0,.int .i64 0,.string ⟨#[]⟩,.int .i64 0,.slice none 0 0,.slice none 0 0,.slice none 0 0,.slice none 0 0,.slice none 0 0,.slice none 0 0,.slice none 0 0,.slice none 0 0,.string ⟨#[]⟩,.int .i64 0,.string ⟨#[]⟩,.int .i64 0,.slice none 0 0,.slice none 0 0,.slice none 0 0,.slice none 0 0,.string ⟨#[]⟩].toArray
theorem R7(os:Os):laidMet Proofs.Tryz.prog Rows.topSharedCoreUptoRow.laid ((lw os).forCall (fun _ _=>0) ⟨#[], #[Nj],[]⟩).memory:=
 laidMet_of_run' 8 (by kernel_rfl) (by kernel_rfl)
theorem reads(os:Os){H:Type}(enc:TypeId×Value→H):∃places,DataW.whole enc Proofs.Tryz.prog ((lw os).forCall (fun _ _=>0) ⟨#[], #[Nj],[]⟩).memory Tryz.f3.params.toList Rows.topSharedCoreSpec.vars false #[Nj].toList 8=some ([.agg [.agg [.nil,.nil],.agg [.lit (.int .i64 0),.lit (.string []),.lit (.int .i64 0),.nil,.nil,.nil,.nil],.nil,.agg [.lit (.int .i64 0),.lit (.string []),.lit (.int .i64 0),.nil,.nil,.nil,.nil],.agg [.lit (.int .i64 0),.lit (.string []),.lit (.int .i64 0),.nil,.nil,.nil,.nil],.agg [.nil,.nil],.agg [.nil,.nil],.lit (.string []),.agg [.lit (.int .i64 0),.lit (.string []),.lit (.int .i64 0),.nil,.nil,.nil,.nil],.lit (.string [])]],[],places):=
 ⟨[],by kernel_rfl⟩
set_option maxRecDepth 100000 in
theorem lifted(os:Os)(started:os.Started)(H:Type)(enc:TypeId×Value→H)(F:Stop.Interp):
  ReturnsInHanded {} Tryz.checked os 3 .any ((Rows.OpenSpec.upto Rows.topSharedCoreSpec).preRow enc Proofs.Tryz.prog Tryz.f3 Rows.topSharedCoreUptoRow.domain false Rows.topSharedCoreUptoRow.laid) (((Rows.OpenSpec.upto Rows.topSharedCoreSpec).at F).post enc Proofs.Tryz.prog Tryz.f3 false true false false):=by
 obtain⟨places,hx⟩:=reads os enc
 refine returnsInHanded_of_row (C:=Tryz.checked) (s:=(Rows.OpenSpec.upto Rows.topSharedCoreSpec)) own started (by kernel_rfl) Tryz.func3
  (witness_row_at (enc:=enc) (C:=Tryz.checked) false (lw os) #[Nj] rfl (by kernel_rfl) (by kernel_rfl) (by kernel_rfl)
   (OpenSpec.preRow_of_cond 8 hx (by kernel_rfl) (fun k hk=>by cases hk;kernel_rfl) (by kernel_rfl) (R7 os))) ?_
 intro W base args ds gs before dB hW _ hcond _ hL _ _
 exact R6 H enc W (RW (g:=((Proofs.Tryz.prog.globalNamed "internal/strconv.uint64pow10").getD 0)) (t:=(((Proofs.Tryz.prog.globals[((Proofs.Tryz.prog.globalNamed "internal/strconv.uint64pow10").getD 0)]?).map (·.type)).getD 0)) (e:=(match Proofs.Tryz.prog.underlying (((Proofs.Tryz.prog.globals[((Proofs.Tryz.prog.globalNamed "internal/strconv.uint64pow10").getD 0)]?).map (·.type)).getD 0)with|some (.array _ e)=>e|_=>0)) (by kernel_rfl) (by kernel_rfl) (by kernel_rfl) (by kernel_rfl) (by kernel_rfl) (by kernel_rfl) (by kernel_rfl) hL) base args ds gs before dB hW (of_decide_eq_true (hcond _ rfl))
theorem over:Rows.topSharedCoreUptoRow.holds Tryz.pinned (Rows.OpenSpec.upto Rows.topSharedCoreSpec):=
 OpenClaim.holds_of_cond 3 Tryz.f3 rfl rfl rfl rfl rfl rfl rfl ⟨rfl,rfl,rfl,rfl,rfl⟩ rfl rfl rfl rfl rfl (by kernel_rfl) Tryz.func3 (by kernel_rfl)
  (of_decide_eq_true (by kernel_rfl)) (by unfold Func.isWrapper;first|(rw[if_pos (by decide+kernel)];kernel_rfl)|(rw[if_neg (by decide+kernel)];exact⟨rfl,rfl⟩))
  (fun os started H enc _ F=>by rw[OpenClaim.pre_eq_preRow];exact lifted os started H enc F)
theorem plain(f:FuncId)(fn:Func)(hf:Tryz.pinned.checked.prog.funcNamed Rows.topSharedCoreUptoRow.func=some f)(fJ:Tryz.pinned.checked.prog.funcs[f]? =some fn):
  Rows.topSharedCoreUptoCard.stood.looks=Tryz.pinned.checked.prog.looks []∧∀(j:Nat) t,fn.params[j]? =some t→Tryz.pinned.checked.prog.wantsStandIn t=false:=by
 obtain rfl:f=3:=(Option.some.inj ((show Proofs.Tryz.prog.funcNamed Rows.topSharedCoreUptoRow.func=some 3 by kernel_rfl).symm.trans hf)).symm
 obtain rfl:fn=Tryz.f3:=(Option.some.inj (Tryz.func3.symm.trans fJ)).symm
 refine⟨by kernel_rfl,fun j t ht=>?_⟩
 rw[show Tryz.f3.params= #[32]from rfl]at ht
 obtain rfl:t=32:=by simpa using Array.mem_of_getElem? ht
 exact(show Proofs.Tryz.prog.wantsStandIn 32=false by kernel_rfl)
theorem proved:Rows.TopSharedCoreUptoCardSaid:=
 Claim7.holds_tied_plain_at .later [] _ _ _ _ over (fun _ h=>by cases h) (by kernel_rfl) (fun _ h=>by cases h) topSharedCoreUpto_row_tie rfl ⟨rfl,rfl⟩ (by kernel_rfl) rfl plain (by kernel_rfl)
end Go.Proofs.YtpoamlpahljebaaGreatDoor.core
