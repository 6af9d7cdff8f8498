/- For every input that holds at most 1048576 values and letters TopSharedGroups returns true, and its argument reads behind the call as it read before. Conditions: those of the row. -/
import Derived.Test.YtbjmbhgbalmoaaaW27
import Derived.Test.YtbjmbhgbalmoaaaW43
import Derived.Test.YtbjmbhgbalmoaaaRows
import Derived.OpenShut
import Derived.WalkKit
import Derived.ProofKit
import Derived.JoinedCond
set_option maxRecDepth 100000
namespace Go.TL.H.groups
open Go Go.TL.Ggroups
open Go.TL.H.Hgroups
abbrev tyY:TY:=⟨50,3,4,9,24,22,5,94⟩
abbrev tyZ:TZ:=⟨51,31,39⟩
theorem kit:Kit Proofs.Try.prog tyY where
 mixed:=by kernel_rfl
 e0:=by kernel_rfl
 e1:=by kernel_rfl
 e2:=by kernel_rfl
 e3:=by kernel_rfl
 e4:=by kernel_rfl
 i:=bN (by kernel_rfl) (by kernel_rfl) rfl
 b:=bN (by kernel_rfl) (by kernel_rfl) rfl
 s:=bN (by kernel_rfl) (by kernel_rfl) rfl
 nl:=bN (by kernel_rfl) (by kernel_rfl) rfl
 ss:=bN (by kernel_rfl) (by kernel_rfl) rfl
 by':=bN (by kernel_rfl) (by kernel_rfl) rfl
 i16:=rq (by kernel_rfl)
 s16:=rq (by kernel_rfl)
 iU:=by kernel_rfl
 bU:=by kernel_rfl
 sU:=by kernel_rfl
 nlU:=by kernel_rfl
 ssU:=by kernel_rfl
 byU:=by kernel_rfl
 blU:=by kernel_rfl
 eB:=ow (by kernel_rfl) (by kernel_rfl)
theorem BA:nk Proofs.Try.prog tyY tyZ:=⟨by kernel_rfl,by kernel_rfl,bN (by kernel_rfl) (by kernel_rfl) rfl⟩
theorem uy:nq Proofs.Try.prog tyY tyZ 26 46 40 3 [.slice none 0 0,.slice none 0 0,.slice none 0 0]where
 bu1:=by kernel_rfl
 bu2:=by kernel_rfl
 bu3:=fun _=>by kernel_rfl
 lcU:=by kernel_rfl
 ct:=bN (by kernel_rfl) (by kernel_rfl) rfl
 tp:=iQ (by kernel_rfl) (by kernel_rfl) rfl
 el:=lq (by kernel_rfl) rfl rfl
 cks:=by kernel_rfl
 small:=by decide
def uz:Row:=⟨.via 22 32 33 9 1,[.sl 9],true,0⟩
def AD:Row:=⟨.via 23 36 16 22 1,[.sl 22],true,0⟩
def xH:Row:=⟨.via 24 37 38 3 1,[.sl 3],true,0⟩
def r_6:Row:=⟨.st 26 [(0,0,16),(1,1,25),(2,2,26)],[.sl 9,.sl 22,.sl 3],true,1⟩
def xI:Row:=⟨.via 32 30 26 24 1,[.sl 24],true,0⟩
def xJ:Row:=⟨.str,[.str],false,0⟩
def xK:Row:=⟨.num 3,[.int .i64],true,0⟩
def jf:cT:=[(16,uz),(25,AD),(26,xH),(6,r_6),(10,xI),(33,xJ),(38,xK)]
theorem BB:Body Proofs.Try.prog 16 9 [] (oO 22 32 33):=aA (by kernel_rfl) (by kernel_rfl)
theorem BC:Body Proofs.Try.prog 32 46 [] (nh tyY 22):=aA (by kernel_rfl) (by kernel_rfl)
theorem BD:Fit Proofs.Try.prog tyY jf 16 uz:=mK (r1:=xJ) BB BC (by kernel_rfl) (by kernel_rfl) (bN (by kernel_rfl) (by kernel_rfl) rfl) (by kernel_rfl) (by kernel_rfl) (by kernel_rfl) (by kernel_rfl) (by kernel_rfl) (by kernel_rfl)
theorem BE:Body Proofs.Try.prog 25 9 [] (oO 23 36 16):=aA (by kernel_rfl) (by kernel_rfl)
theorem BG:Body Proofs.Try.prog 36 46 [] (nh tyY 23):=aA (by kernel_rfl) (by kernel_rfl)
theorem BH:Fit Proofs.Try.prog tyY jf 25 AD:=mK (r1:=uz) BE BG (by kernel_rfl) (by kernel_rfl) (bN (by kernel_rfl) (by kernel_rfl) rfl) (by kernel_rfl) (by kernel_rfl) (by kernel_rfl) (by kernel_rfl) (by kernel_rfl) (by kernel_rfl)
theorem BI:Body Proofs.Try.prog 26 9 [] (oO 24 37 38):=aA (by kernel_rfl) (by kernel_rfl)
theorem BJ:Body Proofs.Try.prog 37 46 [] (nh tyY 24):=aA (by kernel_rfl) (by kernel_rfl)
theorem BK:Fit Proofs.Try.prog tyY jf 26 xH:=mK (r1:=xK) BI BJ (by kernel_rfl) (by kernel_rfl) (bN (by kernel_rfl) (by kernel_rfl) rfl) (by kernel_rfl) (by kernel_rfl) (by kernel_rfl) (by kernel_rfl) (by kernel_rfl) (by kernel_rfl)
theorem b_6:Body Proofs.Try.prog 6 19 [] (stC 26 4 [(0,0,16),(1,1,25),(2,2,26)]):=aA (by kernel_rfl) (by kernel_rfl)
theorem f_6:Fit Proofs.Try.prog tyY jf 6 r_6:=Ag b_6 (by kernel_rfl) (by kernel_rfl) (by kernel_rfl)
theorem BM:Body Proofs.Try.prog 10 9 [] (oO 32 30 26):=aA (by kernel_rfl) (by kernel_rfl)
theorem BN:Body Proofs.Try.prog 30 46 [] (nh tyY 32):=aA (by kernel_rfl) (by kernel_rfl)
theorem BO:Fit Proofs.Try.prog tyY jf 10 xI:=mK (r1:=xH) BM BN (by kernel_rfl) (by kernel_rfl) (bN (by kernel_rfl) (by kernel_rfl) rfl) (by kernel_rfl) (by kernel_rfl) (by kernel_rfl) (by kernel_rfl) (by kernel_rfl) (by kernel_rfl)
theorem BP:Body Proofs.Try.prog 33 49 [] (tG tyY):=aA (by kernel_rfl) (by kernel_rfl)
theorem BQ:Fit Proofs.Try.prog tyY jf 33 xJ:=yR BP
theorem BR:Body Proofs.Try.prog 38 33 [] (tC tyY 3):=aA (by kernel_rfl) (by kernel_rfl)
theorem BS:Fit Proofs.Try.prog tyY jf 38 xK:=yQ BR (show One Proofs.Try.prog 3 (.int .i64 0)from bN (by kernel_rfl) (by kernel_rfl) rfl)
theorem A6:iL Proofs.Try.prog tyY jf:=Ah (List.forall_mem_cons.2 ⟨BD,(List.forall_mem_cons.2 ⟨BH,(List.forall_mem_cons.2 ⟨BK,(List.forall_mem_cons.2 ⟨f_6,(List.forall_mem_cons.2 ⟨BO,(List.forall_mem_cons.2 ⟨BQ,(List.forall_mem_cons.2 ⟨BS,(by simp)⟩)⟩)⟩)⟩)⟩)⟩)⟩)
def xL:eY:=⟨.cp 22 9 1 [.string ⟨#[]⟩],0⟩
def AE:eY:=⟨.ls 23 22 1 false [.slice none 0 0] 35 22,0⟩
def AF:eY:=⟨.cp 24 3 1 [.int .i64 0],0⟩
def o_5:eY:=⟨.st 26 3 [.slice none 0 0,.slice none 0 0,.slice none 0 0] [⟨0,0,1,22,false,22⟩,⟨1,1,1,23,false,23⟩,⟨2,2,1,24,false,24⟩],1⟩
def pq:lQ:=[(22,xL),(23,AE),(24,AF),(5,o_5)]
theorem BU:Body Proofs.Try.prog 22 9 [.tmp 2] (fk tyY 22):=aA (by kernel_rfl) (by kernel_rfl)
theorem A7:iE Proofs.Try.prog tyY pq 22 xL:=sS BU (by kernel_rfl) (lq (by kernel_rfl) rfl rfl) (by kernel_rfl) (by kernel_rfl) (by kernel_rfl) (by kernel_rfl)
theorem BV:Body Proofs.Try.prog 35 9 [.tmp 2] (fk tyY 23):=aA (by kernel_rfl) (by kernel_rfl)
theorem BW:Body Proofs.Try.prog 23 21 [.tmp 2] (nW tyY 23 22 35 22):=aA (by kernel_rfl) (by kernel_rfl)
theorem A8:iE Proofs.Try.prog tyY pq 23 AE:=yS (r1:=xL) BW BV (by kernel_rfl) (lq (by kernel_rfl) rfl rfl) (by kernel_rfl) (by kernel_rfl) (by kernel_rfl) (by kernel_rfl) (by kernel_rfl) (by kernel_rfl) (by kernel_rfl) (by kernel_rfl) (by kernel_rfl) (by kernel_rfl)
theorem BX:Body Proofs.Try.prog 24 9 [.tmp 2] (fk tyY 24):=aA (by kernel_rfl) (by kernel_rfl)
theorem A9:iE Proofs.Try.prog tyY pq 24 AF:=sS BX (by kernel_rfl) (lq (by kernel_rfl) rfl rfl) (by kernel_rfl) (by kernel_rfl) (by kernel_rfl) (by kernel_rfl)
theorem b_5:Body Proofs.Try.prog 5 16 [.cell 2 26] (nX 26 [⟨0,0,1,22,false,22⟩,⟨1,1,1,23,false,23⟩,⟨2,2,1,24,false,24⟩]):=aA (by kernel_rfl) (by kernel_rfl)
theorem BZ:iE Proofs.Try.prog tyY pq 5 o_5:=yT b_5 (lq (by kernel_rfl) rfl rfl) (by kernel_rfl) (by kernel_rfl) (by kernel_rfl) (by kernel_rfl) (by kernel_rfl) (by kernel_rfl)
theorem Ba:∀f r,lk pq f=some r→iE Proofs.Try.prog tyY pq f r:=yU (List.forall_mem_cons.2 ⟨A7,(List.forall_mem_cons.2 ⟨A8,(List.forall_mem_cons.2 ⟨A9,(List.forall_mem_cons.2 ⟨BZ,(by simp)⟩)⟩)⟩)⟩)
def B0:List TypeId:=[9,22,3]
theorem B1:Body Proofs.Try.prog 18 27 [.tmp 2] (nT tyY):=aA (by kernel_rfl) (by kernel_rfl)
theorem B2:Body Proofs.Try.prog 19 23 [.tmp 2] (mu tyY tyZ):=aA (by kernel_rfl) (by kernel_rfl)
theorem B3:Body Proofs.Try.prog 20 59 [.tmp 4] (jW tyY):=aA (by kernel_rfl) (by kernel_rfl)
theorem B4:Body Proofs.Try.prog 21 29 [.tmp 6] (kq tyY tyZ 20):=aA (by kernel_rfl) (by kernel_rfl)
theorem b_4:Body Proofs.Try.prog 4 95 [.tmp 8] (qN tyY tyZ 26 46 40 18 19 20 21):=aA (by kernel_rfl) (by kernel_rfl)
theorem b_3:Body Proofs.Try.prog 3 9 [.tmp 2] (wO 26 46 [7,11,13] 4 5 6 17):=aA (by kernel_rfl) (by kernel_rfl)
theorem b_9:Body Proofs.Try.prog 9 5 [] (qJ 10):=aA (by kernel_rfl) (by kernel_rfl)
theorem dP:Tp Proofs.Try.prog 22 false 1:=iQ (by kernel_rfl) (by kernel_rfl) rfl
theorem iR:Tp Proofs.Try.prog 23 false 1:=iQ (by kernel_rfl) (by kernel_rfl) rfl
theorem lB:El Proofs.Try.prog 32 1 [.slice none 0 0]:=lq (by kernel_rfl) rfl rfl
theorem j1:Tp Proofs.Try.prog 32 false 1:=iQ (by kernel_rfl) (by kernel_rfl) rfl
theorem b_7:Body Proofs.Try.prog 7 19 [.tmp 2] ((.seq (.region 0 ([⟨(some 2),.assign (.const (.slice none 0 0)),0, "", #[],none⟩]:List Oper).toArray false) (.seq (.region 0 ([⟨(some 6),.move (.tmp 0),0, "", #[],none⟩,⟨(some 7),.nilCheck (.tmp 6),0, "", #[eD 0],none⟩,⟨(some 8),.fieldAddr 26 (.tmp 7) 0,0, "", #[eD 1],none⟩,⟨(some 9),.load 22 (.tmp 8),0, "", #[eD 2],none⟩,⟨(some 10),.move (.tmp 0),0, "", #[],none⟩,⟨(some 11),.nilCheck (.tmp 10),0, "", #[eD 4],none⟩,⟨(some 12),.fieldAddr 26 (.tmp 11) 1,0, "", #[eD 5],none⟩,⟨(some 13),.load 23 (.tmp 12),0, "", #[eD 6],none⟩,⟨(some 14),.call ⟨(.value (.func 8)), #[(.tmp 9),(.tmp 13)], #[]⟩,0, "", #[eD 3,eD 7],none⟩,⟨(some 5),.move (.tmp 14),0, "", #[eD 8],none⟩,⟨(some 15),.extract (.tmp 5) 0,0, "", #[eD 9],none⟩,⟨(some 16),.extract (.tmp 5) 1,0, "", #[eD 9,⟨13,.gcOnly .lateStores⟩],none⟩,⟨(some 3),.alloc 32,0, "", #[],none⟩,⟨none,.store 32 (.tmp 3) (.tmp 15),0, "", #[eD 12,eD 10,eC 8,eP 0,eP 1,eP 2,eP 3,eP 4,eP 5,eP 6,eP 7,eP 8,eP 9,eP 10,⟨11,.textOnly .lateStores⟩,eP 12],none⟩,⟨(some 4),.assign (.tmp 16),0, "", #[eD 11,eC 13,eP 0,eP 1,eP 2,eP 3,eP 4,eP 5,eP 6,eP 7,eP 8,eP 9,eP 10,eP 11,eP 12,eP 13],none⟩]:List Oper).toArray true) (.seq (.region 0 ([⟨(some 17),.makeFunc (.func 9) #[] #[(.tmp 3)],0, "", #[],none⟩,⟨(some 18),.buildSlice 31 1 #[(0,(.tmp 17))],0, "", #[],none⟩,⟨(some 2),.assign (.tmp 18),0, "", #[],none⟩]:List Oper).toArray false) .ret)))):=aA (by kernel_rfl) (by kernel_rfl)
theorem AG:kY Proofs.Try.prog jf 26 2097152 7:=by
 intro w0 b l0 row hb0 hld0 kh bL hN
 have cA:l0.length=3:=(kh.len.trans ((aI _ _).1 bL).1).trans uy.cks
 obtain⟨v0,l1,rfl,hl1⟩:=fU cA
 obtain⟨v1,l2,rfl,dQ⟩:=fU hl1
 obtain⟨v2,l3,rfl,hl3⟩:=fU dQ
 obtain rfl:=List.eq_nil_of_length_eq_zero hl3
 refine aJ b_7 ?_
 have hs:=SL.init (n:=19) [Ptr b 0] rfl
 revert hs
 generalize({tmps:=_,defers:=[]}:Act)=a
 intro hs
 have g0:=Ch.refl (fun _=>False) w0
 refine ah (ae ?_)
 refine L hs rfl rfl (aa hs (.inr rfl) rfl) fun a hs=>?_
 refine Le (ah (eW 15 rfl kit.mixed ?_))
 refine nC (uh Proofs.Try.prog 19 3 32 [.sl 24] w0) (fun _ _ _ h=>h) (fun a lG hl=>?_) fun hp hQ=>?_
 rotate_left
 have hK:fB Proofs.Try.prog ka ux:=Bz
 have eg:rD Proofs.Try.prog 26 ux [0,1] [none,none] [some (false,[.sl 24]),none]:=⟨rfl,rfl,by kernel_rfl,by kernel_rfl,by kernel_rfl,by kernel_rfl,by kernel_rfl⟩
 have dq:eE [none,none] (cZ [0,1] [v0,v1,v2])=[pk false [v0],pk false [v1]]:=by kernel_rfl
 have gC:ux.fn=8:=by kernel_rfl
 have c0:=Ch.drew (fun _=>False) w0
 generalize({w0 with drawn:=w0.drawn+1}:World)=w1 at c0 ⊢
 have g1:=g0.trans c0
 have cq:=c0.at hb0 fun h=>h
 have fw:=kh.ch c0
 have fx:=hld0.ch c0
 ·skip
  refine Yb 0 hs rfl rfl rfl (by kernel_rfl) hp (fun w=>aa hs (.inl rfl) rfl) fun a hs=>?_
  refine Yb 1 hs rfl rfl rfl (by kernel_rfl) hp (fun w=>ab hs rfl rfl) fun a hs=>?_
  refine Yb 2 hs rfl rfl rfl (by kernel_rfl) hp (fun w=>ak (off:=0) (sz:=1) hs rfl rfl (by kernel_rfl)) fun a hs=>?_
  refine Yb 4 hs rfl rfl rfl (by kernel_rfl) hp (fun w=>aa hs (.inl rfl) rfl) fun a hs=>?_
  refine Yb 5 hs rfl rfl rfl (by kernel_rfl) hp (fun w=>ab hs rfl rfl) fun a hs=>?_
  refine Yb 6 hs rfl rfl rfl (by kernel_rfl) hp (fun w=>ak (off:=1) (sz:=1) hs rfl rfl (by kernel_rfl)) fun a hs=>?_
  refine wpAny_all (rs:=[3,7,12]) (by kernel_rfl) (by simp) fun j hj=>?_
  simp only[List.mem_cons,List.mem_nil_iff,or_false]at hj
  rcases hj with rfl|rfl|rfl
  ·refine aj hs rfl rfl rfl (bs [v0] hs rfl rfl dP rfl cq (bK 0 1 rfl)) fun a hs=>?_
   refine wpAny_all (rs:=[7,12]) (by kernel_rfl) (by simp) fun j hj=>?_
   simp only[List.mem_cons,List.mem_nil_iff,or_false]at hj
   rcases hj with rfl|rfl
   ·refine aj hs rfl rfl rfl (bs [v1] hs rfl rfl iR rfl cq (bK 1 1 rfl)) fun a hs=>?_
    refine wpAny_all (rs:=[8,12]) (by kernel_rfl) (by simp) fun j hj=>?_
    simp only[List.mem_cons,List.mem_nil_iff,or_false]at hj
    rcases hj with rfl|rfl
    ·have q1:=cK (is:=[0,1]) (parts:=[none,none]) (kinds:=[some (false,[.sl 24]),none]) hK eg fx bL fw hN
     rw[dq,gC]at q1
     refine bF hs rfl rfl rfl rfl rfl rfl (by kernel_rfl) q1 fun v w2 a hO hs=>?_
     obtain⟨c1,us0,rfl,dA⟩:=hO
     obtain⟨rr0,bW,us1,rfl,bq,bQ,dB⟩:=dA.take
     obtain⟨u1,us2,rfl,dM⟩:=dB.skip
     obtain rfl:=dM.nil
     have dN:=g1.size
     have cA:bW.length=1:=(bq.len.trans ((aI _ _).1 bQ).1)
     have g2:=g1.trans c1
     have gc:=Ch.refl (fun _=>False) w2
     refine Yb 9 hs rfl rfl rfl (by kernel_rfl) hp (fun w=>aa hs (.inl rfl) rfl) fun a hs=>?_
     refine Yb 10 hs rfl rfl rfl (by kernel_rfl) hp (fun w=>aB hs rfl rfl rfl) fun a hs=>?_
     refine Yb 11 hs rfl rfl rfl (by kernel_rfl) hp (fun w=>aB hs rfl rfl rfl) fun a hs=>?_
     refine Y1 12 (by kernel_rfl) (aj hs rfl rfl rfl (bX rfl lB) fun a hs=>?_)
     have c2:=Ch.alloc (fun _=>False) w2 (.cells [.slice none 0 0].toArray 32)
     have br:=heap_alloc_new w2 (.cells [.slice none 0 0].toArray 32)
     have cX:=g2.size
     have ge12:=gc.size
     generalize fW:w2.heap.size=dy at*
     generalize w2.alloc (.cells [.slice none 0 0].toArray 32)=w3 at*
     have g3:=g2.trans c2
     have gc:=gc.trans c2
     exact bV (i1:=13) (i2:=14) (rr0:=rr0) (by kernel_rfl) (by kernel_rfl) (by kernel_rfl) rfl rfl rfl rfl rfl rfl rfl rfl rfl j1 rfl rfl rfl rfl hQ (hs.keep [3,15,16]) g3 br rfl cA bq.one cX
      (fun w' hw=>(bq.keep fun b o hb hh=>have:=aq hh;hw b o (by omega) (gc.at hh id)).down dN) bQ
    ·refine aj hs rfl rfl rfl (bX rfl lB) fun a hs=>?_
     have c1:=Ch.alloc (fun _=>False) w1 (.cells [.slice none 0 0].toArray 32)
     have bn:=heap_alloc_new w1 (.cells [.slice none 0 0].toArray 32)
     have cX:=g1.size
     generalize fW:w1.heap.size=dy at*
     generalize w1.alloc (.cells [.slice none 0 0].toArray 32)=w2 at*
     have g2:=g1.trans c1
     have cF:=c1.at cq id
     have cj:=fw.ch c1
     have dU:=fx.ch c1
     have jS:dy<w2.heap.size:=aq bn
     have q2:=cK (is:=[0,1]) (parts:=[none,none]) (kinds:=[some (false,[.sl 24]),none]) hK eg dU bL cj hN
     rw[dq,gC]at q2
     refine Y1 8 (by kernel_rfl) (bF hs rfl rfl rfl rfl rfl rfl (by kernel_rfl) q2 fun v w3 a hO hs=>?_)
     obtain⟨c2,us0,rfl,dA⟩:=hO
     obtain⟨rr0,bW,us1,rfl,bq,bQ,dB⟩:=dA.take
     obtain⟨u1,us2,rfl,dM⟩:=dB.skip
     obtain rfl:=dM.nil
     have dN:=g2.size
     have cA:bW.length=1:=(bq.len.trans ((aI _ _).1 bQ).1)
     have g3:=g2.trans c2
     have br:=c2.at bn id
     have gc:=Ch.refl (fun _=>False) w3
     refine Yb 9 hs rfl rfl rfl (by kernel_rfl) hp (fun w=>aa hs (.inl rfl) rfl) fun a hs=>?_
     refine Yb 10 hs rfl rfl rfl (by kernel_rfl) hp (fun w=>aB hs rfl rfl rfl) fun a hs=>?_
     refine Yb 11 hs rfl rfl rfl (by kernel_rfl) hp (fun w=>aB hs rfl rfl rfl) fun a hs=>?_
     exact bV (i1:=13) (i2:=14) (rr0:=rr0) (by kernel_rfl) (by kernel_rfl) (by kernel_rfl) rfl rfl rfl rfl rfl rfl rfl rfl rfl j1 rfl rfl rfl rfl hQ (hs.keep [3,15,16]) g3 br rfl cA bq.one cX
      (fun w' hw=>(bq.keep fun b o hb hh=>have:=aq hh;hw b o (by omega) (gc.at hh id)).down dN) bQ
   ·refine aj hs rfl rfl rfl (bX rfl lB) fun a hs=>?_
    have c1:=Ch.alloc (fun _=>False) w1 (.cells [.slice none 0 0].toArray 32)
    have bn:=heap_alloc_new w1 (.cells [.slice none 0 0].toArray 32)
    have cX:=g1.size
    generalize fW:w1.heap.size=dy at*
    generalize w1.alloc (.cells [.slice none 0 0].toArray 32)=w2 at*
    have g2:=g1.trans c1
    have cF:=c1.at cq id
    have cj:=fw.ch c1
    have dU:=fx.ch c1
    refine Y1 7 (by kernel_rfl) (aj hs rfl rfl rfl (bs [v1] hs rfl rfl iR rfl cF (bK 1 1 rfl)) fun a hs=>?_)
    have jS:dy<w2.heap.size:=aq bn
    have q2:=cK (is:=[0,1]) (parts:=[none,none]) (kinds:=[some (false,[.sl 24]),none]) hK eg dU bL cj hN
    rw[dq,gC]at q2
    refine Y1 8 (by kernel_rfl) (bF hs rfl rfl rfl rfl rfl rfl (by kernel_rfl) q2 fun v w3 a hO hs=>?_)
    obtain⟨c2,us0,rfl,dA⟩:=hO
    obtain⟨rr0,bW,us1,rfl,bq,bQ,dB⟩:=dA.take
    obtain⟨u1,us2,rfl,dM⟩:=dB.skip
    obtain rfl:=dM.nil
    have dN:=g2.size
    have cA:bW.length=1:=(bq.len.trans ((aI _ _).1 bQ).1)
    have g3:=g2.trans c2
    have br:=c2.at bn id
    have gc:=Ch.refl (fun _=>False) w3
    refine Yb 9 hs rfl rfl rfl (by kernel_rfl) hp (fun w=>aa hs (.inl rfl) rfl) fun a hs=>?_
    refine Yb 10 hs rfl rfl rfl (by kernel_rfl) hp (fun w=>aB hs rfl rfl rfl) fun a hs=>?_
    refine Yb 11 hs rfl rfl rfl (by kernel_rfl) hp (fun w=>aB hs rfl rfl rfl) fun a hs=>?_
    exact bV (i1:=13) (i2:=14) (rr0:=rr0) (by kernel_rfl) (by kernel_rfl) (by kernel_rfl) rfl rfl rfl rfl rfl rfl rfl rfl rfl j1 rfl rfl rfl rfl hQ (hs.keep [3,15,16]) g3 br rfl cA bq.one cX
     (fun w' hw=>(bq.keep fun b o hb hh=>have:=aq hh;hw b o (by omega) (gc.at hh id)).down dN) bQ
  ·refine aj hs rfl rfl rfl (bs [v1] hs rfl rfl iR rfl cq (bK 1 1 rfl)) fun a hs=>?_
   refine wpAny_all (rs:=[3,12]) (by kernel_rfl) (by simp) fun j hj=>?_
   simp only[List.mem_cons,List.mem_nil_iff,or_false]at hj
   rcases hj with rfl|rfl
   ·refine aj hs rfl rfl rfl (bs [v0] hs rfl rfl dP rfl cq (bK 0 1 rfl)) fun a hs=>?_
    refine wpAny_all (rs:=[8,12]) (by kernel_rfl) (by simp) fun j hj=>?_
    simp only[List.mem_cons,List.mem_nil_iff,or_false]at hj
    rcases hj with rfl|rfl
    ·have q1:=cK (is:=[0,1]) (parts:=[none,none]) (kinds:=[some (false,[.sl 24]),none]) hK eg fx bL fw hN
     rw[dq,gC]at q1
     refine bF hs rfl rfl rfl rfl rfl rfl (by kernel_rfl) q1 fun v w2 a hO hs=>?_
     obtain⟨c1,us0,rfl,dA⟩:=hO
     obtain⟨rr0,bW,us1,rfl,bq,bQ,dB⟩:=dA.take
     obtain⟨u1,us2,rfl,dM⟩:=dB.skip
     obtain rfl:=dM.nil
     have dN:=g1.size
     have cA:bW.length=1:=(bq.len.trans ((aI _ _).1 bQ).1)
     have g2:=g1.trans c1
     have gc:=Ch.refl (fun _=>False) w2
     refine Yb 9 hs rfl rfl rfl (by kernel_rfl) hp (fun w=>aa hs (.inl rfl) rfl) fun a hs=>?_
     refine Yb 10 hs rfl rfl rfl (by kernel_rfl) hp (fun w=>aB hs rfl rfl rfl) fun a hs=>?_
     refine Yb 11 hs rfl rfl rfl (by kernel_rfl) hp (fun w=>aB hs rfl rfl rfl) fun a hs=>?_
     refine Y1 12 (by kernel_rfl) (aj hs rfl rfl rfl (bX rfl lB) fun a hs=>?_)
     have c2:=Ch.alloc (fun _=>False) w2 (.cells [.slice none 0 0].toArray 32)
     have br:=heap_alloc_new w2 (.cells [.slice none 0 0].toArray 32)
     have cX:=g2.size
     have ge12:=gc.size
     generalize fW:w2.heap.size=dy at*
     generalize w2.alloc (.cells [.slice none 0 0].toArray 32)=w3 at*
     have g3:=g2.trans c2
     have gc:=gc.trans c2
     exact bV (i1:=13) (i2:=14) (rr0:=rr0) (by kernel_rfl) (by kernel_rfl) (by kernel_rfl) rfl rfl rfl rfl rfl rfl rfl rfl rfl j1 rfl rfl rfl rfl hQ (hs.keep [3,15,16]) g3 br rfl cA bq.one cX
      (fun w' hw=>(bq.keep fun b o hb hh=>have:=aq hh;hw b o (by omega) (gc.at hh id)).down dN) bQ
    ·refine aj hs rfl rfl rfl (bX rfl lB) fun a hs=>?_
     have c1:=Ch.alloc (fun _=>False) w1 (.cells [.slice none 0 0].toArray 32)
     have bn:=heap_alloc_new w1 (.cells [.slice none 0 0].toArray 32)
     have cX:=g1.size
     generalize fW:w1.heap.size=dy at*
     generalize w1.alloc (.cells [.slice none 0 0].toArray 32)=w2 at*
     have g2:=g1.trans c1
     have cF:=c1.at cq id
     have cj:=fw.ch c1
     have dU:=fx.ch c1
     have jS:dy<w2.heap.size:=aq bn
     have q2:=cK (is:=[0,1]) (parts:=[none,none]) (kinds:=[some (false,[.sl 24]),none]) hK eg dU bL cj hN
     rw[dq,gC]at q2
     refine Y1 8 (by kernel_rfl) (bF hs rfl rfl rfl rfl rfl rfl (by kernel_rfl) q2 fun v w3 a hO hs=>?_)
     obtain⟨c2,us0,rfl,dA⟩:=hO
     obtain⟨rr0,bW,us1,rfl,bq,bQ,dB⟩:=dA.take
     obtain⟨u1,us2,rfl,dM⟩:=dB.skip
     obtain rfl:=dM.nil
     have dN:=g2.size
     have cA:bW.length=1:=(bq.len.trans ((aI _ _).1 bQ).1)
     have g3:=g2.trans c2
     have br:=c2.at bn id
     have gc:=Ch.refl (fun _=>False) w3
     refine Yb 9 hs rfl rfl rfl (by kernel_rfl) hp (fun w=>aa hs (.inl rfl) rfl) fun a hs=>?_
     refine Yb 10 hs rfl rfl rfl (by kernel_rfl) hp (fun w=>aB hs rfl rfl rfl) fun a hs=>?_
     refine Yb 11 hs rfl rfl rfl (by kernel_rfl) hp (fun w=>aB hs rfl rfl rfl) fun a hs=>?_
     exact bV (i1:=13) (i2:=14) (rr0:=rr0) (by kernel_rfl) (by kernel_rfl) (by kernel_rfl) rfl rfl rfl rfl rfl rfl rfl rfl rfl j1 rfl rfl rfl rfl hQ (hs.keep [3,15,16]) g3 br rfl cA bq.one cX
      (fun w' hw=>(bq.keep fun b o hb hh=>have:=aq hh;hw b o (by omega) (gc.at hh id)).down dN) bQ
   ·refine aj hs rfl rfl rfl (bX rfl lB) fun a hs=>?_
    have c1:=Ch.alloc (fun _=>False) w1 (.cells [.slice none 0 0].toArray 32)
    have bn:=heap_alloc_new w1 (.cells [.slice none 0 0].toArray 32)
    have cX:=g1.size
    generalize fW:w1.heap.size=dy at*
    generalize w1.alloc (.cells [.slice none 0 0].toArray 32)=w2 at*
    have g2:=g1.trans c1
    have cF:=c1.at cq id
    have cj:=fw.ch c1
    have dU:=fx.ch c1
    refine Y1 3 (by kernel_rfl) (aj hs rfl rfl rfl (bs [v0] hs rfl rfl dP rfl cF (bK 0 1 rfl)) fun a hs=>?_)
    have jS:dy<w2.heap.size:=aq bn
    have q2:=cK (is:=[0,1]) (parts:=[none,none]) (kinds:=[some (false,[.sl 24]),none]) hK eg dU bL cj hN
    rw[dq,gC]at q2
    refine Y1 8 (by kernel_rfl) (bF hs rfl rfl rfl rfl rfl rfl (by kernel_rfl) q2 fun v w3 a hO hs=>?_)
    obtain⟨c2,us0,rfl,dA⟩:=hO
    obtain⟨rr0,bW,us1,rfl,bq,bQ,dB⟩:=dA.take
    obtain⟨u1,us2,rfl,dM⟩:=dB.skip
    obtain rfl:=dM.nil
    have dN:=g2.size
    have cA:bW.length=1:=(bq.len.trans ((aI _ _).1 bQ).1)
    have g3:=g2.trans c2
    have br:=c2.at bn id
    have gc:=Ch.refl (fun _=>False) w3
    refine Yb 9 hs rfl rfl rfl (by kernel_rfl) hp (fun w=>aa hs (.inl rfl) rfl) fun a hs=>?_
    refine Yb 10 hs rfl rfl rfl (by kernel_rfl) hp (fun w=>aB hs rfl rfl rfl) fun a hs=>?_
    refine Yb 11 hs rfl rfl rfl (by kernel_rfl) hp (fun w=>aB hs rfl rfl rfl) fun a hs=>?_
    exact bV (i1:=13) (i2:=14) (rr0:=rr0) (by kernel_rfl) (by kernel_rfl) (by kernel_rfl) rfl rfl rfl rfl rfl rfl rfl rfl rfl j1 rfl rfl rfl rfl hQ (hs.keep [3,15,16]) g3 br rfl cA bq.one cX
     (fun w' hw=>(bq.keep fun b o hb hh=>have:=aq hh;hw b o (by omega) (gc.at hh id)).down dN) bQ
  ·refine aj hs rfl rfl rfl (bX rfl lB) fun a hs=>?_
   have c1:=Ch.alloc (fun _=>False) w1 (.cells [.slice none 0 0].toArray 32)
   have bn:=heap_alloc_new w1 (.cells [.slice none 0 0].toArray 32)
   have cX:=g1.size
   generalize fW:w1.heap.size=dy at*
   generalize w1.alloc (.cells [.slice none 0 0].toArray 32)=w2 at*
   have g2:=g1.trans c1
   have cF:=c1.at cq id
   have cj:=fw.ch c1
   have dU:=fx.ch c1
   refine wpAny_all (rs:=[3,7]) (by kernel_rfl) (by simp) fun j hj=>?_
   simp only[List.mem_cons,List.mem_nil_iff,or_false]at hj
   rcases hj with rfl|rfl
   ·refine aj hs rfl rfl rfl (bs [v0] hs rfl rfl dP rfl cF (bK 0 1 rfl)) fun a hs=>?_
    refine Y1 7 (by kernel_rfl) (aj hs rfl rfl rfl (bs [v1] hs rfl rfl iR rfl cF (bK 1 1 rfl)) fun a hs=>?_)
    have jS:dy<w2.heap.size:=aq bn
    have q2:=cK (is:=[0,1]) (parts:=[none,none]) (kinds:=[some (false,[.sl 24]),none]) hK eg dU bL cj hN
    rw[dq,gC]at q2
    refine Y1 8 (by kernel_rfl) (bF hs rfl rfl rfl rfl rfl rfl (by kernel_rfl) q2 fun v w3 a hO hs=>?_)
    obtain⟨c2,us0,rfl,dA⟩:=hO
    obtain⟨rr0,bW,us1,rfl,bq,bQ,dB⟩:=dA.take
    obtain⟨u1,us2,rfl,dM⟩:=dB.skip
    obtain rfl:=dM.nil
    have dN:=g2.size
    have cA:bW.length=1:=(bq.len.trans ((aI _ _).1 bQ).1)
    have g3:=g2.trans c2
    have br:=c2.at bn id
    have gc:=Ch.refl (fun _=>False) w3
    refine Yb 9 hs rfl rfl rfl (by kernel_rfl) hp (fun w=>aa hs (.inl rfl) rfl) fun a hs=>?_
    refine Yb 10 hs rfl rfl rfl (by kernel_rfl) hp (fun w=>aB hs rfl rfl rfl) fun a hs=>?_
    refine Yb 11 hs rfl rfl rfl (by kernel_rfl) hp (fun w=>aB hs rfl rfl rfl) fun a hs=>?_
    exact bV (i1:=13) (i2:=14) (rr0:=rr0) (by kernel_rfl) (by kernel_rfl) (by kernel_rfl) rfl rfl rfl rfl rfl rfl rfl rfl rfl j1 rfl rfl rfl rfl hQ (hs.keep [3,15,16]) g3 br rfl cA bq.one cX
     (fun w' hw=>(bq.keep fun b o hb hh=>have:=aq hh;hw b o (by omega) (gc.at hh id)).down dN) bQ
   ·refine aj hs rfl rfl rfl (bs [v1] hs rfl rfl iR rfl cF (bK 1 1 rfl)) fun a hs=>?_
    refine Y1 3 (by kernel_rfl) (aj hs rfl rfl rfl (bs [v0] hs rfl rfl dP rfl cF (bK 0 1 rfl)) fun a hs=>?_)
    have jS:dy<w2.heap.size:=aq bn
    have q2:=cK (is:=[0,1]) (parts:=[none,none]) (kinds:=[some (false,[.sl 24]),none]) hK eg dU bL cj hN
    rw[dq,gC]at q2
    refine Y1 8 (by kernel_rfl) (bF hs rfl rfl rfl rfl rfl rfl (by kernel_rfl) q2 fun v w3 a hO hs=>?_)
    obtain⟨c2,us0,rfl,dA⟩:=hO
    obtain⟨rr0,bW,us1,rfl,bq,bQ,dB⟩:=dA.take
    obtain⟨u1,us2,rfl,dM⟩:=dB.skip
    obtain rfl:=dM.nil
    have dN:=g2.size
    have cA:bW.length=1:=(bq.len.trans ((aI _ _).1 bQ).1)
    have g3:=g2.trans c2
    have br:=c2.at bn id
    have gc:=Ch.refl (fun _=>False) w3
    refine Yb 9 hs rfl rfl rfl (by kernel_rfl) hp (fun w=>aa hs (.inl rfl) rfl) fun a hs=>?_
    refine Yb 10 hs rfl rfl rfl (by kernel_rfl) hp (fun w=>aB hs rfl rfl rfl) fun a hs=>?_
    refine Yb 11 hs rfl rfl rfl (by kernel_rfl) hp (fun w=>aB hs rfl rfl rfl) fun a hs=>?_
    exact bV (i1:=13) (i2:=14) (rr0:=rr0) (by kernel_rfl) (by kernel_rfl) (by kernel_rfl) rfl rfl rfl rfl rfl rfl rfl rfl rfl j1 rfl rfl rfl rfl hQ (hs.keep [3,15,16]) g3 br rfl cA bq.one cX
     (fun w' hw=>(bq.keep fun b o hb hh=>have:=aq hh;hw b o (by omega) (gc.at hh id)).down dN) bQ
 obtain⟨bn0,rr0,bW,hs,jT,lo0,pw,px,bQ⟩:=hl
 have hb100:=jT.at hb0 fun h=>h
 have hcw100:=kh.ch jT
 have hld100:=hld0.ch jT
 refine ah (ae ?_)
 refine L hs rfl rfl (yh hs rfl rfl rfl) fun a hs=>?_
 refine L hs rfl rfl (dW (e:=39) (z:= .nilFunc) (v:=clo 9 bn0) hs rfl rfl (by kernel_rfl) (bN (by kernel_rfl) (by kernel_rfl) rfl) rfl) fun a hs=>?_
 have iJ:=Ch.alloc (fun _=>False) lG (.cells #[clo 9 bn0] 39)
 have hbl101:=heap_alloc_new lG (.cells #[clo 9 bn0] 39)
 have ll100:=jT.size
 generalize hbm:lG.heap.size=bl at*
 generalize lG.alloc (.cells #[clo 9 bn0] 39)=w101 at*
 have g101:=jT.trans iJ
 have hb101:=iJ.at hb100 fun h=>h
 have hcw101:=hcw100.ch iJ
 have hld101:=hld100.ch iJ
 have py:=iJ.at pw fun h=>h
 have pA:=px.ch iJ
 refine L hs rfl rfl (aa hs (.inr rfl) rfl) fun a hs=>?_
 exact Le (aP (cH hs rfl ⟨g101,.one 9 10 bn0,⟨bl,_,rfl,hbl101⟩,b_9,fun _ h=>by cases h;omega,lo0,xI,rr0,bW,_,(by kernel_rfl),(by decide),py,pA,bQ,by kernel_rfl⟩))
theorem B5:Body Proofs.Try.prog 11 16 [.tmp 2] ((.seq (.region 0 ([⟨(some 2),.assign (.const (.slice none 0 0)),0, "", #[],none⟩]:List Oper).toArray false) (.seq (.region 0 ([⟨(some 3),.move (.tmp 0),0, "", #[],none⟩,⟨(some 4),.nilCheck (.tmp 3),0, "", #[eD 0],none⟩,⟨(some 5),.fieldAddr 26 (.tmp 4) 0,0, "", #[eD 1],none⟩,⟨(some 6),.load 22 (.tmp 5),0, "", #[eD 2],none⟩,⟨(some 7),.move (.tmp 0),0, "", #[],none⟩,⟨(some 8),.nilCheck (.tmp 7),0, "", #[eD 4],none⟩,⟨(some 9),.fieldAddr 26 (.tmp 8) 1,0, "", #[eD 5],none⟩,⟨(some 10),.load 23 (.tmp 9),0, "", #[eD 6],none⟩,⟨(some 11),.move (.tmp 0),0, "", #[],none⟩,⟨(some 12),.nilCheck (.tmp 11),0, "", #[eD 8],none⟩,⟨(some 13),.fieldAddr 26 (.tmp 12) 2,0, "", #[eD 9],none⟩,⟨(some 14),.load 24 (.tmp 13),0, "", #[eD 10],none⟩,⟨(some 15),.call ⟨(.value (.func 12)), #[(.tmp 6),(.tmp 10),(.tmp 14)], #[]⟩,0, "", #[eD 3,eD 7,eD 11],none⟩]:List Oper).toArray true) (.seq (.region 0 ([⟨(some 2),.assign (.const (.slice none 0 0)),0, "", #[],none⟩]:List Oper).toArray false) .ret)))):=aA (by kernel_rfl) (by kernel_rfl)
theorem zh:kY Proofs.Try.prog jf 26 2097152 11:=by
 intro w0 b l0 row hb0 hld0 kh bL hN
 have cA:l0.length=3:=(kh.len.trans ((aI _ _).1 bL).1).trans uy.cks
 obtain⟨v0,l1,rfl,hl1⟩:=fU cA
 obtain⟨v1,l2,rfl,dQ⟩:=fU hl1
 obtain⟨v2,l3,rfl,hl3⟩:=fU dQ
 obtain rfl:=List.eq_nil_of_length_eq_zero hl3
 refine aJ B5 ?_
 have hs:=SL.init (n:=16) [Ptr b 0] rfl
 revert hs
 generalize({tmps:=_,defers:=[]}:Act)=a
 intro hs
 have g0:=Ch.refl (fun _=>False) w0
 refine ah (ae ?_)
 refine L hs rfl rfl (aa hs (.inr rfl) rfl) fun a hs=>?_
 refine Le (ah (jy 12 kit.mixed (by kernel_rfl) ?_))
 have c0:=Ch.drew (fun _=>False) w0
 generalize({w0 with drawn:=w0.drawn+1}:World)=w1 at c0 ⊢
 have g1:=g0.trans c0
 have cq:=c0.at hb0 fun h=>h
 have fw:=kh.ch c0
 have fx:=hld0.ch c0
 refine T hs rfl rfl (aa hs (.inl rfl) rfl) fun a hs=>?_
 refine T hs rfl rfl (ab hs rfl rfl) fun a hs=>?_
 refine T hs rfl rfl (ak (off:=0) (sz:=1) hs rfl rfl (by kernel_rfl)) fun a hs=>?_
 refine T hs rfl rfl (bs (ag:=false) (m:=1) [v0] hs rfl rfl (iQ (by kernel_rfl) (by kernel_rfl) rfl) rfl cq (bK 0 1 rfl)) fun a hs=>?_
 refine T hs rfl rfl (aa hs (.inl rfl) rfl) fun a hs=>?_
 refine T hs rfl rfl (ab hs rfl rfl) fun a hs=>?_
 refine T hs rfl rfl (ak (off:=1) (sz:=1) hs rfl rfl (by kernel_rfl)) fun a hs=>?_
 refine T hs rfl rfl (bs (ag:=false) (m:=1) [v1] hs rfl rfl (iQ (by kernel_rfl) (by kernel_rfl) rfl) rfl cq (bK 1 1 rfl)) fun a hs=>?_
 refine T hs rfl rfl (aa hs (.inl rfl) rfl) fun a hs=>?_
 refine T hs rfl rfl (ab hs rfl rfl) fun a hs=>?_
 refine T hs rfl rfl (ak (off:=2) (sz:=1) hs rfl rfl (by kernel_rfl)) fun a hs=>?_
 refine T hs rfl rfl (bs (ag:=false) (m:=1) [v2] hs rfl rfl (iQ (by kernel_rfl) (by kernel_rfl) rfl) rfl cq (bK 2 1 rfl)) fun a hs=>?_
 refine Te ?_
 have q1:=cK (is:=[0,1,2]) (parts:=[none,none,none]) (kinds:=[none]) (AB:fB Proofs.Try.prog ka rT) ⟨rfl,rfl,by kernel_rfl,by kernel_rfl,by kernel_rfl,by kernel_rfl,by kernel_rfl⟩ fx bL fw hN
 rw[show eE [none,none,none] (cZ [0,1,2] [v0,v1,v2])=[pk false [v0],pk false [v1],pk false [v2]] by kernel_rfl,show rT.fn=12 by kernel_rfl]at q1
 refine Lc hs rfl rfl rfl rfl rfl (by kernel_rfl) q1 fun v w2 a hO hs=>?_
 obtain⟨c1,us0,rfl,dA⟩:=hO
 obtain⟨u0,us1,rfl,dB⟩:=dA.skip
 obtain rfl:=dB.nil
 have g2:=g1.trans c1
 have cF:=c1.at cq fun h=>h
 have cj:=fw.ch c1
 have dU:=fx.ch c1
 refine Le (ah (ae ?_))
 refine L hs rfl rfl (aa hs (.inr rfl) rfl) fun a hs=>?_
 exact Le (aP (cH hs rfl ⟨g2,.no,⟨none,0,rfl⟩,trivial⟩))
theorem B6:Body Proofs.Try.prog 15 5 [] (qJ 16):=aA (by kernel_rfl) (by kernel_rfl)
theorem lC:El Proofs.Try.prog 22 1 [.slice none 0 0]:=lq (by kernel_rfl) rfl rfl
theorem B7:Body Proofs.Try.prog 13 19 [.tmp 2] ((.seq (.region 0 ([⟨(some 2),.assign (.const (.slice none 0 0)),0, "", #[],none⟩]:List Oper).toArray false) (.seq (.region 0 ([⟨(some 6),.move (.tmp 0),0, "", #[],none⟩,⟨(some 7),.nilCheck (.tmp 6),0, "", #[eD 0],none⟩,⟨(some 8),.fieldAddr 26 (.tmp 7) 0,0, "", #[eD 1],none⟩,⟨(some 9),.load 22 (.tmp 8),0, "", #[eD 2],none⟩,⟨(some 10),.move (.tmp 0),0, "", #[],none⟩,⟨(some 11),.nilCheck (.tmp 10),0, "", #[eD 4],none⟩,⟨(some 12),.fieldAddr 26 (.tmp 11) 1,0, "", #[eD 5],none⟩,⟨(some 13),.load 23 (.tmp 12),0, "", #[eD 6],none⟩,⟨(some 14),.call ⟨(.value (.func 14)), #[(.tmp 9),(.tmp 13)], #[]⟩,0, "", #[eD 3,eD 7],none⟩,⟨(some 5),.move (.tmp 14),0, "", #[eD 8],none⟩,⟨(some 15),.extract (.tmp 5) 0,0, "", #[eD 9],none⟩,⟨(some 16),.extract (.tmp 5) 1,0, "", #[eD 9,⟨13,.gcOnly .lateStores⟩],none⟩,⟨(some 3),.alloc 22,0, "", #[],none⟩,⟨none,.store 22 (.tmp 3) (.tmp 15),0, "", #[eD 12,eD 10,eC 8,eP 0,eP 1,eP 2,eP 3,eP 4,eP 5,eP 6,eP 7,eP 8,eP 9,eP 10,⟨11,.textOnly .lateStores⟩,eP 12],none⟩,⟨(some 4),.assign (.tmp 16),0, "", #[eD 11,eC 13,eP 0,eP 1,eP 2,eP 3,eP 4,eP 5,eP 6,eP 7,eP 8,eP 9,eP 10,eP 11,eP 12,eP 13],none⟩]:List Oper).toArray true) (.seq (.region 0 ([⟨(some 17),.makeFunc (.func 15) #[] #[(.tmp 3)],0, "", #[],none⟩,⟨(some 18),.buildSlice 31 1 #[(0,(.tmp 17))],0, "", #[],none⟩,⟨(some 2),.assign (.tmp 18),0, "", #[],none⟩]:List Oper).toArray false) .ret)))):=aA (by kernel_rfl) (by kernel_rfl)
theorem zi:kY Proofs.Try.prog jf 26 2097152 13:=by
 intro w0 b l0 row hb0 hld0 kh bL hN
 have cA:l0.length=3:=(kh.len.trans ((aI _ _).1 bL).1).trans uy.cks
 obtain⟨v0,l1,rfl,hl1⟩:=fU cA
 obtain⟨v1,l2,rfl,dQ⟩:=fU hl1
 obtain⟨v2,l3,rfl,hl3⟩:=fU dQ
 obtain rfl:=List.eq_nil_of_length_eq_zero hl3
 refine aJ B7 ?_
 have hs:=SL.init (n:=19) [Ptr b 0] rfl
 revert hs
 generalize({tmps:=_,defers:=[]}:Act)=a
 intro hs
 have g0:=Ch.refl (fun _=>False) w0
 refine ah (ae ?_)
 refine L hs rfl rfl (aa hs (.inr rfl) rfl) fun a hs=>?_
 refine Le (ah (eW 15 rfl kit.mixed ?_))
 refine nC (uh Proofs.Try.prog 19 3 22 [.sl 9] w0) (fun _ _ _ h=>h) (fun a lG hl=>?_) fun hp hQ=>?_
 rotate_left
 have hK:fB Proofs.Try.prog ka mQ:=zg
 have eg:rD Proofs.Try.prog 26 mQ [0,1] [none,none] [some (false,[.sl 9]),none]:=⟨rfl,rfl,by kernel_rfl,by kernel_rfl,by kernel_rfl,by kernel_rfl,by kernel_rfl⟩
 have dq:eE [none,none] (cZ [0,1] [v0,v1,v2])=[pk false [v0],pk false [v1]]:=by kernel_rfl
 have gC:mQ.fn=14:=by kernel_rfl
 have c0:=Ch.drew (fun _=>False) w0
 generalize({w0 with drawn:=w0.drawn+1}:World)=w1 at c0 ⊢
 have g1:=g0.trans c0
 have cq:=c0.at hb0 fun h=>h
 have fw:=kh.ch c0
 have fx:=hld0.ch c0
 ·skip
  refine Yb 0 hs rfl rfl rfl (by kernel_rfl) hp (fun w=>aa hs (.inl rfl) rfl) fun a hs=>?_
  refine Yb 1 hs rfl rfl rfl (by kernel_rfl) hp (fun w=>ab hs rfl rfl) fun a hs=>?_
  refine Yb 2 hs rfl rfl rfl (by kernel_rfl) hp (fun w=>ak (off:=0) (sz:=1) hs rfl rfl (by kernel_rfl)) fun a hs=>?_
  refine Yb 4 hs rfl rfl rfl (by kernel_rfl) hp (fun w=>aa hs (.inl rfl) rfl) fun a hs=>?_
  refine Yb 5 hs rfl rfl rfl (by kernel_rfl) hp (fun w=>ab hs rfl rfl) fun a hs=>?_
  refine Yb 6 hs rfl rfl rfl (by kernel_rfl) hp (fun w=>ak (off:=1) (sz:=1) hs rfl rfl (by kernel_rfl)) fun a hs=>?_
  refine wpAny_all (rs:=[3,7,12]) (by kernel_rfl) (by simp) fun j hj=>?_
  simp only[List.mem_cons,List.mem_nil_iff,or_false]at hj
  rcases hj with rfl|rfl|rfl
  ·refine aj hs rfl rfl rfl (bs [v0] hs rfl rfl dP rfl cq (bK 0 1 rfl)) fun a hs=>?_
   refine wpAny_all (rs:=[7,12]) (by kernel_rfl) (by simp) fun j hj=>?_
   simp only[List.mem_cons,List.mem_nil_iff,or_false]at hj
   rcases hj with rfl|rfl
   ·refine aj hs rfl rfl rfl (bs [v1] hs rfl rfl iR rfl cq (bK 1 1 rfl)) fun a hs=>?_
    refine wpAny_all (rs:=[8,12]) (by kernel_rfl) (by simp) fun j hj=>?_
    simp only[List.mem_cons,List.mem_nil_iff,or_false]at hj
    rcases hj with rfl|rfl
    ·have q1:=cK (is:=[0,1]) (parts:=[none,none]) (kinds:=[some (false,[.sl 9]),none]) hK eg fx bL fw hN
     rw[dq,gC]at q1
     refine bF hs rfl rfl rfl rfl rfl rfl (by kernel_rfl) q1 fun v w2 a hO hs=>?_
     obtain⟨c1,us0,rfl,dA⟩:=hO
     obtain⟨rr0,bW,us1,rfl,bq,bQ,dB⟩:=dA.take
     obtain⟨u1,us2,rfl,dM⟩:=dB.skip
     obtain rfl:=dM.nil
     have dN:=g1.size
     have cA:bW.length=1:=(bq.len.trans ((aI _ _).1 bQ).1)
     have g2:=g1.trans c1
     have gc:=Ch.refl (fun _=>False) w2
     refine Yb 9 hs rfl rfl rfl (by kernel_rfl) hp (fun w=>aa hs (.inl rfl) rfl) fun a hs=>?_
     refine Yb 10 hs rfl rfl rfl (by kernel_rfl) hp (fun w=>aB hs rfl rfl rfl) fun a hs=>?_
     refine Yb 11 hs rfl rfl rfl (by kernel_rfl) hp (fun w=>aB hs rfl rfl rfl) fun a hs=>?_
     refine Y1 12 (by kernel_rfl) (aj hs rfl rfl rfl (bX rfl lC) fun a hs=>?_)
     have c2:=Ch.alloc (fun _=>False) w2 (.cells [.slice none 0 0].toArray 22)
     have br:=heap_alloc_new w2 (.cells [.slice none 0 0].toArray 22)
     have cX:=g2.size
     have ge12:=gc.size
     generalize fW:w2.heap.size=dy at*
     generalize w2.alloc (.cells [.slice none 0 0].toArray 22)=w3 at*
     have g3:=g2.trans c2
     have gc:=gc.trans c2
     exact bV (i1:=13) (i2:=14) (rr0:=rr0) (by kernel_rfl) (by kernel_rfl) (by kernel_rfl) rfl rfl rfl rfl rfl rfl rfl rfl rfl dP rfl rfl rfl rfl hQ (hs.keep [3,15,16]) g3 br rfl cA bq.one cX
      (fun w' hw=>(bq.keep fun b o hb hh=>have:=aq hh;hw b o (by omega) (gc.at hh id)).down dN) bQ
    ·refine aj hs rfl rfl rfl (bX rfl lC) fun a hs=>?_
     have c1:=Ch.alloc (fun _=>False) w1 (.cells [.slice none 0 0].toArray 22)
     have bn:=heap_alloc_new w1 (.cells [.slice none 0 0].toArray 22)
     have cX:=g1.size
     generalize fW:w1.heap.size=dy at*
     generalize w1.alloc (.cells [.slice none 0 0].toArray 22)=w2 at*
     have g2:=g1.trans c1
     have cF:=c1.at cq id
     have cj:=fw.ch c1
     have dU:=fx.ch c1
     have jS:dy<w2.heap.size:=aq bn
     have q2:=cK (is:=[0,1]) (parts:=[none,none]) (kinds:=[some (false,[.sl 9]),none]) hK eg dU bL cj hN
     rw[dq,gC]at q2
     refine Y1 8 (by kernel_rfl) (bF hs rfl rfl rfl rfl rfl rfl (by kernel_rfl) q2 fun v w3 a hO hs=>?_)
     obtain⟨c2,us0,rfl,dA⟩:=hO
     obtain⟨rr0,bW,us1,rfl,bq,bQ,dB⟩:=dA.take
     obtain⟨u1,us2,rfl,dM⟩:=dB.skip
     obtain rfl:=dM.nil
     have dN:=g2.size
     have cA:bW.length=1:=(bq.len.trans ((aI _ _).1 bQ).1)
     have g3:=g2.trans c2
     have br:=c2.at bn id
     have gc:=Ch.refl (fun _=>False) w3
     refine Yb 9 hs rfl rfl rfl (by kernel_rfl) hp (fun w=>aa hs (.inl rfl) rfl) fun a hs=>?_
     refine Yb 10 hs rfl rfl rfl (by kernel_rfl) hp (fun w=>aB hs rfl rfl rfl) fun a hs=>?_
     refine Yb 11 hs rfl rfl rfl (by kernel_rfl) hp (fun w=>aB hs rfl rfl rfl) fun a hs=>?_
     exact bV (i1:=13) (i2:=14) (rr0:=rr0) (by kernel_rfl) (by kernel_rfl) (by kernel_rfl) rfl rfl rfl rfl rfl rfl rfl rfl rfl dP rfl rfl rfl rfl hQ (hs.keep [3,15,16]) g3 br rfl cA bq.one cX
      (fun w' hw=>(bq.keep fun b o hb hh=>have:=aq hh;hw b o (by omega) (gc.at hh id)).down dN) bQ
   ·refine aj hs rfl rfl rfl (bX rfl lC) fun a hs=>?_
    have c1:=Ch.alloc (fun _=>False) w1 (.cells [.slice none 0 0].toArray 22)
    have bn:=heap_alloc_new w1 (.cells [.slice none 0 0].toArray 22)
    have cX:=g1.size
    generalize fW:w1.heap.size=dy at*
    generalize w1.alloc (.cells [.slice none 0 0].toArray 22)=w2 at*
    have g2:=g1.trans c1
    have cF:=c1.at cq id
    have cj:=fw.ch c1
    have dU:=fx.ch c1
    refine Y1 7 (by kernel_rfl) (aj hs rfl rfl rfl (bs [v1] hs rfl rfl iR rfl cF (bK 1 1 rfl)) fun a hs=>?_)
    have jS:dy<w2.heap.size:=aq bn
    have q2:=cK (is:=[0,1]) (parts:=[none,none]) (kinds:=[some (false,[.sl 9]),none]) hK eg dU bL cj hN
    rw[dq,gC]at q2
    refine Y1 8 (by kernel_rfl) (bF hs rfl rfl rfl rfl rfl rfl (by kernel_rfl) q2 fun v w3 a hO hs=>?_)
    obtain⟨c2,us0,rfl,dA⟩:=hO
    obtain⟨rr0,bW,us1,rfl,bq,bQ,dB⟩:=dA.take
    obtain⟨u1,us2,rfl,dM⟩:=dB.skip
    obtain rfl:=dM.nil
    have dN:=g2.size
    have cA:bW.length=1:=(bq.len.trans ((aI _ _).1 bQ).1)
    have g3:=g2.trans c2
    have br:=c2.at bn id
    have gc:=Ch.refl (fun _=>False) w3
    refine Yb 9 hs rfl rfl rfl (by kernel_rfl) hp (fun w=>aa hs (.inl rfl) rfl) fun a hs=>?_
    refine Yb 10 hs rfl rfl rfl (by kernel_rfl) hp (fun w=>aB hs rfl rfl rfl) fun a hs=>?_
    refine Yb 11 hs rfl rfl rfl (by kernel_rfl) hp (fun w=>aB hs rfl rfl rfl) fun a hs=>?_
    exact bV (i1:=13) (i2:=14) (rr0:=rr0) (by kernel_rfl) (by kernel_rfl) (by kernel_rfl) rfl rfl rfl rfl rfl rfl rfl rfl rfl dP rfl rfl rfl rfl hQ (hs.keep [3,15,16]) g3 br rfl cA bq.one cX
     (fun w' hw=>(bq.keep fun b o hb hh=>have:=aq hh;hw b o (by omega) (gc.at hh id)).down dN) bQ
  ·refine aj hs rfl rfl rfl (bs [v1] hs rfl rfl iR rfl cq (bK 1 1 rfl)) fun a hs=>?_
   refine wpAny_all (rs:=[3,12]) (by kernel_rfl) (by simp) fun j hj=>?_
   simp only[List.mem_cons,List.mem_nil_iff,or_false]at hj
   rcases hj with rfl|rfl
   ·refine aj hs rfl rfl rfl (bs [v0] hs rfl rfl dP rfl cq (bK 0 1 rfl)) fun a hs=>?_
    refine wpAny_all (rs:=[8,12]) (by kernel_rfl) (by simp) fun j hj=>?_
    simp only[List.mem_cons,List.mem_nil_iff,or_false]at hj
    rcases hj with rfl|rfl
    ·have q1:=cK (is:=[0,1]) (parts:=[none,none]) (kinds:=[some (false,[.sl 9]),none]) hK eg fx bL fw hN
     rw[dq,gC]at q1
     refine bF hs rfl rfl rfl rfl rfl rfl (by kernel_rfl) q1 fun v w2 a hO hs=>?_
     obtain⟨c1,us0,rfl,dA⟩:=hO
     obtain⟨rr0,bW,us1,rfl,bq,bQ,dB⟩:=dA.take
     obtain⟨u1,us2,rfl,dM⟩:=dB.skip
     obtain rfl:=dM.nil
     have dN:=g1.size
     have cA:bW.length=1:=(bq.len.trans ((aI _ _).1 bQ).1)
     have g2:=g1.trans c1
     have gc:=Ch.refl (fun _=>False) w2
     refine Yb 9 hs rfl rfl rfl (by kernel_rfl) hp (fun w=>aa hs (.inl rfl) rfl) fun a hs=>?_
     refine Yb 10 hs rfl rfl rfl (by kernel_rfl) hp (fun w=>aB hs rfl rfl rfl) fun a hs=>?_
     refine Yb 11 hs rfl rfl rfl (by kernel_rfl) hp (fun w=>aB hs rfl rfl rfl) fun a hs=>?_
     refine Y1 12 (by kernel_rfl) (aj hs rfl rfl rfl (bX rfl lC) fun a hs=>?_)
     have c2:=Ch.alloc (fun _=>False) w2 (.cells [.slice none 0 0].toArray 22)
     have br:=heap_alloc_new w2 (.cells [.slice none 0 0].toArray 22)
     have cX:=g2.size
     have ge12:=gc.size
     generalize fW:w2.heap.size=dy at*
     generalize w2.alloc (.cells [.slice none 0 0].toArray 22)=w3 at*
     have g3:=g2.trans c2
     have gc:=gc.trans c2
     exact bV (i1:=13) (i2:=14) (rr0:=rr0) (by kernel_rfl) (by kernel_rfl) (by kernel_rfl) rfl rfl rfl rfl rfl rfl rfl rfl rfl dP rfl rfl rfl rfl hQ (hs.keep [3,15,16]) g3 br rfl cA bq.one cX
      (fun w' hw=>(bq.keep fun b o hb hh=>have:=aq hh;hw b o (by omega) (gc.at hh id)).down dN) bQ
    ·refine aj hs rfl rfl rfl (bX rfl lC) fun a hs=>?_
     have c1:=Ch.alloc (fun _=>False) w1 (.cells [.slice none 0 0].toArray 22)
     have bn:=heap_alloc_new w1 (.cells [.slice none 0 0].toArray 22)
     have cX:=g1.size
     generalize fW:w1.heap.size=dy at*
     generalize w1.alloc (.cells [.slice none 0 0].toArray 22)=w2 at*
     have g2:=g1.trans c1
     have cF:=c1.at cq id
     have cj:=fw.ch c1
     have dU:=fx.ch c1
     have jS:dy<w2.heap.size:=aq bn
     have q2:=cK (is:=[0,1]) (parts:=[none,none]) (kinds:=[some (false,[.sl 9]),none]) hK eg dU bL cj hN
     rw[dq,gC]at q2
     refine Y1 8 (by kernel_rfl) (bF hs rfl rfl rfl rfl rfl rfl (by kernel_rfl) q2 fun v w3 a hO hs=>?_)
     obtain⟨c2,us0,rfl,dA⟩:=hO
     obtain⟨rr0,bW,us1,rfl,bq,bQ,dB⟩:=dA.take
     obtain⟨u1,us2,rfl,dM⟩:=dB.skip
     obtain rfl:=dM.nil
     have dN:=g2.size
     have cA:bW.length=1:=(bq.len.trans ((aI _ _).1 bQ).1)
     have g3:=g2.trans c2
     have br:=c2.at bn id
     have gc:=Ch.refl (fun _=>False) w3
     refine Yb 9 hs rfl rfl rfl (by kernel_rfl) hp (fun w=>aa hs (.inl rfl) rfl) fun a hs=>?_
     refine Yb 10 hs rfl rfl rfl (by kernel_rfl) hp (fun w=>aB hs rfl rfl rfl) fun a hs=>?_
     refine Yb 11 hs rfl rfl rfl (by kernel_rfl) hp (fun w=>aB hs rfl rfl rfl) fun a hs=>?_
     exact bV (i1:=13) (i2:=14) (rr0:=rr0) (by kernel_rfl) (by kernel_rfl) (by kernel_rfl) rfl rfl rfl rfl rfl rfl rfl rfl rfl dP rfl rfl rfl rfl hQ (hs.keep [3,15,16]) g3 br rfl cA bq.one cX
      (fun w' hw=>(bq.keep fun b o hb hh=>have:=aq hh;hw b o (by omega) (gc.at hh id)).down dN) bQ
   ·refine aj hs rfl rfl rfl (bX rfl lC) fun a hs=>?_
    have c1:=Ch.alloc (fun _=>False) w1 (.cells [.slice none 0 0].toArray 22)
    have bn:=heap_alloc_new w1 (.cells [.slice none 0 0].toArray 22)
    have cX:=g1.size
    generalize fW:w1.heap.size=dy at*
    generalize w1.alloc (.cells [.slice none 0 0].toArray 22)=w2 at*
    have g2:=g1.trans c1
    have cF:=c1.at cq id
    have cj:=fw.ch c1
    have dU:=fx.ch c1
    refine Y1 3 (by kernel_rfl) (aj hs rfl rfl rfl (bs [v0] hs rfl rfl dP rfl cF (bK 0 1 rfl)) fun a hs=>?_)
    have jS:dy<w2.heap.size:=aq bn
    have q2:=cK (is:=[0,1]) (parts:=[none,none]) (kinds:=[some (false,[.sl 9]),none]) hK eg dU bL cj hN
    rw[dq,gC]at q2
    refine Y1 8 (by kernel_rfl) (bF hs rfl rfl rfl rfl rfl rfl (by kernel_rfl) q2 fun v w3 a hO hs=>?_)
    obtain⟨c2,us0,rfl,dA⟩:=hO
    obtain⟨rr0,bW,us1,rfl,bq,bQ,dB⟩:=dA.take
    obtain⟨u1,us2,rfl,dM⟩:=dB.skip
    obtain rfl:=dM.nil
    have dN:=g2.size
    have cA:bW.length=1:=(bq.len.trans ((aI _ _).1 bQ).1)
    have g3:=g2.trans c2
    have br:=c2.at bn id
    have gc:=Ch.refl (fun _=>False) w3
    refine Yb 9 hs rfl rfl rfl (by kernel_rfl) hp (fun w=>aa hs (.inl rfl) rfl) fun a hs=>?_
    refine Yb 10 hs rfl rfl rfl (by kernel_rfl) hp (fun w=>aB hs rfl rfl rfl) fun a hs=>?_
    refine Yb 11 hs rfl rfl rfl (by kernel_rfl) hp (fun w=>aB hs rfl rfl rfl) fun a hs=>?_
    exact bV (i1:=13) (i2:=14) (rr0:=rr0) (by kernel_rfl) (by kernel_rfl) (by kernel_rfl) rfl rfl rfl rfl rfl rfl rfl rfl rfl dP rfl rfl rfl rfl hQ (hs.keep [3,15,16]) g3 br rfl cA bq.one cX
     (fun w' hw=>(bq.keep fun b o hb hh=>have:=aq hh;hw b o (by omega) (gc.at hh id)).down dN) bQ
  ·refine aj hs rfl rfl rfl (bX rfl lC) fun a hs=>?_
   have c1:=Ch.alloc (fun _=>False) w1 (.cells [.slice none 0 0].toArray 22)
   have bn:=heap_alloc_new w1 (.cells [.slice none 0 0].toArray 22)
   have cX:=g1.size
   generalize fW:w1.heap.size=dy at*
   generalize w1.alloc (.cells [.slice none 0 0].toArray 22)=w2 at*
   have g2:=g1.trans c1
   have cF:=c1.at cq id
   have cj:=fw.ch c1
   have dU:=fx.ch c1
   refine wpAny_all (rs:=[3,7]) (by kernel_rfl) (by simp) fun j hj=>?_
   simp only[List.mem_cons,List.mem_nil_iff,or_false]at hj
   rcases hj with rfl|rfl
   ·refine aj hs rfl rfl rfl (bs [v0] hs rfl rfl dP rfl cF (bK 0 1 rfl)) fun a hs=>?_
    refine Y1 7 (by kernel_rfl) (aj hs rfl rfl rfl (bs [v1] hs rfl rfl iR rfl cF (bK 1 1 rfl)) fun a hs=>?_)
    have jS:dy<w2.heap.size:=aq bn
    have q2:=cK (is:=[0,1]) (parts:=[none,none]) (kinds:=[some (false,[.sl 9]),none]) hK eg dU bL cj hN
    rw[dq,gC]at q2
    refine Y1 8 (by kernel_rfl) (bF hs rfl rfl rfl rfl rfl rfl (by kernel_rfl) q2 fun v w3 a hO hs=>?_)
    obtain⟨c2,us0,rfl,dA⟩:=hO
    obtain⟨rr0,bW,us1,rfl,bq,bQ,dB⟩:=dA.take
    obtain⟨u1,us2,rfl,dM⟩:=dB.skip
    obtain rfl:=dM.nil
    have dN:=g2.size
    have cA:bW.length=1:=(bq.len.trans ((aI _ _).1 bQ).1)
    have g3:=g2.trans c2
    have br:=c2.at bn id
    have gc:=Ch.refl (fun _=>False) w3
    refine Yb 9 hs rfl rfl rfl (by kernel_rfl) hp (fun w=>aa hs (.inl rfl) rfl) fun a hs=>?_
    refine Yb 10 hs rfl rfl rfl (by kernel_rfl) hp (fun w=>aB hs rfl rfl rfl) fun a hs=>?_
    refine Yb 11 hs rfl rfl rfl (by kernel_rfl) hp (fun w=>aB hs rfl rfl rfl) fun a hs=>?_
    exact bV (i1:=13) (i2:=14) (rr0:=rr0) (by kernel_rfl) (by kernel_rfl) (by kernel_rfl) rfl rfl rfl rfl rfl rfl rfl rfl rfl dP rfl rfl rfl rfl hQ (hs.keep [3,15,16]) g3 br rfl cA bq.one cX
     (fun w' hw=>(bq.keep fun b o hb hh=>have:=aq hh;hw b o (by omega) (gc.at hh id)).down dN) bQ
   ·refine aj hs rfl rfl rfl (bs [v1] hs rfl rfl iR rfl cF (bK 1 1 rfl)) fun a hs=>?_
    refine Y1 3 (by kernel_rfl) (aj hs rfl rfl rfl (bs [v0] hs rfl rfl dP rfl cF (bK 0 1 rfl)) fun a hs=>?_)
    have jS:dy<w2.heap.size:=aq bn
    have q2:=cK (is:=[0,1]) (parts:=[none,none]) (kinds:=[some (false,[.sl 9]),none]) hK eg dU bL cj hN
    rw[dq,gC]at q2
    refine Y1 8 (by kernel_rfl) (bF hs rfl rfl rfl rfl rfl rfl (by kernel_rfl) q2 fun v w3 a hO hs=>?_)
    obtain⟨c2,us0,rfl,dA⟩:=hO
    obtain⟨rr0,bW,us1,rfl,bq,bQ,dB⟩:=dA.take
    obtain⟨u1,us2,rfl,dM⟩:=dB.skip
    obtain rfl:=dM.nil
    have dN:=g2.size
    have cA:bW.length=1:=(bq.len.trans ((aI _ _).1 bQ).1)
    have g3:=g2.trans c2
    have br:=c2.at bn id
    have gc:=Ch.refl (fun _=>False) w3
    refine Yb 9 hs rfl rfl rfl (by kernel_rfl) hp (fun w=>aa hs (.inl rfl) rfl) fun a hs=>?_
    refine Yb 10 hs rfl rfl rfl (by kernel_rfl) hp (fun w=>aB hs rfl rfl rfl) fun a hs=>?_
    refine Yb 11 hs rfl rfl rfl (by kernel_rfl) hp (fun w=>aB hs rfl rfl rfl) fun a hs=>?_
    exact bV (i1:=13) (i2:=14) (rr0:=rr0) (by kernel_rfl) (by kernel_rfl) (by kernel_rfl) rfl rfl rfl rfl rfl rfl rfl rfl rfl dP rfl rfl rfl rfl hQ (hs.keep [3,15,16]) g3 br rfl cA bq.one cX
     (fun w' hw=>(bq.keep fun b o hb hh=>have:=aq hh;hw b o (by omega) (gc.at hh id)).down dN) bQ
 obtain⟨bn0,rr0,bW,hs,jT,lo0,pw,px,bQ⟩:=hl
 have hb100:=jT.at hb0 fun h=>h
 have hcw100:=kh.ch jT
 have hld100:=hld0.ch jT
 refine ah (ae ?_)
 refine L hs rfl rfl (yh hs rfl rfl rfl) fun a hs=>?_
 refine L hs rfl rfl (dW (e:=39) (z:= .nilFunc) (v:=clo 15 bn0) hs rfl rfl (by kernel_rfl) (bN (by kernel_rfl) (by kernel_rfl) rfl) rfl) fun a hs=>?_
 have iJ:=Ch.alloc (fun _=>False) lG (.cells #[clo 15 bn0] 39)
 have hbl101:=heap_alloc_new lG (.cells #[clo 15 bn0] 39)
 have ll100:=jT.size
 generalize hbm:lG.heap.size=bl at*
 generalize lG.alloc (.cells #[clo 15 bn0] 39)=w101 at*
 have g101:=jT.trans iJ
 have hb101:=iJ.at hb100 fun h=>h
 have hcw101:=hcw100.ch iJ
 have hld101:=hld100.ch iJ
 have py:=iJ.at pw fun h=>h
 have pA:=px.ch iJ
 refine L hs rfl rfl (aa hs (.inr rfl) rfl) fun a hs=>?_
 exact Le (aP (cH hs rfl ⟨g101,.one 15 16 bn0,⟨bl,_,rfl,hbl101⟩,B6,fun _ h=>by cases h;omega,lo0,uz,rr0,bW,_,(by kernel_rfl),(by decide),py,pA,bQ,by kernel_rfl⟩))
theorem calls:∀C∈([7,11,13]:List FuncId),aD Proofs.Try.prog C=true∧kY Proofs.Try.prog jf 26 2097152 C:=(List.forall_mem_cons.2 ⟨⟨by kernel_rfl,AG⟩,(List.forall_mem_cons.2 ⟨⟨by kernel_rfl,zh⟩,(List.forall_mem_cons.2 ⟨⟨by kernel_rfl,zi⟩,(by simp)⟩)⟩)⟩)
theorem walk:∀(w:World) (xs:List Value) (row:List PV),dD Proofs.Try.prog w→dz Proofs.Try.prog w (cks Proofs.Try.prog 26) xs row→rz row≤2097152→Ret Proofs.Try.prog 3 [.agg xs.toArray] w fun v w'=>v= .bool true∧Ch (fun _=>False) w w':=
 yV kit BA uy A6 (S:=6) (rS:=r_6) (by kernel_rfl) (by kernel_rfl) Ba (W:=5) (rO:=o_5) (by kernel_rfl) (by kernel_rfl) (by kernel_rfl) (by kernel_rfl) (by kernel_rfl) B1 B2 B4 B3 b_4 b_3 rfl rfl calls (by kernel_rfl) fun _ _=>Gq.r6 ge gb3
end Go.TL.H.groups
namespace Go.Proofs.Ytbjmbhgbalmoaaa.groups
open Go Go.ChangeShapes Go.WideShapes Go.ChangeAt Go.RowKit Go.TL.H Go.TL.H.groups
theorem blk(H:Type):Blk H Rows.uptoBulk Rows.uptoBulkAll where
 str l:=by simp[Rows.uptoBulk]
 one d:=by
  cases d<;>(try unfold Rows.uptoBulk)<;>(try omega)
  rename_i l
  cases l<;>simp
 sl x y:=by simp[Rows.uptoBulk]
 agg x:=by simp[Rows.uptoBulk]
 nil:=by simp[Rows.uptoBulkAll]
 cons x r:=by simp[Rows.uptoBulkAll]
theorem own:ownKnob Proofs.Try.prog.godebug=none:=by kernel_rfl
theorem xM(H:Type)(enc:TypeId×Value→H)(W:World)(hla:dD Proofs.Try.prog W)(base:Nat)(args:Array Value)(ds gs:List (DataW H))(before:List MemPlace)
  (kf:∀(j:Nat) t v,Try.f3.params[j]? =some t→args[j]? =some v→Value.okWide Proofs.Try.prog W .any base t v)
  (hW:DataW.Whole enc Proofs.Try.prog Try.f3.params.toList Rows.topSharedGroupsSpec.vars false W args.toList ds gs before)(hk:Rows.uptoBulkAll (ds++gs)≤1048576):
  Calls Proofs.Try.prog 3 args W fun e W'=>∃v,e= .returned v∧Rows.topSharedGroupsSpec.post enc Proofs.Try.prog Try.f3 false true false false W args v W':=
 rY (E:=(· ∈B0)) (blk H) (T:=26) (tb:=4) rfl rfl rfl (fun _=>rfl) (by kernel_rfl) (show Proofs.Try.prog.underlying 26=some (.struct (match Proofs.Try.prog.underlying 26 with|some (.struct fs)=>fs|_=> #[])) by kernel_rfl) (by kernel_rfl) (by kernel_rfl) (of_decide_eq_true (by kernel_rfl)) (by kernel_rfl) (A0 (by kernel_rfl)) (A1 (by kernel_rfl)) walk W hla base args ds gs before kf hW hk
set_option maxRecDepth 100000 in
theorem lifted(os:Os)(started:os.Started)(H:Type)(enc:TypeId×Value→H)(F:Stop.Interp):
  ReturnsInHanded {} Try.checked os 3 .any ((Rows.OpenSpec.upto Rows.topSharedGroupsSpec).pre6 enc Proofs.Try.prog Try.f3 Rows.topSharedGroupsUptoRow.domain false) (((Rows.OpenSpec.upto Rows.topSharedGroupsSpec).at F).post enc Proofs.Try.prog Try.f3 false true false false):=by
 refine returnsInHanded_of_cond (C:=Try.checked) (s:=Rows.OpenSpec.upto Rows.topSharedGroupsSpec) (k:=Rows.uptoSmall) rfl own started (by kernel_rfl) Try.func3
  (OpenSpec.witness (enc:=enc) (C:=Try.checked) (s:=Rows.OpenSpec.upto Rows.topSharedGroupsSpec) (k:=Rows.uptoSmall) rfl false ⟨#[], #[.agg #[.slice none 0 0,.slice none 0 0,.slice none 0 0]],[]⟩ 8 (by kernel_rfl) (by kernel_rfl) (by kernel_rfl)
   (x:=([.agg [.nil,.nil,.nil]],[],[])) (by kernel_rfl) rfl (by kernel_rfl)) ?_
 intro W base args ds gs before kf hW _ hk _
 exact xM H enc W (uj (by kernel_rfl) W) base args ds gs before kf hW (of_decide_eq_true hk)
theorem z6:Rows.topSharedGroupsUptoRow.holds Try.pinned (Rows.OpenSpec.upto Rows.topSharedGroupsSpec):=
 OpenClaim.holds_of_cond 3 Try.f3 rfl rfl rfl rfl rfl rfl rfl ⟨rfl,rfl,rfl,rfl,rfl⟩ rfl rfl rfl rfl rfl (by kernel_rfl) Try.func3 (by kernel_rfl)
  (of_decide_eq_true (by kernel_rfl)) (by unfold Func.isWrapper;first|(rw[if_pos (by decide+kernel)];kernel_rfl)|(rw[if_neg (by decide+kernel)];exact⟨rfl,rfl⟩))
  (fun os started H enc _ F=>lifted os started H enc F)
theorem proved:Rows.TopSharedGroupsUptoSaid:=
 z6
end Go.Proofs.Ytbjmbhgbalmoaaa.groups
