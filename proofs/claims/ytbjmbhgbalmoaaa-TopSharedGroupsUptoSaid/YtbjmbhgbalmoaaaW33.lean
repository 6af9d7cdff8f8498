/- Groups by hand: whose blocks are whose; single steps. -/
import Derived.Test.YtbjmbhgbalmoaaaW32
import Derived.Laws.OwnMore
set_option maxRecDepth 100000
namespace Go.TL.H.Gq
open Go
abbrev iv(n:Int):Value:= .int .i64 n
def ju(P:Program)(t:TypeId)(name:String):Option (FuncId×Bool×TypeId):=match P.info? t with
 |some i=>match i.methods.find? (·.name==name)with
  |some m=>match m.path.toList,m.func,P.underlying t with
   | [],some (f,b),some (.pointer e)=>some (f,b,e)
   |_,_,_=>none
  |none=>none
 |none=>none
theorem vQ{P:Program}{t e:TypeId}{name:String}{f:FuncId}{v:Value}{w:World}(h:ju P t name=some (f,true,e))(n:Nat):(method (n+1) t v name).run P w= .ok (f,v) w:=by
 unfold ju at h
 split at h
 ·rename_i i hi
  split at h
  ·rename_i m hm
   split at h
   ·rename_i f e hp hf hu
    simp only[Ct,Cu]at h;obtain⟨rfl,rfl,rfl⟩:=h
    simp[method,typeInfo,hi,hm,hp,hf,follow,receiverAt,run_underlying hu,Place.get]
   ·cases h
  ·cases h
 ·cases h
theorem iX{P:Program}{t e:TypeId}{name:String}{f:FuncId}{b:Nat}{v z:Value}{w:World}(h:ju P t name=some (f,false,e))(hT:One P e z){bt:TypeId}{fz:Nat×Nat}(hb:w.heap[b]? =some (.cells #[v] bt fz))(n:Nat):
  (method (n+1) t (Ptr b 0) name).run P w= .ok (f,v) w:=by
 unfold ju at h
 split at h
 ·rename_i i hi
  split at h
  ·rename_i m hm
   split at h
   ·rename_i f e hp hf hu
    simp only[Ct,Cu]at h;obtain⟨rfl,rfl,rfl⟩:=h
    obtain⟨j,hj,ha,hs,_⟩:=hT.is
    have hr:=eT (P:=P) (w:=w) (b:=b) (o:=0) (vs:=[v]) ha hj (fun j u hj=>by
     cases j with
     |zero=>simp at hj;subst hj;rw[Nat.add_zero,dF hb];rfl
     |succ j=>simp at hj) (by simp[hs]) (fun _=>rfl)
    have hp':m.path= #[]:=Array.ext' hp
    have eL:(loadVar e ⟨b,0,none⟩).run P w= .ok v w:=by simpa[Instr.loadAt,Instr.sureAddr]using hr
    have hw:∀s1 s2:String,Builtin.ssaWrapNilChk_ #[t] t #[.pointer (some ⟨b,0,none⟩),strVal s1,strVal s2]=pure (.pointer (some ⟨b,0,none⟩)):=fun _ _=>rfl
    simp[method,typeInfo,hi,hm,hf,follow,receiverAt,run_underlying hu,Place.get,hp',hw,asAddr,eL,Result.andThen,Ptr]
   ·cases h
  ·cases h
 ·cases h
structure GT(P:Program):Prop where
 mix:P.follows .mixedOrders=true
 u3:P.underlying 3=some (.int .i64)
 u90:P.underlying 90=some (.pointer 88)
 u9:P.underlying 9=some .string
 u22:P.underlying 22=some (.slice 9)
 u23:P.underlying 23=some (.slice 22)
 u24:P.underlying 24=some (.slice 3)
 u32:P.underlying 32=some (.slice 24)
 u63:P.underlying 63=some (.slice 4)
 u81:P.underlying 81=some (.map 9 3)
 u86:P.underlying 86=some (.slice 84)
 u88:P.underlying 88=some (.slice 3)
 o3:One P 3 (iv 0)
 o4:One P 4 (.bool false)
 o9:One P 9 (.string ⟨#[]⟩)
 o22:One P 22 (.slice none 0 0)
 o24:One P 24 (.slice none 0 0)
 o32:One P 32 (.slice none 0 0)
 o63:One P 63 (.slice none 0 0)
 o88:One P 88 (.slice none 0 0)
 b84:Big P 84 [iv 0,iv 0]
 b65:Big P 65 [.slice none 0 0,.slice none 0 0,.slice none 0 0,.slice none 0 0,.slice none 0 0,iv 0,.slice none 0 0,.slice none 0 0]
 f0:aO P 65 0=some (0,1)
 f1:aO P 65 1=some (1,1)
 f2:aO P 65 2=some (2,1)
 f3:aO P 65 3=some (3,1)
 f4:aO P 65 4=some (4,1)
 f5:aO P 65 5=some (5,1)
 f6:aO P 65 6=some (6,1)
 f7:aO P 65 7=some (7,1)
 g0:aO P 84 0=some (0,1)
 g1:aO P 84 1=some (1,1)
 bt84:∀n:Int,P.built 84 [(0,iv n)]=some #[iv n,iv 0]
 bt65:∀(p:Option Addr) (m n b1 b2 b3 b4 N:Nat),P.built 65 [(0,.slice p m n),(1,.slice (some ⟨b1,0,none⟩) N N),(2,.slice (some ⟨b2,0,none⟩) N N),(3,.slice (some ⟨b3,0,none⟩) N N),(6,.slice (some ⟨b4,0,none⟩) N N)]=some #[.slice p m n,.slice (some ⟨b1,0,none⟩) N N,.slice (some ⟨b2,0,none⟩) N N,.slice (some ⟨b3,0,none⟩) N N,.slice none 0 0,iv 0,.slice (some ⟨b4,0,none⟩) N N,.slice none 0 0]
 m91:ju P 90 "Len" =some (91,false,88)
 m92:ju P 90 "Less" =some (92,false,88)
 m93:ju P 90 "Swap" =some (93,false,88)
 m94:ju P 90 "Pop" =some (94,true,88)
 m95:ju P 90 "Push" =some (95,true,88)
theorem GT.fa{P:Program}(G:GT P):∀j,j<8→aO P 65 j=some (j,1)
 |0,_=>G.f0|1,_=>G.f1|2,_=>G.f2|3,_=>G.f3|4,_=>G.f4|5,_=>G.f5|6,_=>G.f6|7,_=>G.f7
 |j+8,h=>by omega
section
variable {P:Program} {ops:Array Oper} {Q:Exit→Act→World→Prop} {rest:List Oper} {o:Oper} {n:Nat} {sl:aT} {a:Act} {w w':World} {v:Value}
theorem aH{x ix:Operand}{t e:TypeId}{b o' m c i:Nat}{k:IntKind}{z:Value}(h:SL n sl a)(ho:o.op= .indexAddr t x ix)(ex:ev sl x=some (.slice (some ⟨b,o',none⟩) m c))(ei:ev sl ix=some (.int k (i:Nat)))
  (ht:P.underlying t=some (.slice e))(hT:One P e z)(h1:i<m):(execOp a.eval o).run P w= .ok (.value (Ptr b (o'+i))) w:=by
 obtain⟨inf,hi,_,hs,_⟩:=hT.is
 have:=j5 (w:=w) h ho ex ei ht hi (by omega) (by omega)
 rw[this,hs];simp[Ptr]
theorem ym{x hi:Operand}{t e:TypeId}{b m c i:Nat}{k:IntKind}{z:Value}(h:SL n sl a)(ho:o.op= .slice t x none (some hi) none)(ex:ev sl x=some (.slice (some ⟨b,0,none⟩) m c))(ei:ev sl hi=some (.int k (i:Nat)))
  (ht:P.underlying t=some (.slice e))(hT:One P e z)(h1:i≤m)(h2:m≤c):(execOp a.eval o).run P w= .ok (.value (.slice (some ⟨b,0,none⟩) i c)) w:=by
 obtain⟨inf,hi',_⟩:=hT.is
 have hb:=(kM (P:=P) (w:=w) (len:=m) (cap:=c) true (lo:=none) (hi:=some (.int k (i:Nat))) (l:=none) (h:=some (i:Int)) (fun _ h=>by cases h) (fun _=>rfl) (fun n h=>⟨k,by cases h;rfl⟩) (fun h=>by cases h) ⟨trivial,by simp only;omega,trivial⟩ h2).1
 have hpp:(if c=0 then some (⟨b,0,none⟩:Addr)else some ((⟨b,0,none⟩:Addr).add (0*inf.size)))=some ⟨b,0,none⟩:=by simp[Addr.add]
 unfold execOp
 simp only[ho,h.ev ex,h.ev ei,Instr.sliceAt,Sem.run_bind,run_underlying ht,Result.andThen_ok,Instr.slice,Option.map_none,Option.map_some,hb,sizeOf,typeInfo,run_program,hi',Sem.run_pure,eV,dO,Nat.sub_zero,hpp,Int.toNat_natCast]
theorem Am{x lo:Operand}{t e:TypeId}{b m c i:Nat}{k:IntKind}{z:Value}(h:SL n sl a)(ho:o.op= .slice t x (some lo) none none)(ex:ev sl x=some (.slice (some ⟨b,0,none⟩) m c))(ei:ev sl lo=some (.int k (i:Nat)))
  (ht:P.underlying t=some (.slice e))(hT:One P e z)(h1:i<m)(h2:m≤c):(execOp a.eval o).run P w= .ok (.value (.slice (some ⟨b,i,none⟩) (m - i) (c - i))) w:=by
 obtain⟨inf,hi',_,hs,_⟩:=hT.is
 have hb:=(kM (P:=P) (w:=w) (len:=m) (cap:=c) true (lo:=some (.int k (i:Nat))) (hi:=none) (l:=some (i:Int)) (h:=none) (fun n h=>⟨k,by cases h;rfl⟩) (fun h=>by cases h) (fun _ h=>by cases h) (fun _=>rfl) ⟨by simp only;omega,trivial,by simp only;omega⟩ h2).1
 have hpp:(if c=i then some (⟨b,0,none⟩:Addr)else some ((⟨b,0,none⟩:Addr).add (i*inf.size)))=some ⟨b,i,none⟩:=by
  rw[if_neg (by omega),hs];simp[Addr.add];exact fun h=>h.symm
 unfold execOp
 simp only[ho,h.ev ex,h.ev ei,Instr.sliceAt,Sem.run_bind,run_underlying ht,Result.andThen_ok,Instr.slice,Option.map_none,Option.map_some,hb,sizeOf,typeInfo,run_program,hi',Sem.run_pure,eV,dO,hpp,Int.toNat_natCast]
theorem mN{x y:Operand}{t e:TypeId}{z:Value}{u:Value}{m:Nat}{xs:List Value}{b c:Nat}{bt:TypeId}{fz:Nat×Nat}(h:SL n sl a)(ho:o.op= .call ⟨.builtin .append, #[x,y], #[t,t]⟩)(ex:ev sl x=some v)
  (ey:ev sl y=some (.slice (some ⟨b,0,none⟩) 1 c))(ht:P.underlying t=some (.slice e))(hT:One P e z)(bI:w.ownsRow 0 e 1 v m xs)(hb:w.heap[b]? =some (.cells #[u] bt fz))(hu:u.oneCell'=true)(hm:m+1≤1099511627776):
  ∃v' w',(execOp a.eval o).run P w= .ok (.value v') w'∧w'.ownsRow 0 e 1 v' (m+1) (xs++ [u])∧Ch (fun g=>v.ownBlock=some g) w w'∧(∀g,v'.ownBlock=some g→v.ownBlock=some g∨w.heap.size≤g):=by
 obtain⟨i,hi,ha,hs,hz,hby⟩:=hT.is
 have h1:(m+1)*i.bytes≤(m+1)*24:=Nat.mul_le_mul_left _ hby
 obtain⟨v',w',cf,ho',hg,hbk,_⟩:=ib (P:=P) (w:=w) t o.type e i z ht hi hz (by rw[hT.zc,hs];rfl) (by omega) v m xs (by rw[hs];exact bI) (.slice (some ⟨b,0,none⟩) 1 c) 1 [u]
  (.inr ⟨⟨b,0,none⟩,c,rfl,by simp[hs],fun j u' hj=>by
   cases j with
   |zero=>simp at hj;subst hj;rw[Addr.add_lit,dF hb];rfl
   |succ j=>simp at hj,by simpa using hu⟩) (by omega) (by omega)
 refine⟨v',w',?_,by rw[hs]at ho';exact ho',⟨hg.os,hg.tape,hg.output,hg.size,fun g hl hn=>hg.block g hl fun e=>hn e.symm⟩,fun g hv=>(hbk g hv).1⟩
 have ex':=h.ev ex
 have ey':=h.ev ey
 unfold execOp
 simp only[ho,resolve,invoke,builtin,Sem.run_bind,Sem.run_pure,Result.andThen_ok,List.map_toArray,List.map_cons,List.map_nil,ex',ey',cf]
theorem ir{x:Operand}{t e:TypeId}{m:Nat}{e':TypeId}{sz:Nat}{xs:List Value}(h:SL n sl a)(ho:o.op= .call ⟨.builtin .len, #[x], #[t]⟩)(ex:ev sl x=some v)(bI:w.ownsRow 0 e' sz v m xs)(ht:P.underlying t=some (.slice e)){w2:World}:
  (execOp a.eval o).run P w2= .ok (.value (iv (m:Nat))) w2:=by
 rcases bI.2 with⟨rfl,rfl⟩|⟨g,cap,cur,rfl,_⟩
 ·exact aM h ho ex ht
 ·exact aM h ho ex ht
theorem mO{t:TypeId}{x:Operand}{y:Value}{d:TypeDesc}(h:SL n sl a)(ho:o.op= .makeInterface t x)(e:ev sl x=some y)(ht:P.underlying t=some d)(hd:∀m,d≠ .interface m):(execOp a.eval o).run P w= .ok (.value (.iface t y)) w:=by
 cases d<;>first|exact absurd rfl (hd _)|simp[execOp,ho,h.ev e,Instr.makeInterface,run_underlying ht]
theorem nU{t e:TypeId}{l c:Operand}{z:Value}{m:Nat}{k k':IntKind}(h:SL n sl a)(ho:o.op= .makeSlice t l c)(el:ev sl l=some (.int k (m:Nat)))(ec:ev sl c=some (.int k' (m:Nat)))(ht:P.underlying t=some (.slice e))(hT:One P e z)(hm:m≤1099511627776):
  (execOp a.eval o).run P w= .ok (.value (.slice (some ⟨w.heap.size,0,none⟩) m m)) (w.alloc (.cells (List.replicate m z).toArray e)):=by
 obtain⟨i,hi,ha,hs,hz,hby⟩:=hT.is
 have h1:(i.bytes:Int)*(m:Int)≤24*m:=Int.mul_le_mul_of_nonneg_right (by omega) (by omega)
 have hr:=run_make (P:=P) w t e i z ht hi hz k k' (m:Nat) (m:Nat) (by omega) (Int.le_refl _) (by omega) (by omega)
 have hc:madeCells z.cells ((m:Int).toNat*i.size)=(List.replicate m z).toArray:=by
  rw[hs,hT.zc]
  apply Array.ext'
  simp[madeCells]
  apply List.ext_getElem<;>simp
  intro i _;rw[Nat.mod_one];rfl
 rw[hc]at hr
 simp only[Int.toNat_natCast]at hr
 simp[execOp,ho,h.ev el,h.ev ec,hr]
theorem Ao{K:Act→World→Prop}{r:Operand}{name:String}{args:Array Operand}{ts:Array TypeId}{t:TypeId}{y u:Value}{g:FuncId}{vs:List Value}{R:Value→World→Prop}(h:SL n sl a)(hd:dok n o.dst=true)
  (ho:o.op= .call ⟨.invoke r name,args,ts⟩)(hr:ev sl r=some (.iface t y))(hm:∀n,(method (n+1) t y name).run P w= .ok (g,u) w)(ha:evs sl args.toList=some vs)(aC:aD P g=true)
  (jg:Ret P g (u::vs) w R)(k:∀v w' a',R v w'→SL n (bz o.dst v sl) a'→K a' w'):o.wp P a w K Q:=by
 have hfv:=h.ev hr
 have hav:=h.evs ha
 have cf:(execOp a.eval o).run P w= .ok (.enter g (u::vs).toArray) w:=by
  unfold execOp
  simp only[ho,resolve,hfv,pure_bind,invoke]
  have e:(#[Value.iface t y]++Array.map a.eval args).extract 1 (#[Value.iface t y]++Array.map a.eval args).size=Array.map a.eval args:=by
   apply Array.ext';simp[List.take_of_length_le]
  have e2:(#[u]++Array.map a.eval args)=(u::vs).toArray:=by
   apply Array.ext';simp[←hav]
  have e4:(#[Value.iface t y]++Array.map a.eval args)=(Value.iface t y::args.toList.map a.eval).toArray:=by
   apply Array.ext';simp
  have e3:(#[Value.iface t y]++Array.map a.eval args)[0]? =some (.iface t y):=by rw[e4];rfl
  simp only[e3,e,callMethod]
  have hd:P.types.size+Made.depth - 1+1=P.types.size+Made.depth:=by unfold Made.depth;omega
  have hmr:=hm (P.types.size+Made.depth - 1)
  rw[hd]at hmr
  simp only[Sem.run_bind,run_program,Result.andThen_ok,hmr]
  rw[e2]
  exact jC aC
 unfold Oper.wp
 rw[cf]
 show Calls P g _ w _
 refine Calls.mono jg ?_
 rintro e w' ⟨v,rfl,hR⟩
 exact k v w' _ hR (h.put hd v)
theorem Li{r:Operand}{name:String}{args:Array Operand}{ts:Array TypeId}{t:TypeId}{y u:Value}{g:FuncId}{vs:List Value}{R:Value→World→Prop}(h:SL n sl a)(hw:Region.wanted o (yielded ops a.tmps)=true)(hd:dok n o.dst=true)
  (ho:o.op= .call ⟨.invoke r name,args,ts⟩)(hr:ev sl r=some (.iface t y))(hm:∀n,(method (n+1) t y name).run P w= .ok (g,u) w)(ha:evs sl args.toList=some vs)(aC:aD P g=true)
  (jg:Ret P g (u::vs) w R)(k:∀v w' a',R v w'→SL n (bz o.dst v sl) a'→wpList P ops Q rest a' w'):wpList P ops Q (o::rest) a w:=by
 unfold wpList
 rw[if_pos hw]
 exact .inl (Ao h hd ho hr hm ha aC jg k)
end
def ext(R:Nat→Nat)(n k:Nat):Nat→Nat:=fun c=>if c<n then R c else k
def Up(S:List Nat)(R R':Nat→Nat)(w w':World):Prop:=Ch (fun c=>R c∈S) w w'∧∀c,c<w.heap.size→R' c=R c
theorem Up.rfl{S:List Nat}{R:Nat→Nat}{w:World}:Up S R R w w:=⟨Ch.refl _ _,fun _ _=>_root_.rfl⟩
theorem Up.trans{S:List Nat}{R R1 R2:Nat→Nat}{w w1 w2:World}(h:Up S R R1 w w1)(k:Up S R1 R2 w1 w2):Up S R R2 w w2:=
 ⟨h.1.trans' k.1 fun b hb hs=>by rw[←h.2 b hb];exact hs,fun c hc=>(k.2 c (Nat.lt_of_lt_of_le hc h.1.size)).trans (h.2 c hc)⟩
theorem Up.mono{S S':List Nat}{R R':Nat→Nat}{w w':World}(h:Up S R R' w w')(hs:∀x∈S,x∈S'):Up S' R R' w w':=⟨h.1.mono fun _ _ h=>hs _ h,h.2⟩
theorem Up.drew(S:List Nat)(R:Nat→Nat)(w:World):Up S R R w {w with drawn:=w.drawn+1}:=⟨Ch.drew _ _,fun _ _=>_root_.rfl⟩
theorem Up.alloc(S:List Nat)(R:Nat→Nat)(w:World)(o:Obj)(k:Nat):Up S R (ext R w.heap.size k) w (w.alloc o):=⟨Ch.alloc _ _ _,fun c hc=>by simp[ext,hc]⟩
def Cl(w:World)(R:Nat→Nat)(k b:Nat)(T:TypeId)(cs:List Value):Prop:=w.heap[b]? =some (.cells cs.toArray T (0,0))∧R b=k
theorem Cl.up{S:List Nat}{R R':Nat→Nat}{w w':World}{k b:Nat}{T:TypeId}{cs:List Value}(h:Cl w R k b T cs)(u:Up S R R' w w')(hk:k ∉ S):Cl w' R' k b T cs:=
 ⟨u.1.at h.1 (by rw[h.2];exact hk),(u.2 b (aq h.1)).trans h.2⟩
theorem Cl.set{R:Nat→Nat}{w:World}{k b:Nat}{T:TypeId}{cs:List Value}(h:Cl w R k b T cs)(i:Nat)(v:Value):Cl (w.setRow b (cs.toArray.setIfInBounds i v)) R k b T (cs.set i v)∧Up [k] R R w (w.setRow b (cs.toArray.setIfInBounds i v)):=by
 refine⟨⟨?_,h.2⟩,(Ch.setRow w b _).mono fun c _ e=>by subst e;simp[h.2],fun _ _=>_root_.rfl⟩
 have:=setRow_heap w b _ (cs.toArray.setIfInBounds i v) _ _ h.1
 simpa using this
theorem Cl.new(w:World)(R:Nat→Nat)(k:Nat)(T:TypeId)(cs:List Value):Cl (w.alloc (.cells cs.toArray T)) (ext R w.heap.size k) k w.heap.size T cs:=⟨heap_alloc_new w _,by simp[ext]⟩
def Ow(w:World)(R:Nat→Nat)(k:Nat)(T:TypeId)(v:Value)(xs:List Value):Prop:=w.ownsRow 0 T 1 v xs.length xs∧∀g,v.ownBlock=some g→R g=k
theorem Ow.up{S:List Nat}{R R':Nat→Nat}{w w':World}{k:Nat}{T:TypeId}{v:Value}{xs:List Value}(h:Ow w R k T v xs)(u:Up S R R' w w')(hk:k ∉ S):Ow w' R' k T v xs:=
 ⟨u.1.ownsRow h.1 fun g hg=>by rw[h.2 g hg];exact hk,fun g hg=>(u.2 g (h.1.lt g hg).2).trans (h.2 g hg)⟩
theorem Ow.nil(w:World)(R:Nat→Nat)(k:Nat)(T:TypeId):Ow w R k T (.slice none 0 0) []:=⟨World.ownsRow_nil w 0 T 1,fun g h=>by simp[Value.ownBlock]at h⟩
theorem Ow.app{R:Nat→Nat}{w w':World}{k:Nat}{T:TypeId}{v v':Value}{xs:List Value}{u:Value}(h:Ow w R k T v xs)(ho:w'.ownsRow 0 T 1 v' (xs.length+1) (xs++ [u]))(hc:Ch (fun g=>v.ownBlock=some g) w w')(hn:∀g,v'.ownBlock=some g→v.ownBlock=some g∨w.heap.size≤g):
  Ow w' (ext R w.heap.size k) k T v' (xs++ [u])∧Up [k] R (ext R w.heap.size k) w w':=by
 refine⟨⟨by simpa using ho,fun g hg=>?_⟩,hc.mono fun c _ e=>by simp[h.2 c e],fun c hc=>by simp[ext,hc]⟩
 simp only[ext]
 split
 ·rename_i aF
  rcases hn g hg with h1|h1
  ·exact h.2 g h1
  ·omega
 ·rfl
theorem Ow.mem{R:Nat→Nat}{w:World}{k:Nat}{T:TypeId}{v:Value}{xs:List Value}(h:Ow w R k T v xs)(hx:xs≠ []):∃g cap cs,v= .slice (some ⟨g,0,none⟩) xs.length cap∧xs.length≤cap∧Cl w R k g T cs∧cs.length=cap∧cs.take xs.length=xs:=by
 rcases h.1.2 with⟨_,h0⟩|⟨g,cap,cur,e,_,hg,hnc,_,hs,ht⟩
 ·exact absurd (List.length_eq_zero_iff.1 h0) hx
 ·refine⟨g,cap,cur.toList,e,hnc,⟨by simpa using hg,h.2 g (by rw[e];rfl)⟩,by simpa using hs,by simpa using ht⟩
theorem Ow.of{R:Nat→Nat}{w:World}{k:Nat}{T:TypeId}{g cap:Nat}{cs xs:List Value}(h:Cl w R k g T cs)(hc:cs.length=cap)(hn:xs.length≤cap)(hm:cap≤maxLen)(ht:cs.take xs.length=xs):Ow w R k T (.slice (some ⟨g,0,none⟩) xs.length cap) xs:=
 ⟨⟨by simp,.inr ⟨g,cap,cs.toArray,rfl,Nat.zero_le _,h.1,hn,hm,by simpa using hc,by simpa using ht⟩⟩,fun g' e=>by simp[Value.ownBlock]at e;rw[←e];exact h.2⟩
theorem Ow.max{R:Nat→Nat}{w:World}{k:Nat}{T:TypeId}{g n cap:Nat}{xs:List Value}(h:Ow w R k T (.slice (some ⟨g,0,none⟩) n cap) xs):cap≤maxLen:=by
 rcases h.1.2 with⟨e,_⟩|⟨g',cap',cur,e,_,hg,hnc,hm,_⟩
 ·cases e
 ·cases e;exact hm
def Fz(w:World)(R:Nat→Nat)(lo:Nat)(x:PV)(v:Value):Prop:=Rep w (fun c=>R c≠0) lo x v
theorem Fz.up{S:List Nat}{R R':Nat→Nat}{w w':World}{lo:Nat}{x:PV}{v:Value}(h:Fz w R lo x v)(u:Up S R R' w w')(hk:0 ∉ S):Fz w' R' lo x v:=
 Rep.mono (Nat.le_refl _) (fun b o hb hn=>by
  have h0:R b=0:=Classical.not_not.1 hn
  exact⟨u.1.at hb (by rw[h0];exact hk),by rw[u.2 b (aq hb),h0];simp⟩) h
end Go.TL.H.Gq
set_option maxRecDepth 100000
namespace Go.TL.H.Gq
open Go
def HB(w:World)(R:Nat→Nat)(b:Nat)(xs:List Nat):Prop:=∃v,Cl w R 10 b 88 [v]∧Ow w R 11 3 v (xs.map fun(x:Nat)=>iv x)
theorem HB.up{S:List Nat}{R R':Nat→Nat}{w w':World}{b:Nat}{xs:List Nat}(h:HB w R b xs)(u:Up S R R' w w')(h1:10 ∉ S)(h2:11 ∉ S):HB w' R' b xs:=by
 obtain⟨v,a,c⟩:=h;exact⟨v,a.up u h1,c.up u h2⟩
variable {P:Program} {w:World} {R:Nat→Nat} {v:Value} {xs:List Nat}
abbrev ivs(xs:List Nat):List Value:=xs.map fun(x:Nat)=>iv x
theorem sZ(G:GT P)(B:GB P)(hx:Ow w R 11 3 v (ivs xs)):Ret P 91 [v] w fun r w'=>r=iv (xs.length:Nat)∧w'=w:=by
 refine aJ B.b91 ?_
 have h0:=SL.init (n:=5) [v] rfl
 (revert h0;generalize({tmps:=_,defers:=[]}:Act)=a;intro h0)
 refine ah (ae ?_)
 (first|refine L h0 rfl rfl (aa h0 (.inl rfl) rfl) fun a h0=>?_|refine L h0 rfl rfl (aa h0 (.inr rfl) rfl) fun a h0=>?_|refine L h0 rfl rfl (ab h0 rfl rfl) fun a h0=>?_)
 refine Le (ah (ae ?_))
 (first|refine L h0 rfl rfl (aa h0 (.inl rfl) rfl) fun a h0=>?_|refine L h0 rfl rfl (aa h0 (.inr rfl) rfl) fun a h0=>?_|refine L h0 rfl rfl (ab h0 rfl rfl) fun a h0=>?_)
 refine L h0 rfl rfl (ir h0 rfl rfl hx.1 G.u88) fun a h0=>?_
 (first|refine L h0 rfl rfl (aa h0 (.inl rfl) rfl) fun a h0=>?_|refine L h0 rfl rfl (aa h0 (.inr rfl) rfl) fun a h0=>?_|refine L h0 rfl rfl (ab h0 rfl rfl) fun a h0=>?_)
 refine Le (aP (cH h0 rfl ⟨by simp,rfl⟩))
theorem nF(G:GT P)(B:GB P)(hx:Ow w R 11 3 v (ivs xs)){i j:Nat}(hi:i<xs.length)(hj:j<xs.length):Ret P 92 [v,iv i,iv j] w fun r w'=>∃c,r= .bool c∧Up [] R R w w':=by
 refine aJ B.b92 ?_
 have h0:=SL.init (n:=16) [v,iv i,iv j] rfl
 (revert h0;generalize({tmps:=_,defers:=[]}:Act)=a;intro h0)
 have u:=Up.drew [] R w
 have hx1:=hx.up u (by decide)
 obtain⟨g,cap,cs,rfl,hc,hg,dR,ht⟩:=hx1.mem (by intro e;simp at e;subst e;simp at hi)
 have get:∀k,k<xs.length→∃y:Nat,cs.toArray[0+k]? =some (iv y):=fun k hk=>⟨xs[k],by
  have:(cs.take (ivs xs).length)[k]? =(ivs xs)[k]? :=by rw[ht]
  rw[List.getElem?_take_of_lt (by simpa using hk)]at this
  simp[this,hk]⟩
 obtain⟨yi,hyi⟩:=get i hi
 obtain⟨yj,hyj⟩:=get j hj
 refine ah (ae ?_)
 (first|refine L h0 rfl rfl (aa h0 (.inl rfl) rfl) fun a h0=>?_|refine L h0 rfl rfl (aa h0 (.inr rfl) rfl) fun a h0=>?_|refine L h0 rfl rfl (ab h0 rfl rfl) fun a h0=>?_)
 refine Le (ah (jE G.mix (by kernel_rfl) ?_))
 (first|refine T h0 rfl rfl (aa h0 (.inl rfl) rfl) fun a h0=>?_|refine T h0 rfl rfl (aa h0 (.inr rfl) rfl) fun a h0=>?_|refine T h0 rfl rfl (ab h0 rfl rfl) fun a h0=>?_);(first|refine T h0 rfl rfl (aa h0 (.inl rfl) rfl) fun a h0=>?_|refine T h0 rfl rfl (aa h0 (.inr rfl) rfl) fun a h0=>?_|refine T h0 rfl rfl (ab h0 rfl rfl) fun a h0=>?_)
 refine T h0 rfl rfl (aH h0 rfl rfl rfl G.u88 G.o3 (by simpa using hi)) fun a h0=>?_
 refine T h0 rfl rfl (ai h0 rfl rfl G.o3 hg.1 hyi) fun a h0=>?_
 (first|refine T h0 rfl rfl (aa h0 (.inl rfl) rfl) fun a h0=>?_|refine T h0 rfl rfl (aa h0 (.inr rfl) rfl) fun a h0=>?_|refine T h0 rfl rfl (ab h0 rfl rfl) fun a h0=>?_);(first|refine T h0 rfl rfl (aa h0 (.inl rfl) rfl) fun a h0=>?_|refine T h0 rfl rfl (aa h0 (.inr rfl) rfl) fun a h0=>?_|refine T h0 rfl rfl (ab h0 rfl rfl) fun a h0=>?_)
 refine T h0 rfl rfl (aH h0 rfl rfl rfl G.u88 G.o3 (by simpa using hj)) fun a h0=>?_
 refine T h0 rfl rfl (ai h0 rfl rfl G.o3 hg.1 hyj) fun a h0=>?_
 refine T h0 rfl rfl (aG h0 rfl rfl rfl rfl) fun a h0=>?_
 (first|refine T h0 rfl rfl (aa h0 (.inl rfl) rfl) fun a h0=>?_|refine T h0 rfl rfl (aa h0 (.inr rfl) rfl) fun a h0=>?_|refine T h0 rfl rfl (ab h0 rfl rfl) fun a h0=>?_)
 exact Te (aP (cH h0 rfl ⟨_,rfl,u⟩))
theorem take_set{cs xs:List Value}(h:cs.take xs.length=xs)(i:Nat)(v:Value):(cs.set i v).take (xs.set i v).length=xs.set i v:=by
 rw[List.length_set,List.take_set,h]
theorem gy{cs:List Value}(ht:cs.take (ivs xs).length=ivs xs){k:Nat}(hk:k<xs.length):cs.toArray[0+k]? =some (iv (xs[k]:Nat)):=by
 have:(cs.take (ivs xs).length)[k]? =(ivs xs)[k]? :=by rw[ht]
 rw[List.getElem?_take_of_lt (by simpa using hk)]at this
 simp[this,hk]
def Sb(xs ys:List Nat):Prop:=xs.length=ys.length∧xs.Perm ys
theorem Sb.trans{xs ys zs:List Nat}(h:Sb xs ys)(k:Sb ys zs):Sb xs zs:=⟨h.1.trans k.1,h.2.trans k.2⟩
def rI:Code→List Oper
 | .region _ ops _=>ops.toList
 |_=>[]
theorem qc(G:GT P){g cap:Nat}{cs:List Value}(hg:Cl w R 11 g 3 cs)(hc:(ivs xs).length≤cap)(dR:cs.length=cap)(hm:cap≤maxLen)(ht:cs.take (ivs xs).length=ivs xs){i j:Nat}(hi:i<xs.length)(hj:j<xs.length){Q:Exit→Act→World→Prop}
  (k:∀(a:Act) w',a.defers=[]→Up [11] R R w w'→(∃ys,Ow w' R 11 3 (.slice (some ⟨g,0,none⟩) (ivs xs).length cap) (ivs ys)∧Sb ys xs)→Q .normal a w'):
  ∀(a:Act),SL 20 [(6,.slice (some ⟨g,0,none⟩) (ivs xs).length cap),(7,iv i),(8,.slice (some ⟨g,0,none⟩) (ivs xs).length cap),(9,iv j),(13,iv (xs[j]:Nat)),(17,iv (xs[i]:Nat))] a→wpAny P .any (rI c93).toArray Q 4 #[true,true,true,true,true,true,true,true,true,true,true,true,false,false,false,false] a w:=by
 intro a h0
 have fh:i<(ivs xs).length:=by simpa using hi
 have cd:j<(ivs xs).length:=by simpa using hj
 refine Y1 12 (by kernel_rfl) (aj h0 rfl rfl rfl (aH h0 rfl rfl rfl G.u88 G.o3 fh) fun a h0=>?_)
 refine Y1 13 (by kernel_rfl) (eQ h0 rfl rfl rfl (fJ h0 rfl rfl rfl G.o3 rfl rfl hg.1 (by simp;omega) (by omega)) fun h0=>?_)
 obtain⟨iC,u2⟩:=hg.set (0+i) (iv (xs[j]:Nat))
 refine Y1 14 (by kernel_rfl) (aj h0 rfl rfl rfl (aH h0 rfl rfl rfl G.u88 G.o3 cd) fun a h0=>?_)
 refine Y1 15 (by kernel_rfl) (eQ h0 rfl rfl rfl (fJ h0 rfl rfl rfl G.o3 rfl rfl iC.1 (by simp;omega) (by omega)) fun h0=>?_)
 obtain⟨hg3,u3⟩:=iC.set (0+j) (iv (xs[i]:Nat))
 refine Ye (by kernel_rfl) ?_
 have e:((ivs xs).set (0+i) (iv (xs[j]:Nat))).set (0+j) (iv (xs[i]:Nat))=ivs ((xs.set i xs[j]).set j xs[i]):=by simp[List.map_set]
 have ht3:=take_set (take_set ht (0+i) (iv (xs[j]:Nat))) (0+j) (iv (xs[i]:Nat))
 have hlen:(ivs xs).length=(ivs ((xs.set i xs[j]).set j xs[i])).length:=by simp
 rw[e]at ht3
 refine k _ _ h0.defers (u2.trans u3) ⟨(xs.set i xs[j]).set j xs[i],?_,by simp,List.set_set_perm hi hj⟩
 have:=Ow.of hg3 (by simpa using dR) (by rw[←hlen];exact hc) hm ht3
 rw[←hlen]at this;exact this
theorem nG(G:GT P)(B:GB P)(hx:Ow w R 11 3 v (ivs xs)){i j:Nat}(hi:i<xs.length)(hj:j<xs.length):Ret P 93 [v,iv i,iv j] w fun r w'=>r= .tuple #[]∧Up [11] R R w w'∧∃ys,Ow w' R 11 3 v (ivs ys)∧Sb ys xs:=by
 refine aJ B.b93 ?_
 have h0:=SL.init (n:=20) [v,iv i,iv j] rfl
 (revert h0;generalize({tmps:=_,defers:=[]}:Act)=a;intro h0)
 refine eW 16 rfl G.mix ?_
 have u:=Up.drew [11] R w
 have hx1:=hx.up (Up.drew [] R w) (by decide)
 generalize({w with drawn:=w.drawn+1}:World)=w1 at u hx1 ⊢
 obtain⟨g,cap,cs,rfl,hc,hg,dR,ht⟩:=hx1.mem (by intro e;simp at e;subst e;simp at hi)
 have hm:=hx1.max
 have fh:i<(ivs xs).length:=by simpa using hi
 have cd:j<(ivs xs).length:=by simpa using hj
 (first|refine Y (i:=0) h0 rfl rfl rfl (by kernel_rfl) (by kernel_rfl) (by kernel_rfl) (fun _ _ _ h=>h) (fun w=>aa h0 (.inl rfl) rfl) fun a h0=>?_|refine Y (i:=0) h0 rfl rfl rfl (by kernel_rfl) (by kernel_rfl) (by kernel_rfl) (fun _ _ _ h=>h) (fun w=>aa h0 (.inr rfl) rfl) fun a h0=>?_|refine Y (i:=0) h0 rfl rfl rfl (by kernel_rfl) (by kernel_rfl) (by kernel_rfl) (fun _ _ _ h=>h) (fun w=>ab h0 rfl rfl) fun a h0=>?_)
 (first|refine Y (i:=1) h0 rfl rfl rfl (by kernel_rfl) (by kernel_rfl) (by kernel_rfl) (fun _ _ _ h=>h) (fun w=>aa h0 (.inl rfl) rfl) fun a h0=>?_|refine Y (i:=1) h0 rfl rfl rfl (by kernel_rfl) (by kernel_rfl) (by kernel_rfl) (fun _ _ _ h=>h) (fun w=>aa h0 (.inr rfl) rfl) fun a h0=>?_|refine Y (i:=1) h0 rfl rfl rfl (by kernel_rfl) (by kernel_rfl) (by kernel_rfl) (fun _ _ _ h=>h) (fun w=>ab h0 rfl rfl) fun a h0=>?_)
 (first|refine Y (i:=2) h0 rfl rfl rfl (by kernel_rfl) (by kernel_rfl) (by kernel_rfl) (fun _ _ _ h=>h) (fun w=>aa h0 (.inl rfl) rfl) fun a h0=>?_|refine Y (i:=2) h0 rfl rfl rfl (by kernel_rfl) (by kernel_rfl) (by kernel_rfl) (fun _ _ _ h=>h) (fun w=>aa h0 (.inr rfl) rfl) fun a h0=>?_|refine Y (i:=2) h0 rfl rfl rfl (by kernel_rfl) (by kernel_rfl) (by kernel_rfl) (fun _ _ _ h=>h) (fun w=>ab h0 rfl rfl) fun a h0=>?_)
 (first|refine Y (i:=3) h0 rfl rfl rfl (by kernel_rfl) (by kernel_rfl) (by kernel_rfl) (fun _ _ _ h=>h) (fun w=>aa h0 (.inl rfl) rfl) fun a h0=>?_|refine Y (i:=3) h0 rfl rfl rfl (by kernel_rfl) (by kernel_rfl) (by kernel_rfl) (fun _ _ _ h=>h) (fun w=>aa h0 (.inr rfl) rfl) fun a h0=>?_|refine Y (i:=3) h0 rfl rfl rfl (by kernel_rfl) (by kernel_rfl) (by kernel_rfl) (fun _ _ _ h=>h) (fun w=>ab h0 rfl rfl) fun a h0=>?_)
 (first|refine Y (i:=4) h0 rfl rfl rfl (by kernel_rfl) (by kernel_rfl) (by kernel_rfl) (fun _ _ _ h=>h) (fun w=>aa h0 (.inl rfl) rfl) fun a h0=>?_|refine Y (i:=4) h0 rfl rfl rfl (by kernel_rfl) (by kernel_rfl) (by kernel_rfl) (fun _ _ _ h=>h) (fun w=>aa h0 (.inr rfl) rfl) fun a h0=>?_|refine Y (i:=4) h0 rfl rfl rfl (by kernel_rfl) (by kernel_rfl) (by kernel_rfl) (fun _ _ _ h=>h) (fun w=>ab h0 rfl rfl) fun a h0=>?_)
 (first|refine Y (i:=5) h0 rfl rfl rfl (by kernel_rfl) (by kernel_rfl) (by kernel_rfl) (fun _ _ _ h=>h) (fun w=>aa h0 (.inl rfl) rfl) fun a h0=>?_|refine Y (i:=5) h0 rfl rfl rfl (by kernel_rfl) (by kernel_rfl) (by kernel_rfl) (fun _ _ _ h=>h) (fun w=>aa h0 (.inr rfl) rfl) fun a h0=>?_|refine Y (i:=5) h0 rfl rfl rfl (by kernel_rfl) (by kernel_rfl) (by kernel_rfl) (fun _ _ _ h=>h) (fun w=>ab h0 rfl rfl) fun a h0=>?_)
 refine Y (i:=6) h0 rfl rfl rfl (by kernel_rfl) (by kernel_rfl) (by kernel_rfl) (fun _ _ _ h=>h) (fun w=>aH h0 rfl rfl rfl G.u88 G.o3 cd) fun a h0=>?_
 (first|refine Y (i:=8) h0 rfl rfl rfl (by kernel_rfl) (by kernel_rfl) (by kernel_rfl) (fun _ _ _ h=>h) (fun w=>aa h0 (.inl rfl) rfl) fun a h0=>?_|refine Y (i:=8) h0 rfl rfl rfl (by kernel_rfl) (by kernel_rfl) (by kernel_rfl) (fun _ _ _ h=>h) (fun w=>aa h0 (.inr rfl) rfl) fun a h0=>?_|refine Y (i:=8) h0 rfl rfl rfl (by kernel_rfl) (by kernel_rfl) (by kernel_rfl) (fun _ _ _ h=>h) (fun w=>ab h0 rfl rfl) fun a h0=>?_)
 (first|refine Y (i:=9) h0 rfl rfl rfl (by kernel_rfl) (by kernel_rfl) (by kernel_rfl) (fun _ _ _ h=>h) (fun w=>aa h0 (.inl rfl) rfl) fun a h0=>?_|refine Y (i:=9) h0 rfl rfl rfl (by kernel_rfl) (by kernel_rfl) (by kernel_rfl) (fun _ _ _ h=>h) (fun w=>aa h0 (.inr rfl) rfl) fun a h0=>?_|refine Y (i:=9) h0 rfl rfl rfl (by kernel_rfl) (by kernel_rfl) (by kernel_rfl) (fun _ _ _ h=>h) (fun w=>ab h0 rfl rfl) fun a h0=>?_)
 refine Y (i:=10) h0 rfl rfl rfl (by kernel_rfl) (by kernel_rfl) (by kernel_rfl) (fun _ _ _ h=>h) (fun w=>aH h0 rfl rfl rfl G.u88 G.o3 fh) fun a h0=>?_
 have h0:=h0.keep [6,7,8,9,12,16]
 refine Y2 7 11 (by kernel_rfl) (aj h0 rfl rfl rfl (ai h0 rfl rfl G.o3 hg.1 (gy ht hj)) fun a h0=>?_) (aj h0 rfl rfl rfl (ai h0 rfl rfl G.o3 hg.1 (gy ht hi)) fun a h0=>?_)
 ·refine Y1 11 (by kernel_rfl) (aj h0 rfl rfl rfl (ai h0 rfl rfl G.o3 hg.1 (gy ht hi)) fun a h0=>?_)
  exact qc G hg hc dR hm ht hi hj (fun a w' hd h1 h2=>⟨hd,.tuple #[],⟨[],rfl,rfl⟩,rfl,u.trans h1,h2⟩) _ (h0.keep [6,7,8,9,13,17])
 ·refine Y1 7 (by kernel_rfl) (aj h0 rfl rfl rfl (ai h0 rfl rfl G.o3 hg.1 (gy ht hj)) fun a h0=>?_)
  exact qc G hg hc dR hm ht hi hj (fun a w' hd h1 h2=>⟨hd,.tuple #[],⟨[],rfl,rfl⟩,rfl,u.trans h1,h2⟩) _ (h0.keep [6,7,8,9,13,17])
section
variable {ops:Array Oper} {o:Oper} {n:Nat} {sl:aT} {a:Act}
theorem iu{tx ty:TypeId}{x y:Operand}{m l:Int}(r:Int)(h:SL n sl a)(ho:o.op= .binOp .sub tx x y ty)(e1:ev sl x=some (iv m))(e2:ev sl y=some (iv l))(hr:m - l=r)(h1: -9223372036854775808≤r)(h2:r≤9223372036854775807):(execOp a.eval o).run P w= .ok (.value (iv r)) w:=by
 have:=bJ (P:=P) (w:=w) h ho e1 e2 rfl
 rw[this,hr,dc h1 h2]
theorem cC{tx ty:TypeId}{x y:Operand}{m l:Int}(r:Int)(h:SL n sl a)(ho:o.op= .binOp .add tx x y ty)(e1:ev sl x=some (iv m))(e2:ev sl y=some (iv l))(hr:m+l=r)(h1: -9223372036854775808≤r)(h2:r≤9223372036854775807):(execOp a.eval o).run P w= .ok (.value (iv r)) w:=by
 have:=bJ (P:=P) (w:=w) h ho e1 e2 rfl
 rw[this,hr,dc h1 h2]
theorem A4{tx ty:TypeId}{x y:Operand}{m l:Int}(r:Int)(h:SL n sl a)(ho:o.op= .binOp .mul tx x y ty)(e1:ev sl x=some (iv m))(e2:ev sl y=some (iv l))(hr:m*l=r)(h1: -9223372036854775808≤r)(h2:r≤9223372036854775807):(execOp a.eval o).run P w= .ok (.value (iv r)) w:=by
 have:=bJ (P:=P) (w:=w) h ho e1 e2 rfl
 rw[this,hr,dc h1 h2]
theorem Ap{tx ty:TypeId}{x:Operand}{j:Nat}(h:SL n sl a)(ho:o.op= .binOp .quo tx x (.const (.int .i64 2)) ty)(e1:ev sl x=some (iv ((j:Int) - 1)))(hj:j≤4611686018427387904):(execOp a.eval o).run P w= .ok (.value (iv ((j - 1) / 2:Nat))) w:=by
 rw[xQ (P:=P) (w:=w) h ho e1 rfl (by decide)]
 have:((j:Int) - 1).tdiv 2=((j - 1) / 2:Nat):=by
  cases j with
  |zero=>rfl
  |succ k=>rw[Int.tdiv_eq_ediv_of_nonneg (by omega)];omega
 rw[this,dc (by omega) (by omega)]
theorem vR{x:Operand}{s t:TypeId}{y:Value}{d:TypeDesc}(h:SL n sl a)(ho:o.op= .typeAssert x s t false)(e:ev sl x=some (.iface t y))(ht:P.underlying t=some d)(hd:∀m,d≠ .interface m):(execOp a.eval o).run P w= .ok (.value y) w:=by
 have:(Instr.typeAssert (.iface t y) s t false).run P w= .ok y w:=by
  cases d<;>first|exact absurd rfl (hd _)|simp[Instr.typeAssert,run_underlying ht]
 simp[execOp,ho,h.ev e,this]
end
theorem s5{ops:Array Oper}{Q:Exit→Act→World→Prop}{i:Nat}{o:Oper}{n:Nat}{sl:aT}{a:Act}{K:Act→World→Prop}{R:Value→World→Prop}(h:SL n sl a)(hi:ops[i]? =some o)(hg:o.guard=none)(hd:dok n o.dst=true)(hr:∃v w',(execOp a.eval o).run P w= .ok (.value v) w'∧R v w')
  (k:∀v w' a',R v w'→SL n (bz o.dst v sl) a'→K a' w'):wpOp P ops Q i K a w:=by
 obtain⟨v,w',h1,h2⟩:=hr
 exact aj h hi hg hd h1 fun a' h'=>k v w' a' h2 h'
theorem y9(G:GT P)(B:GB P){b:Nat}{ys:List Nat}{x:Nat}(hb:HB w R b (ys++ [x]))(hl:ys.length≤1099511627776):Ret P 94 [Ptr b 0] w fun r w'=>r= .iface 3 (iv x)∧Up [10,11] R R w w'∧HB w' R b ys:=by
 obtain⟨v,hv,hx⟩:=hb
 refine aJ B.b94 ?_
 have h0:=SL.init (n:=27) [Ptr b 0] rfl
 (revert h0;generalize({tmps:=_,defers:=[]}:Act)=a;intro h0)
 have hlen:(ivs (ys++ [x])).length=ys.length+1:=by simp
 obtain⟨g,cap,cs,rfl,hc,hg,dR,ht⟩:=hx.mem (by simp)
 have hm:=hx.max
 refine ah (ae ?_)
 (first|refine L h0 rfl rfl (aa h0 (.inl rfl) rfl) fun a h0=>?_|refine L h0 rfl rfl (aa h0 (.inr rfl) rfl) fun a h0=>?_|refine L h0 rfl rfl (ab h0 rfl rfl) fun a h0=>?_)
 refine Le (ah (jE G.mix (by kernel_rfl) ?_))
 have u1:=Up.drew [] R w
 have v1:=hv.up u1 (by decide)
 have g1:=hg.up u1 (by decide)
 have x1:=hx.up u1 (by decide)
 generalize({w with drawn:=w.drawn+1}:World)=w1 at u1 v1 g1 x1 ⊢
 have h0:=h0.keep [0]
 (first|refine T h0 rfl rfl (aa h0 (.inl rfl) rfl) fun a h0=>?_|refine T h0 rfl rfl (aa h0 (.inr rfl) rfl) fun a h0=>?_|refine T h0 rfl rfl (ab h0 rfl rfl) fun a h0=>?_);(first|refine T h0 rfl rfl (aa h0 (.inl rfl) rfl) fun a h0=>?_|refine T h0 rfl rfl (aa h0 (.inr rfl) rfl) fun a h0=>?_|refine T h0 rfl rfl (ab h0 rfl rfl) fun a h0=>?_)
 refine T h0 rfl rfl (ai h0 rfl rfl G.o88 v1.1 rfl) fun a h0=>?_
 (first|refine T h0 rfl rfl (aa h0 (.inl rfl) rfl) fun a h0=>?_|refine T h0 rfl rfl (aa h0 (.inr rfl) rfl) fun a h0=>?_|refine T h0 rfl rfl (ab h0 rfl rfl) fun a h0=>?_);(first|refine T h0 rfl rfl (aa h0 (.inl rfl) rfl) fun a h0=>?_|refine T h0 rfl rfl (aa h0 (.inr rfl) rfl) fun a h0=>?_|refine T h0 rfl rfl (ab h0 rfl rfl) fun a h0=>?_)
 refine T h0 rfl rfl (ai h0 rfl rfl G.o88 v1.1 rfl) fun a h0=>?_
 refine T h0 rfl rfl (ir h0 rfl rfl x1.1 G.u88) fun a h0=>?_
 refine T h0 rfl rfl (iu (ys.length:Nat) h0 rfl rfl rfl (by simp) (by omega) (by omega)) fun a h0=>?_
 refine T h0 rfl rfl (aH h0 rfl rfl rfl G.u88 G.o3 (by simp)) fun a h0=>?_
 refine T h0 rfl rfl (ai (v:=iv x) h0 rfl rfl G.o3 g1.1 (by simpa using gy ht (k:=ys.length) (by simp))) fun a h0=>?_
 (first|refine T h0 rfl rfl (aa h0 (.inl rfl) rfl) fun a h0=>?_|refine T h0 rfl rfl (aa h0 (.inr rfl) rfl) fun a h0=>?_|refine T h0 rfl rfl (ab h0 rfl rfl) fun a h0=>?_)
 refine Te (ah (jy 11 G.mix (by kernel_rfl) ?_))
 have h0:SL 27 [(0,Ptr b 0),(3,iv x)] a:=h0.keep [0,3]
 have u2:=Up.drew [] R w1
 have v2:=v1.up u2 (by decide)
 have g2:=g1.up u2 (by decide)
 have x2:=x1.up u2 (by decide)
 have u:=u1.trans u2
 generalize({w1 with drawn:=w1.drawn+1}:World)=w2 at u2 v2 g2 x2 u ⊢
 (first|refine T h0 rfl rfl (aa h0 (.inl rfl) rfl) fun a h0=>?_|refine T h0 rfl rfl (aa h0 (.inr rfl) rfl) fun a h0=>?_|refine T h0 rfl rfl (ab h0 rfl rfl) fun a h0=>?_);(first|refine T h0 rfl rfl (aa h0 (.inl rfl) rfl) fun a h0=>?_|refine T h0 rfl rfl (aa h0 (.inr rfl) rfl) fun a h0=>?_|refine T h0 rfl rfl (ab h0 rfl rfl) fun a h0=>?_);(first|refine T h0 rfl rfl (aa h0 (.inl rfl) rfl) fun a h0=>?_|refine T h0 rfl rfl (aa h0 (.inr rfl) rfl) fun a h0=>?_|refine T h0 rfl rfl (ab h0 rfl rfl) fun a h0=>?_)
 refine T h0 rfl rfl (ai h0 rfl rfl G.o88 v2.1 rfl) fun a h0=>?_
 (first|refine T h0 rfl rfl (aa h0 (.inl rfl) rfl) fun a h0=>?_|refine T h0 rfl rfl (aa h0 (.inr rfl) rfl) fun a h0=>?_|refine T h0 rfl rfl (ab h0 rfl rfl) fun a h0=>?_);(first|refine T h0 rfl rfl (aa h0 (.inl rfl) rfl) fun a h0=>?_|refine T h0 rfl rfl (aa h0 (.inr rfl) rfl) fun a h0=>?_|refine T h0 rfl rfl (ab h0 rfl rfl) fun a h0=>?_)
 refine T h0 rfl rfl (ai h0 rfl rfl G.o88 v2.1 rfl) fun a h0=>?_
 refine T h0 rfl rfl (ir h0 rfl rfl x2.1 G.u88) fun a h0=>?_
 refine T h0 rfl rfl (iu (ys.length:Nat) h0 rfl rfl rfl (by simp) (by omega) (by omega)) fun a h0=>?_
 refine T h0 rfl rfl (ym h0 rfl rfl rfl G.u88 G.o3 (by simp) hc) fun a h0=>?_
 (first|refine T h0 rfl rfl (aa h0 (.inl rfl) rfl) fun a h0=>?_|refine T h0 rfl rfl (aa h0 (.inr rfl) rfl) fun a h0=>?_|refine T h0 rfl rfl (ab h0 rfl rfl) fun a h0=>?_)
 refine Te (Ls h0 rfl rfl (fJ h0 rfl rfl rfl G.o88 rfl rfl v2.1 (by simp) (by omega)) fun h0=>?_)
 obtain⟨v3,u3⟩:=v2.set 0 (.slice (some ⟨g,0,none⟩) ys.length cap)
 have g3:=g2.up u3 (by decide)
 refine Le (ah (ae ?_))
 (first|refine L h0 rfl rfl (aa h0 (.inl rfl) rfl) fun a h0=>?_|refine L h0 rfl rfl (aa h0 (.inr rfl) rfl) fun a h0=>?_|refine L h0 rfl rfl (ab h0 rfl rfl) fun a h0=>?_)
 refine L h0 rfl rfl (mO h0 rfl rfl G.u3 (by simp)) fun a h0=>?_
 (first|refine L h0 rfl rfl (aa h0 (.inl rfl) rfl) fun a h0=>?_|refine L h0 rfl rfl (aa h0 (.inr rfl) rfl) fun a h0=>?_|refine L h0 rfl rfl (ab h0 rfl rfl) fun a h0=>?_)
 refine Le (aP (cH h0 rfl ⟨rfl,(u.mono (by simp)).trans (u3.mono (by simp)),_,v3,?_⟩))
 have:=Ow.of (xs:=ivs ys) g3 (by simpa using dR) (by simp at hc ⊢;omega) hm (by
  have h1:=congrArg (List.take ys.length) ht
  rw[List.take_take,hlen,show min ys.length (ys.length+1)=ys.length by omega]at h1
  simpa using h1)
 simpa using this
theorem qd(G:GT P){b x g2:Nat}(hv:Cl w R 10 b 88 [v])(hx:Ow w R 11 3 v (ivs xs))(hg:w.heap[g2]? =some (.cells #[iv x] 3 (0,0)))(hl:xs.length≤1000000000000){Q:Exit→Act→World→Prop}
  (k:∀(a:Act) w' R',a.defers=[]→Up [10,11] R R' w w'→HB w' R' b (xs++ [x])→Q .normal a w'):
  ∀(a:Act),SL 13 [(4,Ptr b 0),(7,v),(10,.slice (some ⟨g2,0,none⟩) 1 1)] a→wpAny P .any (rI c95).toArray Q 3 #[true,true,true,true,true,true,true,false,false,false] a w:=by
 intro a h0
 refine Y1 7 (by kernel_rfl) (s5 h0 rfl rfl rfl (mN h0 rfl rfl rfl G.u88 G.o3 hx.1 hg rfl (by simpa using by omega)) fun v' w' a hr h0=>?_)
 obtain⟨ho,a8,hn⟩:=hr
 obtain⟨x2,u2⟩:=hx.app ho a8 hn
 have v2:=hv.up u2 (by decide)
 refine Y1 8 (by kernel_rfl) (aj h0 rfl rfl rfl (ab h0 rfl rfl) fun a h0=>?_)
 refine Y1 9 (by kernel_rfl) (eQ h0 rfl rfl rfl (fJ h0 rfl rfl rfl G.o88 (by rcases ho.2 with⟨rfl,_⟩|⟨_,_,_,rfl,_⟩<;>rfl) (by rcases ho.2 with⟨rfl,_⟩|⟨_,_,_,rfl,_⟩<;>rfl) v2.1 (by simp) (by omega)) fun h0=>?_)
 obtain⟨v3,u3⟩:=v2.set 0 v'
 have x3:=x2.up u3 (by decide)
 refine Ye (by kernel_rfl) (k _ _ _ h0.defers ((u2.mono (by simp)).trans (u3.mono (by simp))) ⟨v',v3,?_⟩)
 simpa using x3
theorem xq(G:GT P)(B:GB P){b x:Nat}(hb:HB w R b xs)(hl:xs.length≤1000000000000):Ret P 95 [Ptr b 0,.iface 3 (iv x)] w fun r w'=>r= .tuple #[]∧∃R',Up [10,11] R R' w w'∧HB w' R' b (xs++ [x]):=by
 obtain⟨v,hv,hx⟩:=hb
 refine aJ B.b95 ?_
 have h0:=SL.init (n:=13) [Ptr b 0,.iface 3 (iv x)] rfl
 (revert h0;generalize({tmps:=_,defers:=[]}:Act)=a;intro h0)
 refine eW 10 rfl G.mix ?_
 have u1:=Up.drew [] R w
 have v1:=hv.up u1 (by decide)
 have x1:=hx.up u1 (by decide)
 generalize({w with drawn:=w.drawn+1}:World)=w1 at u1 v1 x1 ⊢
 (first|refine Y (i:=0) h0 rfl rfl rfl (by kernel_rfl) (by kernel_rfl) (by kernel_rfl) (fun _ _ _ h=>h) (fun w=>aa h0 (.inl rfl) rfl) fun a h0=>?_|refine Y (i:=0) h0 rfl rfl rfl (by kernel_rfl) (by kernel_rfl) (by kernel_rfl) (fun _ _ _ h=>h) (fun w=>aa h0 (.inr rfl) rfl) fun a h0=>?_|refine Y (i:=0) h0 rfl rfl rfl (by kernel_rfl) (by kernel_rfl) (by kernel_rfl) (fun _ _ _ h=>h) (fun w=>ab h0 rfl rfl) fun a h0=>?_)
 (first|refine Y (i:=1) h0 rfl rfl rfl (by kernel_rfl) (by kernel_rfl) (by kernel_rfl) (fun _ _ _ h=>h) (fun w=>aa h0 (.inl rfl) rfl) fun a h0=>?_|refine Y (i:=1) h0 rfl rfl rfl (by kernel_rfl) (by kernel_rfl) (by kernel_rfl) (fun _ _ _ h=>h) (fun w=>aa h0 (.inr rfl) rfl) fun a h0=>?_|refine Y (i:=1) h0 rfl rfl rfl (by kernel_rfl) (by kernel_rfl) (by kernel_rfl) (fun _ _ _ h=>h) (fun w=>ab h0 rfl rfl) fun a h0=>?_)
 (first|refine Y (i:=2) h0 rfl rfl rfl (by kernel_rfl) (by kernel_rfl) (by kernel_rfl) (fun _ _ _ h=>h) (fun w=>aa h0 (.inl rfl) rfl) fun a h0=>?_|refine Y (i:=2) h0 rfl rfl rfl (by kernel_rfl) (by kernel_rfl) (by kernel_rfl) (fun _ _ _ h=>h) (fun w=>aa h0 (.inr rfl) rfl) fun a h0=>?_|refine Y (i:=2) h0 rfl rfl rfl (by kernel_rfl) (by kernel_rfl) (by kernel_rfl) (fun _ _ _ h=>h) (fun w=>ab h0 rfl rfl) fun a h0=>?_)
 (first|refine Y (i:=4) h0 rfl rfl rfl (by kernel_rfl) (by kernel_rfl) (by kernel_rfl) (fun _ _ _ h=>h) (fun w=>aa h0 (.inl rfl) rfl) fun a h0=>?_|refine Y (i:=4) h0 rfl rfl rfl (by kernel_rfl) (by kernel_rfl) (by kernel_rfl) (fun _ _ _ h=>h) (fun w=>aa h0 (.inr rfl) rfl) fun a h0=>?_|refine Y (i:=4) h0 rfl rfl rfl (by kernel_rfl) (by kernel_rfl) (by kernel_rfl) (fun _ _ _ h=>h) (fun w=>ab h0 rfl rfl) fun a h0=>?_)
 refine Y (i:=5) h0 rfl rfl rfl (by kernel_rfl) (by kernel_rfl) (by kernel_rfl) (fun _ _ _ h=>h) (fun w=>vR h0 rfl rfl G.u3 (by simp)) fun a h0=>?_
 have u2:=Up.alloc [] R w1 (.cells #[iv x] 3) 99
 have v2:=v1.up u2 (by decide)
 have x2:=x1.up u2 (by decide)
 refine Y2 3 6 (by kernel_rfl) (aj h0 rfl rfl rfl (ai h0 rfl rfl G.o88 v1.1 rfl) fun a h0=>?_) (aj h0 rfl rfl rfl (dW h0 rfl rfl G.u88 G.o3 rfl) fun a h0=>?_)
 ·refine Y1 6 (by kernel_rfl) (aj h0 rfl rfl rfl (dW h0 rfl rfl G.u88 G.o3 rfl) fun a h0=>?_)
  exact qd G v2 x2 (heap_alloc_new _ _) hl (fun a w' R' hd h1 h2=>⟨hd,.tuple #[],⟨[],rfl,rfl⟩,rfl,R',(u1.mono (by simp)).trans ((u2.mono (by simp)).trans h1),h2⟩) _ (h0.keep [4,7,10])
 ·refine Y1 3 (by kernel_rfl) (aj h0 rfl rfl rfl (ai h0 rfl rfl G.o88 v2.1 rfl) fun a h0=>?_)
  exact qd G v2 x2 (heap_alloc_new _ _) hl (fun a w' R' hd h1 h2=>⟨hd,.tuple #[],⟨[],rfl,rfl⟩,rfl,R',(u1.mono (by simp)).trans ((u2.mono (by simp)).trans h1),h2⟩) _ (h0.keep [4,7,10])
end Go.TL.H.Gq
