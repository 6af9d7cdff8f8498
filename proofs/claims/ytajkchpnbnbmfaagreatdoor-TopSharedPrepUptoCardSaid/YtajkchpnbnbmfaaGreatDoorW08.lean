/- The functions that see a number. -/
import Derived.Test.YtajkchpnbnbmfaaGreatDoorW07
import Derived.KernelRfl
namespace Go.TL.H
open Go
abbrev eD (n : Nat) : Edge := ⟨n,.data⟩
abbrev eP (n : Nat) : Edge := ⟨n,.phase⟩
abbrev eC (n : Nat) : Edge := ⟨n,.chain⟩
abbrev p1 (d : Nat) (p : Op) : Oper := ⟨some d,p,0, "", #[],none⟩
abbrev p0 (p : Op) : Oper := ⟨none,p,0, "", #[],none⟩
abbrev q1 (d : Nat) (p : Op) (af : List Edge) : Oper := ⟨some d,p,0, "",af.toArray,none⟩
abbrev q0 (p : Op) (af : List Edge) : Oper := ⟨none,p,0, "",af.toArray,none⟩
abbrev pt (d : Nat) (p : Op) (ty : TypeId) : Oper := ⟨some d,p,ty, "", #[],none⟩
abbrev qt (d : Nat) (p : Op) (ty : TypeId) (af : List Edge) : Oper := ⟨some d,p,ty, "",af.toArray,none⟩
abbrev rg (l : List Oper) : Code := .region 0 l.toArray false
abbrev rd (l : List Oper) : Code := .region 0 l.toArray true
abbrev t (n : Nat) : Operand := .tmp n
abbrev ci (n : Int) : Operand := .const (.int .i64 n)
abbrev Ptr (b o : Nat) : Value := .pointer (some ⟨b,o,none⟩)
abbrev eZ (x : Operand) (T : TypeId) : Op := .call ⟨.builtin .len, #[x], #[T]⟩
abbrev ko (x y : Operand) (T : TypeId) : Op := .call ⟨.builtin .append, #[x,y], #[T,T]⟩
theorem pD {P : Program} {n : Nat} {sl : cj} {a : Act} {w : World} {R : Value → World → Prop} (h : SL n sl a) (hR : R (.tuple #[]) w) : fin P [] R .normal a w := ⟨h.defers,.tuple #[],⟨[],rfl,rfl⟩,hR⟩
def xQ (y : TY) (T : TypeId) : List Oper :=
 [q1 21 (.move (t 0)) [],q1 22 (.move (t 0)) [],q1 23 (.nilCheck (t 22)) [eD 1],q1 24 (.fieldAddr y.E (t 23) 0) [eD 2],q1 25 (.load y.NL (t 24)) [eD 3],
  q1 26 (.move (t 1)) [],q1 27 (.nilCheck (t 26)) [eD 5],q1 28 (.load T (t 27)) [eD 6],q1 29 (.buildSlice y.NL 1 #[(0,t 28)]) [eD 7],qt 30 (ko (t 25) (t 29) y.NL) y.NL [eD 4,eD 8],
  q1 31 (.nilCheck (t 21)) [eD 0,eP 0,eP 1,eP 2,eP 3,eP 4,eP 5,eP 6,eP 7,eP 8,eP 9],
  q1 32 (.fieldAddr y.E (t 31) 0) [eD 10,eP 0,eP 1,eP 2,eP 3,eP 4,eP 5,eP 6,eP 7,eP 8,eP 9],
  q0 (.store y.NL (t 32) (t 30)) [eD 11,eD 9,eC 9,eP 0,eP 1,eP 2,eP 3,eP 4,eP 5,eP 6,eP 7,eP 8,eP 9]]
theorem vK {P : Program} {y : TY} (K : Kit P y) {mark room : Bool} {a : Act} {w : World} {be pb po : Nat} {vn vs : Value} {e : Eye} {c : aP} {T : TypeId} {z : Value} {cs : Array Value} {bt : TypeId} {fz : Nat × Nat} {x : Int} {Q : Exit → Act → World → Prop}
  (hsl : SL 33 [(0,Ptr be 0),(1,Ptr pb po)] a) (hE : bX y w be vn vs e mark room) (hz : Zn c w) (hd : ∀ b,EB be vn vs b → c b = none) (hT : One P T z) (hpb : c pb = some (.cells cs bt fz)) (hpo : cs[po]? = some (.int .i64 x)) (hb : Bd 1 e.n.length e.s.length)
  (hQ : ∀ c a w,Q (.panic c) a w → False)
  (k : ∀ a' w' v',SL 33 [] a' → bh y mark room 1 true (fun a b => b = { a with n := a.n ++ [x] }) w be vn vs e c w' v' vs { e with n := e.n ++ [x] } c → Q .normal a' w') : NW P (rd (xQ y T)) Q a w := by
 refine uu 13 rfl K.mixed ?_
 obtain ⟨tt,ht⟩ := hE.cell
 have hwp := hz pb _ hpb
 have last : ∀ (w1 : World) (a : Act) (listed : Array Bool),Ch (fun _ => False) w w1 → w1.heap[w.heap.size]? = some (.cells #[.int .i64 x] y.I (0,0)) →
   listed = #[true,true,true,true,true,true,true,true,true,false,false,false,false] →
   SL 33 [(21,Ptr be 0),(25,vn),(29,.slice (some ⟨w.heap.size,0,none⟩) 1 1)] a → wpAny P .any (xQ y T).toArray Q 4 listed a w1 := by
  rintro w1 a listed h1 hnew rfl hs
  have hp := hb.phi
  have hpl := rA e.n.length
  obtain ⟨v',w2,hr,ho,hch,hv'⟩ := Ae (o := qt 30 (ko (t 25) (t 29) y.NL) y.NL [eD 4,eD 8]) (w := w1) hs rfl rfl rfl K.nlU K.i (h1.ownsRow hE.n fun _ _ h => h) hnew rfl K.i16 (by omega)
  obtain ⟨⟨t2,ht2⟩,hpost⟩ := A3 hE hz hd h1 ho hch hv'
  refine Y1 9 (by kernel_rfl) (bp hs rfl rfl rfl hr fun a hs => ?_)
  refine Y1 10 (by kernel_rfl) (bp hs rfl rfl rfl (bB hs rfl rfl) fun a hs => ?_)
  refine Y1 11 (by kernel_rfl) (bp hs rfl rfl rfl (bE hs rfl rfl K.e0) fun a hs => ?_)
  refine Y1 12 (by kernel_rfl) (rr hs rfl rfl rfl (np hs rfl rfl rfl K.nl (by rcases ho.2 with ⟨rfl,_⟩ | ⟨g,cap,cur,rfl,_⟩ <;> rfl) (by rcases ho.2 with ⟨rfl,_⟩ | ⟨g,cap,cur,rfl,_⟩ <;> rfl) ht2 (by simp [ai]) (by simp)) fun hs => ?_)
  refine Ye (by kernel_rfl) (k _ _ v' (hs.keep []) hpost)
 have hc25 : (ai vn vs e.at' mark room)[0]? = some vn := rfl
 refine Y (i := 0) hsl rfl rfl rfl (by kernel_rfl) (by kernel_rfl) (by kernel_rfl) hQ (fun w => ah hsl (.inl rfl) rfl) fun a hs => ?_
 refine Y (i := 1) hs rfl rfl rfl (by kernel_rfl) (by kernel_rfl) (by kernel_rfl) hQ (fun w => ah hs (.inl rfl) rfl) fun a hs => ?_
 refine Y (i := 2) hs rfl rfl rfl (by kernel_rfl) (by kernel_rfl) (by kernel_rfl) hQ (fun w => bB hs rfl rfl) fun a hs => ?_
 refine Y (i := 3) hs rfl rfl rfl (by kernel_rfl) (by kernel_rfl) (by kernel_rfl) hQ (fun w => bE hs rfl rfl K.e0) fun a hs => ?_
 refine Y (i := 5) hs rfl rfl rfl (by kernel_rfl) (by kernel_rfl) (by kernel_rfl) hQ (fun w => ah hs (.inl rfl) rfl) fun a hs => ?_
 refine Y (i := 6) hs rfl rfl rfl (by kernel_rfl) (by kernel_rfl) (by kernel_rfl) hQ (fun w => bB hs rfl rfl) fun a hs => ?_
 have key : ∀ (w0 : World),w0.heap = w.heap → w0.os = w.os → w0.tape = w.tape → w0.output = w.output → Ch (fun _ => False) w (w0.alloc (.cells #[.int .i64 x] y.I)) ∧ (w0.alloc (.cells #[.int .i64 x] y.I)).heap[w.heap.size]? = some (.cells #[.int .i64 x] y.I (0,0)) := by
  intro w0 e1 e2 e3 e4
  have h1 := Ch.alloc (fun _ => False) w0 (.cells #[.int .i64 x] y.I)
  exact ⟨⟨h1.os.trans e2,h1.tape.trans e3,h1.output.trans e4,by rw [← e1]; exact h1.size,fun b hb hn => by rw [h1.keep b (by rw [e1]; exact hb) hn,e1]⟩,by rw [← e1]; exact heap_alloc_new w0 _⟩
 obtain ⟨g1,g2⟩ := key { w with drawn := w.drawn + 1 } rfl rfl rfl rfl
 refine Y2 4 7 (by kernel_rfl) (bp hs rfl rfl rfl (bG hs rfl rfl K.nl (w := { w with drawn := w.drawn + 1 }) ht hc25) fun a hs => ?_) (bp hs rfl rfl rfl (bG hs rfl rfl hT (w := { w with drawn := w.drawn + 1 }) hwp hpo) fun a hs => ?_)
 ·refine Y1 7 (by kernel_rfl) (bp hs rfl rfl rfl (bG hs rfl rfl hT (w := { w with drawn := w.drawn + 1 }) hwp hpo) fun a hs => ?_)
  refine Y1 8 (by kernel_rfl) (bp hs rfl rfl rfl (gU hs rfl rfl K.nlU K.i rfl) fun a hs => ?_)
  exact last _ _ _ g1 g2 (by kernel_rfl) (hs.keep [21,25,29])
 ·refine Y2 4 8 (by kernel_rfl) (bp hs rfl rfl rfl (bG hs rfl rfl K.nl (w := { w with drawn := w.drawn + 1 }) ht hc25) fun a hs => ?_) (bp hs rfl rfl rfl (gU hs rfl rfl K.nlU K.i rfl) fun a hs => ?_)
  ·refine Y1 8 (by kernel_rfl) (bp hs rfl rfl rfl (gU hs rfl rfl K.nlU K.i rfl) fun a hs => ?_)
   exact last _ _ _ g1 g2 (by kernel_rfl) (hs.keep [21,25,29])
  ·refine Y1 4 (by kernel_rfl) (bp hs rfl rfl rfl (bG hs rfl rfl K.nl (g1.at ht fun h => h) hc25) fun a hs => ?_)
   exact last _ _ _ g1 g2 (by kernel_rfl) (hs.keep [21,25,29])
end Go.TL.H
namespace Go.TL.H
open Go
def xR (y : TY) (T : TypeId) : List Oper :=
 [q1 37 (.move (t 0)) [],q1 38 (.move (t 0)) [],q1 39 (.nilCheck (t 38)) [eD 1],q1 40 (.fieldAddr y.E (t 39) 1) [eD 2],q1 41 (.load y.SS (t 40)) [eD 3],
  q1 42 (.move (t 1)) [],q1 43 (.nilCheck (t 42)) [eD 5],q1 44 (.load T (t 43)) [eD 6],q1 45 (.buildSlice y.SS 1 #[(0,t 44)]) [eD 7],qt 46 (ko (t 41) (t 45) y.SS) y.SS [eD 4,eD 8],
  q1 47 (.nilCheck (t 37)) [eD 0,eP 0,eP 1,eP 2,eP 3,eP 4,eP 5,eP 6,eP 7,eP 8,eP 9],
  q1 48 (.fieldAddr y.E (t 47) 1) [eD 10,eP 0,eP 1,eP 2,eP 3,eP 4,eP 5,eP 6,eP 7,eP 8,eP 9],
  q0 (.store y.SS (t 48) (t 46)) [eD 11,eD 9,eC 9,eP 0,eP 1,eP 2,eP 3,eP 4,eP 5,eP 6,eP 7,eP 8,eP 9]]
theorem vL {P : Program} {y : TY} (K : Kit P y) {mark room : Bool} {a : Act} {w : World} {be pb po : Nat} {vn vs : Value} {e : Eye} {c : aP} {T : TypeId} {z : Value} {cs : Array Value} {bt : TypeId} {fz : Nat × Nat} {x : ByteArray} {Q : Exit → Act → World → Prop}
  (hsl : SL 49 [(0,Ptr be 0),(1,Ptr pb po)] a) (hE : bX y w be vn vs e mark room) (hz : Zn c w) (hd : ∀ b,EB be vn vs b → c b = none) (hT : One P T z) (hpb : c pb = some (.cells cs bt fz)) (hpo : cs[po]? = some (.string x)) (hb : Bd 1 e.n.length e.s.length)
  (hQ : ∀ c a w,Q (.panic c) a w → False)
  (k : ∀ a' w' v',SL 49 [] a' → bh y mark room 1 false (fun a b => b = { a with s := a.s ++ [x] }) w be vn vs e c w' vn v' { e with s := e.s ++ [x] } c → Q .normal a' w') : NW P (rd (xR y T)) Q a w := by
 refine uu 13 rfl K.mixed ?_
 obtain ⟨tt,ht⟩ := hE.cell
 have hwp := hz pb _ hpb
 have last : ∀ (w1 : World) (a : Act) (listed : Array Bool),Ch (fun _ => False) w w1 → w1.heap[w.heap.size]? = some (.cells #[.string x] y.S (0,0)) →
   listed = #[true,true,true,true,true,true,true,true,true,false,false,false,false] →
   SL 49 [(37,Ptr be 0),(41,vs),(45,.slice (some ⟨w.heap.size,0,none⟩) 1 1)] a → wpAny P .any (xR y T).toArray Q 4 listed a w1 := by
  rintro w1 a listed h1 hnew rfl hs
  have hp := hb.str
  obtain ⟨v',w2,hr,ho,hch,hv'⟩ := Ae (o := qt 46 (ko (t 41) (t 45) y.SS) y.SS [eD 4,eD 8]) (w := w1) hs rfl rfl rfl K.ssU K.s (h1.ownsRow hE.s fun _ _ h => h) hnew rfl K.s16 (by omega)
  obtain ⟨⟨t2,ht2⟩,hpost⟩ := OM hE hz hd h1 ho hch hv'
  refine Y1 9 (by kernel_rfl) (bp hs rfl rfl rfl hr fun a hs => ?_)
  refine Y1 10 (by kernel_rfl) (bp hs rfl rfl rfl (bB hs rfl rfl) fun a hs => ?_)
  refine Y1 11 (by kernel_rfl) (bp hs rfl rfl rfl (bE hs rfl rfl K.e1) fun a hs => ?_)
  refine Y1 12 (by kernel_rfl) (rr hs rfl rfl rfl (np hs rfl rfl rfl K.ss (by rcases ho.2 with ⟨rfl,_⟩ | ⟨g,cap,cur,rfl,_⟩ <;> rfl) (by rcases ho.2 with ⟨rfl,_⟩ | ⟨g,cap,cur,rfl,_⟩ <;> rfl) ht2 (by simp [ai]) (by simp)) fun hs => ?_)
  refine Ye (by kernel_rfl) (k _ _ v' (hs.keep []) hpost)
 have hc25 : (ai vn vs e.at' mark room)[1]? = some vs := rfl
 refine Y (i := 0) hsl rfl rfl rfl (by kernel_rfl) (by kernel_rfl) (by kernel_rfl) hQ (fun w => ah hsl (.inl rfl) rfl) fun a hs => ?_
 refine Y (i := 1) hs rfl rfl rfl (by kernel_rfl) (by kernel_rfl) (by kernel_rfl) hQ (fun w => ah hs (.inl rfl) rfl) fun a hs => ?_
 refine Y (i := 2) hs rfl rfl rfl (by kernel_rfl) (by kernel_rfl) (by kernel_rfl) hQ (fun w => bB hs rfl rfl) fun a hs => ?_
 refine Y (i := 3) hs rfl rfl rfl (by kernel_rfl) (by kernel_rfl) (by kernel_rfl) hQ (fun w => bE hs rfl rfl K.e1) fun a hs => ?_
 refine Y (i := 5) hs rfl rfl rfl (by kernel_rfl) (by kernel_rfl) (by kernel_rfl) hQ (fun w => ah hs (.inl rfl) rfl) fun a hs => ?_
 refine Y (i := 6) hs rfl rfl rfl (by kernel_rfl) (by kernel_rfl) (by kernel_rfl) hQ (fun w => bB hs rfl rfl) fun a hs => ?_
 have key : ∀ (w0 : World),w0.heap = w.heap → w0.os = w.os → w0.tape = w.tape → w0.output = w.output → Ch (fun _ => False) w (w0.alloc (.cells #[.string x] y.S)) ∧ (w0.alloc (.cells #[.string x] y.S)).heap[w.heap.size]? = some (.cells #[.string x] y.S (0,0)) := by
  intro w0 e1 e2 e3 e4
  have h1 := Ch.alloc (fun _ => False) w0 (.cells #[.string x] y.S)
  exact ⟨⟨h1.os.trans e2,h1.tape.trans e3,h1.output.trans e4,by rw [← e1]; exact h1.size,fun b hb hn => by rw [h1.keep b (by rw [e1]; exact hb) hn,e1]⟩,by rw [← e1]; exact heap_alloc_new w0 _⟩
 obtain ⟨g1,g2⟩ := key { w with drawn := w.drawn + 1 } rfl rfl rfl rfl
 refine Y2 4 7 (by kernel_rfl) (bp hs rfl rfl rfl (bG hs rfl rfl K.ss (w := { w with drawn := w.drawn + 1 }) ht hc25) fun a hs => ?_) (bp hs rfl rfl rfl (bG hs rfl rfl hT (w := { w with drawn := w.drawn + 1 }) hwp hpo) fun a hs => ?_)
 ·refine Y1 7 (by kernel_rfl) (bp hs rfl rfl rfl (bG hs rfl rfl hT (w := { w with drawn := w.drawn + 1 }) hwp hpo) fun a hs => ?_)
  refine Y1 8 (by kernel_rfl) (bp hs rfl rfl rfl (gU hs rfl rfl K.ssU K.s rfl) fun a hs => ?_)
  exact last _ _ _ g1 g2 (by kernel_rfl) (hs.keep [37,41,45])
 ·refine Y2 4 8 (by kernel_rfl) (bp hs rfl rfl rfl (bG hs rfl rfl K.ss (w := { w with drawn := w.drawn + 1 }) ht hc25) fun a hs => ?_) (bp hs rfl rfl rfl (gU hs rfl rfl K.ssU K.s rfl) fun a hs => ?_)
  ·refine Y1 8 (by kernel_rfl) (bp hs rfl rfl rfl (gU hs rfl rfl K.ssU K.s rfl) fun a hs => ?_)
   exact last _ _ _ g1 g2 (by kernel_rfl) (hs.keep [37,41,45])
  ·refine Y1 4 (by kernel_rfl) (bp hs rfl rfl rfl (bG hs rfl rfl K.ss (g1.at ht fun h => h) hc25) fun a hs => ?_)
   exact last _ _ _ g1 g2 (by kernel_rfl) (hs.keep [37,41,45])
end Go.TL.H
namespace Go.TL.H
open Go
def Out (y : TY) (mark room : Bool) (K : Nat) (hn : Bool) (Sr : Eye → Eye → Prop) (w : World) (be : Nat) (vn vs : Value) (e : Eye) (c : aP) : Value → World → Prop := fun v w' =>
 v = .tuple #[] ∧ ∃ vn' vs' e' c',bh y mark room K hn Sr w be vn vs e c w' vn' vs' e' c'
theorem yU (n : Int) : IntKind.i64.min ≤ IntKind.wrap .i64 n ∧ IntKind.wrap .i64 n ≤ IntKind.i64.max := by
 have h := vH n
 have e1 : IntKind.i64.min = -9223372036854775808 := by decide
 have e2 : IntKind.i64.max = 9223372036854775807 := by decide
 omega
def A4 (y : TY) (T : TypeId) : Code :=
 .seq (.seq (rg [p1 4 (.move (t 0)),p1 5 (.nilCheck (t 4)),p1 6 (.fieldAddr y.E (t 5) 2),p1 7 (.load y.B (t 6))])
  (.cond (t 7) (.seq
   (rg [p1 8 (.move (t 0)),p1 9 (.nilCheck (t 8)),p1 10 (.fieldAddr y.E (t 9) 3),p1 11 (.load y.I (t 10)),p1 12 (.binOp .add y.I (t 11) (ci 1) y.I),p1 13 (.nilCheck (t 8)),p1 14 (.fieldAddr y.E (t 13) 3),p0 (.store y.I (t 14) (t 12))])
   (rg [p1 15 (.move (t 1)),p1 16 (.move (t 0)),p1 17 (.nilCheck (t 16)),p1 18 (.fieldAddr y.E (t 17) 3),p1 19 (.load y.I (t 18)),p1 20 (.nilCheck (t 15)),p0 (.store T (t 20) (t 19))])) .skip))
  (rd (xQ y T))
theorem ON {P : Program} {y : TY} (K : Kit P y) {f : FuncId} {T : TypeId} {z : Value} (hB : Body P f 33 [] (A4 y T)) (hT : One P T z) {mark room wr : Bool} {w : World} {d be pb po : Nat} {vn vs : Value} {e : Eye} {c : aP}
  (hE : bX y w be vn vs e mark room) (hz : Zn c w) (hd : ∀ b,EB be vn vs b → c b = none) (hp : Pl P wr room c d pb po (.int .i64)) (hmw : mark = true → wr = true) (hb : Bd 1 e.n.length e.s.length) :
  Ret P f [Ptr be 0,Ptr pb po] w (Out y mark room 1 true (fun a b => ∃ x,pl c pb po = some (.int .i64 x) ∧ b = { a with n := a.n ++ [x] }) w be vn vs e c) := by
 refine bW hB ?_
 have hs := SL.init (n := 33) [Ptr be 0,Ptr pb po] rfl
 revert hs
 generalize ({ tmps := _,defers := [] } : Act) = a
 intro hs
 obtain ⟨tt,ht⟩ := hE.cell
 obtain ⟨cs,bt,fz,v,hpb,hpo,hv,hfz,_⟩ := hp
 obtain ⟨x,rfl⟩ : ∃ x,v = .int .i64 x := by cases hv with | int _ _ x => exact ⟨x,rfl⟩
 refine ae (ae (aa ?_))
 refine L hs rfl rfl (ah hs (.inl rfl) rfl) fun a hs => ?_
 refine L hs rfl rfl (bB hs rfl rfl) fun a hs => ?_
 refine L hs rfl rfl (bE hs rfl rfl K.e2) fun a hs => ?_
 refine L hs rfl rfl (bG hs rfl rfl K.b ht (v := .bool mark) rfl) fun a hs => ?_
 refine Le (br (t := mark) (hs.ev rfl) (fun hm => ?_) fun hm => ?_)
 ·subst hm
  refine ae (aa ?_)
  refine L hs rfl rfl (ah hs (.inl rfl) rfl) fun a hs => ?_
  refine L hs rfl rfl (bB hs rfl rfl) fun a hs => ?_
  refine L hs rfl rfl (bE hs rfl rfl K.e3) fun a hs => ?_
  refine L hs rfl rfl (bG hs rfl rfl K.i ht (v := .int .i64 e.at') rfl) fun a hs => ?_
  refine L hs rfl rfl (b9 hs rfl rfl rfl rfl) fun a hs => ?_
  refine L hs rfl rfl (bB hs rfl rfl) fun a hs => ?_
  refine L hs rfl rfl (bE hs rfl rfl K.e3) fun a hs => ?_
  refine Ls hs rfl rfl (np hs rfl rfl rfl K.i rfl rfl ht (by simp [ai]) (by simp)) fun hs => ?_
  have q1 := HK (x := IntKind.wrap .i64 (e.at' + 1)) hE hz hd rfl
  obtain ⟨tt1,ht1⟩ := q1.eye.cell
  refine Le (aa ?_)
  refine L hs rfl rfl (ah hs (.inl rfl) rfl) fun a hs => ?_
  refine L hs rfl rfl (ah hs (.inl rfl) rfl) fun a hs => ?_
  refine L hs rfl rfl (bB hs rfl rfl) fun a hs => ?_
  refine L hs rfl rfl (bE hs rfl rfl K.e3) fun a hs => ?_
  refine L hs rfl rfl (bG hs rfl rfl K.i ht1 (v := .int .i64 (IntKind.wrap .i64 (e.at' + 1))) rfl) fun a hs => ?_
  refine L hs rfl rfl (bB hs rfl rfl) fun a hs => ?_
  have hlt := (Array.getElem?_eq_some_iff.1 hpo).1
  obtain rfl := hfz (hmw rfl)
  refine Ls hs rfl rfl (np hs rfl rfl rfl hT rfl rfl (q1.zn pb _ hpb) hlt (by simp)) fun hs => ?_
  have q2 := vJ (Sr := fun _ _ => True) (v := .int .i64 (IntKind.wrap .i64 (e.at' + 1))) q1.eye q1.zn q1.dis hpb hpo (.inr (.inl ⟨.i64,x,_,rfl,rfl,(yU _).1,(yU _).2⟩)) (fun h => by cases h)
  have hpb2 : stZ c pb po (.int .i64 (IntKind.wrap .i64 (e.at' + 1))) pb = some (.cells (cs.setIfInBounds po (.int .i64 (IntKind.wrap .i64 (e.at' + 1)))) bt (0,0)) := by simp [stZ,hpb]
  refine Le (vK K (hs.keep [0,1]) q2.eye q2.zn q2.dis hT hpb2 (x := IntKind.wrap .i64 (e.at' + 1)) (by simp [hlt]) hb (fun _ _ _ h => h) fun a w' v' hs hP => ?_)
  exact pD hs ⟨rfl,_,_,_,_,(q1.trans (S := fun _ _ => True) (q2.trans (S := fun _ _ => True) hP fun h => (by cases h)) fun h => (by cases h)).S fun h => (by cases h)⟩
 ·subst hm
  refine bA (vK K (hs.keep [0,1]) hE hz hd hT hpb hpo hb (fun _ _ _ h => h) fun a w' v' hs hP => ?_)
  exact pD hs ⟨rfl,_,_,_,_,hP.S fun _ h => ⟨x,by simp only [pl,hpb]; exact hpo,h⟩⟩
def OO (y : TY) : Code :=
 .seq (rd [q1 5 (.move (t 1)) [],q1 6 (.move (t 1)) [],q1 7 (.nilCheck (t 6)) [eD 1],q1 8 (.load y.B (t 7)) [eD 2],q1 9 (.move (t 0)) [],q1 10 (.nilCheck (t 9)) [eD 4],q1 11 (.fieldAddr y.E (t 10) 2) [eD 5],q1 12 (.load y.B (t 11)) [eD 6],
   q1 13 (.binOp .neq y.B (t 8) (t 12) y.B) [eD 3,eD 7],q1 14 (.nilCheck (t 5)) [eD 0,eP 0,eP 1,eP 2,eP 3,eP 4,eP 5,eP 6,eP 7,eP 8],q0 (.store y.B (t 14) (t 13)) [eD 9,eD 8,eP 0,eP 1,eP 2,eP 3,eP 4,eP 5,eP 6,eP 7,eP 8]])
  (.seq (rg [p1 4 (.assign (ci 0))])
   (.seq (.seq (rg [p1 15 (.move (t 1)),p1 16 (.nilCheck (t 15)),p1 17 (.load y.B (t 16))]) (.cond (t 17) (rg [p1 4 (.assign (ci 1))]) .skip))
    (rg [p1 18 (.move (t 0)),p1 19 (.move (t 0)),p1 20 (.nilCheck (t 19)),p1 21 (.fieldAddr y.E (t 20) 0),p1 22 (.load y.NL (t 21)),p1 23 (.move (t 4)),p1 24 (.buildSlice y.NL 1 #[(0,t 23)]),pt 25 (ko (t 22) (t 24) y.NL) y.NL,
     p1 26 (.nilCheck (t 18)),p1 27 (.fieldAddr y.E (t 26) 0),p0 (.store y.NL (t 27) (t 25))])))
def A5 (b : Bool) : Int := match b with | true => 1 | false => 0
theorem OP {P : Program} {y : TY} (K : Kit P y) {f : FuncId} (hB : Body P f 28 [] (OO y)) {mark room wr : Bool} {w : World} {d be pb po : Nat} {vn vs : Value} {e : Eye} {c : aP}
  (hE : bX y w be vn vs e mark room) (hz : Zn c w) (hd : ∀ b,EB be vn vs b → c b = none) (hp : Pl P wr room c d pb po .bool) (hb : Bd 1 e.n.length e.s.length) :
  Ret P f [Ptr be 0,Ptr pb po] w (Out y mark room 1 true (fun a b => ∃ x,pl c pb po = some (.bool x) ∧ b = { a with n := a.n ++ [A5 x] }) w be vn vs e c) := by
 refine bW hB ?_
 have hs := SL.init (n := 28) [Ptr be 0,Ptr pb po] rfl
 revert hs
 generalize ({ tmps := _,defers := [] } : Act) = a
 intro hs
 obtain ⟨tt,ht⟩ := hE.cell
 obtain ⟨cs,bt,fz,v,hpb,hpo,hv,hfz,hbl⟩ := hp
 obtain ⟨x,rfl⟩ : ∃ x,v = .bool x := by cases hv with | bool _ x => exact ⟨x,rfl⟩
 have hlt := (Array.getElem?_eq_some_iff.1 hpo).1
 have hw1 := Ch.drew (fun _ => False) w
 refine ae (xM 9 K.mixed (by kernel_rfl) ?_)
 have hwp := hz pb _ hpb
 refine T hs rfl rfl (ah hs (.inl rfl) rfl) fun a hs => ?_
 refine T hs rfl rfl (ah hs (.inl rfl) rfl) fun a hs => ?_
 refine T hs rfl rfl (bB hs rfl rfl) fun a hs => ?_
 refine T hs rfl rfl (bG hs rfl rfl K.b hwp hpo) fun a hs => ?_
 refine T hs rfl rfl (ah hs (.inl rfl) rfl) fun a hs => ?_
 refine T hs rfl rfl (bB hs rfl rfl) fun a hs => ?_
 refine T hs rfl rfl (bE hs rfl rfl K.e2) fun a hs => ?_
 refine T hs rfl rfl (bG hs rfl rfl K.b ht (v := .bool mark) rfl) fun a hs => ?_
 refine T hs rfl rfl (OI hs rfl rfl rfl K.bU) fun a hs => ?_
 refine Te ?_
 refine L hs rfl rfl (bB hs rfl rfl) fun a hs => ?_
 refine Ls hs rfl rfl (np hs rfl rfl rfl K.b rfl rfl hwp hlt (hbl rfl)) fun hs => ?_
 have hE1 := hE.keep hw1 fun _ _ h => h
 have hz1 : Zn c { w with drawn := w.drawn + 1 } := hz
 have q1 := vJ (Sr := fun a b => b = a) (v := .bool (x != mark)) hE1 hz1 hd hpb hpo (.inr (.inr (.inl ⟨_,_,rfl,rfl⟩))) (fun h => by subst h; exact ⟨by simp,rfl⟩)
 have q1 := q1.pre hw1
 obtain ⟨tt1,ht1⟩ := q1.eye.cell
 have hpb2 : stZ c pb po (.bool (x != mark)) pb = some (.cells (cs.setIfInBounds po (.bool (x != mark))) bt fz) := by simp [stZ,hpb]
 refine Le (ae (aa ?_))
 refine L hs rfl rfl (ah hs (.inr rfl) rfl) fun a hs => ?_
 refine Le (ae (ae (aa ?_)))
 refine L hs rfl rfl (ah hs (.inl rfl) rfl) fun a hs => ?_
 refine L hs rfl rfl (bB hs rfl rfl) fun a hs => ?_
 refine L hs rfl rfl (bG hs rfl rfl K.b (q1.zn pb _ hpb2) (v := .bool (x != mark)) (by simp [hlt])) fun a hs => ?_
 have tail : ∀ a,SL 28 [(0,Ptr be 0),(4,.int .i64 (A5 (x != mark)))] a → NW P
   (rg [p1 18 (.move (t 0)),p1 19 (.move (t 0)),p1 20 (.nilCheck (t 19)),p1 21 (.fieldAddr y.E (t 20) 0),p1 22 (.load y.NL (t 21)),p1 23 (.move (t 4)),p1 24 (.buildSlice y.NL 1 #[(0,t 23)]),pt 25 (ko (t 22) (t 24) y.NL) y.NL,
     p1 26 (.nilCheck (t 18)),p1 27 (.fieldAddr y.E (t 26) 0),p0 (.store y.NL (t 27) (t 25))])
   (fin P [] (Out y mark room 1 true (fun a b => ∃ x,pl c pb po = some (.bool x) ∧ b = { a with n := a.n ++ [A5 x] }) w be vn vs e c)) a ({ w with drawn := w.drawn + 1 }.setRow pb (cs.setIfInBounds po (.bool (x != mark)))) := by
  intro a hs
  refine aa ?_
  refine L hs rfl rfl (ah hs (.inl rfl) rfl) fun a hs => ?_
  refine L hs rfl rfl (ah hs (.inl rfl) rfl) fun a hs => ?_
  refine L hs rfl rfl (bB hs rfl rfl) fun a hs => ?_
  refine L hs rfl rfl (bE hs rfl rfl K.e0) fun a hs => ?_
  refine L hs rfl rfl (bG hs rfl rfl K.nl ht1 (v := vn) rfl) fun a hs => ?_
  refine L hs rfl rfl (ah hs (.inl rfl) rfl) fun a hs => ?_
  refine L hs rfl rfl (gU hs rfl rfl K.nlU K.i rfl) fun a hs => ?_
  have hch := Ch.alloc (fun _ => False) ({ w with drawn := w.drawn + 1 }.setRow pb (cs.setIfInBounds po (.bool (x != mark)))) (.cells #[.int .i64 (A5 (x != mark))] y.I)
  have hp := hb.phi
  have hpl := rA e.n.length
  obtain ⟨v',w2,hr,ho,hch2,hv'⟩ := Ae (o := pt 25 (ko (t 22) (t 24) y.NL) y.NL) hs rfl rfl rfl K.nlU K.i (hch.ownsRow q1.eye.n fun _ _ h => h) (heap_alloc_new _ _) rfl K.i16 (by omega)
  obtain ⟨⟨t2,ht2⟩,hpost⟩ := A3 q1.eye q1.zn q1.dis hch ho hch2 hv'
  refine L hs rfl rfl hr fun a hs => ?_
  refine L hs rfl rfl (bB hs rfl rfl) fun a hs => ?_
  refine L hs rfl rfl (bE hs rfl rfl K.e0) fun a hs => ?_
  refine Ls hs rfl rfl (np hs rfl rfl rfl K.nl (by rcases ho.2 with ⟨rfl,_⟩ | ⟨g,cap,cur,rfl,_⟩ <;> rfl) (by rcases ho.2 with ⟨rfl,_⟩ | ⟨g,cap,cur,rfl,_⟩ <;> rfl) ht2 (by simp [ai]) (by simp)) fun hs => ?_
  refine Le (pD hs ⟨rfl,_,_,_,_,q1.trans hpost fun hm h1 h2 => ?_⟩)
  subst hm
  exact ⟨x,by simp only [pl,hpb]; exact hpo,by rw [h2]; simp⟩
 refine Le (br (t := (x != mark)) (hs.ev rfl) (fun hm => aa ?_) fun hm => bA ?_)
 ·refine L hs rfl rfl (ah hs (.inr rfl) rfl) fun a hs => Le (tail a ?_)
  rw [hm]; exact hs.keep [0,4]
 ·refine tail a ?_
  rw [hm]; exact hs.keep [0,4]
end Go.TL.H
namespace Go.TL.H
open Go
def FA (y : TY) : List Oper :=
 [q1 26 (.move (t 1)) [],q1 27 (.nilCheck (t 26)) [eD 0],q1 28 (.load y.S (t 27)) [eD 1],q1 29 (.move (t 4)) [],q1 30 (.binOp .rem y.I (t 29) (ci 26) y.I) [eD 3],q1 31 (.binOp .add y.I (ci 97) (t 30) y.I) [eD 4],
  q1 32 (.convert y.I y.BY (t 31)) [eD 5],q1 33 (.buildSlice y.BL 1 #[(0,t 32)]) [eD 6],q1 34 (.convert y.BL y.S (t 33)) [eD 7],q1 35 (.binOp .add y.S (t 28) (t 34) y.S) [eD 2,eD 8],
  q1 36 (.nilCheck (t 26)) [eD 0,eP 0,eP 1,eP 2,eP 3,eP 4,eP 5,eP 6,eP 7,eP 8,eP 9],q0 (.store y.S (t 36) (t 35)) [eD 10,eD 9,eP 0,eP 1,eP 2,eP 3,eP 4,eP 5,eP 6,eP 7,eP 8,eP 9]]
def FB (y : TY) : Code :=
 .seq (.seq (rg [p1 5 (.move (t 0)),p1 6 (.nilCheck (t 5)),p1 7 (.fieldAddr y.E (t 6) 2),p1 8 (.load y.B (t 7))])
  (.cond (t 8) (.seq
   (rg [p1 9 (.move (t 0)),p1 10 (.nilCheck (t 9)),p1 11 (.fieldAddr y.E (t 10) 3),p1 12 (.load y.I (t 11)),p1 13 (.binOp .add y.I (t 12) (ci 1) y.I),p1 14 (.nilCheck (t 9)),p1 15 (.fieldAddr y.E (t 14) 3),p0 (.store y.I (t 15) (t 13))])
   (.seq (rg [p1 16 (.move (t 1)),p1 17 (.nilCheck (t 16)),p0 (.store y.S (t 17) (.const (.string ⟨#[63]⟩)))])
    (.seq (rg [p1 18 (.move (t 0)),p1 19 (.nilCheck (t 18)),p1 20 (.fieldAddr y.E (t 19) 3),p1 21 (.load y.I (t 20)),p1 4 (.assign (t 21))])
     (.block 0 (.loop (.seq (.seq (rg [p1 22 (.move (t 4)),p1 23 (.binOp .gtr y.I (t 22) (ci 0) y.I)]) (.cond (t 23) .skip (.exit 0)))
      (.seq (.block 1 (rd (FA y))) (rg [p1 24 (.move (t 4)),p1 25 (.binOp .quo y.I (t 24) (ci 26) y.I),p1 4 (.assign (t 25))])))))))) .skip))
  (rd (xR y y.S))
theorem JE {P : Program} {y : TY} (K : Kit P y) {a : Act} {w : World} {p0 : Value} {pb po : Nat} {cs : Array Value} {bt : TypeId} {x : ByteArray} {n : Int} {Q : Exit → Act → World → Prop}
  (hsl : SL 49 [(0,p0),(1,Ptr pb po),(4,.int .i64 n)] a) (hpb : w.heap[pb]? = some (.cells cs bt (0,0))) (hpo : cs[po]? = some (.string x)) (hx : x.size ≤ 1000)
  (hQ : ∀ c a w,Q (.panic c) a w → False)
  (k : ∀ a' w1 u,SL 49 [(0,p0),(1,Ptr pb po),(4,.int .i64 n)] a' → Ch (fun _ => False) w w1 → u.size = 1 → Q .normal a' (w1.setRow pb (cs.setIfInBounds po (.string (x ++ u))))) : NW P (rd (FA y)) Q a w := by
 refine uu 12 rfl K.mixed ?_
 have hlt := (Array.getElem?_eq_some_iff.1 hpo).1
 have last : ∀ (w1 : World) (a : Act) (listed : Array Bool) (u : ByteArray),Ch (fun _ => False) w w1 → u.size = 1 →
   listed = #[true,true,true,true,true,true,true,true,true,false,false,false] →
   SL 49 [(0,p0),(1,Ptr pb po),(4,.int .i64 n),(26,Ptr pb po),(28,.string x),(34,.string u)] a → wpAny P .any (FA y).toArray Q 3 listed a w1 := by
  rintro w1 a listed u h1 hu rfl hs
  refine Y1 9 (by kernel_rfl) (bp hs rfl rfl rfl (Mh hs rfl rfl rfl (by omega)) fun a hs => ?_)
  refine Y1 10 (by kernel_rfl) (bp hs rfl rfl rfl (bB hs rfl rfl) fun a hs => ?_)
  refine Y1 11 (by kernel_rfl) (rr hs rfl rfl rfl (np hs rfl rfl rfl K.s rfl rfl (h1.at hpb fun h => h) hlt (by simp)) fun hs => ?_)
  exact Ye (by kernel_rfl) (k _ _ u (hs.keep [0,1,4]) h1 hu)
 refine Y (i := 0) hsl rfl rfl rfl (by kernel_rfl) (by kernel_rfl) (by kernel_rfl) hQ (fun w => ah hsl (.inl rfl) rfl) fun a hs => ?_
 refine Y (i := 1) hs rfl rfl rfl (by kernel_rfl) (by kernel_rfl) (by kernel_rfl) hQ (fun w => bB hs rfl rfl) fun a hs => ?_
 refine Y (i := 3) hs rfl rfl rfl (by kernel_rfl) (by kernel_rfl) (by kernel_rfl) hQ (fun w => ah hs (.inl rfl) rfl) fun a hs => ?_
 refine Y (i := 4) hs rfl rfl rfl (by kernel_rfl) (by kernel_rfl) (by kernel_rfl) hQ (fun w => QP hs rfl rfl rfl (by decide)) fun a hs => ?_
 refine Y (i := 5) hs rfl rfl rfl (by kernel_rfl) (by kernel_rfl) (by kernel_rfl) hQ (fun w => b9 hs rfl rfl rfl rfl) fun a hs => ?_
 refine Y (i := 6) hs rfl rfl rfl (by kernel_rfl) (by kernel_rfl) (by kernel_rfl) hQ (fun w => OJ hs rfl rfl ⟨_,K.iU⟩ K.byU) fun a hs => ?_
 generalize IntKind.wrap .u8 (IntKind.wrap .i64 (97 + n.tmod 26)) = m at *
 have key : ∀ (w0 : World),w0.heap = w.heap → w0.os = w.os → w0.tape = w.tape → w0.output = w.output → Ch (fun _ => False) w (w0.alloc (.cells #[.int .u8 m] y.BY)) ∧ (w0.alloc (.cells #[.int .u8 m] y.BY)).heap[w.heap.size]? = some (.cells #[.int .u8 m] y.BY (0,0)) := by
  intro w0 e1 e2 e3 e4
  have h1 := Ch.alloc (fun _ => False) w0 (.cells #[.int .u8 m] y.BY)
  exact ⟨⟨h1.os.trans e2,h1.tape.trans e3,h1.output.trans e4,by rw [← e1]; exact h1.size,fun b hb hn => by rw [h1.keep b (by rw [e1]; exact hb) hn,e1]⟩,by rw [← e1]; exact heap_alloc_new w0 _⟩
 obtain ⟨g1,g2⟩ := key { w with drawn := w.drawn + 1 } rfl rfl rfl rfl
 have hu1 : (ByteArray.empty.push (UInt8.ofNat m.toNat)).size = 1 := rfl
 refine Y2 2 7 (by kernel_rfl) (bp hs rfl rfl rfl (bG hs rfl rfl K.s (w := { w with drawn := w.drawn + 1 }) hpb hpo) fun a hs => ?_) (bp hs rfl rfl rfl (gU hs rfl rfl K.blU K.by' rfl) fun a hs => ?_)
 ·refine Y1 7 (by kernel_rfl) (bp hs rfl rfl rfl (gU hs rfl rfl K.blU K.by' rfl) fun a hs => ?_)
  refine Y1 8 (by kernel_rfl) (bp hs rfl rfl rfl (xP hs rfl rfl K.blU K.sU K.byU g2) fun a hs => ?_)
  exact last _ _ _ _ g1 hu1 (by kernel_rfl) (hs.keep [0,1,4,26,28,34])
 ·refine Y2 2 8 (by kernel_rfl) (bp hs rfl rfl rfl (bG hs rfl rfl K.s (g1.at hpb fun h => h) hpo) fun a hs => ?_) (bp hs rfl rfl rfl (xP hs rfl rfl K.blU K.sU K.byU g2) fun a hs => ?_)
  ·refine Y1 8 (by kernel_rfl) (bp hs rfl rfl rfl (xP hs rfl rfl K.blU K.sU K.byU g2) fun a hs => ?_)
   exact last _ _ _ _ g1 hu1 (by kernel_rfl) (hs.keep [0,1,4,26,28,34])
  ·refine Y1 2 (by kernel_rfl) (bp hs rfl rfl rfl (bG hs rfl rfl K.s (g1.at hpb fun h => h) hpo) fun a hs => ?_)
   exact last _ _ _ _ g1 hu1 (by kernel_rfl) (hs.keep [0,1,4,26,28,34])
theorem MW {n : Int} {m : Nat} (h0 : 0 < n) (h : n < 2 ^ m) : ∃ k,m = k + 1 ∧ n.tdiv 26 < 2 ^ k ∧ 0 ≤ n.tdiv 26 := by
 cases m with
 | zero => simp at h; omega
 | succ k =>
  refine ⟨k,rfl,?_,?_⟩
  ·rw [Int.tdiv_eq_ediv_of_nonneg (by omega)]
   rw [Int.pow_succ] at h
   omega
  ·rw [Int.tdiv_eq_ediv_of_nonneg (by omega)]; omega
theorem OQ {P : Program} {y : TY} (K : Kit P y) {f : FuncId} (hB : Body P f 49 [] (FB y)) {mark room wr : Bool} {w : World} {d be pb po : Nat} {vn vs : Value} {e : Eye} {c : aP}
  (hE : bX y w be vn vs e mark room) (hz : Zn c w) (hd : ∀ b,EB be vn vs b → c b = none) (hp : Pl P wr room c d pb po .str) (hmw : mark = true → wr = true) (hb : Bd 1 e.n.length e.s.length) :
  Ret P f [Ptr be 0,Ptr pb po] w (Out y mark room 1 false (fun a b => ∃ x,pl c pb po = some (.string x) ∧ b = { a with s := a.s ++ [x] }) w be vn vs e c) := by
 refine bW hB ?_
 have hs := SL.init (n := 49) [Ptr be 0,Ptr pb po] rfl
 revert hs
 generalize ({ tmps := _,defers := [] } : Act) = a
 intro hs
 obtain ⟨tt,ht⟩ := hE.cell
 obtain ⟨cs,bt,fz,v,hpb,hpo,hv,hfz,_⟩ := hp
 obtain ⟨x,rfl⟩ : ∃ x,v = .string x := by cases hv with | str _ x => exact ⟨x,rfl⟩
 have hlt := (Array.getElem?_eq_some_iff.1 hpo).1
 refine ae (ae (aa ?_))
 refine L hs rfl rfl (ah hs (.inl rfl) rfl) fun a hs => ?_
 refine L hs rfl rfl (bB hs rfl rfl) fun a hs => ?_
 refine L hs rfl rfl (bE hs rfl rfl K.e2) fun a hs => ?_
 refine L hs rfl rfl (bG hs rfl rfl K.b ht (v := .bool mark) rfl) fun a hs => ?_
 refine Le (br (t := mark) (hs.ev rfl) (fun hm => ?_) fun hm => ?_)
 ·subst hm
  obtain rfl := hfz (hmw rfl)
  refine ae (aa ?_)
  refine L hs rfl rfl (ah hs (.inl rfl) rfl) fun a hs => ?_
  refine L hs rfl rfl (bB hs rfl rfl) fun a hs => ?_
  refine L hs rfl rfl (bE hs rfl rfl K.e3) fun a hs => ?_
  refine L hs rfl rfl (bG hs rfl rfl K.i ht (v := .int .i64 e.at') rfl) fun a hs => ?_
  refine L hs rfl rfl (b9 hs rfl rfl rfl rfl) fun a hs => ?_
  refine L hs rfl rfl (bB hs rfl rfl) fun a hs => ?_
  refine L hs rfl rfl (bE hs rfl rfl K.e3) fun a hs => ?_
  refine Ls hs rfl rfl (np hs rfl rfl rfl K.i rfl rfl ht (by simp [ai]) (by simp)) fun hs => ?_
  have q1 := HK (x := IntKind.wrap .i64 (e.at' + 1)) hE hz hd rfl
  have hrange := vH (e.at' + 1)
  generalize IntKind.wrap .i64 (e.at' + 1) = n0 at *
  refine Le (ae (aa ?_))
  refine L hs rfl rfl (ah hs (.inl rfl) rfl) fun a hs => ?_
  refine L hs rfl rfl (bB hs rfl rfl) fun a hs => ?_
  refine Ls hs rfl rfl (np hs rfl rfl rfl K.s rfl rfl (q1.zn pb _ hpb) hlt (by simp)) fun hs => ?_
  have q2 := q1.trans (S := fun _ _ => True) (vJ (Sr := fun _ _ => True) (v := .string ⟨#[63]⟩) q1.eye q1.zn q1.dis hpb hpo (.inr (.inr (.inr ⟨x,_,rfl,rfl,by decide⟩))) (fun h => by cases h)) fun h => (by cases h)
  obtain ⟨tt1,ht1⟩ := q2.eye.cell
  have hpb2 : stZ c pb po (.string ⟨#[63]⟩) pb = some (.cells (cs.setIfInBounds po (.string ⟨#[63]⟩)) bt (0,0)) := by simp [stZ,hpb]
  refine Le (ae (aa ?_))
  refine L hs rfl rfl (ah hs (.inl rfl) rfl) fun a hs => ?_
  refine L hs rfl rfl (bB hs rfl rfl) fun a hs => ?_
  refine L hs rfl rfl (bE hs rfl rfl K.e3) fun a hs => ?_
  refine L hs rfl rfl (bG hs rfl rfl K.i ht1 (v := .int .i64 n0) rfl) fun a hs => ?_
  refine L hs rfl rfl (ah hs (.inr rfl) rfl) fun a hs => ?_
  refine Le (bD (dY (fun m a w1 => ∃ n s cs1 c1,SL 49 [(0,Ptr be 0),(1,Ptr pb po),(4,.int .i64 n)] a ∧ n < 2 ^ m ∧ -9223372036854775808 ≤ n ∧ n ≤ 9223372036854775807 ∧ s.size + m ≤ 64 ∧ c1 pb = some (.cells cs1 bt (0,0)) ∧ cs1[po]? = some (.string s) ∧
   bh y true room 0 false (fun _ _ => True) w be vn vs e c w1 vn vs { e with at' := n0 } c1) 63 ?_ ?_))
  ·refine ⟨n0,⟨#[63]⟩,_,_,hs.keep [0,1,4],by omega,by omega,by omega,by decide,hpb2,by simp [hlt],q2⟩
  ·rintro m a w1 ⟨n,s,cs1,c1,hs,hn,hr1,hr2,hsz,hc1,hcs1,hP⟩
   have hlt1 := (Array.getElem?_eq_some_iff.1 hcs1).1
   refine ae (ae (aa ?_))
   refine L hs rfl rfl (ah hs (.inl rfl) rfl) fun a hs => ?_
   refine L hs rfl rfl (dB hs rfl rfl rfl rfl) fun a hs => ?_
   refine Le (br (t := decide (n > 0)) (hs.ev rfl) (fun hm => bA ?_) fun hm => dX ?_)
   ·have hm := of_decide_eq_true hm
    obtain ⟨m',rfl,hh1,hh2⟩ := MW hm hn
    refine ae (bD (JE K (hs.keep [0,1,4]) (hP.zn pb _ hc1) hcs1 (by omega) (fun _ _ _ h => h) fun a w2 u hs hch hu => ?_))
    have hE2 := hP.eye.keep hch fun _ _ h => h
    have hz2 := hP.zn.keep hch fun _ _ h => h
    have q3 := (vJ (Sr := fun _ _ => True) (v := .string (s ++ u)) hE2 hz2 hP.dis hc1 hcs1 (.inr (.inr (.inr ⟨s,_,rfl,rfl,by rw [ByteArray.size_append,hu]; unfold bz; omega⟩))) (fun h => by cases h)).pre hch
    have q4 := hP.trans (S := fun _ _ => True) q3 fun h => (by cases h)
    refine aa ?_
    refine L hs rfl rfl (ah hs (.inl rfl) rfl) fun a hs => ?_
    refine L hs rfl rfl (QQ hs rfl rfl rfl (by decide)) fun a hs => ?_
    refine L hs rfl rfl (ah hs (.inr rfl) rfl) fun a hs => ?_
    have hle : n.tdiv 26 ≤ n := by rw [Int.tdiv_eq_ediv_of_nonneg (by omega)]; omega
    have hwr : IntKind.wrap .i64 (n.tdiv 26) = n.tdiv 26 := dZ (by omega) (by omega)
    refine Le ⟨m',Nat.lt_succ_self _,n.tdiv 26,s ++ u,_,_,by have := hs.keep [0,1,4]; rw [hwr] at this; exact this,hh1,by omega,by omega,by rw [ByteArray.size_append,hu]; omega,by simp only [stZ,if_true,hc1]; rfl,by simp [hlt1],q4⟩
   ·refine vL K (hs.keep [0,1]) hP.eye hP.zn hP.dis K.s hc1 hcs1 hb (fun _ _ _ h => h) fun a w' v' hs hQ => ?_
    exact pD hs ⟨rfl,_,_,_,_,(hP.trans (S := fun _ _ => True) hQ fun h => (by cases h)).S fun h => (by cases h)⟩
 ·subst hm
  refine bA (vL K (hs.keep [0,1]) hE hz hd K.s hpb hpo hb (fun _ _ _ h => h) fun a w' v' hs hP => ?_)
  exact pD hs ⟨rfl,_,_,_,_,hP.S fun _ h => ⟨x,by simp only [pl,hpb]; exact hpo,h⟩⟩
end Go.TL.H
namespace Go.TL.H
open Go
inductive Ds where
 | num (T : TypeId)
 | yes
 | str
 | st (T : TypeId) (parts : List (Nat × Nat × FuncId))
 | via (L : TypeId) (al one : FuncId) (e : TypeId) (sz : Nat)
structure Row where
 ds : Ds
 ck : List CK
 hn : Bool
 bH : Nat
abbrev cX := List (FuncId × Row)
def FC (T : TypeId) (k i : Nat) (g : FuncId) : Code :=
 rg [p1 k (.move (t 0)),p1 (k + 1) (.move (t 1)),p1 (k + 2) (.nilCheck (t (k + 1))),p1 (k + 3) (.fieldAddr T (t (k + 2)) i),p1 (k + 4) (.call ⟨.value (.func g), #[t k,t (k + 3)], #[]⟩)]
def stC (T : TypeId) (k : Nat) : List (Nat × Nat × FuncId) → Code
 | [] => .skip
 | [(i,_,g)] => FC T k i g
 | (i,_,g) :: p :: l => .seq (FC T k i g) (stC T (k + 5) (p :: l))
def ux (L : TypeId) (al one : FuncId) : Code :=
 rg [p1 4 (.move (t 0)),p1 5 (.move (t 1)),p1 6 (.nilCheck (t 5)),p1 7 (.load L (t 6)),p1 8 (.call ⟨.value (.func al), #[t 4,t 7,.func one], #[]⟩)]
abbrev pg (d : Nat) (p : Op) (ty : TypeId) (j : Nat) (b : Bool) : Oper := ⟨some d,p,ty, "", #[],some (j,b)⟩
def D7 (y : TY) (L : TypeId) : List Oper :=
 [p1 26 (.move (t 6)),p1 27 (.move (t 1)),pt 28 (eZ (t 27) L) y.I,p1 29 (.binOp .lss y.I (t 26) (t 28) y.I),p1 30 (.move (t 29)),pg 31 (.move (t 0)) 0 4 true,pg 32 (.nilCheck (t 31)) 0 4 true,pg 33 (.fieldAddr y.E (t 32) 0) 0 4 true,
  pg 34 (.load y.NL (t 33)) 0 4 true,pg 35 (eZ (t 34) y.NL) y.I 4 true,pg 36 (.binOp .lss y.I (t 35) (ci 200000) y.I) 0 4 true,p1 37 (.pick (t 30) (t 36) (.const (.bool false)))]
def rB (y : TY) (L : TypeId) : Code :=
 .seq (rg [p1 7 (.move (t 0)),p1 8 (.move (t 0)),p1 9 (.nilCheck (t 8)),p1 10 (.fieldAddr y.E (t 9) 0),p1 11 (.load y.NL (t 10)),p1 12 (.move (t 1)),pt 13 (eZ (t 12) L) y.I,p1 14 (.buildSlice y.NL 1 #[(0,t 13)]),pt 15 (ko (t 11) (t 14) y.NL) y.NL,
   p1 16 (.nilCheck (t 7)),p1 17 (.fieldAddr y.E (t 16) 0),p0 (.store y.NL (t 17) (t 15))])
  (.seq (.seq (rg [p1 18 (.move (t 0)),p1 19 (.nilCheck (t 18)),p1 20 (.fieldAddr y.E (t 19) 4),p1 21 (.load y.B (t 20))])
    (.cond (t 21) (rg [p1 22 (.move (t 1)),p1 23 (.move (t 1)),pt 24 (.call ⟨.builtin .cap, #[t 23], #[L]⟩) y.I,p1 25 (.slice L (t 22) none (some (t 24)) none),p1 1 (.assign (t 25))]) .skip))
   (.seq (rg [p1 6 (.assign (ci 0))])
    (.block 0 (.loop (.seq (.seq (rg (D7 y L)) (.cond (t 37) .skip (.exit 0)))
     (.seq (.block 1 (rg [p1 40 (.move (t 2)),p1 41 (.move (t 0)),p1 42 (.move (t 1)),p1 43 (.move (t 6)),p1 44 (.indexAddr L (t 42) (t 43)),p1 45 (.call ⟨.value (t 40), #[t 41,t 44], #[]⟩)]))
      (rg [p1 38 (.move (t 6)),p1 39 (.binOp .add y.I (t 38) (ci 1) y.I),p1 6 (.assign (t 39))])))))))
inductive Tsk where
 | fn (f : FuncId) (b o : Nat)
 | parts (l : List (Nat × Nat × FuncId)) (b o : Nat)
 | iter (one : FuncId) (sz : Nat) (base : Option Addr) (i m : Nat)
inductive See (D : cX) (room : Bool) (c : aP) : Tsk → Eye → Eye → Prop
 | num (f : FuncId) (b o : Nat) (e : Eye) (r : Row) (T : TypeId) (x : Int) (hD : lk D f = some r) (hr : r.ds = .num T) (hl : pl c b o = some (.int .i64 x)) : See D room c (.fn f b o) e { e with n := e.n ++ [x] }
 | yes (f : FuncId) (b o : Nat) (e : Eye) (r : Row) (x : Bool) (hD : lk D f = some r) (hr : r.ds = .yes) (hl : pl c b o = some (.bool x)) : See D room c (.fn f b o) e { e with n := e.n ++ [A5 x] }
 | str (f : FuncId) (b o : Nat) (e : Eye) (r : Row) (x : ByteArray) (hD : lk D f = some r) (hr : r.ds = .str) (hl : pl c b o = some (.string x)) : See D room c (.fn f b o) e { e with s := e.s ++ [x] }
 | st (f : FuncId) (b o : Nat) (e e' : Eye) (r : Row) (T : TypeId) (l : List (Nat × Nat × FuncId)) (hD : lk D f = some r) (hr : r.ds = .st T l) (h : See D room c (.parts l b o) e e') : See D room c (.fn f b o) e e'
 | nil (b o : Nat) (e : Eye) : See D room c (.parts [] b o) e e
 | cons (b o : Nat) (e e1 e2 : Eye) (i off : Nat) (g : FuncId) (l : List (Nat × Nat × FuncId)) (h1 : See D room c (.fn g b (o + off)) e e1) (h2 : See D room c (.parts l b o) e1 e2) : See D room c (.parts ((i,off,g) :: l) b o) e e2
 | via (f : FuncId) (b o : Nat) (e e' : Eye) (r : Row) (L : TypeId) (al one : FuncId) (te : TypeId) (sz : Nat) (a : Option Addr) (len cap : Nat) (hD : lk D f = some r) (hr : r.ds = .via L al one te sz) (hl : pl c b o = some (.slice a len cap))
   (h : See D room c (.iter one sz a 0 (if room then cap else len)) { e with n := e.n ++ [(len : Int)] } e') : See D room c (.fn f b o) e e'
 | stop (one : FuncId) (sz : Nat) (a : Option Addr) (i m : Nat) (e : Eye) (h : ¬ (i < m ∧ e.n.length < 200000)) : See D room c (.iter one sz a i m) e e
 | step (one : FuncId) (sz b o i m : Nat) (e e1 e2 : Eye) (hi : i < m) (hn : e.n.length < 200000) (h1 : See D room c (.fn one b (o + i * sz)) e e1) (h2 : See D room c (.iter one sz (some ⟨b,o,none⟩) (i + 1) m) e1 e2) :
   See D room c (.iter one sz (some ⟨b,o,none⟩) i m) e e2
theorem See.det {D : cX} {room : Bool} {c : aP} {k : Tsk} {e e1 : Eye} (h : See D room c k e e1) : ∀ {e2 : Eye},See D room c k e e2 → e1 = e2 := by
 induction h with
 | num f b o e r T x hD hr hl => intro e2 k2; cases k2 <;> simp_all
 | yes f b o e r x hD hr hl => intro e2 k2; cases k2 <;> simp_all
 | str f b o e r x hD hr hl => intro e2 k2; cases k2 <;> simp_all
 | st f b o e e' r T l hD hr h ih =>
  intro e2 k2
  cases k2 with
  | st _ _ _ _ _ r2 T2 l2 hD2 hr2 h2 =>
   have : r = r2 := by rw [hD] at hD2; simpa using hD2
   subst this
   rw [hr] at hr2; simp only [Ds.st.injEq] at hr2
   obtain ⟨rfl,rfl⟩ := hr2
   exact ih h2
  | _ => simp_all
 | nil b o e => intro e2 k2; cases k2; rfl
 | cons b o e e1 e2 i off g l h1 h2 ih1 ih2 =>
  intro e3 k2
  cases k2 with
  | cons _ _ _ e1' _ _ _ _ _ k1 k2 => obtain rfl := ih1 k1; exact ih2 k2
 | via f b o e e' r L al one te sz a len cap hD hr hl h ih =>
  intro e2 k2
  cases k2 with
  | via _ _ _ _ _ r2 L2 al2 one2 te2 sz2 a2 len2 cap2 hD2 hr2 hl2 h2 =>
   have : r = r2 := by rw [hD] at hD2; simpa using hD2
   subst this
   rw [hr] at hr2; simp only [Ds.via.injEq] at hr2
   obtain ⟨rfl,rfl,rfl,rfl,rfl⟩ := hr2
   rw [hl] at hl2; simp only [Option.some.injEq,Value.slice.injEq] at hl2
   obtain ⟨rfl,rfl,rfl⟩ := hl2
   exact ih h2
  | _ => simp_all
 | stop one sz a i m e h =>
  intro e2 k2
  cases k2 with
  | stop => rfl
  | step => exact absurd ⟨by assumption,by assumption⟩ h
 | step one sz b o i m e e1 e2 hi hn h1 h2 ih1 ih2 =>
  intro e3 k2
  cases k2 with
  | stop _ _ _ _ _ _ h => exact absurd ⟨hi,hn⟩ h
  | step _ _ _ _ _ _ _ e1' _ _ _ k1 k2 => obtain rfl := ih1 k1; exact ih2 k2
def sM (P : Program) (D : cX) (T : TypeId) (ck : List CK) (bH : Nat) : List (Nat × Nat × FuncId) → Nat → Bool → Prop
 | [],K,hn => K = 0 ∧ hn = false
 | (i,off,g) :: l,K,hn => ∃ rg sz K' hn',lk D g = some rg ∧ rg.bH < bH ∧ bM P T i = some (off,sz) ∧ (∀ (j : Nat) (k : CK),rg.ck[j]? = some k → ck[off + j]? = some k) ∧ K = rg.ck.length + K' ∧ hn = (rg.hn || hn') ∧ sM P D T ck bH l K' hn'
def Fit (P : Program) (y : TY) (D : cX) (f : FuncId) (r : Row) : Prop :=
 match r.ds with
 | .num T => Body P f 33 [] (A4 y T) ∧ (∃ z,One P T z) ∧ r.ck = [.int .i64] ∧ r.hn = true
 | .yes => Body P f 28 [] (OO y) ∧ r.ck = [.bool] ∧ r.hn = true
 | .str => Body P f 49 [] (FB y) ∧ r.ck = [.str] ∧ r.hn = false
 | .st T parts => Body P f (4 + 5 * parts.length) [] (stC T 4 parts) ∧ sM P D T r.ck r.bH parts r.ck.length r.hn
 | .via L al one e sz => Body P f 9 [] (ux L al one) ∧ Body P al 46 [] (rB y L) ∧ P.underlying L = some (.slice e) ∧ (∃ inf,P.info? e = some inf ∧ inf.size = sz) ∧ One P L aj ∧ r.ck = [.sl e] ∧ r.hn = true ∧
   aE P one = true ∧ ∃ r1,lk D one = some r1 ∧ r1.ck = cks P e ∧ r1.ck.length = sz ∧ sz ≤ 16 ∧ (r1.hn = false → sz = 1)
def jI (P : Program) (y : TY) (D : cX) : Prop := ∀ f r,lk D f = some r → Fit P y D f r
def A6 (P : Program) (y : TY) (D : cX) (mark room wr : Bool) (d : Nat) (f : FuncId) (r : Row) : Prop :=
 ∀ (w : World) (be pb po : Nat) (vn vs : Value) (e : Eye) (c : aP),bX y w be vn vs e mark room → Zn c w → (∀ b,EB be vn vs b → c b = none) →
  (∀ (j : Nat) (k : CK),r.ck[j]? = some k → Pl P wr room c d pb (po + j) k) → Bd r.ck.length e.n.length e.s.length →
  Ret P f [Ptr be 0,Ptr pb po] w (Out y mark room r.ck.length r.hn (fun a b => See D room c (.fn f pb po) a b) w be vn vs e c)
theorem bh.RB {y : TY} {mark room : Bool} {K K' : Nat} {h h' : Bool} {S1 : Eye → Eye → Prop} {w : World} {be : Nat} {vn vs : Value} {e : Eye} {c : aP} {w1 : World} {vn1 vs1 : Value} {e1 : Eye} {c1 : aP}
  (a : bh y mark room K h S1 w be vn vs e c w1 vn1 vs1 e1 c1) (g : Gr K' h' e.n.length e.s.length e1.n.length e1.s.length) : bh y mark room K' h' S1 w be vn vs e c w1 vn1 vs1 e1 c1 :=
 ⟨a.eye,a.zn,a.dis,a.keq,a.same,a.ch,a.new,g⟩
section
variable {P : Program} {y : TY} {D : cX} {mark room wr : Bool} {d : Nat}
theorem A7 {n : Nat} {T : TypeId} {k i off sz : Nat} {g : FuncId} {a : Act} {w : World} {be pb po : Nat} {sl : cj} {Q : Exit → Act → World → Prop} {R : Value → World → Prop} (hs : SL n sl a) (h0 : lk sl 0 = some (Ptr be 0)) (h1 : lk sl 1 = some (Ptr pb po))
  (hk : 4 ≤ k) (hn : k + 5 ≤ n) (hf : bM P T i = some (off,sz)) (hok : aE P g = true) (hr : Ret P g [Ptr be 0,Ptr pb (po + off)] w R)
  (kk : ∀ v w' a',R v w' → SL n [(0,Ptr be 0),(1,Ptr pb po)] a' → Q .normal a' w') : NW P (FC T k i g) Q a w := by
 have hd : ∀ j,j < 5 → dok n (some (k + j)) = true := fun j hj => by simp only [dok]; exact Nat.ble_eq_true_of_le (by omega)
 refine aa ?_
 refine L hs rfl (hd 0 (by omega)) (ah hs (.inl rfl) h0) fun a hs => ?_
 refine L hs rfl (hd 1 (by omega)) (ah hs (.inl rfl) (v := Ptr pb po) (by simp only [ev,du]; rw [aq _ _ _ _ (by omega)]; exact h1)) fun a hs => ?_
 refine L hs rfl (hd 2 (by omega)) (bB hs rfl (ar _ _ _)) fun a hs => ?_
 refine L hs rfl (hd 3 (by omega)) (bE hs rfl (ar _ _ _) hf) fun a hs => ?_
 refine Lc hs rfl (hd 4 (by omega)) rfl rfl (vs := [Ptr be 0,Ptr pb (po + off)]) ?_ hok hr fun v w' a hR hs => ?_
 ·simp only [evs,ev,du]
  rw [ar,aq _ _ _ _ (by omega),aq _ _ _ _ (by omega),aq _ _ _ _ (by omega),ar]
 ·refine Le (kk v w' a hR ⟨hs.size,hs.defers,?_⟩)
  intro t x ht
  refine hs.ab t x ?_
  simp only [lk] at ht
  cases hb0 : Nat.beq 0 t with
  | true =>
   have := Nat.eq_of_beq_eq_true hb0; subst this
   simp only at ht
   simp only [du]
   rw [aq _ _ _ _ (by omega),aq _ _ _ _ (by omega),aq _ _ _ _ (by omega),aq _ _ _ _ (by omega),aq _ _ _ _ (by omega),h0]; exact ht
  | false =>
   simp only [hb0] at ht
   cases hb1 : Nat.beq 1 t with
   | true =>
    have := Nat.eq_of_beq_eq_true hb1; subst this
    simp only at ht
    simp only [du]
    rw [aq _ _ _ _ (by omega),aq _ _ _ _ (by omega),aq _ _ _ _ (by omega),aq _ _ _ _ (by omega),aq _ _ _ _ (by omega),h1]; exact ht
   | false => simp [hb1] at ht
theorem lO {T : TypeId} {ck : List CK} {bH : Nat} (hD : jI P y D) (ih : ∀ g rg,lk D g = some rg → rg.bH < bH → A6 P y D mark room wr d g rg) {be pb po n : Nat} :
  ∀ (l : List (Nat × Nat × FuncId)) (k K : Nat) (hn : Bool),sM P D T ck bH l K hn → ∀ (a : Act) (w : World) (vn vs : Value) (e : Eye) (c : aP) (sl : cj) (Q : Exit → Act → World → Prop),bX y w be vn vs e mark room → Zn c w → (∀ b,EB be vn vs b → c b = none) →
   (∀ (j : Nat) (k : CK),ck[j]? = some k → Pl P wr room c d pb (po + j) k) → Bd K e.n.length e.s.length → SL n sl a → lk sl 0 = some (Ptr be 0) → lk sl 1 = some (Ptr pb po) → 4 ≤ k → k + 5 * l.length ≤ n →
   (∀ a' w' vn' vs' e' c' sl',SL n sl' a' → bh y mark room K hn (fun a b => See D room c (.parts l pb po) a b) w be vn vs e c w' vn' vs' e' c' → Q .normal a' w') → NW P (stC T k l) Q a w
 | [],k,K,hn,hp,a,w,vn,vs,e,c,sl,Q,hE,hz,hd,hpl,hb,hs,h0,h1,hk,hkn,kk => by
  obtain ⟨rfl,rfl⟩ := hp
  exact bA (kk _ _ _ _ _ _ _ hs (bh.refl hE hz hd fun _ => .nil _ _ _))
 | [(i,off,g)],k,K,hn,hp,a,w,vn,vs,e,c,sl,Q,hE,hz,hd,hpl,hb,hs,h0,h1,hk,hkn,kk => by
  obtain ⟨rg,sz,K',hn',hg,hrk,hf,hck,rfl,rfl,rfl,rfl⟩ := hp
  have hr := ih g rg hg hrk w be pb (po + off) vn vs e c hE hz hd (fun j k hj => by have := hpl (off + j) k (hck j k hj); rwa [← Nat.add_assoc] at this) hb
  have hok : aE P g = true := by
   have := hD g rg hg
   unfold Fit at this
   split at this <;> exact this.1.ok
  refine A7 hs h0 h1 hk (by simpa using hkn) hf hok hr fun v w' a' hR hs' => ?_
  obtain ⟨_,vn',vs',e',c',hP⟩ := hR
  refine kk a' w' vn' vs' e' c' _ hs' ?_
  have := hP.S (S := fun a b => See D room c (.parts [(i,off,g)] pb po) a b) fun _ h => .cons _ _ _ _ _ _ _ _ _ h (.nil _ _ _)
  simpa using this
 | (i,off,g) :: p :: l,k,K,hn,hp,a,w,vn,vs,e,c,sl,Q,hE,hz,hd,hpl,hb,hs,h0,h1,hk,hkn,kk => by
  obtain ⟨rg,sz,K',hn',hg,hrk,hf,hck,rfl,rfl,hrest⟩ := hp
  have hr := ih g rg hg hrk w be pb (po + off) vn vs e c hE hz hd (fun j k hj => by have := hpl (off + j) k (hck j k hj); rwa [← Nat.add_assoc] at this) (hb.le (by omega))
  have hok : aE P g = true := by
   have := hD g rg hg
   unfold Fit at this
   split at this <;> exact this.1.ok
  simp only [List.length_cons] at hkn
  refine ae (A7 hs h0 h1 hk (by omega) hf hok hr fun v w' a' hR hs' => ?_)
  obtain ⟨_,vn',vs',e',c',hP⟩ := hR
  refine lO hD ih (p :: l) (k + 5) K' hn' hrest a' w' vn' vs' e' c' _ Q hP.eye hP.zn hP.dis (fun j k hj => (hpl j k hj).keq hP.keq) (hb.step hP.gr (Nat.le_refl _)) hs' rfl rfl (by omega) (by simp only [List.length_cons]; omega) ?_
  intro a2 w2 vn2 vs2 e2 c2 sl2 hs2 hP2
  refine kk a2 w2 vn2 vs2 e2 c2 sl2 hs2 (hP.trans hP2 fun hm h1 h2 => ?_)
  have := (hP.same hm).1
  subst this
  exact .cons _ _ _ _ _ _ _ _ _ h1 h2
end
end Go.TL.H
namespace Go.TL.H
open Go
theorem OS {P : Program} {y : TY} (K : Kit P y) {D : cX} {mark room wr : Bool} {d : Nat} {al one : FuncId} {LT e : TypeId} {inf : TypeInfo} {sz : Nat} {r1 : Row} (hB : Body P al 46 [] (rB y LT)) (hL : P.underlying LT = some (.slice e)) (hi : P.info? e = some inf) (hsz : inf.size = sz)
  (hok : aE P one = true) {a0 : Option Addr} {len cap M : Nat} (hC : 0 < M → A6 P y D mark room wr d one r1) (h16 : r1.ck.length ≤ 16) (h1n : r1.hn = false → r1.ck.length = 1) (hM : M = if room then cap else len) (hml : M ≤ 2097154)
  {w : World} {be : Nat} {vn vs : Value} {ey : Eye} {c : aP} (hE : bX y w be vn vs ey mark room) (hz : Zn c w) (hd : ∀ b,EB be vn vs b → c b = none)
  (hpl : ((room = true → a0 = none) ∧ M = 0) ∨ ∃ b o,a0 = some ⟨b,o,none⟩ ∧ ∀ i,i < M → ∀ (j : Nat) (k : CK),r1.ck[j]? = some k → Pl P wr room c d b (o + i * sz + j) k) (hb : Bd 1 ey.n.length ey.s.length) :
  Ret P al [Ptr be 0,.slice a0 len cap,.func (.func one) #[] #[]] w (Out y mark room 1 true (fun a b => See D room c (.iter one sz a0 0 M) { a with n := a.n ++ [(len : Int)] } b) w be vn vs ey c) := by
 refine bW hB ?_
 have hs := SL.init (n := 46) [Ptr be 0,.slice a0 len cap,.func (.func one) #[] #[]] rfl
 revert hs
 generalize ({ tmps := _,defers := [] } : Act) = a
 intro hs
 obtain ⟨tt,ht⟩ := hE.cell
 refine ae (aa ?_)
 refine L hs rfl rfl (ah hs (.inl rfl) rfl) fun a hs => ?_
 refine L hs rfl rfl (ah hs (.inl rfl) rfl) fun a hs => ?_
 refine L hs rfl rfl (bB hs rfl rfl) fun a hs => ?_
 refine L hs rfl rfl (bE hs rfl rfl K.e0) fun a hs => ?_
 refine L hs rfl rfl (bG hs rfl rfl K.nl ht (v := vn) rfl) fun a hs => ?_
 refine L hs rfl rfl (ah hs (.inl rfl) rfl) fun a hs => ?_
 refine L hs rfl rfl (dC hs rfl rfl hL) fun a hs => ?_
 refine L hs rfl rfl (gU hs rfl rfl K.nlU K.i rfl) fun a hs => ?_
 have hch := Ch.alloc (fun _ => False) w (.cells #[.int .i64 (len : Int)] y.I)
 have hphi := hb.phi
 have hphl := rA ey.n.length
 obtain ⟨v',w2,hr,ho,hch2,hv'⟩ := Ae (o := pt 15 (ko (t 11) (t 14) y.NL) y.NL) hs rfl rfl rfl K.nlU K.i (hch.ownsRow hE.n fun _ _ h => h) (heap_alloc_new _ _) rfl K.i16 (by omega)
 obtain ⟨⟨t2,ht2⟩,hpost⟩ := A3 hE hz hd hch ho hch2 hv'
 refine L hs rfl rfl hr fun a hs => ?_
 refine L hs rfl rfl (bB hs rfl rfl) fun a hs => ?_
 refine L hs rfl rfl (bE hs rfl rfl K.e0) fun a hs => ?_
 refine Ls hs rfl rfl (np hs rfl rfl rfl K.nl (by rcases ho.2 with ⟨rfl,_⟩ | ⟨g,cap,cur,rfl,_⟩ <;> rfl) (by rcases ho.2 with ⟨rfl,_⟩ | ⟨g,cap,cur,rfl,_⟩ <;> rfl) ht2 (by simp [ai]) (by simp)) fun hs => ?_
 obtain ⟨tt1,ht1⟩ := hpost.eye.cell
 refine Le (ae (ae (aa ?_)))
 refine L hs rfl rfl (ah hs (.inl rfl) rfl) fun a hs => ?_
 refine L hs rfl rfl (bB hs rfl rfl) fun a hs => ?_
 refine L hs rfl rfl (bE hs rfl rfl K.e4) fun a hs => ?_
 refine L hs rfl rfl (bG hs rfl rfl K.b ht1 (v := .bool room) rfl) fun a hs => ?_
 have rest : ∀ a,SL 46 [(0,Ptr be 0),(1,.slice a0 M cap),(2,.func (.func one) #[] #[])] a → NW P
   (.seq (rg [p1 6 (.assign (ci 0))])
    (.block 0 (.loop (.seq (.seq (rg (D7 y LT)) (.cond (t 37) .skip (.exit 0)))
     (.seq (.block 1 (rg [p1 40 (.move (t 2)),p1 41 (.move (t 0)),p1 42 (.move (t 1)),p1 43 (.move (t 6)),p1 44 (.indexAddr LT (t 42) (t 43)),p1 45 (.call ⟨.value (t 40), #[t 41,t 44], #[]⟩)]))
      (rg [p1 38 (.move (t 6)),p1 39 (.binOp .add y.I (t 38) (ci 1) y.I),p1 6 (.assign (t 39))]))))))
   (fin P [] (Out y mark room 1 true (fun a b => See D room c (.iter one sz a0 0 M) { a with n := a.n ++ [(len : Int)] } b) w be vn vs ey c)) a (w2.setRow be (ai v' vs ey.at' mark room)) := by
  intro a hs
  refine ae (aa ?_)
  refine L hs rfl rfl (ah hs (.inr rfl) rfl) fun a hs => ?_
  refine Le (bD (dY (fun m a w1 => ∃ (i : Nat) (vn1 vs1 : Value) (e1 : Eye) (c1 : aP) (K1 : Nat) (h1 : Bool),SL 46 [(0,Ptr be 0),(1,.slice a0 M cap),(2,.func (.func one) #[] #[]),(6,.int .i64 (i : Int))] a ∧ i + m = M ∧
   bh y mark room K1 h1 (fun a b => ∀ z,See D room c (.iter one sz a0 i M) b z → See D room c (.iter one sz a0 0 M) { a with n := a.n ++ [(len : Int)] } z) w be vn vs ey c w1 vn1 vs1 e1 c1 ∧
   Rd (ey.n.length + 1) ey.s.length e1.n.length e1.s.length i) M ?_ ?_))
  ·refine ⟨0,_,_,_,_,_,_,hs.keep [0,1,2,6],by omega,hpost.S fun _ h z hz => (by rw [h] at hz; exact hz),?_⟩
   simp only [List.length_append,List.length_cons,List.length_nil]
   exact .zero _ _
  ·rintro m a w1 ⟨i,vn1,vs1,e1,c1,K1,h1,hs,him,hP,hR⟩
   obtain ⟨tt2,ht2⟩ := hP.eye.cell
   refine ae (ae (aa ?_))
   refine L hs rfl rfl (ah hs (.inl rfl) rfl) fun a hs => ?_
   refine L hs rfl rfl (ah hs (.inl rfl) rfl) fun a hs => ?_
   refine L hs rfl rfl (dC hs rfl rfl hL) fun a hs => ?_
   refine L hs rfl rfl (dB hs rfl rfl rfl rfl) fun a hs => ?_
   refine L hs rfl rfl (ah hs (.inl rfl) rfl) fun a hs => ?_
   have stop : ∀ a,SL 46 [(0,Ptr be 0)] a → ¬ (i < M ∧ e1.n.length < 200000) → fin P [] (Out y mark room 1 true (fun a b => See D room c (.iter one sz a0 0 M) { a with n := a.n ++ [(len : Int)] } b) w be vn vs ey c) .normal a w1 := by
    intro a hs hno
    refine pD hs ⟨rfl,_,_,_,_,(hP.S fun _ h => h _ (.stop _ _ _ _ _ _ hno)).RB (hR.all (by omega))⟩
   by_cases hiM : i < M
   ·have hdec : decide ((i : Int) < (M : Int)) = true := decide_eq_true (by omega)
    rw [hdec] at hs
    refine L hs (by rw [wg hs rfl rfl rfl rfl]; rfl) rfl (ah hs (.inl rfl) rfl) fun a hs => ?_
    refine L hs (by rw [wg hs rfl rfl rfl rfl]; rfl) rfl (bB hs rfl rfl) fun a hs => ?_
    refine L hs (by rw [wg hs rfl rfl rfl rfl]; rfl) rfl (bE hs rfl rfl K.e0) fun a hs => ?_
    refine L hs (by rw [wg hs rfl rfl rfl rfl]; rfl) rfl (bG hs rfl rfl K.nl ht2 (v := vn1) rfl) fun a hs => ?_
    obtain ⟨pv,cv,hvn⟩ : ∃ pv cv,vn1 = .slice pv e1.n.length cv := by
     rcases hP.eye.n.2 with ⟨h1,h2⟩ | ⟨g,cap,cur,h1,_⟩
     ·exact ⟨none,0,by rw [h1,h2]⟩
     ·exact ⟨_,_,h1⟩
    refine L hs (by rw [wg hs rfl rfl rfl rfl]; rfl) rfl (dC hs rfl (by rw [← hvn]; rfl) K.nlU) fun a hs => ?_
    refine L hs (by rw [wg hs rfl rfl rfl rfl]; rfl) rfl (dB hs rfl rfl rfl rfl) fun a hs => ?_
    refine L hs rfl rfl (lM (b := true) hs rfl rfl (fun _ => rfl) (fun h => by cases h)) fun a hs => ?_
    refine Le (br (t := decide ((e1.n.length : Int) < 200000)) (hs.ev rfl) (fun hlt => bA ?_) fun hlt => dX ?_)
    ·have hlt := of_decide_eq_true hlt
     have hlt' : e1.n.length < 200000 := by omega
     rcases hpl with ⟨_,h0⟩ | ⟨b,o,rfl,hpl⟩
     ·omega
     refine ae (bD (aa ?_))
     refine L hs rfl rfl (ah hs (.inl rfl) rfl) fun a hs => ?_
     refine L hs rfl rfl (ah hs (.inl rfl) rfl) fun a hs => ?_
     refine L hs rfl rfl (ah hs (.inl rfl) rfl) fun a hs => ?_
     refine L hs rfl rfl (ah hs (.inl rfl) rfl) fun a hs => ?_
     refine L hs rfl rfl (ry hs rfl rfl rfl hL hi (by omega) (by omega)) fun a hs => ?_
     have hix : o + ((i : Int)).toNat * inf.size = o + i * sz := by rw [hsz]; simp
     rw [hix] at hs
     have hcall := hC (by omega) w1 be b (o + i * sz) vn1 vs1 e1 c1 hP.eye hP.zn hP.dis (fun j k hj => (hpl i hiM j k hj).keq hP.keq) (hR.bd (_m := 0) (by omega) hb hlt' h16)
     refine Lc hs rfl rfl rfl rfl rfl hok hcall fun v w3 a hO hs => ?_
     obtain ⟨_,vn2,vs2,e2,c2,hP2⟩ := hO
     refine Le (aa ?_)
     refine L hs rfl rfl (ah hs (.inl rfl) rfl) fun a hs => ?_
     refine L hs rfl rfl (b9 hs rfl rfl rfl rfl) fun a hs => ?_
     refine L hs rfl rfl (ah hs (.inr rfl) rfl) fun a hs => ?_
     have hw : IntKind.wrap .i64 ((i : Int) + 1) = ((i + 1 : Nat) : Int) := by rw [dZ (by omega) (by omega)]; omega
     have hs' := hs.keep [0,1,2,6]
     rw [hw] at hs'
     refine Le ⟨m - 1,by omega,i + 1,vn2,vs2,e2,c2,_,_,hs',by omega,hP.trans hP2 fun hm h1 h2 z hz => ?_,hR.next hP2.gr hlt' h16 h1n⟩
     have hcc := (hP.same hm).1
     subst hcc
     exact h1 z (.step _ _ _ _ _ _ _ _ _ hiM hlt' h2 hz)
    ·have hlt := of_decide_eq_false hlt
     exact stop _ (hs.keep [0]) (by omega)
   ·have hdec : decide ((i : Int) < (M : Int)) = false := decide_eq_false (by omega)
    rw [hdec] at hs
    refine Lu hs (by rw [wg hs rfl rfl rfl rfl]; rfl) rfl fun a hs => ?_
    refine Lu hs (by rw [wg hs rfl rfl rfl rfl]; rfl) rfl fun a hs => ?_
    refine Lu hs (by rw [wg hs rfl rfl rfl rfl]; rfl) rfl fun a hs => ?_
    refine Lu hs (by rw [wg hs rfl rfl rfl rfl]; rfl) rfl fun a hs => ?_
    refine Lu hs (by rw [wg hs rfl rfl rfl rfl]; rfl) rfl fun a hs => ?_
    refine Lu hs (by rw [wg hs rfl rfl rfl rfl]; rfl) rfl fun a hs => ?_
    refine L hs rfl rfl (lM (b := false) hs rfl rfl (fun h => by cases h) (fun _ => rfl)) fun a hs => ?_
    refine Le (br (t := false) (hs.ev rfl) (fun h => by cases h) fun _ => dX ?_)
    exact stop _ (hs.keep [0]) (by omega)
 refine Le (br (t := room) (hs.ev rfl) (fun hr => aa ?_) fun hr => bA ?_)
 ·refine L hs rfl rfl (ah hs (.inl rfl) rfl) fun a hs => ?_
  refine L hs rfl rfl (ah hs (.inl rfl) rfl) fun a hs => ?_
  refine L hs rfl rfl (QR hs rfl rfl hL) fun a hs => ?_
  refine L hs rfl rfl (OL hs rfl rfl rfl hL hi fun p hp => by
   rcases hpl with ⟨h0,_⟩ | ⟨b,o,h0,_⟩
   ·rw [h0 hr] at hp; cases hp
   ·rw [h0] at hp; cases hp; exact ⟨b,o,rfl⟩) fun a hs => ?_
  refine L hs rfl rfl (ah hs (.inr rfl) rfl) fun a hs => ?_
  refine Le (rest _ ?_)
  rw [hM,hr]; exact hs.keep [0,1,2]
 ·refine rest _ ?_
  rw [hM,hr]; exact hs.keep [0,1,2]
theorem vM {P : Program} {y : TY} (K : Kit P y) {D : cX} {mark room wr : Bool} (hD : jI P y D) (hmw : mark = true → wr = true) :
  ∀ (d rk : Nat) (f : FuncId) (r : Row),lk D f = some r → r.bH ≤ rk → A6 P y D mark room wr d f r := by
 intro d
 induction d using Nat.strongRecOn with
 | _ d ihd =>
  intro rk
  induction rk using Nat.strongRecOn with
  | _ rk ihr =>
   intro f r hf hrk w be pb po vn vs e c hE hz hd hpl hb
   have hfit := hD f r hf
   unfold Fit at hfit
   split at hfit
   ·rename_i T hds
    obtain ⟨h1,⟨z,h2⟩,h3,h4⟩ := hfit
    rw [h3,h4]
    rw [h3] at hb
    refine (ON K h1 h2 hE hz hd (by have := hpl 0 (.int .i64) (by rw [h3]; rfl); simpa using this) hmw hb).mono ?_
    rintro v w' ⟨hv,vn',vs',e',c',hP⟩
    exact ⟨hv,vn',vs',e',c',hP.S fun _ ⟨x,hx,he⟩ => by rw [he]; exact .num _ _ _ _ r T x hf hds hx⟩
   ·rename_i hds
    obtain ⟨h1,h3,h4⟩ := hfit
    rw [h3,h4]
    rw [h3] at hb
    refine (OP K h1 hE hz hd (by have := hpl 0 .bool (by rw [h3]; rfl); simpa using this) hb).mono ?_
    rintro v w' ⟨hv,vn',vs',e',c',hP⟩
    exact ⟨hv,vn',vs',e',c',hP.S fun _ ⟨x,hx,he⟩ => by rw [he]; exact .yes _ _ _ _ r x hf hds hx⟩
   ·rename_i hds
    obtain ⟨h1,h3,h4⟩ := hfit
    rw [h3,h4]
    rw [h3] at hb
    refine (OQ K h1 hE hz hd (by have := hpl 0 .str (by rw [h3]; rfl); simpa using this) hmw hb).mono ?_
    rintro v w' ⟨hv,vn',vs',e',c',hP⟩
    exact ⟨hv,vn',vs',e',c',hP.S fun _ ⟨x,hx,he⟩ => by rw [he]; exact .str _ _ _ _ r x hf hds hx⟩
   ·rename_i T parts hds
    obtain ⟨h1,h2⟩ := hfit
    refine bW h1 ?_
    have hs := SL.init (n := 4 + 5 * parts.length) [Ptr be 0,Ptr pb po] (Nat.ble_eq_true_of_le (by simp; omega))
    refine lO hD (fun g rg hg hlt => ihr rg.bH (by omega) g rg hg (Nat.le_refl _)) parts 4 _ _ h2 _ w vn vs e c _ _ hE hz hd hpl hb hs rfl rfl (Nat.le_refl _) (Nat.le_refl _) ?_
    intro a' w' vn' vs' e' c' sl' hs' hP
    exact pD hs' ⟨rfl,vn',vs',e',c',hP.S fun _ h => .st _ _ _ _ _ r T parts hf hds h⟩
   ·rename_i LT al one te sz hds
    obtain ⟨h1,h2,hL,⟨inf,hi,hsz⟩,hLn,h3,h4,hok,r1,hr1,hck,hlen,h16,h1n⟩ := hfit
    rw [h3,h4]
    rw [h3] at hb
    obtain ⟨cs,bt,fz,v,hpb,hpo,hv,hfz,_⟩ := hpl 0 (.sl te) (by rw [h3]; rfl)
    rw [Nat.add_zero] at hpo
    have hcase : ∃ a0 len cap d',v = .slice a0 len cap ∧ (if room then cap else len) ≤ 2097154 ∧ (0 < (if room then cap else len) → A6 P y D mark room wr d' one r1) ∧
      (((room = true → a0 = none) ∧ (if room then cap else len) = 0) ∨ ∃ b o,a0 = some ⟨b,o,none⟩ ∧ ∀ i,i < (if room then cap else len) → ∀ (j : Nat) (k : CK),r1.ck[j]? = some k → Pl P wr room c d' b (o + i * sz + j) k) := by
     cases hv with
     | nil _ _ b0 cap0 h0 =>
      have hz0 : (if room = true then cap0 else 0) = 0 := by
       cases room with
       | true => rw [(h0 rfl).2]; rfl
       | false => rfl
      exact ⟨b0,0,cap0,d,rfl,by rw [hz0]; omega,fun h => by rw [hz0] at h; omega,.inl ⟨fun h => (h0 h).1,hz0⟩⟩
     | sl d' _ b o len cap cs2 t2 fz2 g hb2 hf2 hle hl hm hc hbl hw =>
      refine ⟨some ⟨b,o,none⟩,len,cap,d',rfl,?_,fun _ => ihd d' (Nat.lt_succ_self _) _ one r1 hr1 (Nat.le_refl _),.inr ⟨b,o,rfl,?_⟩⟩
      ·unfold b7 at hl
       cases room with
       | true => have := hm rfl; simp; omega
       | false => simp; omega
      ·intro i hi2 j k hj
       rw [hck] at hj
       have hl2 : (cks P te).length = sz := by rw [← hck]; exact hlen
       refine ⟨cs2,t2,fz2,g i j,hb2,?_,hw i hi2 j k hj,hf2,fun hk => ?_⟩
       ·have := hc i hi2 j k hj; rwa [hl2] at this
       ·subst hk; have := hbl i hi2 j hj; rwa [hl2] at this
    obtain ⟨a0,len,cap,d',rfl,hml,hC,hel⟩ := hcase
    refine bW h1 ?_
    have hs := SL.init (n := 9) [Ptr be 0,Ptr pb po] rfl
    revert hs
    generalize ({ tmps := _,defers := [] } : Act) = a
    intro hs
    refine aa ?_
    refine L hs rfl rfl (ah hs (.inl rfl) rfl) fun a hs => ?_
    refine L hs rfl rfl (ah hs (.inl rfl) rfl) fun a hs => ?_
    refine L hs rfl rfl (bB hs rfl rfl) fun a hs => ?_
    refine L hs rfl rfl (bG hs rfl rfl hLn (hz pb _ hpb) hpo) fun a hs => ?_
    have hcall := OS K h2 hL hi hsz hok hC (by omega) (fun h => by rw [hlen]; exact h1n h) rfl hml hE hz hd hel hb
    refine Lc hs rfl rfl rfl rfl rfl h2.ok hcall fun v w3 a hO hs => ?_
    obtain ⟨_,vn',vs',e',c',hP⟩ := hO
    exact Le (pD hs ⟨rfl,vn',vs',e',c',hP.S fun _ h => .via _ _ _ _ _ r LT al one te sz a0 len cap hf hds (by simp only [pl,hpb]; exact hpo) h⟩)
end Go.TL.H
