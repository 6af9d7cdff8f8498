/- same and great: eyes compared, eyes measured. -/
import Derived.Test.YtajkchpnbnbmfaaGreatDoorW08
import Derived.Laws.MakeOwn
import Derived.Test.YtajkchpnbnbmfaaGreatDoorW06
namespace Go.TL.H
open Go
structure pE (y : TY) (w : World) (vn vs : Value) (n : List Int) (s : List ByteArray) : Prop where
 n : w.ownsRow 0 y.I 1 vn n.length (n.map (Value.int .i64))
 s : w.ownsRow 0 y.S 1 vs s.length (s.map Value.string)
theorem pE.keep {y : TY} {w w' : World} {vn vs : Value} {n : List Int} {s : List ByteArray} (h : pE y w vn vs n s) (hc : Ch (fun _ => False) w w') : pE y w' vn vs n s :=
 ⟨hc.ownsRow h.n fun _ _ h => h,hc.ownsRow h.s fun _ _ h => h⟩
theorem bX.lists {y : TY} {w : World} {be : Nat} {vn vs : Value} {e : Eye} {m r : Bool} (h : bX y w be vn vs e m r) : pE y w vn vs e.n e.s := ⟨h.n,h.s⟩
theorem iz {w : World} {T n : Nat} {v : Value} {xs : List Value} (h : w.ownsRow 0 T 1 v n xs) : ∃ p c,v = .slice p n c := by
 rcases h.2 with ⟨h1,h2⟩ | ⟨g,cap,cur,h1,_⟩
 ·exact ⟨none,0,by rw [h1,h2]⟩
 ·exact ⟨_,_,h1⟩
theorem nK {w : World} {T n i : Nat} {v : Value} {xs : List Value} (h : w.ownsRow 0 T 1 v n xs) (hi : i < n) : ∃ g cap cur,v = .slice (some ⟨g,0,none⟩) n cap ∧ w.heap[g]? = some (.cells cur T (0,0)) ∧ cur[i]? = xs[i]? := by
 rcases h.2 with ⟨_,h2⟩ | ⟨g,cap,cur,h1,_,h3,_,_,_,h4⟩
 ·omega
 ·refine ⟨g,cap,cur,h1,h3,?_⟩
  rw [← h4]
  rw [List.getElem?_take,if_pos (by omega)]
  simp
theorem mJ {P : Program} {o : Oper} {n : Nat} {sl : cj} {a : Act} {w : World} {x ix : Operand} {LT e : TypeId} {z : Value} {g m c i : Nat} (h : SL n sl a) (ho : o.op = .indexAddr LT x ix) (ex : ev sl x = some (.slice (some ⟨g,0,none⟩) m c)) (ei : ev sl ix = some (.int .i64 (i : Int)))
  (ht : P.underlying LT = some (.slice e)) (hT : One P e z) (h1 : i < m) : (execOp a.eval o).run P w = .ok (.value (Ptr g i)) w := by
 obtain ⟨inf,hi,_,hsz,_⟩ := hT.is
 have := ry (P := P) (w := w) h ho ex ei ht hi (by omega) (by omega)
 rw [this,hsz]
 simp
theorem sN {w w1 : World} (h : Ch (fun _ => False) w w1) : Ch (fun _ => False) w { w1 with drawn := w1.drawn + 1 } := h.trans (Ch.drew _ _)
def kp (b : Bool) (k : Nat) : Code := .seq (rg [p1 k (.assign (.const (.bool b)))]) .ret
theorem nL {P : Program} {n k : Nat} {sl : cj} {a : Act} {w : World} {b : Bool} {Q : Exit → Act → World → Prop} (hs : SL n sl a) (hk : dok n (some k) = true) (kk : ∀ a',SL n [(k,.bool b)] a' → Q .ret a' w) : NW P (kp b k) Q a w := by
 refine ae (aa ?_)
 refine L hs rfl hk (ah hs (.inr rfl) rfl) fun a hs => Le (cW (kk _ ⟨hs.size,hs.defers,fun t v ht => ?_⟩))
 refine hs.ab t v ?_
 simp only [lk] at ht ⊢
 simp only [du,lk]
 cases hb : Nat.beq k t with
 | true => simp only [hb] at ht; exact ht
 | false => simp [hb] at ht
theorem eK {P : Program} {n k : Nat} {sl : cj} {a : Act} {w : World} {v : Value} {R : Value → World → Prop} (h : SL n sl a) (hv : lk sl k = some v) (hR : R v w) : fin P [.tmp k] R .ret a w :=
 ⟨h.defers,v,⟨[v],by simp [fg,h.ab k v hv],rfl⟩,hR⟩
def JF (y : TY) : List Oper :=
 [p1 7 (.fieldAddr y.E (t 2) 0),p1 8 (.load y.NL (t 7)),pt 9 (eZ (t 8) y.NL) y.I,p1 10 (.fieldAddr y.E (t 3) 0),p1 11 (.load y.NL (t 10)),pt 12 (eZ (t 11) y.NL) y.I,p1 13 (.binOp .neq y.I (t 9) (t 12) y.I),p1 14 (.move (t 13)),
  pg 15 (.fieldAddr y.E (t 2) 1) 0 7 false,pg 16 (.load y.SS (t 15)) 0 7 false,pg 17 (eZ (t 16) y.SS) y.I 7 false,pg 18 (.fieldAddr y.E (t 3) 1) 0 7 false,pg 19 (.load y.SS (t 18)) 0 7 false,pg 20 (eZ (t 19) y.SS) y.I 7 false,
  pg 21 (.binOp .neq y.I (t 17) (t 20) y.I) 0 7 false,p1 22 (.pick (t 14) (.const (.bool true)) (t 21))]
def pF (y : TY) (i k f : Nat) (LT T : TypeId) (id : Nat) : Code :=
 .seq (rg [p1 i (.assign (ci 0))])
  (.block id (.loop (.seq (.seq (rg [p1 k (.move (t i)),p1 (k + 1) (.fieldAddr y.E (t 2) f),p1 (k + 2) (.load LT (t (k + 1))),pt (k + 3) (eZ (t (k + 2)) LT) y.I,p1 (k + 4) (.binOp .lss y.I (t k) (t (k + 3)) y.I)]) (.cond (t (k + 4)) .skip (.exit id)))
   (.seq (.block (id + 1) (.seq (rd [q1 (k + 7) (.fieldAddr y.E (t 2) f) [],q1 (k + 8) (.load LT (t (k + 7))) [eD 0],q1 (k + 9) (.move (t i)) [],q1 (k + 10) (.indexAddr LT (t (k + 8)) (t (k + 9))) [eD 1,eD 2],q1 (k + 11) (.load T (t (k + 10))) [eD 3],
     q1 (k + 12) (.fieldAddr y.E (t 3) f) [],q1 (k + 13) (.load LT (t (k + 12))) [eD 5],q1 (k + 14) (.move (t i)) [],q1 (k + 15) (.indexAddr LT (t (k + 13)) (t (k + 14))) [eD 6,eD 7],q1 (k + 16) (.load T (t (k + 15))) [eD 8],q1 (k + 17) (.binOp .neq T (t (k + 11)) (t (k + 16)) T) [eD 4,eD 9]])
     (.cond (t (k + 17)) (kp false 4) .skip)))
    (rg [p1 (k + 5) (.move (t i)),p1 (k + 6) (.binOp .add y.I (t (k + 5)) (ci 1) y.I),p1 i (.assign (t (k + 6)))])))))
def mK (y : TY) : Code :=
 .seq (rg [p1 2 (.box y.E (t 0)),p1 3 (.box y.E (t 1)),p1 4 (.assign (.const (.bool false)))])
  (.seq (.seq (rg (JF y)) (.cond (t 22) (kp false 4) .skip))
   (.seq (pF y 5 23 0 y.NL y.I 0) (.seq (pF y 6 41 1 y.SS y.S 2) (kp true 4))))
theorem tT {P : Program} {y : TY} (K : Kit P y) {i k f : Nat} {LT TT : TypeId} {id : Nat} {z : Value} {w0 : World} {b1 b2 len : Nat} {c1 c2 : Array Value} {t1 t2 : TypeId} {v1 v2 : Value} {xs : List Value}
  (hik : (i = 5 ∧ k = 23 ∧ f = 0 ∧ id = 0) ∨ (i = 6 ∧ k = 41 ∧ f = 1 ∧ id = 2)) (hf : bM P y.E f = some (f,1)) (hLT : P.underlying LT = some (.slice TT)) (hL1 : One P LT aj) (hT : One P TT z) (hlen : len ≤ 4611686018427387904)
  (hb1 : w0.heap[b1]? = some (.cells c1 t1 (0,0))) (hb2 : w0.heap[b2]? = some (.cells c2 t2 (0,0))) (hc1 : c1[f]? = some v1) (hc2 : c2[f]? = some v2) (ho1 : w0.ownsRow 0 TT 1 v1 len xs) (ho2 : w0.ownsRow 0 TT 1 v2 len xs)
  (heq : ∀ (w : World) (a : Act) (o : Oper) (sl : cj) (x y' : Operand) (v : Value),SL 59 sl a → o.op = .binOp .neq TT x y' TT → ev sl x = some v → ev sl y' = some v → v ∈ xs → (execOp a.eval o).run P w = .ok (.value (.bool false)) w)
  {Q : Exit → Act → World → Prop} {a : Act} {w : World} (hs : SL 59 [(2,Ptr b1 0),(3,Ptr b2 0)] a) (hw : Ch (fun _ => False) w0 w)
  (kk : ∀ a' w',SL 59 [(2,Ptr b1 0),(3,Ptr b2 0)] a' → Ch (fun _ => False) w0 w' → Q .normal a' w') : NW P (pF y i k f LT TT id) Q a w := by
 have main : ∀ (i k id : Nat),(i = 5 ∧ k = 23 ∧ id = 0) ∨ (i = 6 ∧ k = 41 ∧ id = 2) → NW P (pF y i k f LT TT id) Q a w := by
  intro i k id hik
  rcases hik with ⟨rfl,rfl,rfl⟩ | ⟨rfl,rfl,rfl⟩
  all_goals
   refine ae (aa ?_)
   refine L hs rfl rfl (ah hs (.inr rfl) rfl) fun a hs => ?_
  ·refine Le (bD (dY (fun m a w1 => ∃ (j : Nat),SL 59 [(2,Ptr b1 0),(3,Ptr b2 0),(5,.int .i64 (j : Int))] a ∧ j + m = len ∧ Ch (fun _ => False) w0 w1) len ⟨0,hs.keep [2,3,5],by omega,hw⟩ ?_))
   rintro m a w1 ⟨j,hs,hj,hw1⟩
   obtain ⟨p,c,hv⟩ := iz ho1
   refine ae (ae (aa ?_))
   refine L hs rfl rfl (ah hs (.inl rfl) rfl) fun a hs => ?_
   refine L hs rfl rfl (bE hs rfl rfl hf) fun a hs => ?_
   refine L hs rfl rfl (bG hs rfl rfl hL1 (hw1.at hb1 fun h => h) (by rw [Nat.zero_add]; exact hc1)) fun a hs => ?_
   refine L hs rfl rfl (dC hs rfl (by rw [← hv]; rfl) hLT) fun a hs => ?_
   refine L hs rfl rfl (dB hs rfl rfl rfl rfl) fun a hs => ?_
   refine Le (br (t := decide ((j : Int) < (len : Int))) (hs.ev rfl) (fun hlt => bA ?_) fun hlt => dX ?_)
   ·have hlt := of_decide_eq_true hlt
    have hjl : j < len := by omega
    obtain ⟨g1,cap1,cur1,e1,h1,q1⟩ := nK ho1 hjl
    obtain ⟨g2,cap2,cur2,e2,h2,q2⟩ := nK ho2 hjl
    have hxl : xs.length = len := by have := ho1.1; omega
    have hx : xs[j]? = some xs[j] := by simp
    have hw2 := sN hw1
    refine ae (bD (ae (AW K.mixed (by kernel_rfl) ?_)))
    refine T hs rfl rfl (bE hs rfl rfl hf) fun a hs => ?_
    refine T hs rfl rfl (bG hs rfl rfl hL1 (hw2.at hb1 fun h => h) (by rw [Nat.zero_add]; exact hc1)) fun a hs => ?_
    refine T hs rfl rfl (ah hs (.inl rfl) rfl) fun a hs => ?_
    refine T hs rfl rfl (mJ hs rfl (by rw [← e1]; rfl) rfl hLT hT hjl) fun a hs => ?_
    refine T hs rfl rfl (bG hs rfl rfl hT (hw2.at h1 fun h => h) (q1.trans hx)) fun a hs => ?_
    refine T hs rfl rfl (bE hs rfl rfl hf) fun a hs => ?_
    refine T hs rfl rfl (bG hs rfl rfl hL1 (hw2.at hb2 fun h => h) (by rw [Nat.zero_add]; exact hc2)) fun a hs => ?_
    refine T hs rfl rfl (ah hs (.inl rfl) rfl) fun a hs => ?_
    refine T hs rfl rfl (mJ hs rfl (by rw [← e2]; rfl) rfl hLT hT hjl) fun a hs => ?_
    refine T hs rfl rfl (bG hs rfl rfl hT (hw2.at h2 fun h => h) (q2.trans hx)) fun a hs => ?_
    refine T hs rfl rfl (heq _ _ _ _ _ _ _ hs rfl rfl rfl (List.getElem_mem _)) fun a hs => ?_
    refine Te (br (t := false) (hs.ev rfl) (fun h => by cases h) fun _ => bA (aa ?_))
    refine L hs rfl rfl (ah hs (.inl rfl) rfl) fun a hs => ?_
    refine L hs rfl rfl (b9 hs rfl rfl rfl rfl) fun a hs => ?_
    refine L hs rfl rfl (ah hs (.inr rfl) rfl) fun a hs => ?_
    have hwj : IntKind.wrap .i64 ((j : Int) + 1) = ((j + 1 : Nat) : Int) := by rw [dZ (by omega) (by omega)]; omega
    have hs' := hs.keep [2,3,5]
    rw [hwj] at hs'
    exact Le ⟨m - 1,by omega,j + 1,hs',by omega,hw2⟩
   ·exact kk _ _ (hs.keep [2,3]) hw1
  ·refine Le (bD (dY (fun m a w1 => ∃ (j : Nat),SL 59 [(2,Ptr b1 0),(3,Ptr b2 0),(6,.int .i64 (j : Int))] a ∧ j + m = len ∧ Ch (fun _ => False) w0 w1) len ⟨0,hs.keep [2,3,6],by omega,hw⟩ ?_))
   rintro m a w1 ⟨j,hs,hj,hw1⟩
   obtain ⟨p,c,hv⟩ := iz ho1
   refine ae (ae (aa ?_))
   refine L hs rfl rfl (ah hs (.inl rfl) rfl) fun a hs => ?_
   refine L hs rfl rfl (bE hs rfl rfl hf) fun a hs => ?_
   refine L hs rfl rfl (bG hs rfl rfl hL1 (hw1.at hb1 fun h => h) (by rw [Nat.zero_add]; exact hc1)) fun a hs => ?_
   refine L hs rfl rfl (dC hs rfl (by rw [← hv]; rfl) hLT) fun a hs => ?_
   refine L hs rfl rfl (dB hs rfl rfl rfl rfl) fun a hs => ?_
   refine Le (br (t := decide ((j : Int) < (len : Int))) (hs.ev rfl) (fun hlt => bA ?_) fun hlt => dX ?_)
   ·have hlt := of_decide_eq_true hlt
    have hjl : j < len := by omega
    obtain ⟨g1,cap1,cur1,e1,h1,q1⟩ := nK ho1 hjl
    obtain ⟨g2,cap2,cur2,e2,h2,q2⟩ := nK ho2 hjl
    have hxl : xs.length = len := by have := ho1.1; omega
    have hx : xs[j]? = some xs[j] := by simp
    have hw2 := sN hw1
    refine ae (bD (ae (AW K.mixed (by kernel_rfl) ?_)))
    refine T hs rfl rfl (bE hs rfl rfl hf) fun a hs => ?_
    refine T hs rfl rfl (bG hs rfl rfl hL1 (hw2.at hb1 fun h => h) (by rw [Nat.zero_add]; exact hc1)) fun a hs => ?_
    refine T hs rfl rfl (ah hs (.inl rfl) rfl) fun a hs => ?_
    refine T hs rfl rfl (mJ hs rfl (by rw [← e1]; rfl) rfl hLT hT hjl) fun a hs => ?_
    refine T hs rfl rfl (bG hs rfl rfl hT (hw2.at h1 fun h => h) (q1.trans hx)) fun a hs => ?_
    refine T hs rfl rfl (bE hs rfl rfl hf) fun a hs => ?_
    refine T hs rfl rfl (bG hs rfl rfl hL1 (hw2.at hb2 fun h => h) (by rw [Nat.zero_add]; exact hc2)) fun a hs => ?_
    refine T hs rfl rfl (ah hs (.inl rfl) rfl) fun a hs => ?_
    refine T hs rfl rfl (mJ hs rfl (by rw [← e2]; rfl) rfl hLT hT hjl) fun a hs => ?_
    refine T hs rfl rfl (bG hs rfl rfl hT (hw2.at h2 fun h => h) (q2.trans hx)) fun a hs => ?_
    refine T hs rfl rfl (heq _ _ _ _ _ _ _ hs rfl rfl rfl (List.getElem_mem _)) fun a hs => ?_
    refine Te (br (t := false) (hs.ev rfl) (fun h => by cases h) fun _ => bA (aa ?_))
    refine L hs rfl rfl (ah hs (.inl rfl) rfl) fun a hs => ?_
    refine L hs rfl rfl (b9 hs rfl rfl rfl rfl) fun a hs => ?_
    refine L hs rfl rfl (ah hs (.inr rfl) rfl) fun a hs => ?_
    have hwj : IntKind.wrap .i64 ((j : Int) + 1) = ((j + 1 : Nat) : Int) := by rw [dZ (by omega) (by omega)]; omega
    have hs' := hs.keep [2,3,6]
    rw [hwj] at hs'
    exact Le ⟨m - 1,by omega,j + 1,hs',by omega,hw2⟩
   ·exact kk _ _ (hs.keep [2,3]) hw1
 rcases hik with ⟨rfl,rfl,_,rfl⟩ | ⟨rfl,rfl,_,rfl⟩
 ·exact main _ _ _ (.inl ⟨rfl,rfl,rfl⟩)
 ·exact main _ _ _ (.inr ⟨rfl,rfl,rfl⟩)
theorem D8 {P : Program} {y : TY} (K : Kit P y) {f : FuncId} (hB : Body P f 59 [.tmp 4] (mK y)) {w : World} {vn vs vn2 vs2 : Value} {a1 a2 : Int} {m1 m2 r1 r2 : Bool} {n : List Int} {s : List ByteArray} (h1 : pE y w vn vs n s) (h2 : pE y w vn2 vs2 n s)
  (hn : n.length ≤ 4611686018427387904) (hsl : s.length ≤ 4611686018427387904) :
  Ret P f [.agg (ai vn vs a1 m1 r1),.agg (ai vn2 vs2 a2 m2 r2)] w fun v w' => v = .bool true ∧ Ch (fun _ => False) w w' := by
 refine bW hB ?_
 have hs := SL.init (n := 59) [.agg (ai vn vs a1 m1 r1),.agg (ai vn2 vs2 a2 m2 r2)] rfl
 revert hs
 generalize ({ tmps := _,defers := [] } : Act) = a
 intro hs
 refine ae (aa ?_)
 refine L hs rfl rfl (gT hs rfl rfl) fun a hs => ?_
 refine L hs rfl rfl (gT hs rfl rfl) fun a hs => ?_
 refine L hs rfl rfl (ah hs (.inr rfl) rfl) fun a hs => ?_
 have g1 := Ch.alloc (fun _ => False) w (.cells (ai vn vs a1 m1 r1) y.E)
 have g2 := Ch.alloc (fun _ => False) (w.alloc (.cells (ai vn vs a1 m1 r1) y.E)) (.cells (ai vn2 vs2 a2 m2 r2) y.E)
 have hb1 := g2.at (heap_alloc_new w (.cells (ai vn vs a1 m1 r1) y.E)) (fun h => h)
 have hb2 := heap_alloc_new (w.alloc (.cells (ai vn vs a1 m1 r1) y.E)) (.cells (ai vn2 vs2 a2 m2 r2) y.E)
 have g := g1.trans g2
 have k1 := h1.keep g
 have k2 := h2.keep g
 obtain ⟨p1,c1,e1⟩ := iz k1.n
 obtain ⟨p2,c2,e2⟩ := iz k2.n
 obtain ⟨p3,c3,e3⟩ := iz k1.s
 obtain ⟨p4,c4,e4⟩ := iz k2.s
 refine Le (ae (ae (aa ?_)))
 refine L hs rfl rfl (bE hs rfl rfl K.e0) fun a hs => ?_
 refine L hs rfl rfl (bG hs rfl rfl K.nl hb1 (v := vn) rfl) fun a hs => ?_
 refine L hs rfl rfl (dC hs rfl (by rw [← e1]; rfl) K.nlU) fun a hs => ?_
 refine L hs rfl rfl (bE hs rfl rfl K.e0) fun a hs => ?_
 refine L hs rfl rfl (bG hs rfl rfl K.nl hb2 (v := vn2) rfl) fun a hs => ?_
 refine L hs rfl rfl (dC hs rfl (by rw [← e2]; rfl) K.nlU) fun a hs => ?_
 refine L hs rfl rfl (dB hs rfl rfl rfl rfl) fun a hs => ?_
 rw [show ((n.length : Int) != (n.length : Int)) = false by simp] at hs
 refine L hs rfl rfl (ah hs (.inl rfl) rfl) fun a hs => ?_
 refine L hs (by rw [wg hs rfl rfl rfl rfl]; rfl) rfl (bE hs rfl rfl K.e1) fun a hs => ?_
 refine L hs (by rw [wg hs rfl rfl rfl rfl]; rfl) rfl (bG hs rfl rfl K.ss hb1 (v := vs) rfl) fun a hs => ?_
 refine L hs (by rw [wg hs rfl rfl rfl rfl]; rfl) rfl (dC hs rfl (by rw [← e3]; rfl) K.ssU) fun a hs => ?_
 refine L hs (by rw [wg hs rfl rfl rfl rfl]; rfl) rfl (bE hs rfl rfl K.e1) fun a hs => ?_
 refine L hs (by rw [wg hs rfl rfl rfl rfl]; rfl) rfl (bG hs rfl rfl K.ss hb2 (v := vs2) rfl) fun a hs => ?_
 refine L hs (by rw [wg hs rfl rfl rfl rfl]; rfl) rfl (dC hs rfl (by rw [← e4]; rfl) K.ssU) fun a hs => ?_
 refine L hs (by rw [wg hs rfl rfl rfl rfl]; rfl) rfl (dB hs rfl rfl rfl rfl) fun a hs => ?_
 rw [show ((s.length : Int) != (s.length : Int)) = false by simp] at hs
 refine L hs rfl rfl (lM (b := false) hs rfl rfl (fun h => by cases h) (fun _ => rfl)) fun a hs => ?_
 refine Le (br (t := false) (hs.ev rfl) (fun h => by cases h) fun _ => bA (ae ?_))
 refine tT K (.inl ⟨rfl,rfl,rfl,rfl⟩) K.e0 K.nlU K.nl K.i hn hb1 hb2 rfl rfl k1.n k2.n ?_ (hs.keep [2,3]) (Ch.refl _ _) fun a w1 hs hw1 => ?_
 ·intro w a o sl x y' v hs ho ex ey hm
  obtain ⟨i,_,rfl⟩ := List.mem_map.1 hm
  have := dB (P := P) (w := w) (r := false) hs ho ex ey (by simp [o6])
  exact this
 refine ae (tT K (.inr ⟨rfl,rfl,rfl,rfl⟩) K.e1 K.ssU K.ss K.s hsl hb1 hb2 rfl rfl k1.s k2.s ?_ (hs.keep [2,3]) hw1 fun a w2 hs hw2 => ?_)
 ·intro w a o sl x y' v hs ho ex ey hm
  obtain ⟨i,_,rfl⟩ := List.mem_map.1 hm
  have := OH (P := P) (w := w) (c := false) hs ho ex ey (by simp [kj])
  exact this
 exact nL hs rfl fun a' hs => eK hs rfl ⟨rfl,g.trans hw2⟩
def vN (y : TY) : Code :=
 .seq (rg [p1 1 (.box y.E (t 0)),p1 2 (.assign (.const (.bool false)))])
  (.seq (rg [p1 3 (.assign (ci 0))])
   (.seq (.seq (rg [p1 4 (.assign (ci 0))])
    (.block 0 (.loop (.seq (.seq (rg [p1 5 (.move (t 4)),p1 6 (.fieldAddr y.E (t 1) 1),p1 7 (.load y.SS (t 6)),pt 8 (eZ (t 7) y.SS) y.I,p1 9 (.binOp .lss y.I (t 5) (t 8) y.I)]) (.cond (t 9) .skip (.exit 0)))
     (.seq (.block 1 (.seq (rg [p1 12 (.move (t 3)),p1 13 (.fieldAddr y.E (t 1) 1),p1 14 (.load y.SS (t 13)),p1 15 (.move (t 4)),p1 16 (.indexAddr y.SS (t 14) (t 15)),p1 17 (.load y.S (t 16)),pt 18 (eZ (t 17) y.S) y.I,
       pt 19 (.call ⟨.builtin .min, #[t 18,ci 3000], #[y.I,y.I]⟩) y.I,p1 20 (.binOp .add y.I (t 12) (t 19) y.I),p1 3 (.assign (t 20))])
       (.seq (rg [p1 21 (.move (t 3)),p1 22 (.binOp .gtr y.I (t 21) (ci 2000) y.I)]) (.cond (t 22) (kp true 2) .skip))))
      (rg [p1 10 (.move (t 4)),p1 11 (.binOp .add y.I (t 10) (ci 1) y.I),p1 4 (.assign (t 11))]))))))
    (.seq (rg [p1 23 (.fieldAddr y.E (t 1) 0),p1 24 (.load y.NL (t 23)),pt 25 (eZ (t 24) y.NL) y.I,p1 26 (.binOp .gtr y.I (t 25) (ci 2000) y.I),p1 2 (.assign (t 26))]) .ret)))
theorem JG {P : Program} {y : TY} (K : Kit P y) {f : FuncId} (hB : Body P f 27 [.tmp 2] (vN y)) {w : World} {vn vs : Value} {a1 : Int} {m1 r1 : Bool} {n : List Int} {s : List ByteArray} (h1 : pE y w vn vs n s) (hsl : s.length ≤ 4611686018427387904) :
  Ret P f [.agg (ai vn vs a1 m1 r1)] w fun v w' => (∃ b : Bool,v = .bool b ∧ (b = false → n.length ≤ 2000)) ∧ Ch (fun _ => False) w w' := by
 refine bW hB ?_
 have hs := SL.init (n := 27) [.agg (ai vn vs a1 m1 r1)] rfl
 revert hs
 generalize ({ tmps := _,defers := [] } : Act) = a
 intro hs
 refine ae (aa ?_)
 refine L hs rfl rfl (gT hs rfl rfl) fun a hs => ?_
 refine L hs rfl rfl (ah hs (.inr rfl) rfl) fun a hs => ?_
 have g := Ch.alloc (fun _ => False) w (.cells (ai vn vs a1 m1 r1) y.E)
 have hb1 := heap_alloc_new w (.cells (ai vn vs a1 m1 r1) y.E)
 have k1 := h1.keep g
 obtain ⟨q1,c1,e1⟩ := iz k1.n
 obtain ⟨q3,c3,e3⟩ := iz k1.s
 refine Le (ae (aa ?_))
 refine L hs rfl rfl (ah hs (.inr rfl) rfl) fun a hs => ?_
 refine Le (ae (ae (aa ?_)))
 refine L hs rfl rfl (ah hs (.inr rfl) rfl) fun a hs => ?_
 refine Le (bD (dY (fun m a w1 => ∃ (j : Nat) (q : Int),SL 27 [(1,Ptr w.heap.size 0),(3,.int .i64 q),(4,.int .i64 (j : Int))] a ∧ j + m = s.length ∧ 0 ≤ q ∧ q ≤ 2000 ∧ Ch (fun _ => False) (w.alloc (.cells (ai vn vs a1 m1 r1) y.E)) w1) s.length
  ⟨0,0,hs.keep [1,3,4],by omega,by omega,by omega,Ch.refl _ _⟩ ?_))
 rintro m a w1 ⟨j,q,hs,hj,hq0,hq1,hw1⟩
 refine ae (ae (aa ?_))
 refine L hs rfl rfl (ah hs (.inl rfl) rfl) fun a hs => ?_
 refine L hs rfl rfl (bE hs rfl rfl K.e1) fun a hs => ?_
 refine L hs rfl rfl (bG hs rfl rfl K.ss (hw1.at hb1 fun h => h) (v := vs) rfl) fun a hs => ?_
 refine L hs rfl rfl (dC hs rfl (by rw [← e3]; rfl) K.ssU) fun a hs => ?_
 refine L hs rfl rfl (dB hs rfl rfl rfl rfl) fun a hs => ?_
 refine Le (br (t := decide ((j : Int) < (s.length : Int))) (hs.ev rfl) (fun hlt => bA ?_) fun hlt => dX ?_)
 ·have hlt := of_decide_eq_true hlt
  have hjl : j < s.length := by omega
  obtain ⟨g1,cap1,cur1,ee,hh,hc⟩ := nK k1.s hjl
  have hx : cur1[j]? = some (.string s[j]) := by rw [hc]; simp
  refine ae (bD (ae (aa ?_)))
  refine L hs rfl rfl (ah hs (.inl rfl) rfl) fun a hs => ?_
  refine L hs rfl rfl (bE hs rfl rfl K.e1) fun a hs => ?_
  refine L hs rfl rfl (bG hs rfl rfl K.ss (hw1.at hb1 fun h => h) (v := vs) rfl) fun a hs => ?_
  refine L hs rfl rfl (ah hs (.inl rfl) rfl) fun a hs => ?_
  refine L hs rfl rfl (mJ hs rfl (by rw [← ee]; rfl) rfl K.ssU K.s hjl) fun a hs => ?_
  refine L hs rfl rfl (bG hs rfl rfl K.s (hw1.at hh fun h => h) hx) fun a hs => ?_
  refine L hs rfl rfl (OK hs rfl rfl K.sU) fun a hs => ?_
  refine L hs rfl rfl (QS hs rfl rfl rfl) fun a hs => ?_
  have hmin : 0 ≤ (if (3000 : Int) < (s[j].size : Int) then (3000 : Int) else (s[j].size : Int)) ∧ (if (3000 : Int) < (s[j].size : Int) then (3000 : Int) else (s[j].size : Int)) ≤ 3000 := by split <;> omega
  generalize (if (3000 : Int) < (s[j].size : Int) then (3000 : Int) else (s[j].size : Int)) = u at *
  refine L hs rfl rfl (b9 hs rfl rfl rfl rfl) fun a hs => ?_
  rw [dZ (n := q + u) (by omega) (by omega)] at hs
  refine L hs rfl rfl (ah hs (.inr rfl) rfl) fun a hs => ?_
  refine Le (ae (aa ?_))
  refine L hs rfl rfl (ah hs (.inl rfl) rfl) fun a hs => ?_
  refine L hs rfl rfl (dB hs rfl rfl rfl rfl) fun a hs => ?_
  refine Le (br (t := decide (q + u > 2000)) (hs.ev rfl) (fun hg => ?_) fun hg => bA (aa ?_))
  ·exact nL (hs.keep []) rfl fun a' hs => eK hs rfl ⟨⟨true,rfl,fun h => by cases h⟩,g.trans hw1⟩
  ·have hg := of_decide_eq_false hg
   refine L hs rfl rfl (ah hs (.inl rfl) rfl) fun a hs => ?_
   refine L hs rfl rfl (b9 hs rfl rfl rfl rfl) fun a hs => ?_
   refine L hs rfl rfl (ah hs (.inr rfl) rfl) fun a hs => ?_
   have hwj : IntKind.wrap .i64 ((j : Int) + 1) = ((j + 1 : Nat) : Int) := by rw [dZ (by omega) (by omega)]; omega
   have hs' := hs.keep [1,3,4]
   rw [hwj] at hs'
   exact Le ⟨m - 1,by omega,j + 1,q + u,hs',by omega,by omega,by omega,hw1⟩
 ·refine ae (aa ?_)
  refine L hs rfl rfl (bE hs rfl rfl K.e0) fun a hs => ?_
  refine L hs rfl rfl (bG hs rfl rfl K.nl (hw1.at hb1 fun h => h) (v := vn) rfl) fun a hs => ?_
  refine L hs rfl rfl (dC hs rfl (by rw [← e1]; rfl) K.nlU) fun a hs => ?_
  refine L hs rfl rfl (dB hs rfl rfl rfl rfl) fun a hs => ?_
  refine L hs rfl rfl (ah hs (.inr rfl) rfl) fun a hs => ?_
  refine Le (cW (eK (hs.keep [2]) rfl ⟨⟨_,rfl,fun h => ?_⟩,g.trans hw1⟩))
  have := of_decide_eq_false h
  omega
end Go.TL.H
namespace Go.TL.H
open Go
structure TZ where
 LE : TypeId
 LF : TypeId
 FT : TypeId
structure uy (P : Program) (y : TY) (z : TZ) : Prop where
 leU : P.underlying z.LE = some (.slice y.E)
 lfU : P.underlying z.LF = some (.slice z.FT)
 ft : One P z.FT .nilFunc
def A8 (g : FuncId) : Code := rg [p1 3 (.move (t 0)),p1 4 (.call ⟨.value (.func g), #[t 3,t 1], #[]⟩)]
inductive RS where
 | no
 | one (F g : FuncId) (bx : Nat)
def RS.len : RS → Nat
 | .no => 0
 | .one _ _ _ => 1
def clo (F : FuncId) (bx : Nat) : Value := .func (.func F) #[] #[Ptr bx 0]
def gV (w : World) (l : Value) : RS → Prop
 | .no => ∃ p c,l = .slice p 0 c
 | .one F _ bx => ∃ bl tt,l = .slice (some ⟨bl,0,none⟩) 1 1 ∧ w.heap[bl]? = some (.cells #[clo F bx] tt (0,0))
def Seen (P : Program) (_y : TY) (D : cX) (wr : Bool) (c : aP) : RS → Prop
 | .no => True
 | .one F g bx => Body P F 5 [] (A8 g) ∧ ∃ r d,lk D g = some r ∧ r.ck.length ≤ 1000 ∧ ∀ (j : Nat) (k : CK),r.ck[j]? = some k → Pl P wr false c d bx j k
def RC : Eye := ⟨[],[],0⟩
theorem bd0 {K : Nat} (h : K ≤ 1000) : Bd K 0 0 := ⟨by simp only [Phi]; omega,by simp only [Dd]; omega⟩
theorem Gr.small {K n s : Nat} {hn : Bool} (g : Gr K hn 0 0 n s) (hK : K ≤ 1000) : n ≤ 3300000 ∧ s ≤ 7000000000000 := by
 have hb := (bd0 hK).step (K2 := 0) g (by omega)
 have h1 := hb.phi; have h2 := hb.str
 have h3 := rA n
 exact ⟨by omega,by omega⟩
theorem HL {P : Program} {y : TY} {D : cX} {mark wr : Bool} {d : Nat} {F g : FuncId} {r : Row} (hB : Body P F 5 [] (A8 g)) (hok : aE P g = true) (hC : A6 P y D mark false wr d g r) {w : World} {be bx : Nat} {vn vs : Value} {e : Eye} {c : aP}
  (hE : bX y w be vn vs e mark false) (hz : Zn c w) (hd : ∀ b,EB be vn vs b → c b = none) (hp : ∀ (j : Nat) (k : CK),r.ck[j]? = some k → Pl P wr false c d bx j k) (hb : Bd r.ck.length e.n.length e.s.length) :
  Ret P F [Ptr be 0,Ptr bx 0] w (Out y mark false r.ck.length r.hn (fun a b => See D false c (.fn g bx 0) a b) w be vn vs e c) := by
 refine bW hB ?_
 have hs := SL.init (n := 5) [Ptr be 0,Ptr bx 0] rfl
 revert hs
 generalize ({ tmps := _,defers := [] } : Act) = a
 intro hs
 refine aa ?_
 refine L hs rfl rfl (ah hs (.inl rfl) rfl) fun a hs => ?_
 have hcall := hC w be bx 0 vn vs e c hE hz hd (by simpa using hp) hb
 refine Lc hs rfl rfl rfl rfl rfl hok hcall fun v w3 a hO hs => ?_
 obtain ⟨_,vn',vs',e',c',hP⟩ := hO
 exact Le (pD hs ⟨rfl,vn',vs',e',c',hP⟩)
theorem sO {y : TY} {w : World} {be : Nat} {tt : TypeId} {m r : Bool} {at' : Int} (h : w.heap[be]? = some (.cells (ai aj aj at' m r) tt (0,0))) : bX y w be aj aj ⟨[],[],at'⟩ m r :=
 ⟨⟨tt,h⟩,World.ownsRow_nil w 0 y.I 1,World.ownsRow_nil w 0 y.S 1,by simp [aj,Value.ownBlock],by simp [aj,Value.ownBlock],by simp [aj,Value.ownBlock]⟩
theorem bh.quiet {y : TY} {room : Bool} {K : Nat} {h : Bool} {Sr : Eye → Eye → Prop} {w : World} {be : Nat} {vn vs : Value} {e : Eye} {c : aP} {w' : World} {vn' vs' : Value} {e' : Eye} {c' : aP} (hP : bh y false room K h Sr w be vn vs e c w' vn' vs' e' c') (hz : Zn c w) :
  Ch (fun b => EB be vn vs b) w w' := by
 refine ⟨hP.ch.os,hP.ch.tape,hP.ch.output,hP.ch.size,fun b hb hn => ?_⟩
 cases hc : c b with
 | none => exact hP.ch.keep b hb (by rintro (h | h); exact hn h; exact h hc)
 | some o =>
  rw [hz b o hc]
  have := (hP.same rfl).1
  exact hP.zn b o (by rw [this]; exact hc)
def HM (y : TY) (D : cX) (c : aP) (lo : Nat) (w : World) (v : Value) : RS → Prop
 | .no => ∃ p cp,v = .slice p 0 cp
 | .one _ g bx => ∃ bo vn vs e,v = .slice (some ⟨bo,0,none⟩) 1 1 ∧ bX y w bo vn vs e false false ∧ See D false c (.fn g bx 0) RC e ∧ e.n.length ≤ 3300000 ∧ e.s.length ≤ 7000000000000 ∧ ∀ b,EB bo vn vs b → c b = none ∧ lo ≤ b
def sP (y : TY) (z : TZ) : Code :=
 .seq (rg [p1 2 (.assign (.const (.slice none 0 0)))])
  (.seq (rg [p1 5 (.move (t 0)),pt 6 (eZ (t 5) z.LF) y.I,p1 7 (.makeSlice z.LE (t 6) (t 6)),p1 3 (.assign (t 7))])
   (.seq (.seq (rg [p1 4 (.assign (ci 0))])
    (.block 0 (.loop (.seq (.seq (rg [p1 8 (.move (t 4)),p1 9 (.move (t 0)),pt 10 (eZ (t 9) z.LF) y.I,p1 11 (.binOp .lss y.I (t 8) (t 10) y.I)]) (.cond (t 11) .skip (.exit 0)))
     (.seq (.block 1 (rd [q1 14 (.move (t 0)) [],q1 15 (.move (t 4)) [],q1 16 (.indexAddr z.LF (t 14) (t 15)) [eD 0,eD 1],q1 17 (.load z.FT (t 16)) [eD 2],q1 18 (.move (t 3)) [],q1 19 (.move (t 4)) [],q1 20 (.indexAddr z.LE (t 18) (t 19)) [eD 4,eD 5],
       q1 21 (.call ⟨.value (t 17), #[t 20], #[]⟩) [eD 3,eD 6]]))
      (rg [p1 12 (.move (t 4)),p1 13 (.binOp .add y.I (t 12) (ci 1) y.I),p1 4 (.assign (t 13))]))))))
    (.seq (rg [p1 22 (.move (t 3)),p1 2 (.assign (t 22))]) .ret)))
theorem OT {P : Program} {o : Oper} {n : Nat} {sl : cj} {a : Act} {w : World} {x ix : Operand} {LT e : TypeId} {zs : List Value} {m : Nat} (h : SL n sl a) (ho : o.op = .makeSlice LT x ix) (ex : ev sl x = some (.int .i64 (m : Int))) (ei : ev sl ix = some (.int .i64 (m : Int)))
  (ht : P.underlying LT = some (.slice e)) (hT : Big P e zs) (hm : m ≤ 1) (hzl : zs.length ≤ 1000) : (execOp a.eval o).run P w = .ok (.value (.slice (some ⟨w.heap.size,0,none⟩) m m)) (w.alloc (.cells (madeCells zs.toArray (m * zs.length)) e)) := by
 obtain ⟨i,hi,_,hs,hz,hb⟩ := hT.is
 have hbb : (i.bytes : Int) * (m : Int) ≤ 281474976710656 := by
  have : i.bytes * m ≤ 1024 * 1 := Nat.mul_le_mul hb hm
  have h2 : ((i.bytes * m : Nat) : Int) ≤ 1024 := by omega
  rw [Int.natCast_mul] at h2; omega
 have := run_makeSlice (P := P) (w := w) LT e i (.agg zs.toArray) ht hi hz .i64 .i64 (m : Int) (m : Int) (by omega) (by omega) (by rw [hs]; have := Nat.mul_le_mul hm hzl; simp only [Int.toNat_natCast]; omega) hbb (by omega)
 simp only [Int.toNat_natCast,hs] at this
 simp [execOp,ho,h.ev ex,h.ev ei,this,Value.cells]
theorem look_ok {P : Program} {y : TY} {z : TZ} (K : Kit P y) (K2 : uy P y z) {D : cX} (hD : jI P y D) {f : FuncId} (hB : Body P f 23 [.tmp 2] (sP y z)) {w : World} {l : Value} {rs : RS} {c : aP} {wr : Bool} (hl : gV w l rs) (hse : Seen P y D wr c rs) (hz : Zn c w) (hlb : ∀ b,c b ≠ none → b < w.heap.size) :
  Ret P f [l] w fun v w' => HM y D c w.heap.size w' v rs ∧ Ch (fun _ => False) w w' := by
 obtain ⟨pl,cl,hlv⟩ : ∃ pl cl,l = .slice pl rs.len cl := by
  cases rs with
  | no => obtain ⟨p,c,h⟩ := hl; exact ⟨p,c,h⟩
  | one F g bx => obtain ⟨bl,tt,h,_⟩ := hl; exact ⟨_,_,h⟩
 have hm1 : rs.len ≤ 1 := by cases rs <;> simp [RS.len]
 refine bW hB ?_
 have hs := SL.init (n := 23) [l] rfl
 revert hs
 generalize ({ tmps := _,defers := [] } : Act) = a
 intro hs
 refine ae (aa ?_)
 refine L hs rfl rfl (ah hs (.inr rfl) rfl) fun a hs => ?_
 refine Le (ae (aa ?_))
 refine L hs rfl rfl (ah hs (.inl rfl) rfl) fun a hs => ?_
 refine L hs rfl rfl (dC hs rfl (by rw [← hlv]; rfl) K2.lfU) fun a hs => ?_
 refine L hs rfl rfl (OT hs rfl rfl rfl K2.leU K.eB hm1 (by decide)) fun a hs => ?_
 refine L hs rfl rfl (ah hs (.inr rfl) rfl) fun a hs => ?_
 refine Le (ae (ae (aa ?_)))
 refine L hs rfl rfl (ah hs (.inr rfl) rfl) fun a hs => ?_
 have g0 := Ch.alloc (fun _ => False) w (.cells (madeCells [aj,aj,.bool false,.int .i64 0,.bool false].toArray (rs.len * 5)) y.E)
 have hb0 := heap_alloc_new w (.cells (madeCells [aj,aj,.bool false,.int .i64 0,.bool false].toArray (rs.len * 5)) y.E)
 refine Le (bD (dY (fun m a w1 => ∃ i : Nat,i + m = rs.len ∧ SL 23 [(0,l),(3,.slice (some ⟨w.heap.size,0,none⟩) rs.len rs.len),(4,.int .i64 (i : Int))] a ∧ Ch (fun _ => False) w w1 ∧
   (i = 0 → w1 = w.alloc (.cells (madeCells [aj,aj,.bool false,.int .i64 0,.bool false].toArray (rs.len * 5)) y.E)) ∧ (i = rs.len → HM y D c w.heap.size w1 (.slice (some ⟨w.heap.size,0,none⟩) rs.len rs.len) rs)) rs.len ⟨0,by omega,hs.keep [0,3,4],g0,fun _ => rfl,fun h => ?_⟩ ?_))
 ·cases rs with
  | no => exact ⟨_,_,rfl⟩
  | one F g bx => cases h
 rintro m a w1 ⟨i,him,hs,hw1,hi0,hiL⟩
 refine ae (ae (aa ?_))
 refine L hs rfl rfl (ah hs (.inl rfl) rfl) fun a hs => ?_
 refine L hs rfl rfl (ah hs (.inl rfl) rfl) fun a hs => ?_
 refine L hs rfl rfl (dC hs rfl (by rw [← hlv]; rfl) K2.lfU) fun a hs => ?_
 refine L hs rfl rfl (dB hs rfl rfl rfl rfl) fun a hs => ?_
 refine Le (br (t := decide ((i : Int) < (rs.len : Int))) (hs.ev rfl) (fun hlt => bA ?_) fun hlt => dX ?_)
 ·have hlt := of_decide_eq_true hlt
  have hi : i = 0 := by omega
  subst hi
  obtain rfl := hi0 rfl
  cases rs with
  | no => simp [RS.len] at hlt
  | one F g bx =>
   obtain ⟨bl,tt,rfl,hbl⟩ := hl
   obtain ⟨hF,r,d,hr,hK,hp⟩ := hse
   have g1 := sN g0
   obtain ⟨inf,hinf,_,_,_⟩ := K.eB.is
   refine ae (bD (xM 7 K.mixed (by kernel_rfl) ?_))
   refine T hs rfl rfl (ah hs (.inl rfl) rfl) fun a hs => ?_
   refine T hs rfl rfl (ah hs (.inl rfl) rfl) fun a hs => ?_
   refine T hs rfl rfl (mJ (i := 0) hs rfl rfl rfl K2.lfU K2.ft (by omega)) fun a hs => ?_
   refine T hs rfl rfl (bG hs rfl rfl K2.ft (g1.at hbl fun h => h) (v := clo F bx) rfl) fun a hs => ?_
   refine T hs rfl rfl (ah hs (.inl rfl) rfl) fun a hs => ?_
   refine T hs rfl rfl (ah hs (.inl rfl) rfl) fun a hs => ?_
   refine T hs rfl rfl (ry (i := 0) hs rfl rfl rfl K2.leU hinf (by omega) (by simp [RS.len])) fun a hs => ?_
   rw [show 0 + (0 : Int).toNat * inf.size = 0 by simp] at hs
   have hnew : ({ w.alloc (.cells (madeCells [aj,aj,.bool false,.int .i64 0,.bool false].toArray ((RS.one F g bx).len * 5)) y.E) with drawn := (w.alloc (.cells (madeCells [aj,aj,.bool false,.int .i64 0,.bool false].toArray ((RS.one F g bx).len * 5)) y.E)).drawn + 1 } : World).heap[w.heap.size]? = some (.cells (ai aj aj 0 false false) y.E (0,0)) := by
    have e : madeCells [aj,aj,.bool false,.int .i64 0,.bool false].toArray ((RS.one F g bx).len * 5) = ai aj aj 0 false false := by kernel_rfl
    rw [← e]; exact hb0
   have hE := sO (y := y) hnew
   have hzz := hz.keep g1 fun _ _ h => h
   have hdis : ∀ b,EB w.heap.size aj aj b → c b = none := by
    rintro b (rfl | h | h)
    ·cases hc : c w.heap.size with
     | none => rfl
     | some o => exact absurd (hlb w.heap.size (by rw [hc]; simp)) (by omega)
    ·simp [aj,Value.ownBlock] at h
    ·simp [aj,Value.ownBlock] at h
   have hok : aE P g = true := by
    have := hD g r hr
    unfold Fit at this
    split at this <;> exact this.1.ok
   have hC := vM K (D := D) (mark := false) (room := false) (wr := wr) hD (fun h => by cases h) d r.bH g r hr (Nat.le_refl _)
   have hcall := HL hF hok hC hE hzz hdis hp (bd0 hK)
   refine Te (Lc hs rfl rfl rfl rfl rfl hF.ok hcall fun v w3 a hO hs => ?_)
   obtain ⟨_,vn',vs',e',c',hP⟩ := hO
   obtain ⟨hcc,hsee⟩ := hP.same rfl
   subst hcc
   have hq := hP.quiet hzz
   have hw3 : Ch (fun _ => False) w w3 := g1.trans' hq fun b hb h => by
    rcases h with rfl | h | h
    ·omega
    ·simp [aj,Value.ownBlock] at h
    ·simp [aj,Value.ownBlock] at h
   obtain ⟨b1,b2⟩ := hP.gr.small hK
   refine Le (aa ?_)
   refine L hs rfl rfl (ah hs (.inl rfl) rfl) fun a hs => ?_
   refine L hs rfl rfl (b9 hs rfl rfl rfl rfl) fun a hs => ?_
   refine L hs rfl rfl (ah hs (.inr rfl) rfl) fun a hs => ?_
   refine Le ⟨m - 1,by omega,1,by omega,hs.keep [0,3,4],hw3,fun h => by omega,fun _ => ⟨w.heap.size,vn',vs',e',rfl,hP.eye,hsee,b1,b2,fun b hb => ⟨hP.dis b hb,by
    rcases hP.new b hb with h | h
    ·rcases h with h | h | h
     ·omega
     ·simp [aj,Value.ownBlock] at h
     ·simp [aj,Value.ownBlock] at h
    ·exact Nat.le_trans g1.size h⟩⟩⟩
 ·have hlt := of_decide_eq_false hlt
  have hk := hiL (by omega)
  refine ae (aa ?_)
  refine L hs rfl rfl (ah hs (.inl rfl) rfl) fun a hs => ?_
  refine L hs rfl rfl (ah hs (.inr rfl) rfl) fun a hs => ?_
  exact Le (cW (eK hs rfl ⟨hk,hw1⟩))
def nM (y : TY) (z : TZ) (same : FuncId) : Code :=
 .seq (rg [p1 6 (.assign (.const (.bool false)))])
  (.seq (.seq (rg [p1 7 (.assign (ci 0))])
   (.block 0 (.loop (.seq (.seq (rg [p1 8 (.move (t 7)),p1 9 (.move (t 0)),pt 10 (eZ (t 9) z.LE) y.I,p1 11 (.binOp .lss y.I (t 8) (t 10) y.I)]) (.cond (t 11) .skip (.exit 0)))
    (.seq (.block 1 (.seq (rd [q1 14 (.move (t 7)) [],q1 15 (.move (t 2)) [],q1 16 (.binOp .neq y.I (t 14) (t 15) y.I) [eD 0,eD 1],q1 17 (.move (t 16)) [eD 2],
      ⟨some 18,.move (t 0),0, "", #[⟨3,.guard⟩],some (3,true)⟩,⟨some 19,.move (t 7),0, "", #[⟨3,.guard⟩],some (3,true)⟩,⟨some 20,.indexAddr z.LE (t 18) (t 19),0, "", #[eD 4,eD 5,⟨3,.guard⟩],some (3,true)⟩,
      ⟨some 21,.load y.E (t 20),0, "", #[eD 6,⟨3,.guard⟩],some (3,true)⟩,⟨some 22,.move (t 1),0, "", #[⟨3,.guard⟩],some (3,true)⟩,⟨some 23,.move (t 7),0, "", #[⟨3,.guard⟩],some (3,true)⟩,
      ⟨some 24,.indexAddr z.LE (t 22) (t 23),0, "", #[eD 8,eD 9,⟨3,.guard⟩],some (3,true)⟩,⟨some 25,.load y.E (t 24),0, "", #[eD 10,⟨3,.guard⟩],some (3,true)⟩,
      ⟨some 26,.call ⟨.value (.func same), #[t 21,t 25], #[]⟩,0, "", #[eD 7,eD 11,eC 3,⟨3,.guard⟩],some (3,true)⟩,⟨some 27,.unOp .not y.B (t 26),0, "", #[eD 12,⟨3,.guard⟩],some (3,true)⟩,
      q1 28 (.pick (t 17) (t 27) (.const (.bool false))) [eD 3,eD 13]])
      (.cond (t 28) (kp false 6) .skip)))
     (rg [p1 12 (.move (t 7)),p1 13 (.binOp .add y.I (t 12) (ci 1) y.I),p1 7 (.assign (t 13))]))))))
   (kp true 6))
def OU (y : TY) (w : World) (v1 v2 : Value) (k : Int) (m : Nat) : Prop :=
 (m = 0 ∧ ∃ p c,v1 = .slice p 0 c) ∨ (m = 1 ∧ ∃ b1,v1 = .slice (some ⟨b1,0,none⟩) 1 1 ∧ (k ≠ 0 → ∃ b2 vn vs vn2 vs2 e1 e2 a1 a2 a3 a4,v2 = .slice (some ⟨b2,0,none⟩) 1 1 ∧ bX y w b1 vn vs e1 a1 a2 ∧ bX y w b2 vn2 vs2 e2 a3 a4 ∧ e1.n = e2.n ∧ e1.s = e2.s ∧
  e1.n.length ≤ 3300000 ∧ e1.s.length ≤ 7000000000000))
theorem A9 {P : Program} {y : TY} {z : TZ} (K : Kit P y) (K2 : uy P y z) {f same : FuncId} (hB : Body P f 29 [.tmp 6] (nM y z same)) (hS : Body P same 59 [.tmp 4] (mK y)) {w : World} {v1 v2 : Value} {k : Int} {m : Nat} (hp : OU y w v1 v2 k m) :
  Ret P f [v1,v2,.int .i64 k] w fun v w' => v = .bool true ∧ Ch (fun _ => False) w w' := by
 obtain ⟨p1',c1',hv1,hm1⟩ : ∃ p c,v1 = .slice p m c ∧ m ≤ 1 := by
  rcases hp with ⟨rfl,p,c,h⟩ | ⟨rfl,b1,h,_⟩
  ·exact ⟨p,c,h,by omega⟩
  ·exact ⟨_,_,h,by omega⟩
 refine bW hB ?_
 have hs := SL.init (n := 29) [v1,v2,.int .i64 k] rfl
 revert hs
 generalize ({ tmps := _,defers := [] } : Act) = a
 intro hs
 refine ae (aa ?_)
 refine L hs rfl rfl (ah hs (.inr rfl) rfl) fun a hs => ?_
 refine Le (ae (ae (aa ?_)))
 refine L hs rfl rfl (ah hs (.inr rfl) rfl) fun a hs => ?_
 refine Le (bD (dY (fun q a w1 => ∃ i : Nat,i + q = m ∧ SL 29 [(0,v1),(1,v2),(2,.int .i64 k),(7,.int .i64 (i : Int))] a ∧ Ch (fun _ => False) w w1) m ⟨0,by omega,hs.keep [0,1,2,7],Ch.refl _ _⟩ ?_))
 rintro q a w1 ⟨i,hiq,hs,hw1⟩
 refine ae (ae (aa ?_))
 refine L hs rfl rfl (ah hs (.inl rfl) rfl) fun a hs => ?_
 refine L hs rfl rfl (ah hs (.inl rfl) rfl) fun a hs => ?_
 refine L hs rfl rfl (dC hs rfl (by rw [← hv1]; rfl) K2.leU) fun a hs => ?_
 refine L hs rfl rfl (dB hs rfl rfl rfl rfl) fun a hs => ?_
 refine Le (br (t := decide ((i : Int) < (m : Int))) (hs.ev rfl) (fun hlt => bA ?_) fun hlt => dX ?_)
 ·have hlt := of_decide_eq_true hlt
  have hi : i = 0 := by omega
  subst hi
  have hw2 := sN hw1
  have next : ∀ (a : Act) (w3 : World),SL 29 [(0,v1),(1,v2),(2,.int .i64 k),(7,.int .i64 ((0 : Nat) : Int))] a → Ch (fun _ => False) w w3 → wpList P ([p1 12 (.move (t 7)),p1 13 (.binOp .add y.I (t 12) (ci 1) y.I),p1 7 (.assign (t 13))] : List Oper).toArray
    (fun e a' w' => match e with | .normal => ∃ m',m' < q ∧ ∃ i : Nat,i + m' = m ∧ SL 29 [(0,v1),(1,v2),(2,.int .i64 k),(7,.int .i64 (i : Int))] a' ∧ Ch (fun _ => False) w w' | _ => False) [p1 12 (.move (t 7)),p1 13 (.binOp .add y.I (t 12) (ci 1) y.I),p1 7 (.assign (t 13))] a w3 := by
   intro a w3 hs hw3
   refine L hs rfl rfl (ah hs (.inl rfl) rfl) fun a hs => ?_
   refine L hs rfl rfl (b9 hs rfl rfl rfl rfl) fun a hs => ?_
   refine L hs rfl rfl (ah hs (.inr rfl) rfl) fun a hs => ?_
   exact Le ⟨q - 1,by omega,1,by omega,hs.keep [0,1,2,7],hw3⟩
  rcases hp with ⟨rfl,_⟩ | ⟨rfl,b1,rfl,hk⟩
  ·omega
  refine ae (bD (ae (xM 12 K.mixed (by kernel_rfl) ?_)))
  refine T hs rfl rfl (ah hs (.inl rfl) rfl) fun a hs => ?_
  refine T hs rfl rfl (ah hs (.inl rfl) rfl) fun a hs => ?_
  refine T hs rfl rfl (dB hs rfl rfl rfl rfl) fun a hs => ?_
  by_cases hk0 : k = 0
  ·subst hk0
   refine T hs rfl rfl (ah hs (.inl rfl) (v := .bool false) rfl) fun a hs => ?_
   refine Tu hs (by rw [wg hs rfl rfl rfl rfl]; rfl) rfl fun a hs => ?_
   refine Tu hs (by rw [wg hs rfl rfl rfl rfl]; rfl) rfl fun a hs => ?_
   refine Tu hs (by rw [wg hs rfl rfl rfl rfl]; rfl) rfl fun a hs => ?_
   refine Tu hs (by rw [wg hs rfl rfl rfl rfl]; rfl) rfl fun a hs => ?_
   refine Tu hs (by rw [wg hs rfl rfl rfl rfl]; rfl) rfl fun a hs => ?_
   refine Tu hs (by rw [wg hs rfl rfl rfl rfl]; rfl) rfl fun a hs => ?_
   refine Tu hs (by rw [wg hs rfl rfl rfl rfl]; rfl) rfl fun a hs => ?_
   refine Tu hs (by rw [wg hs rfl rfl rfl rfl]; rfl) rfl fun a hs => ?_
   refine Te ?_
   refine Lu hs (by rw [wg hs rfl rfl rfl rfl]; rfl) rfl fun a hs => ?_
   refine Lu hs (by rw [wg hs rfl rfl rfl rfl]; rfl) rfl fun a hs => ?_
   refine L hs rfl rfl (lM (b := false) hs rfl rfl (fun h => by cases h) (fun _ => rfl)) fun a hs => ?_
   refine Le (br (t := false) (hs.ev rfl) (fun h => by cases h) fun _ => bA (aa ?_))
   refine L hs rfl rfl (ah hs (.inl rfl) rfl) fun a hs => ?_
   refine L hs rfl rfl (b9 hs rfl rfl rfl rfl) fun a hs => ?_
   refine L hs rfl rfl (ah hs (.inr rfl) rfl) fun a hs => ?_
   exact Le ⟨q - 1,by omega,1,by omega,hs.keep [0,1,2,7],hw2⟩
  ·obtain ⟨b2,vn,vs,vn2,vs2,e1,e2,a1,a2,a3,a4,rfl,hE1,hE2,hn,hss,hl1,hl2⟩ := hk hk0
   have hne : (((0 : Nat) : Int) != k) = true := by simp; omega
   rw [hne] at hs
   have hE1' := hE1.keep hw2 fun _ _ h => h
   have hE2' := hE2.keep hw2 fun _ _ h => h
   obtain ⟨t1,ht1⟩ := hE1'.cell
   obtain ⟨t2,ht2⟩ := hE2'.cell
   obtain ⟨inf,hinf,_,_,_⟩ := K.eB.is
   refine T hs rfl rfl (ah hs (.inl rfl) (v := .bool true) rfl) fun a hs => ?_
   refine T hs (by rw [wg hs rfl rfl rfl rfl]; rfl) rfl (ah hs (.inl rfl) rfl) fun a hs => ?_
   refine T hs (by rw [wg hs rfl rfl rfl rfl]; rfl) rfl (ah hs (.inl rfl) rfl) fun a hs => ?_
   refine T hs (by rw [wg hs rfl rfl rfl rfl]; rfl) rfl (ry (i := 0) hs rfl rfl rfl K2.leU hinf (by omega) (by simp)) fun a hs => ?_
   rw [show 0 + (0 : Int).toNat * inf.size = 0 by simp] at hs
   refine T hs (by rw [wg hs rfl rfl rfl rfl]; rfl) rfl (pA [vn,vs,.bool a1,.int .i64 e1.at',.bool a2] hs rfl rfl K.eB rfl ht1 (fun j v hj => by rw [Nat.zero_add]; simpa [ai] using hj)) fun a hs => ?_
   refine T hs (by rw [wg hs rfl rfl rfl rfl]; rfl) rfl (ah hs (.inl rfl) rfl) fun a hs => ?_
   refine T hs (by rw [wg hs rfl rfl rfl rfl]; rfl) rfl (ah hs (.inl rfl) rfl) fun a hs => ?_
   refine T hs (by rw [wg hs rfl rfl rfl rfl]; rfl) rfl (ry (i := 0) hs rfl rfl rfl K2.leU hinf (by omega) (by simp)) fun a hs => ?_
   rw [show 0 + (0 : Int).toNat * inf.size = 0 by simp] at hs
   refine T hs (by rw [wg hs rfl rfl rfl rfl]; rfl) rfl (pA [vn2,vs2,.bool a3,.int .i64 e2.at',.bool a4] hs rfl rfl K.eB rfl ht2 (fun j v hj => by rw [Nat.zero_add]; simpa [ai] using hj)) fun a hs => ?_
   have hl := hE1'.lists
   have hl' := hE2'.lists
   rw [← hn, ← hss] at hl'
   have hcall := D8 K hS (a1 := e1.at') (a2 := e2.at') (m1 := a1) (m2 := a3) (r1 := a2) (r2 := a4) hl hl' (by omega) (by omega)
   refine Te (Lc hs (by rw [wg hs rfl rfl rfl rfl]; rfl) rfl rfl rfl rfl hS.ok hcall fun v w3 a hO hs => ?_)
   obtain ⟨rfl,hch⟩ := hO
   refine L hs (by rw [wg hs rfl rfl rfl rfl]; rfl) rfl (pB hs rfl rfl) fun a hs => ?_
   refine L hs rfl rfl (lM (b := true) hs rfl rfl (fun _ => rfl) (fun h => by cases h)) fun a hs => ?_
   refine Le (br (t := false) (hs.ev rfl) (fun h => by cases h) fun _ => bA (aa ?_))
   refine L hs rfl rfl (ah hs (.inl rfl) rfl) fun a hs => ?_
   refine L hs rfl rfl (b9 hs rfl rfl rfl rfl) fun a hs => ?_
   refine L hs rfl rfl (ah hs (.inr rfl) rfl) fun a hs => ?_
   exact Le ⟨q - 1,by omega,1,by omega,hs.keep [0,1,2,7],hw2.trans hch⟩
 ·exact nL (hs.keep []) rfl fun a' hs => eK hs rfl ⟨rfl,hw1⟩
end Go.TL.H
namespace Go.TL.H
open Go
abbrev NB : Nat → Prop := fun _ => False
theorem Rep.Mi {w w' : World} {lo : Nat} {x : PV} {v : Value} (h : Rep w NB lo x v) (hk : ∀ b o,lo ≤ b → w.heap[b]? = some o → w'.heap[b]? = some o) : Rep w' NB lo x v := by
 generalize hbd : NB = bd at h
 induction h with
 | v x hx => subst hbd; exact .v x hx
 | nil b c => subst hbd; exact .nil b c
 | sl rows b off cap cs t fz sz f hcap hb hbad hlo hfz hlen hc hr ih =>
  subst hbd
  exact .sl rows b off cap cs t fz sz f hcap (hk b _ hlo hb) hbad hlo hfz hlen hc fun i row j x h1 h2 => ih i row j x h1 h2
 | lsNil => subst hbd; exact .lsNil
 | un x hx => subst hbd; exact .un x hx
 | ls row rows b o cs t fz f hb hbad hlo hc hr ih => subst hbd; exact .ls row rows b o cs t fz f (hk b _ hlo hb) hbad hlo hc fun j x h1 => ih j x h1
 | mpNil a => subst hbd; exact .mpNil a
 | mp a rows b es clock f hb hbad hlo hc hr ih => subst hbd; exact .mp a rows b es clock f (hk b _ hlo hb) hbad hlo hc fun i row j x h1 h2 => ih i row j x h1 h2
 | rmNil => subst hbd; exact .rmNil
 | rm len rows b off cs t sz f hcap hb hbad hlo hlen hc hr ih =>
  subst hbd
  exact .rm len rows b off cs t sz f hcap (hk b _ hlo hb) hbad hlo hlen hc fun i row j x h1 h2 => ih i row j x h1 h2
theorem Rep.ch {w w' : World} {lo : Nat} {x : PV} {v : Value} (h : Rep w NB lo x v) {S : Nat → Prop} (hc : Ch S w w') (hS : ∀ b,lo ≤ b → ¬ S b) : Rep w' NB lo x v := Rep.Mi h fun b _ hb hh => hc.at hh (hS b hb)
theorem Rep.down {w : World} {lo lo' : Nat} {x : PV} {v : Value} (h : Rep w NB lo x v) (hl : lo' ≤ lo) : Rep w NB lo' x v := h.mono hl fun _ _ h1 h2 => ⟨h1,h2⟩
theorem uz {f : TypeId → List CK} {c : CK} : ∀ {l : List Field},c ∈ flat f l → ∃ x ∈ l,c ∈ f x.type
 | [],h => by simp [flat] at h
 | x :: xs,h => by
  simp only [flat,List.mem_append] at h
  rcases h with h | h
  ·exact ⟨x,by simp,h⟩
  ·obtain ⟨y,h1,h2⟩ := uz h; exact ⟨y,List.mem_cons_of_mem _ h1,h2⟩
theorem tU {P : Program} : ∀ (n : Nat) (t : TypeId) (c : CK),c ∈ dQ P n t → c ≠ .sst ∧ c ≠ .any
 | 0,t,c,h => by simp only [dQ,List.mem_singleton] at h; subst h; simp
 | n + 1,t,c,h => by
  unfold dQ at h
  split at h
  ·simp only [List.mem_singleton] at h; subst h; simp
  ·simp only [List.mem_singleton] at h; subst h; simp
  ·simp only [List.mem_singleton] at h; subst h; simp
  ·simp only [List.mem_singleton] at h; subst h; simp
  ·obtain ⟨x,_,h2⟩ := uz h; exact tU n _ c h2
  ·simp only [List.mem_singleton] at h; subst h; simp
theorem iA {P : Program} {T : TypeId} {b : Bool} (h : ew P T = some b) {j : Nat} {c : CK} (hc : (cks P T)[j]? = some c) : c ≠ .sst ∧ c ≠ .any := by
 have hm := List.mem_of_getElem? hc
 unfold cks at hm
 split at hm
 ·exact tU _ _ _ hm
 ·rename_i hu _; unfold ew at h; rw [hu] at h; cases h
 ·rename_i hu _; unfold ew at h; rw [hu] at h; cases h
structure Tp (P : Program) (T : TypeId) (ag : Bool) (n : Nat) : Prop where
 is : ∃ i,P.info? T = some i ∧ ew P T = some ag ∧ i.size = n
 one : ag = false → n = 1
def pk (ag : Bool) (vs : List Value) : Value := match ag with | true => .agg vs.toArray | false => vs.headD undef
theorem qM {v : Value} (h : v.oneCell' = true) : v.cells = #[v] := by cases v <;> first | rfl | simp [Value.oneCell'] at h
theorem JH {ag : Bool} {vs : List Value} {n : Nat} (hl : vs.length = n) (h1 : ag = false → n = 1) (ho : ∀ u ∈ vs,u.oneCell' = true) : (pk ag vs).cells.toList = vs := by
 cases ag with
 | true => simp [pk,Value.cells]
 | false =>
  have := h1 rfl
  match vs,hl.trans this with
  | [v],_ => simp [pk,qM (ho v (by simp))]
section
variable {P : Program} {o : Oper} {n : Nat} {sl : cj} {a : Act} {w : World}
theorem cY {x : Operand} {T : TypeId} {ag : Bool} {m b o' : Nat} {cs : Array Value} {bt : TypeId} {fz : Nat × Nat} (vs : List Value) (h : SL n sl a) (ho : o.op = .load T x) (e : ev sl x = some (Ptr b o')) (hT : Tp P T ag m) (hl : vs.length = m) (hb : w.heap[b]? = some (.cells cs bt fz))
  (hc : ∀ (j : Nat) v,vs[j]? = some v → cs[o' + j]? = some v) : (execOp a.eval o).run P w = .ok (.value (pk ag vs)) w := by
 obtain ⟨i,hi,ha,hs⟩ := hT.is
 have := gp (P := P) (w := w) (b := b) (o := o') (vs := vs) ha hi (fun j u hj => by rw [dF hb]; exact hc j u hj) (by omega) (fun hh => by rw [hl]; exact hT.one hh)
 have e2 : (Instr.loadAt T (Ptr b o')).run P w = .ok (pk ag vs) w := by
  rw [this]; cases ag <;> rfl
 simp [execOp,ho,h.ev e,e2]
theorem kM {x y : Operand} {T : TypeId} {ag : Bool} {m b o' : Nat} {cs : Array Value} {bt : TypeId} (vs : List Value) (h : SL n sl a) (ho : o.op = .store T x y) (e : ev sl x = some (Ptr b o')) (ey : ev sl y = some (pk ag vs)) (hT : Tp P T ag m) (hl : vs.length = m)
  (hv : ∀ u ∈ vs,u.oneCell' = true) (hb : w.heap[b]? = some (.cells cs bt (0,0))) (hc : o' + m ≤ cs.size) : (execOp a.eval o).run P w = .ok .skip (w.setRow b (spl cs.toList o' vs).toArray) := by
 obtain ⟨i,hi,ha,hs⟩ := hT.is
 have hpc := JH hl hT.one hv
 have := jC (P := P) (off := o') (v := pk ag vs) hi (by rw [hpc]; omega) hb (by rw [hpc]; omega) (by rw [hpc]; exact hv)
 rw [hpc] at this
 simp [execOp,ho,h.ev e,h.ev ey,this]
end
structure Cw (w : World) (lo : Nat) (row : List PV) (vs : List Value) : Prop where
 len : vs.length = row.length
 rep : ∀ (j : Nat) (x : PV),row[j]? = some x → ∃ u,vs[j]? = some u ∧ Rep w NB lo x u
theorem Cw.one {w : World} {lo : Nat} {row : List PV} {vs : List Value} (h : Cw w lo row vs) : ∀ u ∈ vs,u.oneCell' = true := by
 intro u hu
 obtain ⟨j,hj,rfl⟩ := List.mem_iff_getElem.1 hu
 obtain ⟨u',h1,h2⟩ := h.rep j (row[j]'(by rw [← h.len]; exact hj)) (by simp)
 simp [hj] at h1
 rw [h1]; exact h2.one
theorem Cw.keep {w w' : World} {lo : Nat} {row : List PV} {vs : List Value} (h : Cw w lo row vs) (hk : ∀ b o,lo ≤ b → w.heap[b]? = some o → w'.heap[b]? = some o) : Cw w' lo row vs :=
 ⟨h.len,fun j x hj => let ⟨u,h1,h2⟩ := h.rep j x hj; ⟨u,h1,Rep.Mi h2 hk⟩⟩
theorem Cw.ch {w w' : World} {lo : Nat} {row : List PV} {vs : List Value} (h : Cw w lo row vs) (hc : Ch (fun _ => False) w w') : Cw w' lo row vs := h.keep fun _ _ _ hh => hc.at hh fun h => h
structure El (P : Program) (e : TypeId) (sz : Nat) (zs : List Value) : Prop where
 is : ∃ i z,P.info? e = some i ∧ i.size = sz ∧ i.zero = some z ∧ z.cells = zs.toArray ∧ i.bytes ≤ 1024
 len : zs.length = sz
 pos : 0 < sz
 real : Nat.ble 1000000 e = false
def ea (y : TY) (L : TypeId) : Code :=
 .seq (rg [p1 2 (.assign (.const (.slice none 0 0)))])
  (.seq (rg [p1 3 (.move (t 0)),pt 4 (eZ (t 3) L) y.I,p1 5 (.binOp .add y.I (t 4) (ci 2) y.I),p1 6 (.makeSlice L (ci 0) (t 5)),p1 7 (.move (t 0)),pt 8 (ko (t 6) (t 7) L) L,p1 2 (.assign (t 8))]) .ret)
structure vO (w w' : World) (e : TypeId) (sz : Nat) (zs : List Value) (rows : List (List PV)) (v : Value) (cs : Array Value) (news : List Value) : Prop where
 val : v = .slice (some ⟨w.heap.size,0,none⟩) rows.length (rows.length + 2)
 heap : w'.heap[w.heap.size]? = some (.cells cs e (0,0))
 size : cs.size = (rows.length + 2) * sz
 RD : news.length = rows.length * sz
 rep : bZ w NB 0 sz rows news
 old : ∀ j,j < rows.length * sz → cs[j]? = news[j]?
 zero : ∀ i j,rows.length ≤ i → i < rows.length + 2 → j < sz → cs[i * sz + j]? = zs[j]?
theorem yV {P : Program} {y : TY} {f : FuncId} {LT e : TypeId} {sz : Nat} {zs : List Value} (hB : Body P f 9 [.tmp 2] (ea y LT)) (hL : P.underlying LT = some (.slice e)) (hE : El P e sz zs) {w : World} {v : Value} {rows : List (List PV)} (hv : Rep w NB 0 (.sl rows) v)
  (hlen : ∀ (i : Nat) (row : List PV),rows[i]? = some row → row.length = sz) (hn : rows.length ≤ b7) : Ret P f [v] w fun v' w' => Ch (fun _ => False) w w' ∧ ∃ cs news,vO w w' e sz zs rows v' cs news := by
 obtain ⟨inf,z,hi,hsz,hz,hzc,hby⟩ := hE.is
 have hpos := hE.pos
 unfold b7 at hn
 have hsr := oZ hv hlen hpos
 obtain ⟨pv,cv,hvs⟩ : ∃ pv cv,v = .slice pv rows.length cv := by
  rcases hsr.out with ⟨rfl,b,c,h⟩ | ⟨ad,c,news,h,_⟩
  ·exact ⟨b,c,h⟩
  ·exact ⟨_,c,h⟩
 refine bW hB ?_
 have hs := SL.init (n := 9) [v] rfl
 revert hs
 generalize ({ tmps := _,defers := [] } : Act) = a
 intro hs
 refine ae (aa ?_)
 refine L hs rfl rfl (ah hs (.inr rfl) rfl) fun a hs => ?_
 refine Le (ae (aa ?_))
 refine L hs rfl rfl (ah hs (.inl rfl) rfl) fun a hs => ?_
 refine L hs rfl rfl (dC hs rfl (by rw [← hvs]; rfl) hL) fun a hs => ?_
 refine L hs rfl rfl (b9 hs rfl rfl rfl rfl) fun a hs => ?_
 rw [dZ (n := (rows.length : Int) + 2) (by omega) (by omega)] at hs
 have hby2 : (inf.bytes : Int) * ((rows.length : Int) + 2) ≤ 281474976710656 := by
  have h1 : inf.bytes * (rows.length + 2) ≤ 1024 * (2097152 + 2) := Nat.mul_le_mul hby (by omega)
  have h2 : ((inf.bytes * (rows.length + 2) : Nat) : Int) ≤ 1024 * (2097152 + 2) := by omega
  rw [Int.natCast_mul] at h2; simp at h2; omega
 have hmk := run_make w LT e inf z hL hi hz .i64 .i64 0 ((rows.length : Int) + 2) (by omega) (by omega) hby2 (by omega)
 have e1 : ((rows.length : Int) + 2).toNat = rows.length + 2 := by omega
 rw [e1,hsz] at hmk
 have hmk' : ∀ a : Act,SL 9 [(5,.int .i64 ((rows.length : Int) + 2))] a → (execOp a.eval (p1 6 (.makeSlice LT (ci 0) (t 5)))).run P w = .ok (.value (.slice (some ⟨w.heap.size,0,none⟩) 0 (rows.length + 2))) (w.alloc (.cells (madeCells z.cells ((rows.length + 2) * sz)) e)) := by
  intro a hs
  have h5 : a.eval (t 5) = .int .i64 ((rows.length : Int) + 2) := hs.ev rfl
  have h0 : a.eval (ci 0) = .int .i64 0 := rfl
  simp [execOp,h5,h0,hmk]
 refine L hs rfl rfl (hmk' _ (hs.keep [5])) fun a hs => ?_
 refine L hs rfl rfl (ah hs (.inl rfl) rfl) fun a hs => ?_
 have g0 := Ch.alloc (fun _ => False) w (.cells (madeCells z.cells ((rows.length + 2) * sz)) e)
 have hb0 := heap_alloc_new w (.cells (madeCells z.cells ((rows.length + 2) * sz)) e)
 have hzero : ∀ i j,i < rows.length + 2 → j < sz → (madeCells z.cells ((rows.length + 2) * sz))[i * sz + j]? = zs[j]? := by
  intro i j hi hj
  have hlt : i * sz + j < (rows.length + 2) * sz := by
   have : (i + 1) * sz ≤ (rows.length + 2) * sz := Nat.mul_le_mul_right _ hi
   rw [Nat.add_mul,Nat.one_mul] at this; omega
  rw [qF _ _ _ hlt,hzc]
  have hzl := hE.len
  simp only [List.size_toArray,hzl]
  rw [Nat.mul_comm i sz,Nat.mul_add_mod,Nat.mod_eq_of_lt hj]
  simp [hzl,hj]
 have last : ∀ (a : Act) (w1 : World) (v' : Value) (cs : Array Value) (news : List Value),SL 9 [(8,v')] a → Ch (fun _ => False) w w1 → vO w w1 e sz zs rows v' cs news →
   wpList P ([p1 3 (.move (t 0)),pt 4 (eZ (t 3) LT) y.I,p1 5 (.binOp .add y.I (t 4) (ci 2) y.I),p1 6 (.makeSlice LT (ci 0) (t 5)),p1 7 (.move (t 0)),pt 8 (ko (t 6) (t 7) LT) LT,p1 2 (.assign (t 8))] : List Oper).toArray
    (fun e_1 a w_1 => match e_1 with | .normal => NW P .ret (fin P [.tmp 2] fun v' w' => Ch (fun _ => False) w w' ∧ ∃ cs news,vO w w' e sz zs rows v' cs news) a w_1 | e_2 => fin P [.tmp 2] (fun v' w' => Ch (fun _ => False) w w' ∧ ∃ cs news,vO w w' e sz zs rows v' cs news) e_2 a w_1) [p1 2 (.assign (t 8))] a w1 := by
  intro a w1 v' cs news hs hw1 hC
  refine L hs rfl rfl (ah hs (.inr rfl) rfl) fun a hs => ?_
  exact Le (cW (eK hs rfl ⟨hw1,cs,news,hC⟩))
 have hrun : ∀ a : Act,SL 9 [(6,.slice (some ⟨w.heap.size,0,none⟩) 0 (rows.length + 2)),(7,v)] a → ∀ r w2,(Builtin.append_ #[LT,LT] LT #[.slice (some ⟨w.heap.size,0,none⟩) 0 (rows.length + 2),v]).run P (w.alloc (.cells (madeCells z.cells ((rows.length + 2) * sz)) e)) = .ok r w2 →
   (execOp a.eval (pt 8 (ko (t 6) (t 7) LT) LT)).run P (w.alloc (.cells (madeCells z.cells ((rows.length + 2) * sz)) e)) = .ok (.value r) w2 := by
  intro a hs r w2 hr
  have h6 := hs.ev (x := t 6) rfl
  have h7 := hs.ev (x := t 7) rfl
  unfold execOp
  simp only [resolve,invoke,builtin,Sem.run_bind,Sem.run_pure,Result.andThen_ok,List.map_toArray,List.map_cons,List.map_nil,h6,h7,hr]
 rcases hsr.out with ⟨rfl,b,c,rfl⟩ | ⟨ad,c,news,rfl,hnl,hnc,hn1,hrr⟩
 ·have hr := vy (P := P) (w := w.alloc (.cells (madeCells z.cells ((0 + 2) * sz)) e)) LT LT e inf hL hi w.heap.size 0 (0 + 2) b c (by omega)
  refine L hs rfl rfl (hrun _ (hs.keep [6,7]) _ _ hr) fun a hs => ?_
  refine last a _ _ _ [] (hs.keep [8]) g0 ⟨rfl,hb0,size_madeCells _ _,by simp,⟨fun _ _ => undef,by simp,by simp,by simp⟩,fun j hj => by simp at hj,fun i j _ hi2 hj => hzero i j hi2 hj⟩
 ·have hr := run_append_room (P := P) (w := w.alloc (.cells (madeCells z.cells ((rows.length + 2) * sz)) e)) LT LT e inf hL hi w.heap.size 0 (rows.length + 2) _ hb0 ad rows.length c news (by rw [hnl,hsz]) (fun j u hj => by
   have := hnc j u hj
   have hlt : ad.block < w.heap.size := by
    have e : (ad.add j).block = ad.block := by unfold Addr.add; split <;> rfl
    unfold World.cell? at this
    rw [e] at this
    cases hh : w.heap[ad.block]? with
    | none => rw [hh] at this; cases this
    | some oo => exact aJ hh
   rw [World.cell?_of_block (w := w)]
   ·exact this
   ·have e : (ad.add j).block = ad.block := by unfold Addr.add; split <;> rfl
    rw [e]; exact heap_alloc_old w _ _ hlt) hn1 (by omega) (by rw [size_madeCells,hnl]; simp; exact Nat.mul_le_mul_right _ (by omega))
  refine L hs rfl rfl (hrun _ (hs.keep [6,7]) _ _ hr) fun a hs => ?_
  have hsp : ((madeCells z.cells ((rows.length + 2) * sz)).toList.take (0 * inf.size) ++ news ++ (madeCells z.cells ((rows.length + 2) * sz)).toList.drop (0 * inf.size + news.length)).toArray = (spl (madeCells z.cells ((rows.length + 2) * sz)).toList 0 news).toArray := by simp [spl]
  have hfit : 0 + news.length ≤ (madeCells z.cells ((rows.length + 2) * sz)).toList.length := by rw [hnl]; simp [size_madeCells]; exact Nat.mul_le_mul_right _ (by omega)
  have hget := jf (madeCells z.cells ((rows.length + 2) * sz)).toList 0 news hfit
  have g1 := Ch.setRow (w.alloc (.cells (madeCells z.cells ((rows.length + 2) * sz)) e)) w.heap.size ((madeCells z.cells ((rows.length + 2) * sz)).toList.take (0 * inf.size) ++ news ++ (madeCells z.cells ((rows.length + 2) * sz)).toList.drop (0 * inf.size + news.length)).toArray
  refine last a _ _ _ news (hs.keep [8]) (g0.trans' g1 fun b hb h => by omega) ⟨by simp,setRow_heap _ _ _ _ _ _ hb0,?_,hnl,hrr,?_,?_⟩
  ·rw [hsp]; simp only [List.size_toArray]; rw [ef _ _ _ hfit]; simp [size_madeCells]
  ·intro j hj
   rw [hsp]
   have := hget j
   simp only [List.getElem?_toArray]
   rw [this,if_pos (by omega)]; simp
  ·intro i j h1 h2 h3
   rw [hsp]
   simp only [List.getElem?_toArray]
   have hge : rows.length * sz ≤ i * sz := Nat.mul_le_mul_right _ h1
   rw [hget,if_neg (by omega)]
   have := hzero i j h2 h3
   simpa using this
end Go.TL.H
