/- The functions that copy values: lists and structs, by a table. -/
import Derived.Test.YtajkchpnbnbmfaaGreatDoorW09
namespace Go.TL.H
open Go
def lP (P : Program) (f : FuncId) (T : TypeId) (ag : Bool) (N : Nat) : Prop :=
 ∀ (w : World) (row : List PV) (vs : List Value),Cw w 0 row vs → Ty P T row → rz row ≤ N →
  Ret P f [pk ag vs] w fun v' w' => Ch (fun _ => False) w w' ∧ ∃ row' vs',v' = pk ag vs' ∧ Cw w' w.heap.size row' vs' ∧ TyR P T row' ∧ cR row' = row
def ZOk (P : Program) (e : TypeId) (zs : List Value) : Prop :=
 zs.length = (cks P e).length ∧ ∀ (j : Nat) (ck : CK) (u : Value),(cks P e)[j]? = some ck → zs[j]? = some u → WR P ck (zc true u) ∧ u.oneCell' = true
theorem HN {P : Program} {w' : World} {b lo n sz : Nat} {cs : Array Value} {e : TypeId} {zs : List Value} {rows rowsP : List (List PV)} (hb : w'.heap[b]? = some (.cells cs e (0,0))) (hlo : lo ≤ b) (hlen : rowsP.length = n) (hrl : rows.length = n) (hn : n ≤ b7) (hZ : ZOk P e zs) (hsz : (cks P e).length = sz)
  (hP : ∀ (i : Nat) (row : List PV),rowsP[i]? = some row → TyR P e row ∧ rows[i]? = some (cR row) ∧ ∀ (j : Nat) (x : PV),row[j]? = some x → ∃ u,cs[i * sz + j]? = some u ∧ Rep w' NB lo x u)
  (hz : ∀ i j,n ≤ i → i < n + 2 → j < sz → cs[i * sz + j]? = zs[j]?) :
  ∃ rows',Rep w' NB lo (.rm n rows') (.slice (some ⟨b,0,none⟩) n (n + 2)) ∧ WR P (.sl e) (.rm n rows') ∧ dk n rows' = rows := by
 have hrowlen : ∀ (i : Nat) (row : List PV),(rowsP ++ [zs.map (zc true),zs.map (zc true)])[i]? = some row → (i < n ∧ rowsP[i]? = some row) ∨ (n ≤ i ∧ i < n + 2 ∧ row = zs.map (zc true)) := by
  intro i row hi
  rw [List.getElem?_append,hlen] at hi
  split at hi
  ·exact .inl ⟨by assumption,hi⟩
  ·rename_i hni
   right
   have h2 : i - n < 2 := by have := (List.getElem?_eq_some_iff.1 hi).1; simpa using this
   refine ⟨by omega,by omega,?_⟩
   have : i - n = 0 ∨ i - n = 1 := by omega
   rcases this with h | h <;> (rw [h] at hi; simp at hi; exact hi.symm)
 have hzr : TyR P e (zs.map (zc true)) := by
  unfold TyR
  rw [dp]
  refine ⟨by simp [hZ.1],fun j ck x hc hx => ?_⟩
  rw [List.getElem?_map] at hx
  cases hu : zs[j]? with
  | none => simp [hu] at hx
  | some u => simp [hu] at hx; subst hx; exact (hZ.2 j ck u hc hu).1
 have hTy : ∀ (i : Nat) (row : List PV),(rowsP ++ [zs.map (zc true),zs.map (zc true)])[i]? = some row → TyR P e row := by
  intro i row hi
  rcases hrowlen i row hi with ⟨_,h⟩ | ⟨_,_,rfl⟩
  ·exact (hP i row h).1
  ·exact hzr
 have hl : ∀ (i : Nat) (row : List PV),(rowsP ++ [zs.map (zc true),zs.map (zc true)])[i]? = some row → row.length = sz := by
  intro i row hi
  have := hTy i row hi
  unfold TyR at this
  rw [dp] at this
  rw [this.1,hsz]
 have hcell : ∀ (i : Nat) (row : List PV) (j : Nat) (x : PV),(rowsP ++ [zs.map (zc true),zs.map (zc true)])[i]? = some row → row[j]? = some x → ∃ u,cs[i * sz + j]? = some u ∧ Rep w' NB lo x u := by
  intro i row j x hi hj
  rcases hrowlen i row hi with ⟨_,h⟩ | ⟨h1,h2,rfl⟩
  ·exact (hP i row h).2.2 j x hj
  ·have hjl : j < sz := by
    have := (List.getElem?_eq_some_iff.1 hj).1
    simp at this; rw [← hsz, ← hZ.1]; exact this
   rw [hz i j h1 h2 hjl]
   rw [List.getElem?_map] at hj
   cases hu : zs[j]? with
   | none => simp [hu] at hj
   | some u =>
    simp [hu] at hj; subst hj
    have hck : ∃ ck,(cks P e)[j]? = some ck := ⟨(cks P e)[j]'(by omega),by simp [hsz,hjl]⟩
    obtain ⟨ck,hck⟩ := hck
    exact ⟨u,rfl,AP (hZ.2 j ck u hck hu).2⟩
 refine ⟨rowsP ++ [zs.map (zc true),zs.map (zc true)],?_,?_,?_⟩
 ·have := Rep.rm (w := w') (bad := NB) (lo := lo) n (rowsP ++ [zs.map (zc true),zs.map (zc true)]) b 0 cs e sz (fun i j => (cs[i * sz + j]?).getD undef) (by simp [hlen]) hb (fun h => h) hlo hl
   (fun i row j x hi hj => by obtain ⟨u,h1,_⟩ := hcell i row j x hi hj; rw [Nat.zero_add,h1]; rfl) (fun i row j x hi hj => by obtain ⟨u,h1,h2⟩ := hcell i row j x hi hj; simp only [h1,Option.getD_some]; exact h2)
  have e : (rowsP ++ [zs.map (zc true),zs.map (zc true)]).length = n + 2 := by simp [hlen]
  rw [e] at this; exact this
 ·refine .rm e n _ (by simp [hlen]) hn (by simp [hlen]) (fun row hr => ?_) fun row hr j ck x hc hx => ?_
  ·obtain ⟨i,hi⟩ := List.getElem?_of_mem hr
   rw [hl i row hi,hsz]
  ·obtain ⟨i,hi⟩ := List.getElem?_of_mem hr
   have := hTy i row hi
   unfold TyR at this
   rw [dp] at this
   exact this.2 j ck x hc hx
 ·apply List.ext_getElem?
  intro i
  rw [kL]
  split
  ·rename_i hi
   rw [List.getElem?_append,if_pos (by omega)]
   have hrow : rowsP[i]? = some (rowsP[i]'(by omega)) := by simp [hlen,hi]
   rw [hrow,Option.map_some,(hP i _ hrow).2.1]
  ·rename_i hi
   rw [List.getElem?_eq_none (by omega)]
theorem Ba {_P : Program} {_cs : List CK} {row : List PV} (h : ∀ (j : Nat) (x : PV),row[j]? = some x → ∃ v,x = .v v) : cR row = row := by
 apply List.ext_getElem?
 intro j
 rw [eR]
 cases hj : row[j]? with
 | none => rfl
 | some x => obtain ⟨v,rfl⟩ := h j x hj; rfl
theorem OW {P : Program} {y : TY} {f : FuncId} {LT e : TypeId} {sz : Nat} {zs : List Value} (hB : Body P f 9 [.tmp 2] (ea y LT)) (hL : P.underlying LT = some (.slice e)) (hE : El P e sz zs) (hZ : ZOk P e zs) (hsz : (cks P e).length = sz) (hcL : cks P LT = [.sl e]) (hsc : scalars (cks P e) = true) (N : Nat) :
  lP P f LT false N := by
 intro w row vs hc hty _
 have hty' := hty.to hcL
 obtain ⟨x,xs,rfl,hx,hxs⟩ := fP hty'
 obtain rfl := lh hxs
 obtain ⟨rows,rfl,hT⟩ := Fq hx
 obtain ⟨u,hu,hr⟩ := hc.rep 0 _ rfl
 have hv : vs = [u] := by
  have := hc.len
  match vs,this,hu with
  | [v],_,hu => simp at hu; subst hu; rfl
 subst hv
 have hlen : ∀ (i : Nat) (row : List PV),rows[i]? = some row → row.length = sz := fun i row hi => hT.2.len hsz row (List.mem_of_getElem? hi)
 refine (yV hB hL hE hr hlen (hT.real hE.real)).mono ?_
 rintro v' w' ⟨hch,cs,news,hC⟩
 refine ⟨hch,?_⟩
 obtain ⟨g,g1,g2,g3⟩ := hC.rep
 have hscal : ∀ (i : Nat) (row : List PV),rows[i]? = some row → ∀ (j : Nat) (x : PV),row[j]? = some x → ∃ v,x = .v v := by
  intro i row hi j x hj
  have hty := hT.2 row (List.mem_of_getElem? hi)
  unfold Ty at hty
  rw [aY] at hty
  have hjl : j < (cks P e).length := by rw [← hty.1]; exact (List.getElem?_eq_some_iff.1 hj).1
  exact (rq (fq hsc _ (List.getElem_mem hjl)) (hty.2 j _ x (by simp [hjl]) hj)).1
 obtain ⟨rows',h1,h2,h3⟩ := HN (P := P) (b := w.heap.size) (lo := w.heap.size) (rowsP := rows) hC.heap (Nat.le_refl _) rfl rfl (hT.real hE.real) hZ hsz (fun i row hi => by
  refine ⟨(hT.2 row (List.mem_of_getElem? hi)).room hsc,?_,fun j x hj => ?_⟩
  ·rw [Ba (_P := P) (_cs := []) (hscal i row hi)]; exact hi
  ·have hjl : j < sz := by rw [← hlen i row hi]; exact (List.getElem?_eq_some_iff.1 hj).1
   have hil : i < rows.length := (List.getElem?_eq_some_iff.1 hi).1
   have hlt : i * sz + j < rows.length * sz := by
    have : (i + 1) * sz ≤ rows.length * sz := Nat.mul_le_mul_right _ hil
    rw [Nat.add_mul,Nat.one_mul] at this; omega
   obtain ⟨v,rfl⟩ := hscal i row hi j x hj
   have hr := g3 i row j _ hi hj
   have := eW hr
   refine ⟨g i j,by rw [hC.old _ hlt]; exact g2 i row j _ hi hj,?_⟩
   rw [this]; cases hr with | v _ h => exact .v _ h) hC.zero
 refine ⟨[.rm rows.length rows'],[v'],rfl,⟨rfl,fun j x hj => ?_⟩,?_,?_⟩
 ·cases j with
  | zero => simp at hj; subst hj; exact ⟨v',rfl,by rw [hC.val]; exact h1⟩
  | succ j => simp at hj
 ·exact TyR.of hcL ⟨h2,trivial⟩
 ·simp only [cR,PV.er,h3]
def nN (y : TY) (L e : TypeId) (cp one : FuncId) : Code :=
 .seq (rg [p1 2 (.assign (.const (.slice none 0 0)))])
  (.seq (rg [p1 4 (.move (t 0)),p1 5 (.call ⟨.value (.func cp), #[t 4], #[]⟩),p1 0 (.assign (t 5))])
   (.seq (.seq (rg [p1 3 (.assign (ci 0))])
    (.block 0 (.loop (.seq (.seq (rg [p1 6 (.move (t 3)),p1 7 (.move (t 0)),pt 8 (eZ (t 7) L) y.I,p1 9 (.binOp .lss y.I (t 6) (t 8) y.I)]) (.cond (t 9) .skip (.exit 0)))
     (.seq (.block 1 (rg [p1 12 (.move (t 0)),p1 13 (.move (t 3)),p1 14 (.move (t 0)),p1 15 (.move (t 3)),p1 16 (.indexAddr L (t 14) (t 15)),p1 17 (.load e (t 16)),p1 18 (.call ⟨.value (.func one), #[t 17], #[]⟩),p1 19 (.indexAddr L (t 12) (t 13)),p0 (.store e (t 19) (t 18))]))
      (rg [p1 10 (.move (t 3)),p1 11 (.binOp .add y.I (t 10) (ci 1) y.I),p1 3 (.assign (t 11))]))))))
    (.seq (rg [p1 20 (.move (t 0)),p1 2 (.assign (t 20))]) .ret)))
theorem OX {P : Program} {y : TY} {f cp one : FuncId} {LT e : TypeId} {sz N : Nat} {ag : Bool} {zs : List Value} (hB : Body P f 21 [.tmp 2] (nN y LT e cp one)) (hB2 : Body P cp 9 [.tmp 2] (ea y LT)) (hL : P.underlying LT = some (.slice e)) (hE : El P e sz zs) (hZ : ZOk P e zs)
  (hsz : (cks P e).length = sz) (hcL : cks P LT = [.sl e]) (hTp : Tp P e ag sz) (hok : aE P one = true) (hone : ∀ M,M < N → lP P one e ag M) : lP P f LT false N := by
 intro w row vs hc hty hN
 have hty' := hty.to hcL
 obtain ⟨x,xs,rfl,hx,hxs⟩ := fP hty'
 obtain rfl := lh hxs
 obtain ⟨rows,rfl,hT⟩ := Fq hx
 obtain ⟨u,hu,hr⟩ := hc.rep 0 _ rfl
 have hv : vs = [u] := by
  have := hc.len
  match vs,this,hu with
  | [v],_,hu => simp at hu; subst hu; rfl
 subst hv
 have hlen : ∀ (i : Nat) (row : List PV),rows[i]? = some row → row.length = sz := fun i row hi => hT.2.len hsz row (List.mem_of_getElem? hi)
 have hml := hT.1
 rw [nj hE.real] at hml
 obtain ⟨inf,z,hi,hisz,_⟩ := hE.is
 refine bW hB ?_
 have hs := SL.init (n := 21) [pk false [u]] rfl
 revert hs
 generalize ({ tmps := _,defers := [] } : Act) = a
 intro hs
 refine ae (aa ?_)
 refine L hs rfl rfl (ah hs (.inr rfl) rfl) fun a hs => ?_
 refine Le (ae (aa ?_))
 refine L hs rfl rfl (ah hs (.inl rfl) rfl) fun a hs => ?_
 refine Lc hs rfl rfl rfl rfl rfl hB2.ok (yV hB2 hL hE hr hlen (hT.real hE.real)) fun v' w0 a hO hs => ?_
 obtain ⟨hch0,cs0,news,hC⟩ := hO
 obtain ⟨g,g1,g2,g3⟩ := hC.rep
 refine L hs rfl rfl (ah hs (.inr rfl) rfl) fun a hs => ?_
 refine Le (ae (ae (aa ?_)))
 refine L hs rfl rfl (ah hs (.inr rfl) rfl) fun a hs => ?_
 refine Le (bD (dY (fun m a w1 => ∃ (i : Nat) (cs : Array Value) (rowsP : List (List PV)),SL 21 [(0,v'),(3,.int .i64 (i : Int))] a ∧ i + m = rows.length ∧ Ch (fun _ => False) w w1 ∧ w1.heap[w.heap.size]? = some (.cells cs e (0,0)) ∧ cs.size = (rows.length + 2) * sz ∧ rowsP.length = i ∧
  (∀ (k : Nat) (row : List PV),rowsP[k]? = some row → TyR P e row ∧ rows[k]? = some (cR row) ∧ ∀ (j : Nat) (x : PV),row[j]? = some x → ∃ u,cs[k * sz + j]? = some u ∧ Rep w1 NB (w.heap.size + 1) x u) ∧
  (∀ j,i * sz ≤ j → j < rows.length * sz → cs[j]? = news[j]?) ∧ (∀ k j,rows.length ≤ k → k < rows.length + 2 → j < sz → cs[k * sz + j]? = zs[j]?)) rows.length
  ⟨0,cs0,[],hs.keep [0,3],by omega,hch0,hC.heap,hC.size,rfl,fun k row h => by simp at h,fun j _ hj => hC.old j hj,hC.zero⟩ ?_))
 rintro m a w1 ⟨i,cs,rowsP,hs,him,hw1,hb,hcs,hPl,hP,hold,hzero⟩
 refine ae (ae (aa ?_))
 refine L hs rfl rfl (ah hs (.inl rfl) rfl) fun a hs => ?_
 refine L hs rfl rfl (ah hs (.inl rfl) rfl) fun a hs => ?_
 refine L hs rfl rfl (dC hs rfl (by rw [← hC.val]; rfl) hL) fun a hs => ?_
 refine L hs rfl rfl (dB hs rfl rfl rfl rfl) fun a hs => ?_
 refine Le (br (t := decide ((i : Int) < (rows.length : Int))) (hs.ev rfl) (fun hlt => bA ?_) fun hlt => dX ?_)
 ·have hlt := of_decide_eq_true hlt
  have hil : i < rows.length := by omega
  have hrow : rows[i]? = some rows[i] := by simp
  have hrl := hlen i _ hrow
  have hnext : (i + 1) * sz ≤ rows.length * sz := Nat.mul_le_mul_right _ hil
  rw [Nat.add_mul,Nat.one_mul] at hnext
  have hcw : Cw w1 0 rows[i] ((news.drop (i * sz)).take sz) := by
   refine ⟨by simp [hC.RD]; omega,fun j x hj => ?_⟩
   have hjl : j < sz := by rw [← hrl]; exact (List.getElem?_eq_some_iff.1 hj).1
   refine ⟨g i j,by rw [List.getElem?_take,if_pos hjl,List.getElem?_drop]; exact g2 i _ j x hrow hj,Rep.ch (g3 i _ j x hrow hj) hw1 fun _ _ h => h⟩
  have hrz : rz rows[i] < N := by
   have h1 := AY (List.getElem_mem hil)
   simp only [dc,QO,fi] at hN
   omega
  refine ae (bD (aa ?_))
  refine L hs rfl rfl (ah hs (.inl rfl) rfl) fun a hs => ?_
  refine L hs rfl rfl (ah hs (.inl rfl) rfl) fun a hs => ?_
  refine L hs rfl rfl (ah hs (.inl rfl) rfl) fun a hs => ?_
  refine L hs rfl rfl (ah hs (.inl rfl) rfl) fun a hs => ?_
  have hix : 0 + ((i : Int)).toNat * inf.size = i * sz := by rw [hisz]; simp
  refine L hs rfl rfl (ry (b := w.heap.size) (o' := 0) hs rfl (by rw [← hC.val]; rfl) rfl hL hi (by omega) (by omega)) fun a hs => ?_
  rw [hix] at hs
  refine L hs rfl rfl (cY ((news.drop (i * sz)).take sz) hs rfl rfl hTp (by rw [hcw.len,hrl]) hb (fun j u hj => by
   rw [List.getElem?_take] at hj
   split at hj
   ·rename_i hjl
    rw [List.getElem?_drop] at hj
    rw [hold _ (by omega) (by omega)]; exact hj
   ·cases hj)) fun a hs => ?_
  refine Lc hs rfl rfl rfl rfl rfl hok (hone _ hrz w1 rows[i] _ hcw (hT.2 _ (List.getElem_mem hil)) (Nat.le_refl _)) fun v2 w2 a hO hs => ?_
  obtain ⟨hch2,row2,vs2,rfl,hcw2,hty2,her2⟩ := hO
  have hl2 : vs2.length = sz := by
   rw [hcw2.len]
   unfold TyR at hty2
   rw [dp] at hty2
   rw [hty2.1,hsz]
  refine L hs rfl rfl (ry (b := w.heap.size) (o' := 0) hs rfl (by rw [← hC.val]; rfl) rfl hL hi (by omega) (by omega)) fun a hs => ?_
  rw [hix] at hs
  have hb2 := hch2.at hb fun h => h
  have hfit : i * sz + vs2.length ≤ cs.toList.length := by
   simp only [Array.length_toList,hcs,hl2]
   have : rows.length * sz ≤ (rows.length + 2) * sz := Nat.mul_le_mul_right _ (by omega)
   omega
  refine Ls hs rfl rfl (kM vs2 hs rfl rfl rfl hTp hl2 hcw2.one hb2 (by rw [← Array.length_toList]; have := hfit; rw [hl2] at this; exact this)) fun hs => ?_
  have hget := jf cs.toList (i * sz) vs2 hfit
  have hch3 := Ch.setRow w2 w.heap.size (spl cs.toList (i * sz) vs2).toArray
  have hlt1 := aJ hb
  refine Le (aa ?_)
  refine L hs rfl rfl (ah hs (.inl rfl) rfl) fun a hs => ?_
  refine L hs rfl rfl (b9 hs rfl rfl rfl rfl) fun a hs => ?_
  refine L hs rfl rfl (ah hs (.inr rfl) rfl) fun a hs => ?_
  have hw : IntKind.wrap .i64 ((i : Int) + 1) = ((i + 1 : Nat) : Int) := by rw [dZ (by omega) (by omega)]; omega
  have hs' := hs.keep [0,3]
  rw [hw] at hs'
  have keep : ∀ (x : PV) (u : Value),Rep w2 NB (w.heap.size + 1) x u → Rep (w2.setRow w.heap.size (spl cs.toList (i * sz) vs2).toArray) NB (w.heap.size + 1) x u := fun x u h => Rep.ch h hch3 fun b hb h => by omega
  refine Le ⟨m - 1,by omega,i + 1,(spl cs.toList (i * sz) vs2).toArray,rowsP ++ [row2],hs',by omega,(hw1.trans hch2).trans' hch3 fun b hb h => by omega,setRow_heap _ _ _ _ _ _ hb2,by simp only [List.size_toArray]; rw [ef _ _ _ hfit]; simpa using hcs,by simp [hPl],?_,?_,?_⟩
  ·intro k row hk
   rw [List.getElem?_append,hPl] at hk
   split at hk
   ·rename_i hki
    obtain ⟨q1,q2,q3⟩ := hP k row hk
    refine ⟨q1,q2,fun j x hj => ?_⟩
    obtain ⟨u,r1,r2⟩ := q3 j x hj
    have hjl : j < sz := by
     unfold TyR at q1
     rw [dp] at q1
     rw [← hsz, ← q1.1]; exact (List.getElem?_eq_some_iff.1 hj).1
    have hle : (k + 1) * sz ≤ i * sz := Nat.mul_le_mul_right _ hki
    rw [Nat.add_mul,Nat.one_mul] at hle
    refine ⟨u,?_,keep x u (Rep.ch r2 hch2 fun _ _ h => h)⟩
    simp only [List.getElem?_toArray]
    rw [hget,if_neg (by omega)]; simpa using r1
   ·rename_i hki
    have hk0 : k - i = 0 := by have := (List.getElem?_eq_some_iff.1 hk).1; simp at this; omega
    rw [hk0] at hk; simp at hk; subst hk
    obtain rfl : k = i := by omega
    refine ⟨hty2,by rw [her2]; exact hrow,fun j x hj => ?_⟩
    obtain ⟨u,r1,r2⟩ := hcw2.rep j x hj
    have hjl : j < vs2.length := (List.getElem?_eq_some_iff.1 r1).1
    refine ⟨u,?_,keep x u (Rep.down r2 (by omega))⟩
    simp only [List.getElem?_toArray]
    rw [hget,if_pos (by omega),Nat.add_sub_cancel_left]; exact r1
  ·intro j h1 h2
   rw [Nat.add_mul,Nat.one_mul] at h1
   simp only [List.getElem?_toArray]
   rw [hget,if_neg (by omega)]
   have := hold j (by omega) h2
   simpa using this
  ·intro k j h1 h2 h3
   have hge : rows.length * sz ≤ k * sz := Nat.mul_le_mul_right _ h1
   simp only [List.getElem?_toArray]
   rw [hget,if_neg (by omega)]
   have := hzero k j h1 h2 h3
   simpa using this
 ·have hlt := of_decide_eq_false hlt
  have hin : i = rows.length := by omega
  subst hin
  obtain ⟨rows',h1,h2,h3⟩ := HN (P := P) (b := w.heap.size) (lo := w.heap.size) (rowsP := rowsP) hb (Nat.le_refl _) hPl rfl (hT.real hE.real) hZ hsz (fun k row hk => by
   obtain ⟨q1,q2,q3⟩ := hP k row hk
   exact ⟨q1,q2,fun j x hj => let ⟨u,r1,r2⟩ := q3 j x hj; ⟨u,r1,Rep.down r2 (by omega)⟩⟩) hzero
  refine ae (aa ?_)
  refine L hs rfl rfl (ah hs (.inl rfl) rfl) fun a hs => ?_
  refine L hs rfl rfl (ah hs (.inr rfl) rfl) fun a hs => ?_
  refine Le (cW (eK hs rfl ⟨hw1,[.rm rows.length rows'],[v'],rfl,⟨rfl,fun j x hj => ?_⟩,TyR.of hcL ⟨h2,trivial⟩,by simp only [cR,PV.er,h3]⟩))
  cases j with
  | zero => simp at hj; subst hj; exact ⟨v',rfl,by rw [hC.val]; exact h1⟩
  | succ j => simp at hj
end Go.TL.H
namespace Go.TL.H
open Go
structure fI where
 i : Nat
 off : Nat
 n : Nat
 T : TypeId
 ag : Bool
 g : FuncId
def QT (T : TypeId) (k : Nat) (p : fI) : Code :=
 rg [p1 k (.fieldAddr T (t 1) p.i),p1 (k + 1) (.load p.T (t k)),p1 (k + 2) (.call ⟨.value (.func p.g), #[t (k + 1)], #[]⟩),p1 (k + 3) (.fieldAddr T (t 1) p.i),p0 (.store p.T (t (k + 3)) (t (k + 2)))]
def osC (T : TypeId) (k : Nat) : List fI → Code
 | [] => .seq (rg [p1 k (.load T (t 1)),p0 (.store T (t 2) (t k))]) .ret
 | p :: l => .seq (QT T k p) (osC T (k + 4) l)
def jX (T : TypeId) (ps : List fI) : Code := .seq (rg [p1 1 (.box T (t 0)),p1 2 (.alloc T)]) (osC T 3 ps)
theorem ji {P : Program} {o : Oper} {a : Act} {w : World} {T : TypeId} {sz : Nat} {zs : List Value} (ho : o.op = .alloc T) (hE : El P T sz zs) : (execOp a.eval o).run P w = .ok (.value (Ptr w.heap.size 0)) (w.alloc (.cells zs.toArray T)) := by
 obtain ⟨i,z,hi,hs,hz,hzc,_⟩ := hE.is
 simp [execOp,ho,Instr.alloc,zeroValue,typeInfo,hi,hz,newVar,newRow,hzc]
theorem uA (row : List PV) (k : Nat) : rz row = rz (row.take k) + rz (row.drop k) := by
 induction row generalizing k with
 | nil => simp [fi]
 | cons x xs ih =>
  cases k with
  | zero => simp [fi]
  | succ k => simp only [List.take_succ_cons,List.drop_succ_cons,dc]; have := ih k; omega
theorem OY (row : List PV) (off n : Nat) : rz ((row.drop off).take n) ≤ rz row := by
 have h1 := uA row off
 have h2 := uA (row.drop off) n
 omega
structure OZ (P : Program) (w w1 : World) (T : TypeId) (row : List PV) (zs : List Value) (rowc : List PV) (cur : List Value) (S : Nat → Prop) (bnd : Nat) : Prop where
 ch : Ch (fun _ => False) w w1
 b1 : w1.heap[w.heap.size]? = some (.cells cur.toArray T (0,0))
 b2 : w1.heap[w.heap.size + 1]? = some (.cells zs.toArray T (0,0))
 len : cur.length = row.length
 xS : rowc.length = row.length
 at' : ∀ (j : Nat) (x : PV),rowc[j]? = some x → ∃ u,cur[j]? = some u ∧ ((S j ∧ Rep w1 NB (w.heap.size + 2) x u ∧ (∀ ck,(cks P T)[j]? = some ck → WR P ck x) ∧ row[j]? = some x.er) ∨ (¬ S j ∧ row[j]? = some x ∧ Rep w NB 0 x u))
 bnd : ∀ j,S j → j < bnd
theorem Dr {P : Program} {T : TypeId} {n : Nat} {tmps : Array Value} {w : World} {b : Nat} {cs : List Value} {bt : TypeId} {fz : Nat × Nat} {x : Nat} (hT : Tp P T true n) (hx : tmps.getD x undef = Ptr b 0) (hl : cs.length = n) (hb : w.heap[b]? = some (.cells cs.toArray bt fz)) :
  (fg tmps (.cell x T)).run P w = .ok (.agg cs.toArray) w := by
 obtain ⟨i,hi,ha,hs⟩ := hT.is
 have hr' := gp (P := P) (w := w) (b := b) (o := 0) (vs := cs) ha hi (fun j u hj => by rw [dF hb]; simpa using hj) (by omega) (fun h => by cases h)
 simp only [fg,Sem.run_bind,hx,asAddr,Sem.run_pure,Result.andThen_ok]
 simpa [Instr.loadAt,Instr.sureAddr] using hr'
section
variable {P : Program} {O : FuncId → TypeId → Bool → Prop} {w : World} {T : TypeId} {row : List PV} {vs zs : List Value} {N sz n : Nat}
def lQ (P : Program) (T : TypeId) : Nat → List fI → Prop
 | _,[] => True
 | bnd,p :: l => bnd ≤ p.off ∧ p.off + p.n ≤ (cks P T).length ∧ (∃ sz,bM P T p.i = some (p.off,sz)) ∧ Tp P p.T p.ag p.n ∧ (cks P p.T).length = p.n ∧ (∀ j,j < p.n → (cks P T)[p.off + j]? = (cks P p.T)[j]?) ∧ lQ P T (p.off + p.n) l
theorem HO (hE : El P T sz zs) (hTp : Tp P T true sz) (hsz : (cks P T).length = sz) (hty : Ty P T row) (hN : rz row ≤ N) :
  ∀ (l : List fI) (k bnd : Nat) (rowc : List PV) (cur : List Value) (S : Nat → Prop) (a : Act) (w1 : World) (sl : cj),lQ P T bnd l → (∀ p ∈ l,aE P p.g = true ∧ lP P p.g p.T p.ag N) → OZ P w w1 T row zs rowc cur S bnd → SL n sl a →
   lk sl 1 = some (Ptr w.heap.size 0) → lk sl 2 = some (Ptr (w.heap.size + 1) 0) → 3 ≤ k → k + 4 * l.length + 1 ≤ n → (∀ (j : Nat) (e : TypeId),(cks P T)[j]? = some (.sl e) → S j ∨ ∃ p ∈ l,p.off ≤ j ∧ j < p.off + p.n) →
   NW P (osC T k l) (fin P [.cell 2 T] fun v' w' => Ch (fun _ => False) w w' ∧ ∃ row' vs',v' = pk true vs' ∧ Cw w' w.heap.size row' vs' ∧ TyR P T row' ∧ cR row' = row) a w1
 | [],k,bnd,rowc,cur,S,a,w1,sl,_,_,hI,hs,h1,h2,hk,hkn,hcov => by
  have hd : dok n (some k) = true := Nat.ble_eq_true_of_le (by simp at hkn; omega)
  have htl := ((aY _ _).1 hty).1
  have hcl : cur.length = sz := by rw [hI.len,htl,hsz]
  refine ae (aa ?_)
  refine L hs rfl hd (cY (ag := true) cur hs rfl h1 hTp hcl hI.b1 (fun j u hj => by simpa using hj)) fun a hs => ?_
  have hones : ∀ u ∈ cur,u.oneCell' = true := by
   intro u hu
   obtain ⟨j,hj,rfl⟩ := List.mem_iff_getElem.1 hu
   have hjc : j < rowc.length := by rw [hI.xS, ← hI.len]; exact hj
   obtain ⟨u',e1,e2⟩ := hI.at' j rowc[j] (by simp)
   simp [hj] at e1
   rw [e1]
   rcases e2 with ⟨_,h,_⟩ | ⟨_,_,h⟩
   ·exact h.one
   ·exact h.one
  have hzl : zs.length = sz := hE.len
  refine Ls hs rfl rfl (kM (ag := true) cur hs rfl (by simp only [ev,du]; rw [aq _ _ _ _ (by omega)]; exact h2) (ar _ _ _) hTp hcl hones hI.b2 (by simp [hzl])) fun hs => ?_
  have hfull : (spl zs.toArray.toList 0 cur).toArray = cur.toArray := by simp [spl,hzl,hcl]
  rw [hfull]
  have hch := Ch.setRow w1 (w.heap.size + 1) cur.toArray
  have hb2 := setRow_heap w1 (w.heap.size + 1) _ cur.toArray _ _ hI.b2
  have hx2 : a.tmps.getD 2 undef = Ptr (w.heap.size + 1) 0 := hs.ab 2 _ (by simp only [du]; rw [aq _ _ _ _ (by omega)]; exact h2)
  refine Le (cW ⟨hs.defers,_,⟨[.agg cur.toArray],by simp [Dr hTp hx2 hcl hb2],rfl⟩,hI.ch.trans' hch fun b hb h => by omega,rowc,cur,rfl,⟨by rw [hI.len,hI.xS],fun j x hj => ?_⟩,?_,?_⟩)
  ·obtain ⟨u,e1,e2⟩ := hI.at' j x hj
   refine ⟨u,e1,?_⟩
   rcases e2 with ⟨_,h,_⟩ | ⟨hn,hr,h⟩
   ·exact Rep.down (Rep.ch h hch fun b hb h => by omega) (by omega)
   ·have hjl : j < (cks P T).length := by rw [← htl]; exact (List.getElem?_eq_some_iff.1 hr).1
    have hck : (cks P T)[j]? = some (cks P T)[j] := by simp [hjl]
    have hw := ((aY _ _).1 hty).2 j _ x hck hr
    generalize (cks P T)[j] = ck at hck hw
    cases hw with
    | int k m _ _ => have := eW h; subst this; exact .v _ rfl
    | bool y => have := eW h; subst this; exact .v _ rfl
    | str y _ => have := eW h; subst this; exact .v _ rfl
    | sst y _ => exact absurd rfl (iA hTp.is.choose_spec.2.1 hck).1
    | any => exact absurd rfl (iA hTp.is.choose_spec.2.1 hck).2
    | sl e rows _ _ _ =>
     rcases hcov j e hck with h' | ⟨p,hp,_⟩
     ·exact absurd h' hn
     ·simp at hp
  ·unfold TyR
   rw [dp]
   refine ⟨by rw [hI.xS,htl],fun j ck x hck hx => ?_⟩
   obtain ⟨u,e1,e2⟩ := hI.at' j x hx
   rcases e2 with ⟨_,_,h,_⟩ | ⟨hn,hr,h⟩
   ·exact h ck hck
   ·have hw := ((aY _ _).1 hty).2 j _ x hck hr
    cases hw with
    | int k m q1 q2 => exact .int k m q1 q2
    | bool y => exact .bool y
    | str y q => exact .str y q
    | sst y _ => exact absurd rfl (iA hTp.is.choose_spec.2.1 hck).1
    | any => exact absurd rfl (iA hTp.is.choose_spec.2.1 hck).2
    | sl e rows _ _ _ =>
     rcases hcov j e hck with h' | ⟨p,hp,_⟩
     ·exact absurd h' hn
     ·simp at hp
  ·apply List.ext_getElem?
   intro j
   rw [eR]
   cases hj : rowc[j]? with
   | none =>
    have : row.length ≤ j := by rw [← hI.xS]; exact List.getElem?_eq_none_iff.1 hj
    rw [List.getElem?_eq_none this]; rfl
   | some x =>
    obtain ⟨u,e1,e2⟩ := hI.at' j x hj
    rcases e2 with ⟨_,_,_,h⟩ | ⟨hn,hr,h⟩
    ·rw [h]; rfl
    ·rw [hr]
     have hjl : j < (cks P T).length := by rw [← htl]; exact (List.getElem?_eq_some_iff.1 hr).1
     have hck : (cks P T)[j]? = some (cks P T)[j] := by simp [hjl]
     have hw := ((aY _ _).1 hty).2 j _ x hck hr
     generalize (cks P T)[j] = ck at hck hw
     cases hw with
     | int k m _ _ => rfl
     | bool y => rfl
     | str y _ => rfl
     | sst y _ => exact absurd rfl (iA hTp.is.choose_spec.2.1 hck).1
     | any => exact absurd rfl (iA hTp.is.choose_spec.2.1 hck).2
     | sl e rows _ _ _ =>
      rcases hcov j e hck with h' | ⟨p,hp,_⟩
      ·exact absurd h' hn
      ·simp at hp
 | p :: l,k,bnd,rowc,cur,S,a,w1,sl,hP,hO,hI,hs,h1,h2,hk,hkn,hcov => by
  obtain ⟨q1,q2,⟨fsz,q3⟩,q4,q5,q6,q7⟩ := hP
  obtain ⟨hok,hC⟩ := hO p (by simp)
  simp only [List.length_cons] at hkn
  have hd : ∀ j,j < 4 → dok n (some (k + j)) = true := fun j hj => Nat.ble_eq_true_of_le (by omega)
  have htl := ((aY _ _).1 hty).1
  have hrl : p.off + p.n ≤ rowc.length := by rw [hI.xS,htl]; exact q2
  have hcl : p.off + p.n ≤ cur.length := by rw [hI.len,htl]; exact q2
  have hsub : ∀ (j : Nat) (x : PV),((rowc.drop p.off).take p.n)[j]? = some x → j < p.n ∧ row[p.off + j]? = some x ∧ ∃ u,cur[p.off + j]? = some u ∧ Rep w NB 0 x u := by
   intro j x hj
   rw [List.getElem?_take] at hj
   split at hj
   ·rename_i hjn
    rw [List.getElem?_drop] at hj
    obtain ⟨u,e1,e2⟩ := hI.at' _ x hj
    rcases e2 with ⟨hS,_⟩ | ⟨_,hr,h⟩
    ·have := hI.bnd _ hS; omega
    ·exact ⟨hjn,hr,u,e1,h⟩
   ·cases hj
  have hcw : Cw w1 0 ((rowc.drop p.off).take p.n) ((cur.drop p.off).take p.n) := by
   refine ⟨by simp; omega,fun j x hj => ?_⟩
   obtain ⟨hjn,_,u,e1,e2⟩ := hsub j x hj
   exact ⟨u,by rw [List.getElem?_take,if_pos hjn,List.getElem?_drop]; exact e1,Rep.ch e2 hI.ch fun _ _ h => h⟩
  have hrow : (rowc.drop p.off).take p.n = (row.drop p.off).take p.n := by
   apply List.ext_getElem?
   intro j
   rw [List.getElem?_take,List.getElem?_take]
   split
   ·rename_i hjn
    rw [List.getElem?_drop,List.getElem?_drop]
    have hx : rowc[p.off + j]? = some (rowc[p.off + j]'(by omega)) := by simp
    have := hsub j _ (by rw [List.getElem?_take,if_pos hjn,List.getElem?_drop]; exact hx)
    rw [hx,this.2.1]
   ·rfl
  have hpty : Ty P p.T ((rowc.drop p.off).take p.n) := by
   unfold Ty
   rw [aY]
   refine ⟨by rw [q5]; simp; omega,fun j ck x hck hx => ?_⟩
   obtain ⟨hjn,hr,_⟩ := hsub j x hx
   exact ((aY _ _).1 hty).2 (p.off + j) ck x (by rw [q6 j hjn]; exact hck) hr
  have hprz : rz ((rowc.drop p.off).take p.n) ≤ N := by rw [hrow]; exact Nat.le_trans (OY _ _ _) hN
  refine ae (aa ?_)
  refine L hs rfl (hd 0 (by omega)) (bE hs rfl h1 q3) fun a hs => ?_
  rw [Nat.zero_add] at hs
  refine L hs rfl (hd 1 (by omega)) (cY ((cur.drop p.off).take p.n) hs rfl (ar _ _ _) q4 (by simp; omega) hI.b1 (fun j u hj => by
   rw [List.getElem?_take] at hj
   split at hj
   ·rw [List.getElem?_drop] at hj; simpa using hj
   ·cases hj)) fun a hs => ?_
  refine Lc hs rfl (hd 2 (by omega)) rfl rfl (vs := [pk p.ag ((cur.drop p.off).take p.n)]) (by simp only [evs,ev,du]; rw [ar]) hok (hC w1 _ _ hcw hpty hprz) fun v2 w2 a hR hs => ?_
  obtain ⟨hch2,row2,vs2,rfl,hcw2,hty2,her2⟩ := hR
  have hl2r : row2.length = p.n := by
   unfold TyR at hty2
   rw [dp] at hty2
   rw [hty2.1,q5]
  have hl2 : vs2.length = p.n := by rw [hcw2.len,hl2r]
  refine L hs rfl (hd 3 (by omega)) (bE (x := t 1) (b := w.heap.size) (o' := 0) hs rfl (by simp only [ev,du]; rw [aq _ _ _ _ (by omega),aq _ _ _ _ (by omega),aq _ _ _ _ (by omega)]; exact h1) q3) fun a hs => ?_
  rw [Nat.zero_add] at hs
  have hb1 := hch2.at hI.b1 fun h => h
  have hfit : p.off + vs2.length ≤ cur.length := by omega
  refine Ls hs rfl rfl (kM vs2 hs rfl (ar _ _ _) (by simp only [ev,du]; rw [aq _ _ _ _ (by omega),ar]) q4 hl2 hcw2.one hb1 (by simp; omega)) fun hs => ?_
  have hget := jf cur p.off vs2 hfit
  have hgetr := jf rowc p.off row2 (by omega)
  have hch3 := Ch.setRow w2 w.heap.size (spl cur.toArray.toList p.off vs2).toArray
  have hlt1 := aJ hI.b1
  have hlt2 := aJ hI.b2
  have hI' : OZ P w (w2.setRow w.heap.size (spl cur.toArray.toList p.off vs2).toArray) T row zs (spl rowc p.off row2) (spl cur p.off vs2) (fun j => S j ∨ (p.off ≤ j ∧ j < p.off + p.n)) (p.off + p.n) := by
   refine ⟨(hI.ch.trans hch2).trans' hch3 fun b hb h => by omega,setRow_heap _ _ _ _ _ _ hb1,?_,by rw [ef _ _ _ hfit]; exact hI.len,by rw [ef _ _ _ (by omega)]; exact hI.xS,?_,?_⟩
   ·rw [setRow_other _ _ _ _ (by omega)]; exact hch2.at hI.b2 fun h => h
   ·intro j x hj
    rw [hgetr] at hj
    rw [hget]
    split at hj
    ·rename_i hr
     rw [if_pos (by omega)]
     obtain ⟨u,e1,e2⟩ := hcw2.rep _ x hj
     refine ⟨u,e1,.inl ⟨.inr (by omega),Rep.ch (Rep.down e2 (by omega)) hch3 fun b hb h => by omega,fun ck hck => ?_,?_⟩⟩
     ·unfold TyR at hty2
      rw [dp] at hty2
      have := q6 (j - p.off) (by omega)
      rw [show p.off + (j - p.off) = j by omega] at this
      exact hty2.2 (j - p.off) ck x (by rw [← this]; exact hck) hj
     ·have he : (cR row2)[j - p.off]? = some x.er := by rw [eR,hj]; rfl
      rw [her2,hrow,List.getElem?_take,if_pos (by omega),List.getElem?_drop,show p.off + (j - p.off) = j by omega] at he
      exact he
    ·rename_i hr
     rw [if_neg (by omega)]
     obtain ⟨u,e1,e2⟩ := hI.at' j x hj
     refine ⟨u,e1,?_⟩
     rcases e2 with ⟨hS,h,h3,h4⟩ | ⟨hn,hr',h⟩
     ·exact .inl ⟨.inl hS,Rep.ch (Rep.ch h hch2 fun _ _ h => h) hch3 fun b hb h => by omega,h3,h4⟩
     ·exact .inr ⟨by rintro (h | h); exact hn h; omega,hr',h⟩
   ·rintro j (h | h)
    ·have := hI.bnd j h; omega
    ·exact h.2
  refine Le (HO hE hTp hsz hty hN l (k + 4) _ _ _ _ a _ _ q7 (fun p' hp' => hO p' (by simp [hp'])) hI' hs ?_ ?_ (by omega) (by omega) ?_)
  ·simp only [du]
   rw [aq _ _ _ _ (by omega),aq _ _ _ _ (by omega),aq _ _ _ _ (by omega),aq _ _ _ _ (by omega)]; exact h1
  ·simp only [du]
   rw [aq _ _ _ _ (by omega),aq _ _ _ _ (by omega),aq _ _ _ _ (by omega),aq _ _ _ _ (by omega)]; exact h2
  ·intro j e hj
   rcases hcov j e hj with h | ⟨p',hp',h⟩
   ·exact .inl (.inl h)
   ·rcases List.mem_cons.1 hp' with rfl | hp'
    ·exact .inl (.inr h)
    ·exact .inr ⟨p',hp',h⟩
end
theorem O0 {P : Program} {f : FuncId} {T : TypeId} {sz N : Nat} {zs : List Value} {ps : List fI} (hB : Body P f (4 + 4 * ps.length) [.cell 2 T] (jX T ps)) (hE : El P T sz zs) (hTp : Tp P T true sz) (hsz : (cks P T).length = sz) (hP : lQ P T 0 ps)
  (hO : ∀ p ∈ ps,aE P p.g = true ∧ lP P p.g p.T p.ag N) (hcov : ∀ (j : Nat) (e : TypeId),(cks P T)[j]? = some (.sl e) → ∃ p ∈ ps,p.off ≤ j ∧ j < p.off + p.n) : lP P f T true N := by
 intro w row vs hc hty hN
 refine bW hB ?_
 have hs := SL.init (n := 4 + 4 * ps.length) [pk true vs] (Nat.ble_eq_true_of_le (by simp; omega))
 revert hs
 generalize ({ tmps := _,defers := [] } : Act) = a
 intro hs
 refine ae (aa ?_)
 refine L hs rfl (Nat.ble_eq_true_of_le (by omega)) (gT hs rfl rfl) fun a hs => ?_
 have hcv : (pk true vs).cells = vs.toArray := rfl
 rw [hcv]
 have g1 := Ch.alloc (fun _ => False) w (.cells vs.toArray T)
 have g2 := Ch.alloc (fun _ => False) (w.alloc (.cells vs.toArray T)) (.cells zs.toArray T)
 have e1 : (w.alloc (.cells vs.toArray T)).heap.size = w.heap.size + 1 := by simp
 refine L hs rfl (Nat.ble_eq_true_of_le (by omega)) (ji rfl hE) fun a hs => ?_
 refine Le (HO hE hTp hsz hty hN ps 3 0 row vs (fun _ => False) a _ _ hP hO ⟨g1.trans g2,g2.at (heap_alloc_new w _) fun h => h,?_,hc.len,rfl,fun j x hj => ?_,fun j h => h.elim⟩ hs rfl (by rw [e1]; rfl) (by omega) (by omega) fun j e h => .inr (hcov j e h))
 ·have := heap_alloc_new (w.alloc (.cells vs.toArray T)) (.cells zs.toArray T)
  rw [e1] at this; exact this
 ·obtain ⟨u,h1,h2⟩ := hc.rep j x hj
  exact ⟨u,h1,.inr ⟨fun h => h,hj,h2⟩⟩
inductive Od where
 | cp (L e : TypeId) (sz : Nat) (zs : List Value)
 | ls (L e : TypeId) (sz : Nat) (ag : Bool) (zs : List Value) (cp one : FuncId)
 | st (T : TypeId) (sz : Nat) (zs : List Value) (ps : List fI)
structure dw where
 od : Od
 bH : Nat
def dw.t (r : dw) : TypeId := match r.od with | .cp L _ _ _ => L | .ls L _ _ _ _ _ _ => L | .st T _ _ _ => T
def dw.ag (r : dw) : Bool := match r.od with | .st _ _ _ _ => true | _ => false
abbrev rC := List (FuncId × dw)
def e8 (P : Program) (y : TY) (O : rC) (f : FuncId) (r : dw) : Prop :=
 match r.od with
 | .cp L e sz zs => Body P f 9 [.tmp 2] (ea y L) ∧ P.underlying L = some (.slice e) ∧ El P e sz zs ∧ ZOk P e zs ∧ (cks P e).length = sz ∧ cks P L = [.sl e] ∧ scalars (cks P e) = true
 | .ls L e sz ag zs cp one => Body P f 21 [.tmp 2] (nN y L e cp one) ∧ Body P cp 9 [.tmp 2] (ea y L) ∧ P.underlying L = some (.slice e) ∧ El P e sz zs ∧ ZOk P e zs ∧ (cks P e).length = sz ∧ cks P L = [.sl e] ∧ Tp P e ag sz ∧ aE P one = true ∧
   ∃ r1,lk O one = some r1 ∧ r1.t = e ∧ r1.ag = ag
 | .st T sz zs ps => Body P f (4 + 4 * ps.length) [.cell 2 T] (jX T ps) ∧ El P T sz zs ∧ Tp P T true sz ∧ (cks P T).length = sz ∧ lQ P T 0 ps ∧ (∀ p ∈ ps,aE P p.g = true ∧ ∃ r1,lk O p.g = some r1 ∧ r1.t = p.T ∧ r1.ag = p.ag ∧ r1.bH < r.bH) ∧
   ∀ (j : Nat) (e : TypeId),(cks P T)[j]? = some (.sl e) → ∃ p ∈ ps,p.off ≤ j ∧ j < p.off + p.n
theorem O1 {P : Program} {y : TY} {O : rC} (hO : ∀ f r,lk O f = some r → e8 P y O f r) : ∀ (N rk : Nat) (f : FuncId) (r : dw),lk O f = some r → r.bH ≤ rk → lP P f r.t r.ag N := by
 intro N
 induction N using Nat.strongRecOn with
 | _ N ihN =>
  intro rk
  induction rk using Nat.strongRecOn with
  | _ rk ihr =>
   intro f r hf hrk
   have hfit := hO f r hf
   unfold e8 at hfit
   split at hfit
   ·rename_i LT e sz zs hod
    obtain ⟨h1,h2,h3,h4,h5,h6,h7⟩ := hfit
    have e1 : r.t = LT := by simp [dw.t,hod]
    have e2 : r.ag = false := by simp [dw.ag,hod]
    rw [e1,e2]
    exact OW h1 h2 h3 h4 h5 h6 h7 N
   ·rename_i LT e sz ag zs cp one hod
    obtain ⟨h1,h2,h3,h4,h5,h6,h7,h8,h9,r1,k1,k2,k3⟩ := hfit
    have e1 : r.t = LT := by simp [dw.t,hod]
    have e2 : r.ag = false := by simp [dw.ag,hod]
    rw [e1,e2]
    refine OX h1 h2 h3 h4 h5 h6 h7 h8 h9 fun M hM => ?_
    have := ihN M hM r1.bH one r1 k1 (Nat.le_refl _)
    rw [k2,k3] at this; exact this
   ·rename_i T sz zs ps hod
    obtain ⟨h1,h2,h3,h4,h5,h6,h7⟩ := hfit
    have e1 : r.t = T := by simp [dw.t,hod]
    have e2 : r.ag = true := by simp [dw.ag,hod]
    rw [e1,e2]
    refine O0 h1 h2 h3 h4 h5 (fun p hp => ?_) h7
    obtain ⟨q1,r1,q2,q3,q4,q5⟩ := h6 p hp
    have := ihr r1.bH (by omega) p.g r1 q2 (Nat.le_refl _)
    rw [q3,q4] at this; exact ⟨q1,this⟩
end Go.TL.H
namespace Go.TL.H
open Go
theorem MX {P : Program} {w : World} {lo : Nat} {c : aP} (hc : ∀ b o,w.heap[b]? = some o → lo ≤ b → c b = some o) {x : PV} {v : Value} (h : Rep w NB lo x v) : ∀ ck,WR P ck x → ∃ d,WZ P true true c d ck v := by
 induction h with
 | v x hx =>
  intro ck hw
  cases hw with
  | int k n h1 h2 => exact ⟨0,.int 0 k n h1 h2⟩
  | bool x => exact ⟨0,.bool 0 x⟩
  | str x h => exact ⟨0,.str 0 x h⟩
 | nil b c => intro ck hw; cases hw
 | sl rows b off cap cs t fz sz f hcap hb hbad hlo hfz hlen hcc hr ih => intro ck hw; cases hw
 | lsNil => intro ck hw; cases hw
 | un x hx => intro ck hw; cases hw
 | ls row rows b o cs t fz f hb hbad hlo hc hr ih => intro ck hw; cases hw
 | mpNil a => intro ck hw; cases hw
 | mp a rows b es clock f hb hbad hlo hc hr ih => intro ck hw; cases hw
 | rmNil => intro ck hw; cases hw with | rm e len rows => exact ⟨0,.nil 0 e none 0 fun _ => ⟨rfl,rfl⟩⟩
 | rm len rows b off cs t sz f hcap hb hbad hlo hlen hcc hr ih =>
  intro ck hw
  cases hw with
  | rm e _ _ hle hm hr2 hl hww =>
   have hrow : ∀ i,i < rows.length → ∃ d, ∀ (j : Nat) (ck : CK),(cks P e)[j]? = some ck → WZ P true true c d ck (f i j) := by
    intro i hi
    have hri : rows[i]? = some rows[i] := by simp [hi]
    have hmem := List.mem_of_getElem? hri
    have hll := hl _ hmem
    obtain ⟨d,hd⟩ := fQ (p := fun j d => ∀ ck,(cks P e)[j]? = some ck → WZ P true true c d ck (f i j)) (fun j d d' hdd hp ck hck => (hp ck hck).up d' hdd) (cks P e).length fun j hj => by
     have hjr : j < rows[i].length := by omega
     obtain ⟨d,hd⟩ := ih i rows[i] j rows[i][j] hri (by simp [hjr]) (cks P e)[j] (hww _ hmem j _ _ (by simp [hj]) (by simp [hjr]))
     exact ⟨d,fun ck hck => by simp [hj] at hck; subst hck; exact hd⟩
    exact ⟨d,fun j ck hck => hd j (List.getElem?_eq_some_iff.1 hck).1 ck hck⟩
   obtain ⟨d,hd⟩ := fQ (p := fun i d => ∀ (j : Nat) (ck : CK),(cks P e)[j]? = some ck → WZ P true true c d ck (f i j)) (fun i d d' hdd hp j ck hck => (hp j ck hck).up d' hdd) rows.length hrow
   refine ⟨d + 1,.sl d e b off len rows.length cs t (0,0) f (hc b _ hb hlo) (fun _ => rfl) hcap hm (fun _ => hr2) (fun i hi j ck hck => ?_) (fun _ _ _ _ h => by omega) fun i hi j ck hck => hd i (by simpa using hi) j ck hck⟩
   have hi' : i < rows.length := by simpa using hi
   have hri : rows[i]? = some rows[i] := by simp [hi']
   have hll := hl _ (List.mem_of_getElem? hri)
   have hj : j < (cks P e).length := (List.getElem?_eq_some_iff.1 hck).1
   have hjr : j < rows[i].length := by omega
   have hsz : sz = (cks P e).length := by rw [← hll,hlen i _ hri]
   rw [← hsz]
   exact hcc i rows[i] j rows[i][j] hri (by simp [hjr])
def dq (P : Program) (w : World) : Prop := Fg P w.heap.size w
theorem dq.ch {P : Program} {w w' : World} (h : dq P w) (hc : Ch (fun _ => False) w w') : dq P w' := fun g hg => by
 obtain ⟨h1,cs,t,fz,h2,h3⟩ := h g hg
 exact ⟨Nat.lt_of_lt_of_le h1 hc.size,cs,t,fz,hc.at h2 fun h => h,h3⟩
theorem dq.keep {P : Program} {w w' : World} (h : dq P w) (hs : w.heap.size ≤ w'.heap.size) (hk : ∀ (b : Nat) (o : Obj),w.heap[b]? = some o → w'.heap[b]? = some o) : dq P w' := fun g hg => by
 obtain ⟨h1,cs,t,fz,h2,h3⟩ := h g hg
 exact ⟨Nat.lt_of_lt_of_le h1 hs,cs,t,fz,hk g _ h2,h3⟩
def iQ : CK → Bool
 | .sst | .any => false
 | .sl e => !Nat.ble 1000000 e
 | _ => true
def Met (P : Program) (wr : Bool) (E : TypeId → Prop) : Prop := ∀ e,E e → ∀ ck ∈ cks P e,(wr = true ∨ ck ≠ .bool) ∧ iQ ck = true ∧ ∀ e',ck = .sl e' → E e'
def FD (n : Nat) : TypeDesc → Bool
 | .slice e => Nat.blt e n
 | .named _ u => Nat.blt u n
 | .struct fs => fs.toList.all fun f => Nat.blt f.type n
 | _ => true
def kN (P : Program) : Bool := Nat.ble P.types.size 1000000 && P.types.toList.all fun i => FD P.types.size i.desc
theorem yW {P : Program} (h : kN P = true) {t : TypeId} (ht : t < P.types.size) : ∃ i,P.info? t = some i ∧ FD P.types.size i.desc = true := by
 simp only [kN,Bool.and_eq_true] at h
 refine ⟨P.types[t],?_,List.all_eq_true.1 h.2 _ (by simp)⟩
 unfold Tables.info?
 rw [if_pos ht]; simp [ht]
theorem yX {P : Program} (h : kN P = true) {t : TypeId} (ht : t < P.types.size) : ∃ d,P.underlying t = some d ∧ FD P.types.size d = true := by
 obtain ⟨i,hi,hd⟩ := yW h ht
 unfold Program.underlying
 rw [hi]
 split
 ·rename_i u _ _ _ _ _ _ _ _ _ he
  simp only [Option.some.injEq] at he; subst he
  obtain ⟨j,hj,hdj⟩ := yW h (t := u) (Nat.le_of_ble_eq_true hd)
  exact ⟨j.desc,by rw [hj]; rfl,hdj⟩
 ·rename_i he; simp only [Option.some.injEq] at he; subst he; exact ⟨_,rfl,hd⟩
 ·rename_i he; cases he
theorem Bb {P : Program} (h : kN P = true) : ∀ (n : Nat) (t : TypeId),t < P.types.size → ∀ c ∈ dQ P n t,iQ c = true ∧ ∀ e,c = .sl e → e < P.types.size
 | 0,t,_,c,hc => by simp only [dQ,List.mem_singleton] at hc; subst hc; exact ⟨rfl,fun e he => by cases he⟩
 | n + 1,t,ht,c,hc => by
  obtain ⟨d,hd,hb⟩ := yX h ht
  unfold dQ at hc
  rw [hd] at hc
  cases d <;> simp only [List.mem_singleton] at hc <;> first
   | (subst hc; exact ⟨rfl,fun e he => by cases he⟩)
   | skip
  ·rename_i e
   subst hc
   have he : e < P.types.size := Nat.le_of_ble_eq_true hb
   have h1 : P.types.size ≤ 1000000 := by simp only [kN,Bool.and_eq_true] at h; exact Nat.le_of_ble_eq_true h.1
   refine ⟨?_,fun e' he' => by cases he'; exact he⟩
   cases hx : Nat.ble 1000000 e with
   | true => exact absurd (Nat.lt_of_lt_of_le he h1) (Nat.not_lt.2 (Nat.le_of_ble_eq_true hx))
   | false => simp [iQ,hx]
  ·obtain ⟨x,h1,h2⟩ := uz hc
   exact Bb h n _ (Nat.le_of_ble_eq_true (List.all_eq_true.1 hb x h1)) c h2
theorem JI {P : Program} (h : kN P = true) {t : TypeId} (ht : t < P.types.size) : ∀ c ∈ cks P t,iQ c = true ∧ ∀ e,c = .sl e → e < P.types.size := by
 intro c hc
 obtain ⟨d,hd,_⟩ := yX h ht
 unfold cks at hc
 rw [hd] at hc
 exact Bb h _ _ ht c hc
theorem JJ {P : Program} (h : kN P = true) : Met P true fun e => e < P.types.size := fun _ he c hc => ⟨.inl rfl,JI h he c hc⟩
def FE (P : Program) (ks : List CK) : Bool := kN P && ks.all fun c => iQ c && (match c with | .sl e => Nat.blt e P.types.size | _ => true)
theorem JK {P : Program} {ks : List CK} (h : FE P ks = true) : kN P = true ∧ (∀ c ∈ ks,iQ c = true) ∧ ∀ e,.sl e ∈ ks → e < P.types.size := by
 simp only [FE,Bool.and_eq_true,List.all_eq_true] at h
 exact ⟨h.1,fun c hc => (h.2 c hc).1,fun e he => Nat.le_of_ble_eq_true (h.2 _ he).2⟩
theorem JL {P : Program} {w : World} {lo : Nat} {c : aP} {wr : Bool} {E : TypeId → Prop} (hE : Met P wr E) (hlo0 : wr = true → 0 < lo) (hc : ∀ b o,w.heap[b]? = some o → lo ≤ b → c b = some o) {x : PV} {v : Value} (h : Rep w NB lo x v) :
  ∀ ck,(∀ e,ck = .sl e → E e) → iQ ck = true → WT P ck x → ∃ d,WZ P wr false c d ck v := by
 induction h with
 | v x hx =>
  intro ck _ hpk hw
  cases hw with
  | int k n h1 h2 => exact ⟨0,.int 0 k n h1 h2⟩
  | bool x => exact ⟨0,.bool 0 x⟩
  | str x h => exact ⟨0,.str 0 x h⟩
  | sst x h => cases hpk
 | nil b cp => intro ck _ hpk hw; cases hw with | sl e rows => exact ⟨0,.nil 0 e b cp fun h => by cases h⟩
 | lsNil => intro ck _ hpk hw; cases hw
 | un x hx => intro ck _ hpk hw; cases hw; cases hpk
 | ls row rows b o cs t fz f hb hbad hlo hc hr ih => intro ck _ hpk hw; cases hw
 | mpNil a => intro ck _ hpk hw; cases hw
 | mp a rows b es clock f hb hbad hlo hc hr ih => intro ck _ hpk hw; cases hw
 | rmNil => intro ck _ hpk hw; cases hw
 | rm len rows b off cs t sz f hcap hb hbad hlo hlen hcc hr ih => intro ck _ hpk hw; cases hw
 | sl rows b off cap cs t fz sz f hcap hb hbad hlo hfz hlen hcc hr ih =>
  intro ck hck0 hpk hw
  cases hw with
  | sl e _ hm hl hww =>
   have hm : rows.length ≤ b7 := by rw [nj (by simpa [iQ] using hpk)] at hm; exact hm
   have hEe := hck0 e rfl
   have hrow : ∀ i,i < rows.length → ∃ d, ∀ (j : Nat) (ck : CK),(cks P e)[j]? = some ck → WZ P wr false c d ck (f i j) := by
    intro i hi
    have hri : rows[i]? = some rows[i] := by simp [hi]
    have hmem := List.mem_of_getElem? hri
    have hll := hl _ hmem
    obtain ⟨d,hd⟩ := fQ (p := fun j d => ∀ ck,(cks P e)[j]? = some ck → WZ P wr false c d ck (f i j)) (fun j d d' hdd hp ck hck => (hp ck hck).up d' hdd) (cks P e).length fun j hj => by
     have hjr : j < rows[i].length := by omega
     obtain ⟨d,hd⟩ := ih i rows[i] j rows[i][j] hri (by simp [hjr]) (cks P e)[j] (hE e hEe _ (List.getElem_mem hj)).2.2 (hE e hEe _ (List.getElem_mem hj)).2.1 (hww _ hmem j _ _ (by simp [hj]) (by simp [hjr]))
     exact ⟨d,fun ck hck => by simp [hj] at hck; subst hck; exact hd⟩
    exact ⟨d,fun j ck hck => hd j (List.getElem?_eq_some_iff.1 hck).1 ck hck⟩
   obtain ⟨d,hd⟩ := fQ (p := fun i d => ∀ (j : Nat) (ck : CK),(cks P e)[j]? = some ck → WZ P wr false c d ck (f i j)) (fun i d d' hdd hp j ck hck => (hp j ck hck).up d' hdd) rows.length hrow
   have hf0 : wr = true → fz = (0,0) := fun h => hfz (hlo0 h)
   refine ⟨d + 1,.sl d e b off rows.length cap cs t fz f (hc b _ hb hlo) hf0 hcap hm (fun h => by cases h) (fun i hi j ck hck => ?_) (fun i hi j hj => ?_) fun i hi j ck hck => hd i (by simpa using hi) j ck hck⟩
   ·have hi' : i < rows.length := by simpa using hi
    have hri : rows[i]? = some rows[i] := by simp [hi']
    have hll := hl _ (List.mem_of_getElem? hri)
    have hj : j < (cks P e).length := (List.getElem?_eq_some_iff.1 hck).1
    have hjr : j < rows[i].length := by omega
    have hsz : sz = (cks P e).length := by rw [← hll,hlen i _ hri]
    rw [← hsz]
    exact hcc i rows[i] j rows[i][j] hri (by simp [hjr])
   ·rcases (hE e hEe _ (List.mem_of_getElem? hj)).1 with h | h
    ·rw [hf0 h]; simp
    ·exact absurd rfl h
theorem MY {P : Program} {w : World} {lo b o : Nat} {c : aP} (hc : ∀ b o,w.heap[b]? = some o → lo ≤ b → c b = some o) {row : List PV} {vs : List Value} {ks : List CK} {cs : Array Value} {bt : TypeId} (hcw : Cw w lo row vs) (hw : WRs P ks row) (hb : c b = some (.cells cs bt (0,0)))
  (hcs : ∀ (j : Nat) u,vs[j]? = some u → cs[o + j]? = some u) : ∃ d, ∀ (j : Nat) (k : CK),ks[j]? = some k → Pl P true true c d b (o + j) k := by
 rw [dp] at hw
 obtain ⟨d,hd⟩ := fQ (p := fun j d => ∀ k,ks[j]? = some k → Pl P true true c d b (o + j) k) (fun j d d' hdd hp k hk => by
  obtain ⟨cs,t,fz,v,h1,h2,h3,h4,h5⟩ := hp k hk
  exact ⟨cs,t,fz,v,h1,h2,h3.up d' hdd,h4,h5⟩) ks.length fun j hj => by
   have hjr : j < row.length := by rw [hw.1]; exact hj
   obtain ⟨u,e1,e2⟩ := hcw.rep j row[j] (by simp)
   obtain ⟨d,hd⟩ := MX hc e2 ks[j] (hw.2 j _ _ (by simp [hj]) (by simp))
   exact ⟨d,fun k hk => by simp [hj] at hk; subst hk; exact ⟨cs,bt,(0,0),u,hb,hcs j u e1,hd,fun _ => rfl,fun _ => by simp⟩⟩
 exact ⟨d,fun j k hk => hd j (List.getElem?_eq_some_iff.1 hk).1 k hk⟩
theorem JM {P : Program} {w : World} {lo b o : Nat} {c : aP} {wr : Bool} {E : TypeId → Prop} (hE : Met P wr E) (hlo0 : wr = true → 0 < lo) (hc : ∀ b o,w.heap[b]? = some o → lo ≤ b → c b = some o) {row : List PV} {vs : List Value} {ks : List CK} {cs : Array Value} {bt : TypeId}
  (hcw : Cw w lo row vs) (hw : WTs P ks row) (hks : ∀ e,.sl e ∈ ks → E e) (hpk : ∀ ck ∈ ks,iQ ck = true) (hb : c b = some (.cells cs bt (0,0))) (hcs : ∀ (j : Nat) u,vs[j]? = some u → cs[o + j]? = some u) : ∃ d, ∀ (j : Nat) (k : CK),ks[j]? = some k → Pl P wr false c d b (o + j) k := by
 rw [aY] at hw
 obtain ⟨d,hd⟩ := fQ (p := fun j d => ∀ k,ks[j]? = some k → Pl P wr false c d b (o + j) k) (fun j d d' hdd hp k hk => by
  obtain ⟨cs,t,fz,v,h1,h2,h3,h4,h5⟩ := hp k hk
  exact ⟨cs,t,fz,v,h1,h2,h3.up d' hdd,h4,h5⟩) ks.length fun j hj => by
   have hjr : j < row.length := by rw [hw.1]; exact hj
   obtain ⟨u,e1,e2⟩ := hcw.rep j row[j] (by simp)
   obtain ⟨d,hd⟩ := JL hE hlo0 hc e2 ks[j] (fun e he => hks e (by rw [← he]; exact List.getElem_mem hj)) (hpk _ (List.getElem_mem hj)) (hw.2 j _ _ (by simp [hj]) (by simp))
   exact ⟨d,fun k hk => by simp [hj] at hk; subst hk; exact ⟨cs,bt,(0,0),u,hb,hcs j u e1,hd,fun _ => rfl,fun _ => by simp⟩⟩
 exact ⟨d,fun j k hk => hd j (List.getElem?_eq_some_iff.1 hk).1 k hk⟩
theorem WZ.Mj {P : Program} {wr room : Bool} {c c' : aP} (hc : ∀ b o,c b = some o → c' b = some o) {d : Nat} {ck : CK} {v : Value} (h : WZ P wr room c d ck v) : WZ P wr room c' d ck v := by
 induction h with
 | int d k n h1 h2 => exact .int d k n h1 h2
 | bool d x => exact .bool d x
 | str d x h => exact .str d x h
 | nil d e b cap h => exact .nil d e b cap h
 | sl d e b o len cap cs t fz g hb hf hle hl hm hcc hbl hw ih => exact .sl d e b o len cap cs t fz g (hc b _ hb) hf hle hl hm hcc hbl ih
end Go.TL.H
namespace Go.TL.H
open Go
structure uB (P : Program) (y : TY) (z : TZ) (T LC CT : TypeId) (sz : Nat) (zs : List Value) : Prop where
 bu1 : P.built y.E [(4,.bool true)] = some (ai aj aj 0 false true)
 bu2 : P.built y.E [(2,.bool true),(4,.bool true)] = some (ai aj aj 0 true true)
 bu3 : ∀ n,P.built y.E [(2,.bool true),(3,.int .i64 n)] = some (ai aj aj n true false)
 lcU : P.underlying LC = some (.slice CT)
 ct : One P CT .nilFunc
 tp : Tp P T true sz
 el : El P T sz zs
 cks : (cks P T).length = sz
 small : sz ≤ 1000
section
variable {P : Program} {o : Oper} {n : Nat} {sl : cj} {a : Act} {w : World}
theorem jj {T : TypeId} {ps : Array (Nat × Operand)} {cs : Array Value} (vs : List (Nat × Value)) (ho : o.op = .build T ps) (hp : ps.toList.map (fun x => (x.1,a.eval x.2)) = vs) (hb : P.built T vs = some cs) : (execOp a.eval o).run P w = .ok (.value (.agg cs)) w := by
 have := run_build (P := P) w T (ps.map fun (i,x) => (i,a.eval x)) cs (by simpa [← hp] using hb)
 simp [execOp,ho,this]
end
abbrev dr (f : Operand) (args : Array Operand) : Op := .call ⟨.value f,args, #[]⟩
abbrev bT : Operand := .const (.bool true)
def O2 (T : TypeId) : Code := rg [p1 30 (.move (t 1)),p1 31 (.load T (t 4)),p1 32 (dr (t 30) #[t 31]),p1 11 (.alloc T),p0 (.store T (t 11) (t 32))]
def O3 (y : TY) : Code := rg [p1 33 (.build y.E #[(4,bT)]),p1 34 (.build y.E #[(4,bT)]),p1 35 (.build y.E #[(4,bT)]),p1 36 (.build y.E #[(4,bT)]),p1 12 (.alloc y.E),p1 13 (.alloc y.E),p1 14 (.alloc y.E),p1 15 (.alloc y.E),
 p0 (.store y.E (t 12) (t 33)),p0 (.store y.E (t 13) (t 34)),p0 (.store y.E (t 14) (t 35)),p0 (.store y.E (t 15) (t 36))]
def RE : Code := rg [p1 37 (.move (t 2)),p1 38 (dr (t 37) #[t 12,t 11])]
def RF (LC CT : TypeId) : Code := rg [p1 39 (.move (t 3)),p1 40 (.move (t 10)),p1 41 (.indexAddr LC (t 39) (t 40)),p1 42 (.load CT (t 41)),p1 43 (dr (t 42) #[t 11]),p1 16 (.assign (t 43))]
def RG : Code := rg [p1 44 (.move (t 2)),p1 45 (dr (t 44) #[t 13,t 11])]
def RH (look : FuncId) : Code := rg [p1 46 (.move (t 16)),p1 47 (dr (.func look) #[t 46]),p1 17 (.assign (t 47))]
def RI (y : TY) : Code := rg [p1 48 (.move (t 2)),p1 49 (.build y.E #[(2,bT),(4,bT)]),p1 50 (.box y.E (t 49)),p1 51 (dr (t 48) #[t 50,t 11])]
def RJ (y : TY) (look same alike : FuncId) : Code :=
 .seq (rg [p1 52 (.load y.E (t 12)),p1 53 (.load y.E (t 13)),p1 54 (dr (.func same) #[t 52,t 53]),p1 55 (.unOp .not y.B (t 54)),p1 56 (.move (t 55)),pg 57 (.move (t 17)) 0 4 false,pg 58 (.move (t 16)) 0 4 false,
  pg 59 (dr (.func look) #[t 58]) 0 4 false,pg 60 (dr (.func alike) #[t 57,t 59,ci (-1)]) 0 4 false,pg 61 (.unOp .not y.B (t 60)) 0 4 false,p1 62 (.pick (t 56) bT (t 61))]) (.cond (t 62) (kp false 8) .skip)
def RL : Code := rg [p1 63 (.move (t 2)),p1 64 (dr (t 63) #[t 14,t 11])]
def Mk (y : TY) (z : TZ) (look alike : FuncId) : Code :=
 .seq (rg [p1 18 (.assign (ci 0))])
  (.block 2 (.loop (.seq (.seq (rg [p1 65 (.move (t 18)),p1 66 (.move (t 16)),pt 67 (eZ (t 66) z.LF) y.I,p1 68 (.binOp .lss y.I (t 65) (t 67) y.I)]) (.cond (t 68) .skip (.exit 2)))
   (.seq (.block 3 (.seq (rg [p1 71 (.move (t 16)),p1 72 (dr (.func look) #[t 71]),p1 19 (.assign (t 72))])
     (.seq (rg [p1 73 (.move (t 16)),p1 74 (.move (t 18)),p1 75 (.indexAddr z.LF (t 73) (t 74)),p1 76 (.load z.FT (t 75)),p1 77 (.move (t 18)),p1 78 (.binOp .add y.I (t 77) (ci 1) y.I),p1 79 (.binOp .mul y.I (ci 1000000) (t 78) y.I),
       p1 80 (.build y.E #[(2,bT),(3,t 79)]),p1 81 (.box y.E (t 80)),p1 82 (dr (t 76) #[t 81])])
      (.seq (rg [p1 83 (.move (t 19)),p1 84 (.move (t 16)),p1 85 (dr (.func look) #[t 84]),p1 86 (.move (t 18)),p1 87 (dr (.func alike) #[t 83,t 85,t 86]),p1 88 (.unOp .not y.B (t 87))]) (.cond (t 88) (kp false 8) .skip)))))
    (rg [p1 69 (.move (t 18)),p1 70 (.binOp .add y.I (t 69) (ci 1) y.I),p1 18 (.assign (t 70))])))))
def QU : Code := rg [p1 89 (.move (t 2)),p1 90 (dr (t 89) #[t 15,t 11])]
def QV (y : TY) (same : FuncId) : Code :=
 .seq (rg [p1 91 (.load y.E (t 14)),p1 92 (.load y.E (t 15)),p1 93 (dr (.func same) #[t 91,t 92]),p1 94 (.unOp .not y.B (t 93))]) (.cond (t 94) (kp false 8) .skip)
def D9 (y : TY) (z : TZ) (T LC CT : TypeId) (look same alike : FuncId) : Code :=
 .seq (O2 T) (.seq (O3 y) (.seq RE (.seq (RF LC CT) (.seq RG (.seq (RH look) (.seq (RI y) (.seq (RJ y look same alike) (.seq RL (.seq (Mk y z look alike) (.seq QU (QV y same)))))))))))
def Bc (y : TY) (z : TZ) (T LC CT : TypeId) (great look same alike : FuncId) : Code :=
 .seq (rg [p1 4 (.box T (t 0)),p1 8 (.assign (.const (.bool false)))])
  (.seq (rg [p1 9 (.alloc y.E)])
   (.seq (rg [p1 20 (.move (t 2)),p1 21 (dr (t 20) #[t 9,t 4])])
    (.seq (.seq (rg [p1 22 (.load y.E (t 9)),p1 23 (dr (.func great) #[t 22])]) (.cond (t 23) (kp true 8) .skip))
     (.seq (.seq (rg [p1 10 (.assign (ci 0))])
      (.block 0 (.loop (.seq (.seq (rg [p1 24 (.move (t 10)),p1 25 (.move (t 3)),pt 26 (eZ (t 25) LC) y.I,p1 27 (.binOp .lss y.I (t 24) (t 26) y.I)]) (.cond (t 27) .skip (.exit 0)))
       (.seq (.block 1 (D9 y z T LC CT look same alike)) (rg [p1 28 (.move (t 10)),p1 29 (.binOp .add y.I (t 28) (ci 1) y.I),p1 10 (.assign (t 29))]))))))
      (kp true 8)))))
def Got (P : Program) (D : cX) (w w' : World) (l : Value) : RS → Prop
 | .no => True
 | .one F g bx => Body P F 5 [] (A8 g) ∧ (∀ bl,l.ownBlock = some bl → w.heap.size ≤ bl) ∧ w.heap.size ≤ bx ∧ ∃ r rowr vsr tt,lk D g = some r ∧ r.ck.length ≤ 1000 ∧ w'.heap[bx]? = some (.cells vsr.toArray tt (0,0)) ∧ Cw w' w.heap.size rowr vsr ∧ WTs P r.ck rowr ∧ FE P r.ck = true
def kO (P : Program) (D : cX) (T : TypeId) (N : Nat) (C : FuncId) : Prop :=
 ∀ (w : World) (b : Nat) (vs : List Value) (row : List PV),w.heap[b]? = some (.cells vs.toArray T (0,0)) → dq P w → Cw w 0 row vs → Ty P T row → rz row ≤ N →
  Ret P C [Ptr b 0] w fun v w' => Ch (fun _ => False) w w' ∧ ∃ rs,gV w' v rs ∧ Got P D w w' v rs
def cz (w : World) (lo hi : Nat) : aP := fun b => if lo ≤ b ∧ b < hi then w.heap[b]? else none
theorem Ml (w : World) (lo hi : Nat) : Zn (cz w lo hi) w := by
 intro b o hb
 unfold cz at hb
 split at hb
 ·exact hb
 ·cases hb
theorem Mm {w : World} {lo hi b : Nat} (h : cz w lo hi b ≠ none) : lo ≤ b ∧ b < hi ∧ b < w.heap.size := by
 unfold cz at h
 split at h
 ·rename_i hr
  cases hh : w.heap[b]? with
  | none => exact absurd hh h
  | some o => exact ⟨hr.1,hr.2,aJ hh⟩
 ·exact absurd rfl h
theorem O4 {w : World} {lo hi b : Nat} (h : ¬ (lo ≤ b ∧ b < hi)) : cz w lo hi b = none := by unfold cz; rw [if_neg h]
theorem Cw.down {w : World} {lo lo' : Nat} {row : List PV} {vs : List Value} (h : Cw w lo row vs) (hl : lo' ≤ lo) : Cw w lo' row vs := ⟨h.len,fun j x hj => let ⟨u,h1,h2⟩ := h.rep j x hj; ⟨u,h1,Rep.down h2 hl⟩⟩
theorem Cw.er {w : World} {lo : Nat} {row : List PV} {vs : List Value} (h : Cw w lo row vs) : Cw w lo (cR row) vs := by
 refine ⟨by rw [iP]; exact h.len,fun j x hj => ?_⟩
 rw [eR] at hj
 cases hq : row[j]? with
 | none => simp [hq] at hj
 | some x' =>
  simp [hq] at hj; subst hj
  obtain ⟨u,h1,h2⟩ := h.rep j x' hq
  exact ⟨u,h1,h2.er⟩
theorem bh.fresh {y : TY} {mark room : Bool} {K : Nat} {h : Bool} {Sr : Eye → Eye → Prop} {w : World} {be : Nat} {e : Eye} {c : aP} {w' : World} {vn' vs' : Value} {e' : Eye} {c' : aP} (hP : bh y mark room K h Sr w be aj aj e c w' vn' vs' e' c') :
  ∀ b,EB be vn' vs' b → b = be ∨ w.heap.size ≤ b := by
 intro b hb
 rcases hP.new b hb with h | h
 ·rcases h with h | h | h
  ·exact .inl h
  ·simp [aj,Value.ownBlock] at h
  ·simp [aj,Value.ownBlock] at h
 ·exact .inr h
theorem gF {be b : Nat} (h : EB be aj aj b) : b = be := by
 rcases h with h | h | h
 ·exact h
 ·simp [aj,Value.ownBlock] at h
 ·simp [aj,Value.ownBlock] at h
theorem uC {D : cX} {room : Bool} {c : aP} {k : Tsk} {e e1 e2 : Eye} (h1 : See D room c k e e1) (h2 : See D room c k e e2) : e1.n = e2.n ∧ e1.s = e2.s := by rw [h1.det h2]; exact ⟨rfl,rfl⟩
theorem nO {P : Program} {y : TY} (K : Kit P y) {D : cX} (hD : jI P y D) {S : FuncId} {rS : Row} (hS : lk D S = some rS) (hK : rS.ck.length ≤ 1000) {mark : Bool} {w : World} {be by' d : Nat} {at' : Int} {tt : TypeId} {c : aP} (hbe : w.heap[be]? = some (.cells (ai aj aj at' mark true) tt (0,0)))
  (hz : Zn c w) (hd : c be = none) (hp : ∀ (j : Nat) (k : CK),rS.ck[j]? = some k → Pl P true true c d by' (0 + j) k) :
  Ret P S [Ptr be 0,Ptr by' 0] w (Out y mark true rS.ck.length rS.hn (fun a b => See D true c (.fn S by' 0) a b) w be aj aj ⟨[],[],at'⟩ c) := by
 refine vM K (D := D) (mark := mark) (room := true) (wr := true) hD (fun _ => rfl) d rS.bH S rS hS (Nat.le_refl _) w be by' 0 aj aj ⟨[],[],at'⟩ c (sO hbe) hz ?_ hp (bd0 hK)
 intro b hb
 rw [gF hb]; exact hd
theorem Fit.okD {P : Program} {y : TY} {D : cX} {f : FuncId} {r : Row} (h : Fit P y D f r) : aE P f = true := by
 unfold Fit at h
 split at h <;> exact h.1.ok
end Go.TL.H
