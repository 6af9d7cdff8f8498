/- What one operation makes of the state: memory. -/
import Derived.Test.YtajkchpnbnbmfaaGreatDoorW01
import Derived.ArgAppend
namespace Go.TL
def ew (P : Program) (t : TypeId) : Option Bool :=
 match P.underlying t with
 | some (.struct _) => some true
 | some (.array _ _) => some true
 | some _ => some false
 | none => none
theorem qQ {P : Program} {t : TypeId} {b : Bool} (h : ew P t = some b) (w : World) : (isAgg t).run P w = .ok b w := by
 cases hu : P.underlying t with
 | none => simp [ew,hu] at h
 | some d => cases d <;> (simp [ew,hu] at h; subst h; simp [isAgg,run_underlying hu])
def mkp (fr : Bool) : PV → SV
 | .v x => .p (.v x) true
 | .sl rows => .p (.sl rows) fr
 | .rm len rows => .p (.rm len rows) fr
 | .ls rows => .p (.ls rows) fr
 | .un => .p .un true
 | .mp a rows => .p (.mp a rows) fr
theorem xB {w : World} {E : Env} {lo : Nat} {fr : Bool} {x : PV} {v : Value} (h : Rep w E.bad (flo lo fr) x v) : VR w E lo (mkp fr x) v := by
 cases x with
 | v y => simp only [mkp,VR]; have := eW h; subst this; cases h with | v _ hx => exact .v _ hx
 | sl rows => simpa only [mkp,VR] using h
 | rm len rows => simpa only [mkp,VR] using h
 | ls rows => simpa only [mkp,VR] using h
 | un => cases h with | un _ hx => simp only [mkp,VR]; exact .un _ hx
 | mp a rows => simpa only [mkp,VR] using h
theorem uq {w : World} {E : Env} {lo : Nat} {fr : Bool} : ∀ (xs : List PV) (vs : List Value),xs.length = vs.length →
  (∀ (j : Nat) x v,xs[j]? = some x → vs[j]? = some v → Rep w E.bad (flo lo fr) x v) → VRs w E lo (xs.map (mkp fr)) vs
 | [],[],_,_ => c6
 | x :: xs,v :: vs,hl,h => bC (xB (h 0 x v rfl rfl)) (uq xs vs (by simpa using hl) fun j y u hy hu => h (j + 1) y u (by simpa using hy) (by simpa using hu))
 | [],_ :: _,hl,_ => by simp at hl
 | _ :: _,[],hl,_ => by simp at hl
theorem gp {P : Program} {w : World} {t : TypeId} {i : TypeInfo} {ag : Bool} {b o : Nat} {vs : List Value} (ha : ew P t = some ag) (hi : P.info? t = some i)
  (hc : ∀ (j : Nat) v,vs[j]? = some v → w.cell? ⟨b,o + j,none⟩ = some v) (hl : vs.length = i.size) (h1 : ag = false → vs.length = 1) :
  (Instr.loadAt t (.pointer (some ⟨b,o,none⟩))).run P w = .ok (match ag with | true => .agg vs.toArray | false => vs.headD undef) w := by
 have hr := qQ ha w
 cases ag with
 | true =>
  have hl2 := run_loadCells_list (P := P) w ⟨b,o,none⟩ vs (fun j v hv => by rw [Addr.add_lit]; exact hc j v hv)
  rw [hl] at hl2
  simp [Instr.loadAt,Instr.sureAddr,loadVar,hr,sizeOf,typeInfo,hi,hl2]
 | false =>
  have h1' := h1 rfl
  match vs,h1' with
  | [v],_ =>
   have := hc 0 v rfl
   simp only [Nat.add_zero] at this
   simp [Instr.loadAt,Instr.sureAddr,loadVar,hr,this]
def fo (P : Program) (t : TypeId) (off : Nat) (cells : List SV) : Option SV :=
 match ew P t,P.info? t with
 | some true,some i => match Nat.ble (off + i.size) cells.length with
  | true => some (.agg ((cells.drop off).take i.size))
  | false => none
 | some false,some i => match Nat.beq i.size 1,(cells.drop off) with
  | true,x :: _ => some x
  | _,_ => none
 | _,_ => none
theorem dF {w : World} {b : Nat} {cs : Array Value} {t : TypeId} {fz : Nat × Nat} (h : w.heap[b]? = some (.cells cs t fz)) (j : Nat) : w.cell? ⟨b,j,none⟩ = cs[j]? := by
 simp [World.cell?,h]
theorem oY {P : Program} {w : World} {E : Env} {lo : Nat} {t : TypeId} {off b o : Nat} {cells : List SV} {vs : List Value} {sv : SV} (hv : VRs w E lo cells vs)
  (hc : ∀ (j : Nat) v,vs[j]? = some v → w.cell? ⟨b,o + j,none⟩ = some v) (hf : fo P t off cells = some sv) :
  ∃ v,(Instr.loadAt t (.pointer (some ⟨b,o + off,none⟩))).run P w = .ok v w ∧ VR w E lo sv v := by
 unfold fo at hf
 split at hf
 ·rename_i i ha hi
  split at hf
  ·rename_i hle
   have hle' := Nat.le_of_ble_eq_true hle
   simp only [Option.some.injEq] at hf; subst hf
   have hlen := bJ hv
   have hr := gp (w := w) (b := b) (o := o + off) (vs := (vs.drop off).take i.size) ha hi
    (fun j v hj => by
     rw [List.getElem?_take] at hj
     split at hj
     ·rw [List.getElem?_drop] at hj; rw [Nat.add_assoc]; exact hc _ _ hj
     ·cases hj) (by simp; omega) (fun h => by cases h)
   exact ⟨_,hr,by simp only [VR]; exact ⟨_,rfl,lD _ (je off hv)⟩⟩
  ·cases hf
 ·rename_i i ha hi
  split at hf
  ·rename_i x xs hsz hdr
   have hsz' := Nat.eq_of_beq_eq_true hsz
   simp only [Option.some.injEq] at hf; subst hf
   have hd := je off hv
   rw [hdr] at hd
   cases hvd : vs.drop off with
   | nil => rw [hvd] at hd; simp [VRs] at hd
   | cons v rest =>
    rw [hvd] at hd
    have hr := gp (w := w) (b := b) (o := o + off) (vs := [v]) ha hi
     (fun j u hj => by
      cases j with
      | zero =>
       simp at hj; subst hj
       refine hc (off + 0) v ?_ |> fun h => by simpa [Nat.add_assoc] using h
       have : (vs.drop off)[0]? = some v := by rw [hvd]; rfl
       simpa [List.getElem?_drop] using this
      | succ j => simp at hj) (by simp [hsz']) (fun _ => rfl)
    exact ⟨v,by simpa using hr,(ay.1 hd).1⟩
  ·cases hf
 ·cases hf
structure Hint where
 ld : List (Nat × List PV)
 st : List (Nat × List PV)
def fL (P : Program) (H : Hint) (σ : St) (o : Oper) (t : TypeId) (x : Operand) : Option (St × Prop) :=
 match ev σ x with
 | .ptr k off => match lk σ.tab k with
  | some (.box _ cells) => match fo P t off cells with
   | some sv => some (σ.put o.dst sv,True)
   | none => none
  | _ => none
 | .pd row off fr => match fo P t off (row.map (mkp fr)) with
  | some sv => some (σ.put o.dst sv,True)
  | none => none
 | .vptr k sz i off => match lk σ.tab k,o.dst with
  | some (.vec _ sz' rows fr),some d => match lk H.ld d with
   | some row => match fo P t off (row.map (mkp fr)),Nat.beq sz sz' with
    | some sv,true => some (σ.put o.dst sv,rows[i]? = some row)
    | _,_ => none
   | none => none
  | _,_ => none
 | _ => none
theorem Dh {w : World} {E : Env} {lo sz : Nat} {fr : Bool} {rows : List (List PV)} {xs : List Value} (h : bZ w E.bad (flo lo fr) sz rows xs) {i : Nat} {row : List PV} (hi : rows[i]? = some row) :
  ∃ vs : List Value,VRs w E lo (row.map (mkp fr)) vs ∧ ∀ (j : Nat) v,vs[j]? = some v → xs[i * sz + j]? = some v := by
 obtain ⟨f,h1,h2,h3⟩ := h
 refine ⟨(List.range row.length).map (f i),uq _ _ (by simp) ?_,?_⟩
 ·intro j x v hx hv
  have hj : j < row.length := (List.getElem?_eq_some_iff.1 hx).1
  simp [hj] at hv; subst hv
  exact h3 i row j x hi hx
 ·intro j v hv
  have hj : j < row.length := by
   have := (List.getElem?_eq_some_iff.1 hv).1; simpa using this
  simp [hj] at hv; subst hv
  exact h2 i row j row[j] hi (by simp [hj])
theorem Ht {w : World} {E : Env} {lo : Nat} {fr : Bool} {row : List PV} {b o : Nat} (h : vq w E.bad (flo lo fr) row b o) :
  ∃ vs : List Value,VRs w E lo (row.map (mkp fr)) vs ∧ ∀ (j : Nat) v,vs[j]? = some v → w.cell? ⟨b,o + j,none⟩ = some v := by
 obtain ⟨cs,t,fz,f,hb,_,_,h1,h2⟩ := h
 refine ⟨(List.range row.length).map f,uq _ _ (by simp) ?_,?_⟩
 ·intro j x v hx hv
  have hj : j < row.length := (List.getElem?_eq_some_iff.1 hx).1
  simp [hj] at hv; subst hv
  exact h2 j x hx
 ·intro j v hv
  have hj : j < row.length := by
   have := (List.getElem?_eq_some_iff.1 hv).1; simpa using this
  simp [hj] at hv; subst hv
  rw [dF hb]
  exact h1 j row[j] (by simp [hj])
theorem yP {w : World} {E : Env} {lo k : Nat} {t : TypeId} {sz : Nat} {rows : List (List PV)} {fr : Bool} (hor : OR w E lo k (.vec t sz rows fr)) {b n c : Nat}
  (hv : E.val k = some (.slice (some ⟨b,0,none⟩) n c)) : E.own b = some k ∧ n = rows.length ∧ n ≤ c ∧ 0 < sz ∧ ∃ cur : Array Value,w.heap[b]? = some (.cells cur t (0,0)) ∧ cur.size = c * sz ∧
   bZ w E.bad (flo lo fr) sz rows (cur.toList.take (n * sz)) := by
 obtain ⟨v,xs,h1,h2,h3,h4,h5⟩ := hor
 rw [hv] at h1; cases h1
 obtain ⟨h31,h32⟩ := h3
 rcases h32 with ⟨h,_⟩ | ⟨g,cap,cur,he,_,hg,hle,_,hsz,htk⟩
 ·cases h
 ·simp only [Value.slice.injEq,Option.some.injEq,Addr.mk.injEq] at he
  obtain ⟨⟨rfl,_⟩,rfl,rfl⟩ := he
  exact ⟨h4 _ rfl,rfl,hle,h2,cur,hg,hsz,by rw [htk]; exact h5⟩
theorem qR {C : Ctx} {H : Hint} {E : Env} {σ σ' : St} {a : Act} {w : World} {o : Oper} {t : TypeId} {x : Operand} {vc : Prop} (ho : o.op = .load t x)
  (hf : fL C.P H σ o t x = some (σ',vc)) (hvc : vc) (h : au C E σ a w) (hd : aV C o) : bs C o σ' a w := by
 have hev := a7 h x
 unfold fL at hf
 split at hf
 ·rename_i k off he
  rw [he] at hev; simp only [VR] at hev
  obtain ⟨b,hb,hx⟩ := hev
  split at hf
  ·rename_i bt cells hl
   split at hf
   ·rename_i sv hsv
    simp only [Option.some.injEq,Prod.mk.injEq] at hf; obtain ⟨rfl,_⟩ := hf
    obtain ⟨b',vs,h1,h2,h3,h4⟩ := h.tab.obj k _ hl
    rw [hb] at h1; simp at h1; subst h1
    obtain ⟨v,hr,hv⟩ := oY (P := C.P) (b := b) (o := 0) h4 (fun j v hj => by rw [dF h3]; simpa using hj) hsv
    simp only [Nat.zero_add] at hr
    exact bn h hd (v := v) (by simp [execOp,ho,hx,hr]) hv
   ·cases hf
  ·cases hf
 ·rename_i row off fr he
  rw [he] at hev; simp only [VR] at hev
  obtain ⟨b,o',hx,hrep⟩ := hev
  split at hf
  ·rename_i sv hsv
   simp only [Option.some.injEq,Prod.mk.injEq] at hf; obtain ⟨rfl,_⟩ := hf
   obtain ⟨vs,h1,h2⟩ := Ht hrep
   obtain ⟨v,hr,hv⟩ := oY (P := C.P) (b := b) (o := o') h1 h2 hsv
   exact bn h hd (v := v) (by simp [execOp,ho,hx,hr]) hv
  ·cases hf
 ·rename_i k sz i off he
  rw [he] at hev; simp only [VR] at hev
  obtain ⟨b,n,c,hb,hx⟩ := hev
  split at hf
  ·rename_i d tt sz' rows fr dd hl hdst
   split at hf
   ·rename_i row hrow
    split at hf
    ·rename_i sv hsv hszz
     have := Nat.eq_of_beq_eq_true hszz; subst this
     simp only [Option.some.injEq,Prod.mk.injEq] at hf; obtain ⟨rfl,rfl⟩ := hf
     obtain ⟨_,hn,hnc,hszp,cur,hg,hcs,hrr⟩ := yP (h.tab.obj k _ hl) hb
     obtain ⟨vs,h1,h2⟩ := Dh hrr hvc
     obtain ⟨v,hr,hv⟩ := oY (P := C.P) (b := b) (o := i * sz) h1 (fun j v hj => by
      have := h2 j v hj
      rw [dF hg]
      rw [List.getElem?_take] at this
      split at this
      ·simpa using this
      ·cases this) hsv
     exact bn h hd (v := v) (by simp [execOp,ho,hx,hr]) hv
    ·cases hf
   ·cases hf
  ·cases hf
 ·cases hf
theorem xC {C : Ctx} {E : Env} {σ : St} {a : Act} {w w1 : World} {o : Oper} {k : Nat} {ov : OV} (h : au C E σ a w) (hd : aV C o) (hk : lk σ.tab k ≠ none)
  (hrun : (execOp a.eval o).run C.P w = .ok .skip w1) (hos : w1.os = w.os) (htp : w1.tape = w.tape) (hou : w1.output = w.output) (hs : w1.heap.size = w.heap.size)
  (hb : ∀ b,E.own b ≠ some k → w1.heap[b]? = w.heap[b]?) (hor : OR w1 E C.lo k ov) : bs C o ((⟨σ.ab,(k,ov) :: rm σ.tab k⟩ : St).put o.dst .u) a w :=
 ⟨undef,w1,.inr ⟨hrun,rfl⟩,E,h.upd (Fr.set hos htp hou hs hb) (fun _ _ h => h) (fun _ _ h => h) (h.tab.set hk hs hb hor) o.dst hd fun _ _ => by simp [VR]⟩
def fp (P : Program) (H : Hint) (σ : St) (o : Oper) (t : TypeId) (x y : Operand) : Option (St × Prop) :=
 match cellsOf (ev σ y),P.info? t with
 | some xs,some i => match uo xs,Nat.beq xs.length i.size with
  | true,true => match ev σ x with
   | .ptr k off => match lk σ.tab k with
    | some (.box bt cells) => match Nat.ble (off + xs.length) cells.length with
     | true => some ((⟨σ.ab,(k,.box bt (spl cells off xs)) :: rm σ.tab k⟩ : St).put o.dst .u,True)
     | false => none
    | _ => none
   | .vptr k sz n off => match lk σ.tab k,gl xs with
    | some (.vec bt sz' rows fr),some (ys,fr2) => match lk H.st k,Nat.beq sz sz' with
     | some row,true => match Nat.ble (off + xs.length) row.length with
      | true => some ((⟨σ.ab,(k,.vec bt sz' (rows.set n (spl row off ys)) (fr && fr2)) :: rm σ.tab k⟩ : St).put o.dst .u,rows[n]? = some row)
      | false => none
     | _,_ => none
    | _,_ => none
   | _ => none
  | _,_ => none
 | _,_ => none
theorem jC {P : Program} {w : World} {t bt : TypeId} {i : TypeInfo} {b off : Nat} {v : Value} {cur : Array Value} (hi : P.info? t = some i) (hs : v.cells.toList.length = i.size)
  (hg : w.heap[b]? = some (.cells cur bt (0,0))) (hle : off + v.cells.toList.length ≤ cur.size) (h1 : ∀ u ∈ v.cells.toList,u.oneCell' = true) :
  (Instr.storeAt t (.pointer (some ⟨b,off,none⟩)) v).run P w = .ok () (w.setRow b (spl cur.toList off v.cells.toList).toArray) := by
 have hst := run_storeCells_at P b off bt v.cells.toList 0 cur w hg (by simpa using hle) h1
 have hs' : v.cells.size = i.size := by simpa using hs
 simp only [Nat.add_zero] at hst
 simp [Instr.storeAt,Instr.sureAddr,storeVar,sizeOf,typeInfo,hi,hs',hst,spl,List.append_assoc]
theorem ef {α : Type} (cs : List α) (off : Nat) (new : List α) (h : off + new.length ≤ cs.length) : (spl cs off new).length = cs.length := by
 simp [spl]; omega
theorem jf {α : Type} (cs : List α) (off : Nat) (new : List α) (h : off + new.length ≤ cs.length) (j : Nat) :
  (spl cs off new)[j]? = if off ≤ j ∧ j < off + new.length then new[j - off]? else cs[j]? := by
 unfold spl
 rw [List.getElem?_append]
 simp only [List.length_take,Nat.min_eq_left (show off ≤ cs.length by omega)]
 split
 ·rename_i hj
  rw [if_neg (by omega),List.getElem?_take,if_pos hj]
 ·rename_i hj
  rw [List.getElem?_append]
  split
  ·rename_i hj2
   rw [if_pos (by omega)]
  ·rename_i hj2
   rw [if_neg (by omega),List.getElem?_drop]
   congr 1; omega
theorem qB {C : Ctx} {H : Hint} {E : Env} {σ σ' : St} {a : Act} {w : World} {o : Oper} {t : TypeId} {x y : Operand} {vc : Prop} (ho : o.op = .store t x y)
  (hf : fp C.P H σ o t x y = some (σ',vc)) (hvc : vc) (h : au C E σ a w) (hd : aV C o) : bs C o σ' a w := by
 have hev := a7 h x
 unfold fp at hf
 split at hf
 ·rename_i xs i hxs hi
  have hvs := nh hxs (a7 h y)
  have hlen := bJ hvs
  have hszy : (a.eval y).cells.toList.length = (a.eval y).cells.size := by simp
  split at hf
  ·rename_i hones hsz
   have hsz' := Nat.eq_of_beq_eq_true hsz
   have h1 := AJ hones hvs
   split at hf
   ·rename_i k off he
    rw [he] at hev; simp only [VR] at hev
    obtain ⟨b,hb,hx⟩ := hev
    split at hf
    ·rename_i bt cells hl
     split at hf
     ·rename_i hle
      have hle' := Nat.le_of_ble_eq_true hle
      simp only [Option.some.injEq,Prod.mk.injEq] at hf; obtain ⟨rfl,_⟩ := hf
      obtain ⟨b',vs,e1,e2,e3,e4⟩ := h.tab.obj k _ hl
      rw [hb] at e1; simp at e1; subst e1
      have hvl := bJ e4
      have hr := jC (P := C.P) (off := off) (v := a.eval y) hi (by omega) e3 (by simp; omega) h1
      have hk0 : lk σ.tab k ≠ none := by rw [hl]; simp
      refine xC h hd hk0 (w1 := w.setRow b (spl vs off (a.eval y).cells.toList).toArray) (by simp [execOp,ho,hx,hr]) rfl rfl rfl (by simp) ?_ ?_
      ·intro c hc
       exact setRow_other w b c _ (fun e => hc (by rw [e]; exact e2))
      ·refine ⟨b,spl vs off (a.eval y).cells.toList,hb,e2,setRow_heap w b _ _ bt _ e3,?_⟩
       have hkeep : cP w E (w.setRow b (spl vs off (a.eval y).cells.toList).toArray) E := ⟨fun c _ hn => ⟨setRow_other w b c _ (fun e => by subst e; rw [hn] at e2; cases e2),hn⟩,rfl⟩
       exact VRs.mono hkeep (fun _ _ h => h) _ _ (DZ off e4 hvs)
     ·cases hf
    ·cases hf
   ·rename_i k sz n off he
    rw [he] at hev; simp only [VR] at hev
    obtain ⟨b,nn,c,hb,hx⟩ := hev
    split at hf
    ·rename_i bt sz' rows fr ys fr2 hl hys
     split at hf
     ·rename_i row hrow hszz
      have := Nat.eq_of_beq_eq_true hszz; subst this
      split at hf
      ·rename_i hle
       have hle' := Nat.le_of_ble_eq_true hle
       simp only [Option.some.injEq,Prod.mk.injEq] at hf; obtain ⟨rfl,rfl⟩ := hf
       have hor := h.tab.obj k _ hl
       obtain ⟨e2,hn,hnc,hszp,cur,hg,hcs,f,r1,r2,r3⟩ := yP hor hb
       obtain ⟨g1,g2,g,g3,g4⟩ := iv xs ys fr2 hys _ hvs
       have hi' : n < rows.length := (List.getElem?_eq_some_iff.1 hvc).1
       have hrl := r1 n row hvc
       have hfit : n * sz + sz ≤ cur.size := by
        rw [hcs]
        have : (n + 1) * sz ≤ c * sz := Nat.mul_le_mul_right _ (by omega)
        rw [Nat.add_mul,Nat.one_mul] at this; exact this
       have hyl : ys.length = (a.eval y).cells.toList.length := g2.symm
       have hr := jC (P := C.P) (off := n * sz + off) (v := a.eval y) hi (by omega) hg (by omega) h1
       have hk0 : lk σ.tab k ≠ none := by rw [hl]; simp
       refine xC h hd hk0 (w1 := w.setRow b (spl cur.toList (n * sz + off) (a.eval y).cells.toList).toArray) (by simp [execOp,ho,hx,hr]) rfl rfl rfl (by simp) ?_ ?_
       ·intro c hc
        exact setRow_other w b c _ (fun e => hc (by rw [e]; exact e2))
       ·obtain ⟨v,vxs,q1,q2,q3,q4,q5⟩ := hor
        rw [hb] at q1; cases q1
        have hkeep : cP w E (w.setRow b (spl cur.toList (n * sz + off) (a.eval y).cells.toList).toArray) E := ⟨fun c _ hn => ⟨setRow_other w b c _ (fun e => by subst e; rw [hn] at e2; cases e2),hn⟩,rfl⟩
        obtain ⟨q31,q32⟩ := q3
        rcases q32 with ⟨q,_⟩ | ⟨gg,cap,cur',qe,_,qg,qle,qm,qsz,qtk⟩
        ·cases q
        simp only [Value.slice.injEq,Option.some.injEq,Addr.mk.injEq] at qe
        obtain ⟨⟨rfl,_⟩,rfl,rfl⟩ := qe
        rw [hg] at qg; simp at qg; subst qg
        have hsl : (spl cur.toList (n * sz + off) (a.eval y).cells.toList).length = cur.size := by rw [ef _ _ _ (by simp; omega)]; simp
        refine ⟨_,(spl cur.toList (n * sz + off) (a.eval y).cells.toList).take (rows.length * sz),hb,hszp,⟨?_,.inr ⟨b,c,_,by rw [hn]; simp,Nat.zero_le _,setRow_heap w b _ _ bt _ hg,by simp; omega,by omega,by simp [hsl,hcs],by simp⟩⟩,q4,?_⟩
        ·simp only [List.length_take,hsl,hcs,List.length_set]
         exact Nat.min_eq_left (Nat.mul_le_mul_right _ (by omega))
        ·refine ⟨fun i j => if i = n ∧ off ≤ j ∧ j < off + ys.length then g (j - off) else f i j,?_,?_,?_⟩
         ·intro i row' hrow'
          by_cases hin : n = i
          ·subst hin
           rw [List.getElem?_set_self hi'] at hrow'; simp at hrow'; subst hrow'
           rw [ef _ _ _ (by omega)]; exact hrl
          ·rw [List.getElem?_set_ne hin] at hrow'; exact r1 i row' hrow'
         ·intro i row' j x' hrow' hj
          have hilt : i < rows.length := by have := (List.getElem?_eq_some_iff.1 hrow').1; simpa using this
          have hjlt : j < sz := by
           by_cases hin : n = i
           ·subst hin
            rw [List.getElem?_set_self hi'] at hrow'; simp at hrow'; subst hrow'
            have := (List.getElem?_eq_some_iff.1 hj).1
            rw [ef _ _ _ (by omega)] at this; omega
           ·rw [List.getElem?_set_ne hin] at hrow'; rw [← r1 i row' hrow']; exact (List.getElem?_eq_some_iff.1 hj).1
          have hij : i * sz + j < rows.length * sz := by
           have : (i + 1) * sz ≤ rows.length * sz := Nat.mul_le_mul_right _ (by omega)
           rw [Nat.add_mul,Nat.one_mul] at this; omega
          rw [List.getElem?_take,if_pos hij,jf _ _ _ (by simp; omega)]
          by_cases hin : n = i
          ·subst hin
           rw [List.getElem?_set_self hi'] at hrow'; simp at hrow'; subst hrow'
           rw [jf _ _ _ (by omega)] at hj
           by_cases hr2 : off ≤ j ∧ j < off + ys.length
           ·rw [if_pos (by omega)]; dsimp only; rw [if_pos ⟨rfl,hr2⟩]
            rw [if_pos hr2] at hj
            have := g3 (j - off) x' hj
            rw [show n * sz + j - (n * sz + off) = j - off by omega]; exact this
           ·rw [if_neg (by omega)]; dsimp only; rw [if_neg (fun hh => hr2 hh.2)]
            rw [if_neg hr2] at hj
            have := r2 n row j x' hvc hj
            rw [List.getElem?_take,if_pos (by rw [hn]; exact hij)] at this
            exact this
          ·rw [List.getElem?_set_ne hin] at hrow'
           have hne : ¬ (n * sz + off ≤ i * sz + j ∧ i * sz + j < n * sz + off + (a.eval y).cells.toList.length) := by
            intro hh
            rcases Nat.lt_or_gt_of_ne hin with hlt | hgt
            ·have : (n + 1) * sz ≤ i * sz := Nat.mul_le_mul_right _ (by omega)
             rw [Nat.add_mul,Nat.one_mul] at this; omega
            ·have : (i + 1) * sz ≤ n * sz := Nat.mul_le_mul_right _ (by omega)
             rw [Nat.add_mul,Nat.one_mul] at this; omega
           rw [if_neg hne]; dsimp only; rw [if_neg (fun hh => hin hh.1.symm)]
           have := r2 i row' j x' hrow' hj
           rw [List.getElem?_take,if_pos (by rw [hn]; exact hij)] at this
           exact this
         ·intro i row' j x' hrow' hj
          by_cases hin : n = i
          ·subst hin
           rw [List.getElem?_set_self hi'] at hrow'; simp at hrow'; subst hrow'
           rw [jf _ _ _ (by omega)] at hj
           by_cases hr2 : off ≤ j ∧ j < off + ys.length
           ·dsimp only; rw [if_pos ⟨rfl,hr2⟩]
            rw [if_pos hr2] at hj
            exact (g4 (j - off) x' hj).mono (eG _ _ _).2 hkeep.rep
           ·dsimp only; rw [if_neg (fun hh => hr2 hh.2)]
            rw [if_neg hr2] at hj
            exact (r3 n row j x' hvc hj).mono (eG _ _ _).1 hkeep.rep
          ·rw [List.getElem?_set_ne hin] at hrow'
           dsimp only; rw [if_neg (fun hh => hin hh.1.symm)]
           exact (r3 i row' j x' hrow' hj).mono (eG _ _ _).1 hkeep.rep
      ·cases hf
     ·cases hf
    ·cases hf
   ·cases hf
  ·cases hf
 ·cases hf
def bM (P : Program) (s : TypeId) (f : Nat) : Option (Nat × Nat) :=
 match P.underlying s with
 | some (.struct fields) => match fields.toList[f]? with
  | some fd => match P.info? fd.type with
   | some i => match Nat.beq i.size 0 with | true => none | false => some (fd.offset,i.size)
   | none => none
  | none => none
 | _ => none
def shift (n m : Nat) : SV → Option SV
 | .ptr k off => some (.ptr k (off + n))
 | .pd row 0 fr => some (.pd ((row.drop n).take m) 0 fr)
 | .vptr k sz i off => some (.vptr k sz i (off + n))
 | _ => none
theorem Hu {w : World} {E : Env} {lo n m : Nat} {s s' : SV} {v : Value} (hs : shift n m s = some s') (h : VR w E lo s v) :
  ∃ b o,v = .pointer (some ⟨b,o,none⟩) ∧ VR w E lo s' (.pointer (some ⟨b,o + n,none⟩)) := by
 cases s with
 | ptr k off =>
  simp only [shift,Option.some.injEq] at hs; subst hs; simp only [VR] at h ⊢
  obtain ⟨b,h1,rfl⟩ := h; exact ⟨b,off,rfl,b,h1,rfl⟩
 | pd row off fr =>
  cases off with
  | succ off => simp [shift] at hs
  | zero =>
   simp only [shift,Option.some.injEq] at hs; subst hs; simp only [VR] at h ⊢
   obtain ⟨b,o,rfl,cs,t,fz,f,h1,h2,h3,h4,h5⟩ := h
   have hget : ∀ (j : Nat) x,((row.drop n).take m)[j]? = some x → row[n + j]? = some x := by
    intro j x hx
    rw [List.getElem?_take] at hx
    split at hx
    ·rw [List.getElem?_drop] at hx; exact hx
    ·cases hx
   exact ⟨b,o + 0,rfl,b,o + n,rfl,cs,t,fz,fun j => f (n + j),h1,h2,h3,fun j x hx => by have := h4 _ x (hget j x hx); rw [Nat.add_assoc]; exact this,fun j x hx => h5 _ x (hget j x hx)⟩
 | vptr k sz i off =>
  simp only [shift,Option.some.injEq] at hs; subst hs; simp only [VR] at h ⊢
  obtain ⟨b,n',c,h1,rfl⟩ := h; exact ⟨b,_,rfl,b,n',c,h1,by rw [Nat.add_assoc]⟩
 | _ => simp [shift] at hs
def jD (P : Program) (σ : St) (o : Oper) (s : TypeId) (x : Operand) (f : Nat) : Option (St × Prop) :=
 match bM P s f with
 | some (n,m) => match shift n m (ev σ x) with
  | some sv => some (σ.put o.dst sv,True)
  | none => none
 | none => none
def kz (σ : St) (o : Oper) (x : Operand) : Option (St × Prop) :=
 match ev σ x with
 | .ptr k off => some (σ.put o.dst (.ptr k off),True)
 | .pd row off fr => some (σ.put o.dst (.pd row off fr),True)
 | .vptr k sz i off => some (σ.put o.dst (.vptr k sz i off),True)
 | .ifc t y => some (σ.put o.dst (.ifc t y),True)
 | .fn (.func f) first caps => some (σ.put o.dst (.fn (.func f) first caps),True)
 | _ => none
end Go.TL
namespace Go.TL
def Env.re (E : Env) (k d : Nat) (x : Value) : Env :=
 ⟨fun j => if j = d then some x else if j = k then none else E.val j,fun c => if x.ownBlock = some c then some d else if E.own c = some k then none else E.own c,E.ext⟩
theorem Hv {w : World} {E : Env} {lo k d : Nat} {x : Value} {T : Tab} (h : a8 w E lo T) (hd : lk (rm T k) d = none) : But k E (E.re k d x) := by
 intro j y hj hy
 have hjd : j ≠ d := fun e => by
  subst e; rw [bP _ _ _ hj] at hd; rw [h.dead j hd] at hy; cases hy
 simp [Env.re,hjd,hj,hy]
theorem a8.re {w w' : World} {E : Env} {lo k d : Nat} {x : Value} {T : Tab} {ov : OV} (h : a8 w E lo T) (hd : lk (rm T k) d = none) (hs : w.heap.size ≤ w'.heap.size)
  (hb : ∀ b,b < w.heap.size → E.own b ≠ some k → w'.heap[b]? = w.heap[b]?) (hx : ∀ g,x.ownBlock = some g → (E.own g = some k ∨ w.heap.size ≤ g) ∧ g < w'.heap.size)
  (hlo : lo ≤ w.heap.size) (hor : OR w' (E.re k d x) lo d ov) :
  a8 w' (E.re k d x) lo ((d,ov) :: iK k .u (fun _ => .u) (rm T k)) ∧ cP w E w' (E.re k d x) := by
 have hkeep : cP w E w' (E.re k d x) := by
  refine ⟨?_,rfl⟩
  intro b hlt hn
  refine ⟨hb b hlt (by rw [hn]; simp),?_⟩
  simp only [Env.re]
  split
  ·rename_i hg
   rcases (hx b hg).1 with h1 | h1
   ·rw [hn] at h1; cases h1
   ·omega
  ·rw [if_neg (by rw [hn]; simp)]; exact hn
 have hbut := Hv (x := x) h hd
 have hown : ∀ j,j ≠ k → j ≠ d → ∀ b,(E.re k d x).own b = some j ↔ E.own b = some j := by
  intro j hjk hjd b
  simp only [Env.re]
  split
  ·rename_i hg
   constructor
   ·intro e; simp at e; exact absurd e.symm hjd
   ·intro e
    rcases (hx b hg).1 with h1 | h1
    ·rw [e] at h1; simp at h1; exact absurd h1 hjk
    ·have := (h.own b j e).1; omega
  ·split
   ·rename_i hk
    constructor
    ·intro e; cases e
    ·intro e; rw [hk] at e; simp at e; exact absurd e.symm hjk
   ·exact Iff.rfl
 refine ⟨⟨?_,?_,?_,?_⟩,hkeep⟩
 ·intro j o hl
  by_cases he : j = d
  ·subst he; rw [ar] at hl; cases hl; exact hor
  ·rw [aq _ _ _ _ he,eV] at hl
   by_cases hjk : j = k
   ·subst hjk; rw [gk] at hl; simp at hl
   ·rw [bP _ _ _ hjk] at hl
    cases hq : lk T j with
    | none => simp [hq] at hl
    | some o0 =>
     simp [hq] at hl; subst hl
     exact OR.fz hjk hkeep hbut (fun _ _ => by simp [VR]) (fun _ _ _ => by simp [VR]) (hown j hjk he)
      (fun b ho => hb b (h.own b j ho).1 (by rw [ho]; simp [hjk])) (h.obj j o0 hq)
 ·intro j hl
  have he : j ≠ d := fun e => by subst e; rw [ar] at hl; cases hl
  rw [aq _ _ _ _ he,eV] at hl
  simp only [Env.re,if_neg he]
  by_cases hjk : j = k
  ·simp [hjk]
  ·rw [if_neg hjk]
   rw [bP _ _ _ hjk] at hl
   exact h.dead j (by simpa using hl)
 ·intro b j ho
  by_cases he : j = d
  ·subst he
   refine ⟨?_,?_,by rw [ar]; simp⟩
   ·simp only [Env.re] at ho
    split at ho
    ·rename_i hg; exact (hx b hg).2
    ·split at ho
     ·cases ho
     ·have := (h.own b j ho).1; omega
   ·simp only [Env.re] at ho
    split at ho
    ·rename_i hg
     rcases (hx b hg).1 with h1 | h1
     ·exact (h.own b k h1).2.1
     ·omega
    ·split at ho
     ·cases ho
     ·exact (h.own b j ho).2.1
  ·have hjk : j ≠ k := by
    intro e; subst e
    simp only [Env.re] at ho
    split at ho
    ·simp at ho; exact he ho.symm
    ·split at ho
     ·cases ho
     ·rename_i hn; exact hn ho
   have h1 := h.own b j ((hown j hjk he b).1 ho)
   refine ⟨by omega,h1.2.1,?_⟩
   rw [aq _ _ _ _ he,eV,bP _ _ _ hjk]
   simpa using h1.2.2
 ·intro b hxx
  have h1 := h.ext b hxx
  refine ⟨by omega,?_⟩
  simp only [Env.re]
  split
  ·rename_i hg
   rcases (hx b hg).1 with h2 | h2
   ·rw [h1.2] at h2; cases h2
   ·omega
  ·rw [if_neg (by rw [h1.2]; simp)]; exact h1.2
def St.re (σ : St) (k d : Nat) (ov : OV) : St := ⟨(d,.vec d) :: dU k .u (fun _ => .u) σ.ab,(d,ov) :: iK k .u (fun _ => .u) (rm σ.tab k)⟩
theorem AK {C : Ctx} {E : Env} {σ : St} {a : Act} {w w' : World} {o : Oper} {k d : Nat} {x : Value} {ov : OV} (h : au C E σ a w) (hd : aV C o) (hdst : o.dst = some d)
  (hfresh : lk (rm σ.tab k) d = none) (hrun : (execOp a.eval o).run C.P w = .ok (.value x) w') (hos : w'.os = w.os) (htp : w'.tape = w.tape) (hou : w'.output = w.output)
  (hs : w.heap.size ≤ w'.heap.size) (hb : ∀ b,b < w.heap.size → E.own b ≠ some k → w'.heap[b]? = w.heap[b]?)
  (hx : ∀ g,x.ownBlock = some g → (E.own g = some k ∨ w.heap.size ≤ g) ∧ g < w'.heap.size) (hsl : ∃ p n c,x = .slice p n c)
  (hor : cP w E w' (E.re k d x) → OR w' (E.re k d x) C.lo d ov) : bs C o (σ.re k d ov) a w := by
 have hlo : C.lo ≤ w.heap.size := Nat.le_trans h.lo.le h.fr.size
 have hkeep : cP w E w' (E.re k d x) := by
  refine ⟨?_,rfl⟩
  intro b hlt hn
  refine ⟨hb b hlt (by rw [hn]; simp),?_⟩
  simp only [Env.re]
  split
  ·rename_i hg
   rcases (hx b hg).1 with h1 | h1
   ·rw [hn] at h1; cases h1
   ·omega
  ·rw [if_neg (by rw [hn]; simp)]; exact hn
 have ht := a8.re h.tab hfresh hs hb hx hlo (hor hkeep)
 refine ⟨x,w',.inl hrun,E.re k d x,?_⟩
 have hdn : d < C.n := hd d hdst
 have := h.Rz (k := k) (E' := E.re k d x) ⟨hos,htp,hou,hs,hkeep.keep,hkeep.ext⟩ (Hv h.tab hfresh) (fun j hj hn => by
  simp only [Env.re]; rw [if_neg (by omega)]
  rcases hn with hn | hn
  ·split
   ·rfl
   ·exact hn
  ·rw [if_pos hn]) ht.1 o.dst hd (sv := .vec d) (v := x) (fun _ _ => by simp only [VR]; exact ⟨by simp [Env.re],hsl⟩)
 rw [hdst] at this ⊢
 exact this
structure Me (w : World) (bad : Nat → Prop) (lo sz : Nat) (rows : List (List PV)) (x : Value) : Prop where
 out : (rows = [] ∧ ∃ b c,x = .slice b 0 c) ∨ ∃ (a : Addr) (c : Nat) (news : List Value),x = .slice (some a) rows.length c ∧ news.length = rows.length * sz ∧
  (∀ (j : Nat) u,news[j]? = some u → w.cell? (a.add j) = some u) ∧ (∀ u ∈ news,u.oneCell' = true) ∧ bZ w bad lo sz rows news
def kA (T : Tab) : SV → Option (List (List PV) × Bool)
 | .vec k => match lk T k with
  | some (.vec _ _ rows fr) => some (rows,fr)
  | _ => none
 | .p (.sl rows) fr => some (rows,fr)
 | .p (.v (.slice none 0 0)) _ => some ([],true)
 | .pc rows fr => some (rows,fr)
 | _ => none
theorem oZ {w : World} {bad : Nat → Prop} {lo sz : Nat} {rows : List (List PV)} {x : Value} (h : Rep w bad lo (.sl rows) x)
  (hsz : ∀ (i : Nat) (row : List PV),rows[i]? = some row → row.length = sz) (hpos : 0 < sz) : Me w bad lo sz rows x := by
 cases h with
 | nil b c => exact ⟨.inl ⟨rfl,b,c,rfl⟩⟩
 | sl _ b off cap cs t fz szq f hcap hb hbad hlo hfz hlen hc hr =>
  by_cases hn : rows = []
  ·subst hn; exact ⟨.inl ⟨rfl,some ⟨b,off,none⟩,cap,rfl⟩⟩
  ·have hs : szq = sz := by
    have h0 : rows[0]? = some (rows[0]'(List.length_pos_iff.2 hn)) := by simp [List.length_pos_iff.2 hn]
    rw [← hlen 0 _ h0,hsz 0 _ h0]
   subst hs
   have hcell : ∀ j,j < rows.length * szq → cs[off + j]? = some (f (j / szq) (j % szq)) ∧ Rep w bad lo ((rows.getD (j / szq) []).getD (j % szq) default) (f (j / szq) (j % szq)) := by
    intro j hj
    have hq : j / szq < rows.length := (Nat.div_lt_iff_lt_mul hpos).2 hj
    have hm : j % szq < szq := Nat.mod_lt _ hpos
    have hrow : rows[j / szq]? = some rows[j / szq] := by simp [hq]
    have hcl : rows[j / szq][j % szq]? = some (rows[j / szq][j % szq]'(by rw [hlen _ _ hrow]; exact hm)) := by simp [hlen _ _ hrow,hm]
    have h1 := hc _ _ _ _ hrow hcl
    have h2 := hr _ _ _ _ hrow hcl
    have e : off + j / szq * szq + j % szq = off + j := by
     have := Nat.div_add_mod j szq; rw [Nat.mul_comm] at this; omega
    rw [e] at h1
    refine ⟨h1,?_⟩
    have : ((rows.getD (j / szq) []).getD (j % szq) default) = rows[j / szq][j % szq]'(by rw [hlen _ _ hrow]; exact hm) := by simp [List.getD,hrow,hcl]
    rw [this]; exact h2
   refine ⟨.inr ⟨⟨b,off,none⟩,cap,(List.range (rows.length * szq)).map fun j => f (j / szq) (j % szq),rfl,by simp,?_,?_,?_⟩⟩
   ·intro j u hu
    have hj : j < rows.length * szq := by have := (List.getElem?_eq_some_iff.1 hu).1; simpa using this
    simp [hj] at hu; subst hu
    rw [Addr.add_lit,dF hb]; exact (hcell j hj).1
   ·intro u hu
    obtain ⟨j,hj,rfl⟩ := List.mem_map.1 hu
    exact (hcell j (by simpa using hj)).2.one
   ·refine ⟨f,hlen,?_,hr⟩
    intro i row j x hi hj
    have hil : i < rows.length := (List.getElem?_eq_some_iff.1 hi).1
    have hjl : j < szq := by rw [← hlen i row hi]; exact (List.getElem?_eq_some_iff.1 hj).1
    have hlt : i * szq + j < rows.length * szq := by
     have : (i + 1) * szq ≤ rows.length * szq := Nat.mul_le_mul_right _ (by omega)
     rw [Nat.add_mul,Nat.one_mul] at this; omega
    have e1 : (i * szq + j) / szq = i := by rw [Nat.mul_comm,Nat.mul_add_div hpos,Nat.div_eq_of_lt hjl]; simp
    have e2 : (i * szq + j) % szq = j := by rw [Nat.mul_comm,Nat.mul_add_mod,Nat.mod_eq_of_lt hjl]
    simp [hlt,e1,e2]
theorem Di {w : World} {bad : Nat → Prop} {lo sz : Nat} {rows : List (List PV)} {xs : List Value} (h : bZ w bad lo sz rows xs) (hl : xs.length = rows.length * sz) (hpos : 0 < sz) :
  ∀ u ∈ xs,u.oneCell' = true := by
 obtain ⟨f,h1,h2,h3⟩ := h
 intro u hu
 obtain ⟨j,hj,rfl⟩ := List.mem_iff_getElem.1 hu
 rw [hl] at hj
 have hq : j / sz < rows.length := (Nat.div_lt_iff_lt_mul hpos).2 hj
 have hm : j % sz < sz := Nat.mod_lt _ hpos
 have hrow : rows[j / sz]? = some rows[j / sz] := by simp [hq]
 have hcl : rows[j / sz][j % sz]? = some (rows[j / sz][j % sz]'(by rw [h1 _ _ hrow]; exact hm)) := by simp [h1 _ _ hrow,hm]
 have e : j / sz * sz + j % sz = j := by
  have := Nat.div_add_mod j sz; rw [Nat.mul_comm] at this; omega
 have h4 := h2 _ _ _ _ hrow hcl
 rw [e] at h4
 have h5 := (h3 _ _ _ _ hrow hcl).one
 rw [List.getElem?_eq_some_iff] at h4
 obtain ⟨_,h4⟩ := h4
 rw [h4]; exact h5
theorem xD {C : Ctx} {E : Env} {σ : St} {a : Act} {w : World} {sv : SV} {v : Value} {rows : List (List PV)} {fr : Bool} {sz : Nat} (h : au C E σ a w) (hs : kA σ.tab sv = some (rows,fr))
  (hv : VR w E C.lo sv v) (hsz : ∀ (i : Nat) (row : List PV),rows[i]? = some row → row.length = sz) (hpos : 0 < sz) : Me w E.bad (flo C.lo fr) sz rows v := by
 unfold kA at hs
 split at hs
 ·rename_i k
  split at hs
  ·rename_i t' szq rows' fr' hl
   simp only [Option.some.injEq,Prod.mk.injEq] at hs; obtain ⟨rfl,rfl⟩ := hs
   obtain ⟨x,xs,h1,h2,h3,h4,h5⟩ := h.tab.obj k _ hl
   simp only [VR] at hv
   rw [hv.1] at h1; cases h1
   rcases h3.2 with ⟨rfl,hn⟩ | ⟨g,cap,cur,rfl,hb,hg,hle,hcm,hcs,htk⟩
   ·exact ⟨.inl ⟨List.eq_nil_of_length_eq_zero hn,none,0,rfl⟩⟩
   ·by_cases hn : rows' = []
    ·subst hn; exact ⟨.inl ⟨rfl,some ⟨g,0,none⟩,cap,rfl⟩⟩
    have hss : szq = sz := by
     obtain ⟨f,f1,_⟩ := h5
     have h0 : rows'[0]? = some (rows'[0]'(List.length_pos_iff.2 hn)) := by simp [List.length_pos_iff.2 hn]
     rw [← f1 0 _ h0,hsz 0 _ h0]
    subst hss
    refine ⟨.inr ⟨⟨g,0,none⟩,cap,xs,rfl,h3.1,?_,Di h5 h3.1 hpos,h5⟩⟩
    intro j u hu
    rw [Addr.add_lit,dF hg]
    rw [← htk,List.getElem?_take] at hu
    split at hu
    ·simpa using hu
    ·cases hu
  ·cases hs
 ·simp only [Option.some.injEq,Prod.mk.injEq] at hs; obtain ⟨rfl,rfl⟩ := hs
  simp only [VR] at hv
  exact oZ hv hsz hpos
 ·simp only [Option.some.injEq,Prod.mk.injEq] at hs; obtain ⟨rfl,rfl⟩ := hs
  have := cf hv; subst this
  exact ⟨.inl ⟨rfl,none,0,rfl⟩⟩
 ·simp only [Option.some.injEq,Prod.mk.injEq] at hs; obtain ⟨rfl,rfl⟩ := hs
  simp only [VR] at hv
  obtain ⟨_,_,hv⟩ := hv
  exact oZ hv hsz hpos
 ·cases hs
theorem bZ.append {w : World} {bad : Nat → Prop} {lo sz : Nat} {r1 r2 : List (List PV)} {x1 x2 : List Value} (h1 : bZ w bad lo sz r1 x1) (hl : x1.length = r1.length * sz)
  (h2 : bZ w bad lo sz r2 x2) : bZ w bad lo sz (r1 ++ r2) (x1 ++ x2) := by
 obtain ⟨f,a1,a2,a3⟩ := h1
 obtain ⟨g,b1,b2,b3⟩ := h2
 refine ⟨fun i j => if i < r1.length then f i j else g (i - r1.length) j,?_,?_,?_⟩
 ·intro i row hi
  rw [List.getElem?_append] at hi
  split at hi
  ·exact a1 i row hi
  ·exact b1 _ row hi
 ·intro i row j x hi hj
  rw [List.getElem?_append] at hi
  split at hi
  ·rename_i hlt
   simp only [hlt,if_true]
   have hjl : j < sz := by rw [← a1 i row hi]; exact (List.getElem?_eq_some_iff.1 hj).1
   have : i * sz + j < x1.length := by
    rw [hl]
    have : (i + 1) * sz ≤ r1.length * sz := Nat.mul_le_mul_right _ (by omega)
    rw [Nat.add_mul,Nat.one_mul] at this; omega
   rw [List.getElem?_append_left this]
   exact a2 i row j x hi hj
  ·rename_i hlt
   simp only [hlt,if_false]
   have hge : x1.length ≤ i * sz + j := by
    rw [hl]
    have : r1.length * sz ≤ i * sz := Nat.mul_le_mul_right _ (by omega)
    omega
   rw [List.getElem?_append_right hge]
   have := b2 _ row j x hi hj
   rw [Nat.sub_mul] at this
   rw [hl]
   have hle : r1.length * sz ≤ i * sz := Nat.mul_le_mul_right _ (by omega)
   rw [show i * sz + j - r1.length * sz = i * sz - r1.length * sz + j by omega]
   exact this
 ·intro i row j x hi hj
  rw [List.getElem?_append] at hi
  split at hi
  ·rename_i hlt
   simp only [hlt,if_true]; exact a3 i row j x hi hj
  ·rename_i hlt
   simp only [hlt,if_false]; exact b3 _ row j x hi hj
theorem iL {P : Program} {w : World} (t ty e : TypeId) (i : TypeInfo) (z : Value) (ht : P.underlying t = some (.slice e)) (hi : P.info? e = some i) (hz : i.zero = some z)
  (hzs : z.cells.size = i.size) (hsz : 0 < i.size) (v : Value) (n : Nat) (xs : List Value) (hown : w.ownsRow 0 e i.size v n xs)
  (x : Value) (m : Nat) (news : List Value) (hx : (m = 0 ∧ news = [] ∧ ∃ b c,x = .slice b 0 c) ∨ ∃ (a : Addr) (c : Nat),x = .slice (some a) m c ∧ news.length = m * i.size ∧
   (∀ (j : Nat) u,news[j]? = some u → w.cell? (a.add j) = some u) ∧ (∀ u ∈ news,u.oneCell' = true))
  (hbytes : (n + m) * i.bytes ≤ 140737488355328) (hlen : n + m ≤ 140737488355328) :
  ∃ v' w',(Builtin.append_ #[t,t] ty #[v,x]).run P w = .ok v' w' ∧ w'.ownsRow 0 e i.size v' (n + m) (xs ++ news) ∧ w.grownBy w' v.ownBlock ∧
   (∀ g,v'.ownBlock = some g → (v.ownBlock = some g ∨ w.heap.size ≤ g) ∧ g < w'.heap.size) ∧ ∃ p n c,v' = .slice p n c := by
 have hmax : n + m ≤ maxLen := by simp only [maxLen]; omega
 have hshape : ∃ p c,v = .slice p n c ∧ n ≤ c := by
  rcases hown.2 with ⟨rfl,rfl⟩ | ⟨g,cap,cur,rfl,_,_,hle,_⟩
  ·exact ⟨none,0,rfl,Nat.le_refl _⟩
  ·exact ⟨_,cap,rfl,hle⟩
 rcases hx with ⟨rfl,rfl,b,c,rfl⟩ | ⟨a,c,rfl,hl,hnews,h1⟩
 ·obtain ⟨p,cp,rfl,hle⟩ := hshape
  refine ⟨.slice p n cp,w,?_,by simpa using hown,⟨rfl,rfl,rfl,Nat.le_refl _,fun _ _ _ => rfl⟩,?_,p,n,cp,rfl⟩
  ·have hf : (Builtin.firstCells i.size 0 (.slice b 0 c)).run P w = .ok #[] w := by
    cases b with
    | none => exact run_firstCells_none w _ _ _ _
    | some b => exact run_firstCells_some (P := P) w i.size 0 b 0 c [] (by simp) (by simp)
   cases p <;> simp [Builtin.append_,run_underlying ht,sizeOf,typeInfo,hi,Builtin.lenOf,hle,hf,storeCells]
  ·intro g hg
   exact ⟨.inl hg,(hown.lt g hg).2⟩
 ·have hr := run_append_own (P := P) w 0 t ty e i z i.size i.bytes ht hi hz rfl rfl hzs hsz v n xs hown a m c news hl hnews h1 hmax hbytes (Nat.zero_le _)
  obtain ⟨v',w',hrun,ho,hg,_⟩ := hr
  refine ⟨v',w',hrun,ho,hg,?_,?_⟩
  ·intro g hgv
   refine ⟨?_,(ho.lt g hgv).2⟩
   rcases hown.2 with ⟨rfl,rfl⟩ | ⟨gg,cap,cur,rfl,_,hgg,hle,hcm,hcs,htk⟩
   ·have hr2 := run_append_own (P := P) w w.heap.size t ty e i z i.size i.bytes ht hi hz rfl rfl hzs hsz (.slice none 0 0) 0 xs ⟨hown.1,.inl ⟨rfl,rfl⟩⟩ a m c news hl hnews h1 hmax hbytes (Nat.le_refl _)
    obtain ⟨v2,w2,hrun2,ho2,_⟩ := hr2
    rw [hrun] at hrun2
    injection hrun2 with e1 e2
    subst e1; subst e2
    exact .inr (ho2.lt g hgv).1
   ·by_cases hroom : n + m ≤ cap
    ·have hfit : n * i.size + news.length ≤ cur.size := by rw [hl,hcs, ← Nat.add_mul]; exact Nat.mul_le_mul_right _ hroom
     have hr2 := run_append_room (P := P) w t ty e i ht hi gg n cap cur hgg a m c news hl hnews h1 hroom hfit
     rw [hrun] at hr2
     injection hr2 with e1 e2
     subst e1
     exact .inl hgv
    ·have holds : ∀ (j : Nat) u,xs[j]? = some u → w.cell? ((⟨gg,0,none⟩ : Addr).add j) = some u := by
      intro j u hu
      rw [Addr.add_lit,dF hgg]
      rw [← htk,List.getElem?_take] at hu
      split at hu
      ·simpa using hu
      ·cases hu
     have hr2 := run_append_grow (P := P) w t ty e i z ht hi hz ⟨gg,0,none⟩ n cap xs hown.1 holds a m c news hl hnews (by omega) (by omega) (growslice_fits (by omega) hbytes)
     rw [hrun] at hr2
     injection hr2 with e1 e2
     subst e1
     simp [Value.ownBlock] at hgv
     subst hgv
     exact .inr (Nat.le_refl _)
  ·rcases ho.2 with ⟨rfl,_⟩ | ⟨g,cap,cur,rfl,_⟩
   ·exact ⟨_,_,_,rfl⟩
   ·exact ⟨_,_,_,rfl⟩
end Go.TL
namespace Go.TL
def dE (P : Program) (t : TypeId) : Option (TypeId × TypeInfo) :=
 match P.underlying t with
 | some (.slice e) => match P.info? e with
  | some i => some (e,i)
  | none => none
 | _ => none
theorem iM {P : Program} {t e : TypeId} {i : TypeInfo} (h : dE P t = some (e,i)) : P.underlying t = some (.slice e) ∧ P.info? e = some i := by
 unfold dE at h
 split at h
 ·rename_i e' hu
  split at h
  ·rename_i i' hi
   simp only [Option.some.injEq,Prod.mk.injEq] at h; obtain ⟨rfl,rfl⟩ := h; exact ⟨hu,hi⟩
  ·cases h
 ·cases h
def qS (T : Tab) (d : Nat) : SV → Option (List (List PV) × Bool × Nat × Option (TypeId × Nat))
 | .vec k => match lk T k with
  | some (.vec t sz rows fr) => some (rows,fr,k,some (t,sz))
  | _ => none
 | .p (.v (.slice none 0 0)) _ => some ([],true,d,none)
 | _ => none
def o4 (P : Program) (σ : St) (o : Oper) (s x : Operand) (t : TypeId) : Option (St × Prop) :=
 match o.dst,dE P t with
 | some d,some (e,i) => match qS σ.tab d (ev σ s),kA σ.tab (ev σ x),i.zero with
  | some (rows,fr,k,ts),some (rows2,fr2),some z => match lk (rm σ.tab k) d,Nat.beq z.cells.size i.size,Nat.beq i.size 0,(match ts with | some (t',sz) => Nat.beq t' e && Nat.beq sz i.size | none => (lk σ.tab d).isNone) with
   | none,true,false,true => some (σ.re k d (.vec e i.size (rows ++ rows2) (fr && fr2)),(∀ row ∈ rows2,row.length = i.size) ∧ (rows.length + rows2.length) * max i.bytes 1 ≤ 140737488355328)
   | _,_,_,_ => none
  | _,_,_ => none
 | _,_ => none
theorem xE {C : Ctx} {E : Env} {σ σ' : St} {a : Act} {w : World} {o : Oper} {s x : Operand} {t : TypeId} {vc : Prop} (ho : o.op = .call { callee := .builtin .append,args := #[s,x],argTypes := #[t,t] })
  (hf : o4 C.P σ o s x t = some (σ',vc)) (hvc : vc) (h : au C E σ a w) (hd : aV C o) : bs C o σ' a w := by
 unfold o4 at hf
 split at hf
 ·rename_i d e i hdst hse
  obtain ⟨hu,hi⟩ := iM hse
  split at hf
  ·rename_i rows fr k ts rows2 fr2 z hbase hsrc hz
   split at hf
   ·rename_i hfresh hzs hsz hts
    have hzs' := Nat.eq_of_beq_eq_true hzs
    have hpos : 0 < i.size := by
     rcases Nat.eq_zero_or_pos i.size with h0 | h0
     ·rw [h0] at hsz; simp at hsz
     ·exact h0
    simp only [Option.some.injEq,Prod.mk.injEq] at hf; obtain ⟨rfl,rfl⟩ := hf
    obtain ⟨hrows2,hroom⟩ := hvc
    have hm1 : (rows.length + rows2.length) * 1 ≤ (rows.length + rows2.length) * max i.bytes 1 := Nat.mul_le_mul_left _ (by omega)
    have hm2 : (rows.length + rows2.length) * i.bytes ≤ (rows.length + rows2.length) * max i.bytes 1 := Nat.mul_le_mul_left _ (by omega)
    have hok2 : ∀ (n : Nat) (row : List PV),rows2[n]? = some row → row.length = i.size := fun n row hn => hrows2 row (List.mem_of_getElem? hn)
    have hsr := xD h hsrc (a7 h x) hok2 hpos
    have hb : ∃ xs,w.ownsRow 0 e i.size (a.eval s) rows.length xs ∧ bZ w E.bad (flo C.lo fr) i.size rows xs ∧ ∀ g,(a.eval s).ownBlock = some g → E.own g = some k := by
     have hev := a7 h s
     unfold qS at hbase
     split at hbase
     ·rename_i k' he
      split at hbase
      ·rename_i t' sz' rows' fr' hl
       simp only [Option.some.injEq,Prod.mk.injEq] at hbase; obtain ⟨rfl,rfl,rfl,rfl⟩ := hbase
       simp only [Bool.and_eq_true] at hts
       have e1 := Nat.eq_of_beq_eq_true hts.1
       have e2 := Nat.eq_of_beq_eq_true hts.2
       subst e1
       obtain ⟨v,xs,h1,h2,h3,h4,h5⟩ := h.tab.obj _ _ hl
       rw [he] at hev; simp only [VR] at hev
       rw [hev.1] at h1; cases h1
       rw [e2] at h3 h5
       exact ⟨xs,h3,h5,h4⟩
      ·cases hbase
     ·rename_i he
      simp only [Option.some.injEq,Prod.mk.injEq] at hbase; obtain ⟨rfl,rfl,rfl,rfl⟩ := hbase
      rw [he] at hev
      have := cf hev
      rw [this]
      exact ⟨[],World.ownsRow_nil w 0 e i.size,⟨fun _ _ => undef,by simp,by simp,by simp⟩,by simp [Value.ownBlock]⟩
     ·cases hbase
    obtain ⟨xs,hown,hrr,hblk⟩ := hb
    have hxx : ∃ news,((rows2.length = 0 ∧ news = [] ∧ ∃ b c,a.eval x = .slice b 0 c) ∨ ∃ (ad : Addr) (c : Nat),a.eval x = .slice (some ad) rows2.length c ∧ news.length = rows2.length * i.size ∧
      (∀ (j : Nat) u,news[j]? = some u → w.cell? (ad.add j) = some u) ∧ (∀ u ∈ news,u.oneCell' = true)) ∧ bZ w E.bad (flo C.lo fr2) i.size rows2 news := by
     rcases hsr.out with ⟨rfl,b,c,hx⟩ | ⟨ad,c,news,hx,hl,hn,h1,hr⟩
     ·exact ⟨[],.inl ⟨rfl,rfl,b,c,hx⟩,⟨fun _ _ => undef,by simp,by simp,by simp⟩⟩
     ·exact ⟨news,.inr ⟨ad,c,hx,hl,hn,h1⟩,hr⟩
    obtain ⟨news,hcase,hrr2⟩ := hxx
    obtain ⟨v',w',hrun,hown',hgb,hblk',hsl⟩ := iL (P := C.P) (w := w) t o.type e i z hu hi hz hzs' hpos (a.eval s) rows.length xs hown (a.eval x) rows2.length news hcase (by omega) (by omega)
    refine AK h hd hdst hfresh (x := v') (w' := w') ?_ hgb.os hgb.tape hgb.output hgb.size ?_ ?_ hsl ?_
    ·unfold execOp
     simp only [ho,resolve,invoke,builtin,Sem.run_bind,Sem.run_pure,Result.andThen_ok,List.map_toArray,List.map_cons,List.map_nil,hrun]
    ·intro b hlt hne
     exact hgb.block b hlt (fun e => hne (hblk b e.symm))
    ·intro g hg
     obtain ⟨h1,h2⟩ := hblk' g hg
     exact ⟨h1.imp (hblk g) id,h2⟩
    ·intro hkeep
     refine ⟨v',xs ++ news,by simp [Env.re],hpos,by simpa using hown',?_,?_⟩
     ·intro g hg; simp [Env.re,hg]
     ·exact bZ.append (hrr.mono (eG _ _ _).1 hkeep.rep) hown.1 (hrr2.mono (eG _ _ _).2 hkeep.rep)
   ·cases hf
  ·cases hf
 ·cases hf
def Jq : SV → Bool
 | .pc _ _ => true
 | _ => false
def mB (P : Program) (σ : St) (o : Oper) (s x : Operand) (t : TypeId) : Option (St × Prop) :=
 match o.dst,dE P t with
 | some d,some (e,i) => match ev σ s,kA σ.tab (ev σ x),i.zero with
  | .pc rows fr,some (rows2,fr2),some z => match lk σ.tab d,Nat.beq z.cells.size i.size,Nat.beq i.size 0 with
   | none,true,false => some (σ.re d d (.vec e i.size (rows ++ rows2) (fr && fr2)),(∀ row ∈ rows,row.length = i.size) ∧ (∀ row ∈ rows2,row.length = i.size) ∧ 0 < rows2.length ∧ (rows.length + rows2.length) * max i.bytes 1 ≤ 140737488355328)
   | _,_,_ => none
  | _,_,_ => none
 | _,_ => none
theorem vt {C : Ctx} {E : Env} {σ σ' : St} {a : Act} {w : World} {o : Oper} {s x : Operand} {t : TypeId} {vc : Prop} (ho : o.op = .call { callee := .builtin .append,args := #[s,x],argTypes := #[t,t] })
  (hf : mB C.P σ o s x t = some (σ',vc)) (hvc : vc) (h : au C E σ a w) (hd : aV C o) : bs C o σ' a w := by
 unfold mB at hf
 split at hf
 ·rename_i d e i hdst hse
  obtain ⟨hu,hi⟩ := iM hse
  split at hf
  ·rename_i rows fr rows2 fr2 z hbase hsrc hz
   split at hf
   ·rename_i hfresh0 hzs hsz
    have hfresh : lk (rm σ.tab d) d = none := gk _ _
    have hzs' := Nat.eq_of_beq_eq_true hzs
    have hpos : 0 < i.size := by
     rcases Nat.eq_zero_or_pos i.size with h0 | h0
     ·rw [h0] at hsz; simp at hsz
     ·exact h0
    simp only [Option.some.injEq,Prod.mk.injEq] at hf; obtain ⟨rfl,rfl⟩ := hf
    obtain ⟨hrows,hrows2,hne,hroom⟩ := hvc
    have hm1 : (rows.length + rows2.length) * 1 ≤ (rows.length + rows2.length) * max i.bytes 1 := Nat.mul_le_mul_left _ (by omega)
    have hm2 : (rows.length + rows2.length) * i.bytes ≤ (rows.length + rows2.length) * max i.bytes 1 := Nat.mul_le_mul_left _ (by omega)
    have hmax : rows.length + rows2.length ≤ maxLen := by simp only [maxLen]; omega
    have hok1 : ∀ (n : Nat) (row : List PV),rows[n]? = some row → row.length = i.size := fun n row hn => hrows row (List.mem_of_getElem? hn)
    have hok2 : ∀ (n : Nat) (row : List PV),rows2[n]? = some row → row.length = i.size := fun n row hn => hrows2 row (List.mem_of_getElem? hn)
    have hev := a7 h s
    have hsr1 := xD (rows := rows) (fr := fr) h (by rw [hbase]; rfl) hev hok1 hpos
    have hsr := xD h hsrc (a7 h x) hok2 hpos
    rw [hbase] at hev; simp only [VR] at hev
    obtain ⟨ad0,hval,_⟩ := hev
    obtain ⟨ad2,c2,news,hx,hnl,hn,h1,hrr2⟩ : ∃ (ad : Addr) (c : Nat) (news : List Value),a.eval x = .slice (some ad) rows2.length c ∧ news.length = rows2.length * i.size ∧
      (∀ (j : Nat) u,news[j]? = some u → w.cell? (ad.add j) = some u) ∧ (∀ u ∈ news,u.oneCell' = true) ∧ bZ w E.bad (flo C.lo fr2) i.size rows2 news := by
     rcases hsr.out with ⟨rfl,_⟩ | hh
     ·simp at hne
     ·exact hh
    have key : ∃ olds v' w',(Builtin.append_ #[t,t] o.type #[a.eval s,a.eval x]).run C.P w = .ok v' w' ∧ olds.length = rows.length * i.size ∧ bZ w E.bad (flo C.lo fr) i.size rows olds ∧ w'.ownsRow 0 e i.size v' (rows.length + rows2.length) (olds ++ news) ∧ w.grownBy w' none ∧
      (∀ g,v'.ownBlock = some g → w.heap.size ≤ g ∧ g < w'.heap.size) ∧ ∃ p n c,v' = .slice p n c := by
     have grow : ∀ (b : Addr) (olds : List Value),a.eval s = .slice (some b) rows.length rows.length → olds.length = rows.length * i.size → (∀ j u,olds[j]? = some u → w.cell? (b.add j) = some u) →
       ∃ v' w',(Builtin.append_ #[t,t] o.type #[a.eval s,a.eval x]).run C.P w = .ok v' w' ∧ w'.ownsRow 0 e i.size v' (rows.length + rows2.length) (olds ++ news) ∧ w.grownBy w' none ∧ (∀ g,v'.ownBlock = some g → w.heap.size ≤ g ∧ g < w'.heap.size) ∧ ∃ p n c,v' = .slice p n c := by
      intro b olds hs1 hol hoc
      obtain ⟨v',w',r1,r2,r3⟩ := run_append_arg_grows (P := C.P) w t o.type e i z i.size i.bytes hu hi hz rfl rfl hzs' hpos b rows.length rows.length olds hol hoc ad2 rows2.length c2 news hnl hn (by omega) hmax (by omega)
      rw [hs1,hx]
      refine ⟨v',w',r1,⟨r2.1,?_⟩,r3,?_,?_⟩
      ·rcases r2.2 with q | ⟨g,cap,cur,q1,q2,q3⟩
       ·exact .inl q
       ·exact .inr ⟨g,cap,cur,q1,Nat.zero_le _,q3⟩
      ·intro g hg
       rcases r2.2 with ⟨q,_⟩ | ⟨g',cap,cur,q1,q2,q3,_⟩
       ·rw [q] at hg; simp [Value.ownBlock] at hg
       ·rw [q1] at hg; simp [Value.ownBlock] at hg; subst hg; exact ⟨q2,aJ q3⟩
      ·rcases r2.2 with ⟨q,_⟩ | ⟨g',cap,cur,q1,_⟩
       ·exact ⟨_,_,_,q⟩
       ·exact ⟨_,_,_,q1⟩
     rcases hsr1.out with ⟨rfl,b,c,hs1⟩ | ⟨ad,c,olds,hs1,hol,hoc,_,hr⟩
     ·simp only [List.length_nil] at hval
      cases ad0 with
      | none =>
       obtain ⟨v',w',r1,r2,r3,r4,r5⟩ := iL (P := C.P) (w := w) t o.type e i z hu hi hz hzs' hpos (.slice none 0 0) 0 [] (World.ownsRow_nil w 0 e i.size) (a.eval x) rows2.length news (.inr ⟨ad2,c2,hx,hnl,hn,h1⟩) (by simp only [List.length_nil] at hm2 hroom; omega) (by simp only [List.length_nil] at hm1 hroom; omega)
       rw [hval]
       refine ⟨[],v',w',r1,by simp,⟨fun _ _ => undef,by simp,by simp,by simp⟩,by simpa using r2,?_,fun g hg => ⟨(r4 g hg).1.resolve_left (by simp [Value.ownBlock]),(r4 g hg).2⟩,r5⟩
       exact r3
      | some b =>
       obtain ⟨v',w',r⟩ := grow b [] (by simpa using hval) (by simp) (by simp)
       exact ⟨[],v',w',r.1,by simp,⟨fun _ _ => undef,by simp,by simp,by simp⟩,r.2⟩
     ·rw [hval] at hs1
      simp only [Value.slice.injEq] at hs1
      obtain ⟨rfl,_,rfl⟩ := hs1
      obtain ⟨v',w',r⟩ := grow ad olds hval hol hoc
      exact ⟨olds,v',w',r.1,hol,hr,r.2⟩
    obtain ⟨olds,v',w',hrun,hol,hrr,hown',hgb,hblk',hsl⟩ := key
    refine AK h hd hdst hfresh (x := v') (w' := w') ?_ hgb.os hgb.tape hgb.output hgb.size ?_ ?_ hsl ?_
    ·unfold execOp
     simp only [ho,resolve,invoke,builtin,Sem.run_bind,Sem.run_pure,Result.andThen_ok,List.map_toArray,List.map_cons,List.map_nil,hrun]
    ·intro b hlt _
     exact hgb.block b hlt (by simp)
    ·intro g hg
     obtain ⟨h1,h2⟩ := hblk' g hg
     exact ⟨.inr h1,h2⟩
    ·intro hkeep
     refine ⟨v',olds ++ news,by simp [Env.re],hpos,by simpa using hown',?_,?_⟩
     ·intro g hg; simp [Env.re,hg]
     ·exact bZ.append (hrr.mono (eG _ _ _).1 hkeep.rep) hol (hrr2.mono (eG _ _ _).2 hkeep.rep)
   ·cases hf
  ·cases hf
 ·cases hf
def chunk (sz : Nat) : Nat → List PV → List (List PV)
 | 0,_ => []
 | n + 1,xs => xs.take sz :: chunk sz n (xs.drop sz)
theorem qT (sz : Nat) : ∀ (n : Nat) (xs : List PV),(chunk sz n xs).length = n
 | 0,_ => rfl
 | n + 1,xs => by simp [chunk,qT sz n]
theorem mC (sz : Nat) : ∀ (n : Nat) (xs : List PV) (i : Nat),i < n → (chunk sz n xs)[i]? = some ((xs.drop (i * sz)).take sz)
 | n + 1,xs,0,_ => by simp [chunk]
 | n + 1,xs,i + 1,h => by
  simp only [chunk,List.getElem?_cons_succ]
  rw [mC sz n _ i (by omega),List.drop_drop]
  congr 3; rw [Nat.add_mul]; omega
 | 0,_,_,h => by omega
def ez (zs : List SV) : Nat → List SV
 | 0 => []
 | n + 1 => zs ++ ez zs n
def iN (P : Program) (σ : St) (o : Oper) (t : TypeId) (len : Nat) (parts : Array (Nat × Operand)) : Option (St × Prop) :=
 match o.dst,dE P t with
 | some d,some (e,i) => match i.zero,lk σ.tab d with
  | some z,none => match jB z with
   | some zs => match Nat.beq zs.length i.size,Nat.beq i.size 0,Nat.ble (len * i.size) 16777216,gn (fun n => some (n * i.size,i.size)) (ez zs len) (dV σ parts.toList) with
    | true,false,true,some cells => match gl cells with
     | some (xs,fr) => some (⟨(d,.vec d) :: σ.ab,(d,.vec e i.size (chunk i.size len xs) fr) :: σ.tab⟩,True)
     | none => none
    | _,_,_,_ => none
   | none => none
  | _,_ => none
 | _,_ => none
theorem qU {w : World} {E : Env} {lo : Nat} {zs : List SV} {vs : List Value} (h : VRs w E lo zs vs) : ∀ n : Nat,VRs w E lo (ez zs n) (List.replicate n vs).flatten
 | 0 => by simpa [ez] using c6
 | n + 1 => by
  simp only [ez,List.replicate_succ,List.flatten_cons]
  exact gm h (qU h n)
theorem Fi (vs : Array Value) (h : 0 < vs.size) : ∀ n : Nat,((Array.range (n * vs.size)).map (vs[· % vs.size]!)).toList = (List.replicate n vs.toList).flatten := by
 intro n
 apply List.ext_getElem?
 intro j
 have hl : (List.replicate n vs.toList).flatten.length = n * vs.size := by simp
 by_cases hj : j < n * vs.size
 ·have hm : j % vs.size < vs.size := Nat.mod_lt _ h
  have hq : j / vs.size < n := (Nat.div_lt_iff_lt_mul h).2 hj
  have e1 : ((Array.range (n * vs.size)).map (vs[· % vs.size]!)).toList[j]? = some vs[j % vs.size] := by
   simp [hj,getElem!_pos,hm]
  rw [e1]
  symm
  clear e1 hl
  induction n generalizing j with
  | zero => simp at hj
  | succ n ih =>
   simp only [List.replicate_succ,List.flatten_cons,List.getElem?_append,Array.length_toList]
   by_cases hjs : j < vs.size
   ·rw [if_pos hjs]; simp [Nat.mod_eq_of_lt hjs,hjs]
   ·rw [if_neg hjs]
    have hj' : j - vs.size < n * vs.size := by rw [Nat.add_mul,Nat.one_mul] at hj; omega
    have hmod : (j - vs.size) % vs.size = j % vs.size := by
     conv => rhs; rw [show j = j - vs.size + vs.size by omega]
     rw [Nat.add_mod_right]
    have := ih (j - vs.size) hj' (Nat.mod_lt _ h) ((Nat.div_lt_iff_lt_mul h).2 hj')
    rw [this]
    simp only [hmod]
 ·rw [List.getElem?_eq_none (by simpa using hj),List.getElem?_eq_none (by omega)]
theorem qV {C : Ctx} {E : Env} {σ σ' : St} {a : Act} {w : World} {o : Oper} {t : TypeId} {len : Nat} {parts : Array (Nat × Operand)} {vc : Prop} (ho : o.op = .buildSlice t len parts)
  (hf : iN C.P σ o t len parts = some (σ',vc)) (h : au C E σ a w) (hd : aV C o) : bs C o σ' a w := by
 unfold iN at hf
 split at hf
 ·rename_i d e i hdst hse
  obtain ⟨hu,hi⟩ := iM hse
  split at hf
  ·rename_i z hz hfresh
   split at hf
   ·rename_i zs hzs
    split at hf
    ·rename_i cells hzl hsz hle hfill
     split at hf
     ·rename_i xs fr hx
      have hle' := Nat.le_of_ble_eq_true hle
      have hzl' := Nat.eq_of_beq_eq_true hzl
      have hpos : 0 < i.size := by
       rcases Nat.eq_zero_or_pos i.size with h0 | h0
       ·rw [h0] at hsz; simp at hsz
       ·exact h0
      simp only [Option.some.injEq,Prod.mk.injEq] at hf; obtain ⟨rfl,_⟩ := hf
      have hzr := mA (w := w) (E := E) (lo := C.lo) hzs
      have hzsz : z.cells.size = i.size := by have := bJ hzr; simp at this; omega
      have hp := ni h parts.toList
      have hbase : VRs w E C.lo (ez zs len) ((Array.range (len * i.size)).map (z.cells[· % z.cells.size]!)).toList := by
       rw [← hzsz,Fi z.cells (by omega) len]
       exact qU hzr len
      obtain ⟨r,hr,hv⟩ := oX _ _ _ _ _ _ hp.1 hp.2 hbase hfill
      obtain ⟨g1,g2,f,f1,f2⟩ := iv cells xs fr hx _ hv
      have hrsz : r.toList.length = len * i.size := by
       rw [← bJ hv]
       have : ∀ (ps : List (Nat × SV)) (cs out : List SV),gn (fun n => some (n * i.size,i.size)) cs ps = some out → out.length = cs.length := by
        intro ps
        induction ps with
        | nil => intro cs out hf; simp [gn] at hf; subst hf; rfl
        | cons p ps ih =>
         intro cs out hf
         obtain ⟨n,y⟩ := p
         simp only [gn] at hf
         split at hf
         ·rename_i off size ys hpl hcy
          split at hf
          ·rename_i q1 q2
           rw [ih _ _ hf]
           exact ef _ _ _ (Nat.le_of_ble_eq_true q2)
          ·cases hf
         ·cases hf
       rw [this _ _ _ hfill,bJ hbase]; simp
      have hxl : xs.length = len * i.size := by rw [← hrsz]; exact g2.symm
      have hrun : (execOp a.eval o).run C.P w = .ok (.value (.slice (some ⟨w.heap.size,0,none⟩) len len)) (w.alloc (.cells r e)) := by
       by_cases hn : len * i.size = 0
       ·have hl0 : len = 0 := by rcases Nat.mul_eq_zero.1 hn with h0 | h0 <;> omega
        subst hl0
        have hr' : Instr.fill (fun n => some (n * i.size,i.size)) #[] (parts.toList.map fun (i,x) => (i,a.eval x)) = some r := by simpa [Array.range_zero'] using hr
        simp [execOp,ho,Instr.buildSlice,run_underlying hu,sizeOf,typeInfo,hi,Array.range_zero',hr',newRow]
       ·have hnle : ¬ 16777216 < len * i.size := by omega
        have hr' : Instr.fill (fun n => some (n * i.size,i.size)) ((Array.range (len * i.size)).map (z.cells[· % z.cells.size]!)) (parts.toList.map fun (i,x) => (i,a.eval x)) = some r := hr
        simp [execOp,ho,Instr.buildSlice,run_underlying hu,sizeOf,typeInfo,zeroValue,hi,hz,newRow,hnle,hr']
        intro h0; exact absurd h0 hn
      have hb : ∀ b,b < w.heap.size → (w.alloc (.cells r e)).heap[b]? = w.heap[b]? := fun b hb => heap_alloc_old w _ b hb
      have hlo : C.lo ≤ w.heap.size := Nat.le_trans h.lo.le h.fr.size
      have hfr : Fr w E (w.alloc (.cells r e)) (E.add d (.slice (some ⟨w.heap.size,0,none⟩) len len) w.heap.size) := Fr.add rfl rfl rfl (by simp) hb (Nat.le_refl _)
      have hval := Env.k9 (w := w) (b0 := w.heap.size) (x := .slice (some ⟨w.heap.size,0,none⟩) len len) h.tab hfresh
      have hlm : len ≤ maxLen := by
       have : len * 1 ≤ len * i.size := Nat.mul_le_mul_left _ hpos
       simp only [maxLen]; omega
      have hch := qT i.size len xs
      have htab := a8.add (w' := w.alloc (.cells r e)) (x := .slice (some ⟨w.heap.size,0,none⟩) len len) (b0 := w.heap.size) (ov := .vec e i.size (chunk i.size len xs) fr) h.tab hfresh (by simp) hb (Nat.le_refl _) (by simp) hlo
       ⟨.slice (some ⟨w.heap.size,0,none⟩) len len,r.toList,by simp [Env.add],hpos,
        ⟨by rw [hch]; exact hrsz,.inr ⟨w.heap.size,len,r,by rw [hch],Nat.zero_le _,heap_alloc_new w _,by rw [hch]; exact Nat.le_refl _,hlm,by simpa using hrsz,by rw [hch, ← hrsz]; exact List.take_length⟩⟩,
        by intro g hg; simp [Value.ownBlock] at hg; subst hg; simp [Env.add],fun n j => f (n * i.size + j),?_,?_,?_⟩
      ·refine ⟨_,_,.inl hrun,E.add d (.slice (some ⟨w.heap.size,0,none⟩) len len) w.heap.size,?_⟩
       have hdn : @LT.lt Nat instLTNat d C.n := hd d hdst
       have := h.upd hfr hval (fun k hk hn => by simp only [Env.add]; rw [if_neg (by omega)]; exact hn) htab o.dst hd (sv := .vec d) (v := .slice (some ⟨w.heap.size,0,none⟩) len len) (fun _ _ => by simp only [VR]; exact ⟨by simp [Env.add],_,_,_,rfl⟩)
       rw [hdst] at this ⊢
       exact this
      ·intro n row hrow
       have hn : n < len := by have := (List.getElem?_eq_some_iff.1 hrow).1; omega
       rw [mC _ _ _ _ hn] at hrow; simp at hrow; subst hrow
       have : (n + 1) * i.size ≤ len * i.size := Nat.mul_le_mul_right _ (by omega)
       rw [Nat.add_mul,Nat.one_mul] at this
       simp; omega
      ·intro n row j x hrow hj
       have hn : n < len := by have := (List.getElem?_eq_some_iff.1 hrow).1; omega
       rw [mC _ _ _ _ hn] at hrow; simp at hrow; subst hrow
       rw [List.getElem?_take] at hj
       split at hj
       ·rw [List.getElem?_drop] at hj; exact f1 _ x hj
       ·cases hj
      ·intro n row j x hrow hj
       have hn : n < len := by have := (List.getElem?_eq_some_iff.1 hrow).1; omega
       rw [mC _ _ _ _ hn] at hrow; simp at hrow; subst hrow
       rw [List.getElem?_take] at hj
       split at hj
       ·rw [List.getElem?_drop] at hj; exact (f2 _ x hj).mono (Nat.le_refl _) hfr.keeps.rep
       ·cases hj
     ·cases hf
    ·cases hf
   ·cases hf
  ·cases hf
 ·cases hf
end Go.TL
