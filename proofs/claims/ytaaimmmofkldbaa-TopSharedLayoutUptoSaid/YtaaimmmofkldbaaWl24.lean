/- From a walk to the contract of a claim that a call says true and changes nothing. -/
import Derived.Test.YtaaimmmofkldbaaWl23
import Derived.ChangeStays
import Derived.ChangeSame
import Derived.ChangeReads
import Derived.OpenShut
import Derived.WalkKit
import Derived.ProofKit
import Derived.JoinedCond
import Derived.Deep.Frames
import Derived.Deep.Modes
import Derived.WideShapes
namespace Go.TL.H
open Go Go.ChangeShapes Go.WideShapes Go.ChangeAt Go.RowKit
theorem ch_kept {w w' : World} (h : Ch (fun _ => False) w w') : w.keptBut w' (fun _ => False) := by
  refine ⟨h.os, h.output, fun i hi => ?_⟩
  rw [h.keep i hi fun h => h]
  cases w.heap[i]? with
  | none => rfl
  | some o => cases o <;> simp
section
variable {H : Type} {enc : TypeId × Value → H} {P : Program}
theorem post_same {f : Func} {s : ChangeSpec} {apart fresh handsOn again : Bool} {W W' : World} {args : Array Value} {v : Value} {ds gs : List (DataW H)} {before pa pv : List MemPlace}
    (hW : DataW.Whole enc P f.params.toList s.vars apart W args.toList ds gs before)
    (hres : ∀ (b : Nat) (sp : Nat → Bool) (hd : Bool), DataW.TrodAll enc P W' b sp hd f.resultTypes.toList (v.resultList f.resultTypes.size) (s.fn H (ds ++ gs)).results [])
    (hargs : ∀ sp : Nat → Bool, (∀ p ∈ before, sp p.block = true) → DataW.TrodAll enc P W' 0 sp true f.params.toList args.toList (s.fn H (ds ++ gs)).args pa)
    (hvars : ∀ sp : Nat → Bool, (∀ p ∈ before, sp p.block = true) → DataW.TrodVars enc P W' sp s.vars (s.fn H (ds ++ gs)).vars pv)
    (hps : before = pa ++ pv) (hk : W.keptBut W' (· ∈ before)) (hfz : ∀ b off, MemPlace.cell b off ∈ before → W'.frozen? ⟨b, off, none⟩ = W.frozen? ⟨b, off, none⟩)
    (hok : ∀ (j : Nat) (t : TypeId) (r : Value), f.resultTypes[j]? = some t → (v.resultList f.resultTypes.size)[j]? = some r → Value.okWide P W' .any 0 t r) :
    s.post enc P f apart fresh handsOn again W args v W' := by
  have hold : ∀ p ∈ before, (fun b => decide (b < W.heap.size)) p.block = true := fun p hp => by simpa using hW.lt p hp
  refine ⟨ds, gs, before, [], pa, pv, hW, hres _ _ _, hargs _ hold, hvars _ hold, World.keptBut_mono (fun p hp => ⟨hp, ?_⟩) hk, fun _ => ?_⟩
  · rw [hps, List.mem_append] at hp
    exact Or.inr hp
  · obtain ⟨_, _, _, _, _, hz, hn⟩ := hW
    refine ⟨hok, _, _, ([] ++ pa) ++ pv, ⟨[] ++ pa, pv, trodAll_append (hargs _ (fun _ _ => rfl)) (hres _ _ _), hvars _ (fun _ _ => rfl), rfl, ?_, ?_⟩, ?_⟩
    · intro b off hp
      have hp' : MemPlace.cell b off ∈ before := by rw [hps]; simpa using hp
      rw [hfz b off hp']
      exact hz b off hp'
    · intro ha
      have := hn ha
      rw [hps] at this
      simpa using this
    · intro p hp _
      rw [hps]
      simpa using hp
theorem contract_of {f : FuncId} {fn : Func} {T tb : TypeId} {fs : Array Field} {s : ChangeSpec} {E : TypeId → Prop} {b : DataW H → Nat} {ba : List (DataW H) → Nat} (hb : Blk H b ba)
    (hrt : fn.resultTypes = #[tb]) (hpt : fn.params = #[T]) (hvars : s.vars = []) (hfn : ∀ d : DataW H, s.fn H [d] = { results := [.lit (.bool true)], args := [d] }) (hbool : P.underlying tb = some .bool) (hT : P.underlying T = some (.struct fs))
    (hlaid : laidOutB P = true) (hrd : P.readableRec T = true) (hlt : T < P.types.size) (hlay : layB P 8 T = true) (hE : ∀ e, E e → ElOk P E e) (hks : ∀ e, .sl e ∈ cks P T → E e)
    (hwalk : ∀ (W : World) (xs : List Value) (row : List PV), RowGot P W (cks P T) xs row → rz row ≤ 2097152 → Ret P f [.agg xs.toArray] W fun v w' => v = .bool true ∧ Ch (fun _ => False) W w')
    {apart fresh handsOn again : Bool} (W : World) (base : Nat) (args : Array Value) (ds gs : List (DataW H)) (before : List MemPlace)
    (hval : ∀ (j : Nat) t v, fn.params[j]? = some t → args[j]? = some v → Value.okWide P W .any base t v) (hW : DataW.Whole enc P fn.params.toList s.vars apart W args.toList ds gs before) (hk : ba (ds ++ gs) ≤ 1048576) :
    Calls P f args W fun e W' => ∃ v, e = .returned v ∧ s.post enc P fn apart fresh handsOn again W args v W' := by
  have hW' := hW
  obtain ⟨p, q, hA, hV, rfl, hfz, hnd⟩ := hW
  rw [hpt] at hA
  obtain ⟨v0, vs0, d0, ds0, p0, q0, hargs, rfl, rfl, h0, r0⟩ := trodAll_cons hA
  obtain ⟨rfl, rfl, rfl⟩ := trodAll_nil r0
  obtain rfl : args = #[v0] := by cases args; simp_all
  rw [hvars] at hV
  obtain ⟨rfl, rfl⟩ := trodVars_none hV
  obtain ⟨cs, rfl, hcs⟩ := okWide_struct hT (hval 0 T v0 (by simp [hpt]) rfl)
  obtain ⟨fuel, hfuel⟩ := h0
  have hcl : (Value.agg cs).cells.toList = cs.toList := rfl
  rw [hcl] at hfuel
  simp only [List.append_nil] at hW' hfz hk
  have hbd : b d0 ≤ 1048576 := by simpa [hb.cons, hb.nil] using hk
  obtain ⟨row, hg, hrz⟩ := trod_row hb hE fuel 8 T cs.toList d0 p0 hfuel hfz hlay hks hbd
  have hr := hwalk W cs.toList row hg (by omega)
  have : ([Value.agg cs.toList.toArray] : List Value).toArray = #[.agg cs] := by simp
  unfold Ret at hr
  rw [this] at hr
  refine Calls.mono hr ?_
  rintro e W' ⟨v, rfl, rfl, hch⟩
  have hkept := ch_kept hch
  have hlt' : ∀ p ∈ p0, p.block < W.heap.size := fun p hp => hW'.lt p hp
  refine ⟨_, rfl, post_same (pa := p0) (pv := []) hW' ?_ ?_ ?_ (by simp) (World.keptBut_mono (fun _ h => h.elim) hkept) ?_ ?_⟩
  · intro b sp hd
    rw [List.append_nil, hfn, hrt]
    exact trodAll_cons_mk (shut_bool hbool _) trodAll_mk0
  · intro sp hsp
    rw [List.append_nil, hfn, hpt]
    refine trodAll_mk1 ⟨fuel, ?_⟩
    rw [hcl]
    refine DataW.trod_stays (kids_book hlaid hrd) (book_sized hrd) (fun h => by cases h) ⟨hlt, book_self T⟩ hfuel (fun p hp => hkept.sameAt (hlt' p hp) (fun h => h) (fun b e => ?_)) hsp
    have := DataW.trod_good (kids_book hlaid hrd) (fun h => by cases h) fuel T cs.toList (d0, p0) ⟨hlt, book_self T⟩ hfuel p hp
    subst e
    exact this
  · intro sp _
    rw [List.append_nil, hfn, hvars]; exact rfl
  · intro b off hp
    have := hlt' _ hp
    have hh := hch.keep b this fun h => h
    unfold World.frozen?
    simp only [hh]
  · exact ok_one hrt rfl (okWide_bool_mk hbool _)
end
end Go.TL.H
namespace Go.TL.H
open Go
theorem body_mk {P : Program} {f : FuncId} {n : Nat} {res : List ResultVar} {c' : Code} (h : (P.funcs[f]?).map (fun fn => (fn.body.map norm, fn.ntmps, fn.results.toList)) = some (some c', n, res)) (hok : calleeOk P f = true) : Body P f n res c' := by
  cases hf : P.funcs[f]? with
  | none => simp [hf] at h
  | some fn =>
    simp only [hf, Option.map_some, Option.some.injEq, Prod.mk.injEq] at h
    obtain ⟨h1, h2, h3⟩ := h
    cases hb : fn.body with
    | none => simp [hb] at h1
    | some c => exact ⟨hok, fn, c, hf, hb, by simpa [hb] using h1, h2, h3⟩
theorem one_mk {P : Program} {t : TypeId} {z : Value} (h : (P.info? t).map (fun i => (i.size, i.zero, Nat.ble i.bytes 24)) = some (1, some z, true)) (ha : aggT P t = some false) (hz : z.cells = #[z]) : One P t z := by
  cases hi : P.info? t with
  | none => simp [hi] at h
  | some i =>
    simp only [hi, Option.map_some, Option.some.injEq, Prod.mk.injEq] at h
    exact ⟨⟨i, hi, ha, h.1, h.2.1, Nat.le_of_ble_eq_true h.2.2⟩, hz⟩
theorem big_mk {P : Program} {t : TypeId} {zs : List Value} (h : (P.info? t).map (fun i => (i.size, i.zero, Nat.ble i.bytes 1024)) = some (zs.length, some (.agg zs.toArray), true)) (ha : aggT P t = some true) : Big P t zs := by
  cases hi : P.info? t with
  | none => simp [hi] at h
  | some i =>
    simp only [hi, Option.map_some, Option.some.injEq, Prod.mk.injEq] at h
    exact ⟨⟨i, hi, ha, h.1, h.2.1, Nat.le_of_ble_eq_true h.2.2⟩⟩
theorem el_mk {P : Program} {t : TypeId} {sz : Nat} {zs : List Value} (h : (P.info? t).map (fun i => (i.size, i.zero.map Value.cells, Nat.ble i.bytes 1024)) = some (sz, some zs.toArray, true)) (hl : zs.length = sz) (hp : Nat.blt 0 sz = true) : El P t sz zs := by
  cases hi : P.info? t with
  | none => simp [hi] at h
  | some i =>
    simp only [hi, Option.map_some, Option.some.injEq, Prod.mk.injEq] at h
    obtain ⟨h1, h2, h3⟩ := h
    cases hz : i.zero with
    | none => simp [hz] at h2
    | some z => exact ⟨⟨i, z, hi, h1, hz, by simpa [hz] using h2, Nat.le_of_ble_eq_true h3⟩, hl, Nat.le_of_ble_eq_true hp⟩
def agOne (ag : Bool) (n : Nat) : Bool := match ag with | true => true | false => Nat.beq n 1
theorem tp_mk {P : Program} {t : TypeId} {ag : Bool} {n : Nat} (h : (P.info? t).map (·.size) = some n) (ha : aggT P t = some ag) (h1 : agOne ag n = true) : Tp P t ag n := by
  cases hi : P.info? t with
  | none => simp [hi] at h
  | some i =>
    simp only [hi, Option.map_some, Option.some.injEq] at h
    refine ⟨⟨i, hi, ha, h⟩, fun hf => ?_⟩
    subst hf; exact Nat.eq_of_beq_eq_true h1
theorem bytes_mk {P : Program} {t : TypeId} {n : Nat} (h : (P.info? t).map (fun i => Nat.ble i.bytes n) = some true) : ∀ i, P.info? t = some i → i.bytes ≤ n := by
  intro i hi
  simp only [hi, Option.map_some, Option.some.injEq] at h
  exact Nat.le_of_ble_eq_true h
theorem size_mk {P : Program} {t : TypeId} {n : Nat} (h : (P.info? t).map (·.size) = some n) : ∃ i, P.info? t = some i ∧ i.size = n := by
  cases hi : P.info? t with
  | none => simp [hi] at h
  | some i => simp only [hi, Option.map_some, Option.some.injEq] at h; exact ⟨i, rfl, h⟩
def subB (ck : List CK) : Nat → List CK → Bool
  | _, [] => true
  | off, k :: r => match decide (ck[off]? = some k) with | true => subB ck (off + 1) r | false => false
theorem subB_v {ck : List CK} : ∀ {l : List CK} {off : Nat}, subB ck off l = true → ∀ (j : Nat) (k : CK), l[j]? = some k → ck[off + j]? = some k
  | [], off, _, j, k, hj => by simp at hj
  | x :: r, off, h, j, k, hj => by
    simp only [subB] at h
    split at h
    · rename_i hd
      have hd := of_decide_eq_true hd
      cases j with
      | zero => simp at hj; subst hj; exact hd
      | succ j => have := subB_v h j k (by simpa using hj); rw [← this]; congr 1; omega
    · cases h
def hnAny (D : TabD) : List (Nat × Nat × FuncId) → Bool
  | [] => false
  | (_, _, g) :: l => match lk D g with | some r => r.hn || hnAny D l | none => hnAny D l
def kSum (D : TabD) : List (Nat × Nat × FuncId) → Nat
  | [] => 0
  | (_, _, g) :: l => match lk D g with | some r => r.ck.length + kSum D l | none => kSum D l
def partsB (P : Program) (D : TabD) (T : TypeId) (ck : List CK) (rank : Nat) : List (Nat × Nat × FuncId) → Bool
  | [] => true
  | (i, off, g) :: l => match lk D g, fieldOff P T i with
    | some rg, some (o, _) => match Nat.blt rg.rank rank, Nat.beq o off, subB ck off rg.ck with
      | true, true, true => partsB P D T ck rank l
      | _, _, _ => false
    | _, _ => false
theorem partsB_v {P : Program} {D : TabD} {T : TypeId} {ck : List CK} {rank : Nat} : ∀ {l : List (Nat × Nat × FuncId)}, partsB P D T ck rank l = true → PartsOk P D T ck rank l (kSum D l) (hnAny D l)
  | [], _ => ⟨rfl, rfl⟩
  | (i, off, g) :: l, h => by
    simp only [partsB] at h
    split at h
    · rename_i rg o sz h1 h2
      split at h
      · rename_i q1 q2 q3
        have q2 := Nat.eq_of_beq_eq_true q2; subst q2
        exact ⟨rg, sz, kSum D l, hnAny D l, h1, Nat.le_of_ble_eq_true q1, h2, fun j k hj => subB_v q3 j k hj, by simp [kSum, h1], by simp [hnAny, h1], partsB_v h⟩
      · cases h
    · cases h
section
variable {P : Program} {y : TY} {D : TabD} {f : FuncId} {rank : Nat}
theorem fit_num {T : TypeId} {z : Value} (h : Body P f 33 [] (numC y T)) (hz : One P T z) : Fit P y D f ⟨.num T, [.int .i64], true, rank⟩ := ⟨h, ⟨z, hz⟩, rfl, rfl⟩
theorem fit_yes (h : Body P f 28 [] (yesC y)) : Fit P y D f ⟨.yes, [.bool], true, rank⟩ := ⟨h, rfl, rfl⟩
theorem fit_str (h : Body P f 49 [] (strC y)) : Fit P y D f ⟨.str, [.str], false, rank⟩ := ⟨h, rfl, rfl⟩
theorem fit_st {T : TypeId} {parts : List (Nat × Nat × FuncId)} {ck : List CK} {hn : Bool} (h : Body P f (4 + 5 * parts.length) [] (stC T 4 parts)) (hp : partsB P D T ck rank parts = true) (hk : kSum D parts = ck.length) (hh : hnAny D parts = hn) : Fit P y D f ⟨.st T parts, ck, hn, rank⟩ := by
  refine ⟨h, ?_⟩
  have := partsB_v hp
  rw [hk, hh] at this; exact this
theorem fit_via {L e : TypeId} {al one : FuncId} {sz : Nat} {r1 : Row} (h : Body P f 9 [] (viaC L al one)) (h2 : Body P al 46 [] (allC y L)) (h3 : P.underlying L = some (.slice e)) (h4 : (P.info? e).map (·.size) = some sz) (h5 : One P L nilS) (h6 : calleeOk P one = true)
    (h7 : lk D one = some r1) (h8 : r1.ck = cks P e) (h9 : r1.ck.length = sz) (h10 : Nat.ble sz 16 = true) (h11 : agOne r1.hn sz = true) : Fit P y D f ⟨.via L al one e sz, [.sl e], true, rank⟩ :=
  ⟨h, h2, h3, size_mk h4, h5, rfl, rfl, h6, r1, h7, h8, h9, Nat.le_of_ble_eq_true h10, fun hf => by rw [hf] at h11; exact Nat.eq_of_beq_eq_true h11⟩
theorem tab_mk (h : ∀ p ∈ D, Fit P y D p.1 p.2) : TabOk P y D := by
  have key : ∀ (l : TabD) f r, lk l f = some r → (f, r) ∈ l := by
    intro l
    induction l with
    | nil => intro f r h; simp [lk] at h
    | cons p l ih =>
      obtain ⟨k, x⟩ := p
      intro f r h
      simp only [lk] at h
      cases hb : Nat.beq k f with
      | true => simp only [hb, Option.some.injEq] at h; subst h; rw [Nat.eq_of_beq_eq_true hb]; simp
      | false => simp only [hb] at h; exact List.mem_cons.2 (.inr (ih f r h))
  intro f r hf
  exact h (f, r) (key D f r hf)
end
def zcB : CK → Value → Bool
  | .int k, .int k' n => match decide (k = k') with | true => isZ n | false => false
  | .bool, .bool _ => true
  | .str, .string s => Nat.beq s.size 0
  | .sl _, .slice none 0 0 => true
  | _, _ => false
def zcsB : List CK → List Value → Bool
  | [], [] => true
  | k :: ks, v :: vs => match zcB k v with | true => zcsB ks vs | false => false
  | _, _ => false
theorem kmin_le (k : IntKind) : k.min ≤ 0 ∧ 0 ≤ k.max := by cases k <;> decide
theorem zcB_v {P : Program} {k : CK} {v : Value} (h : zcB k v = true) : WR P k (zc true v) ∧ v.oneCell' = true := by
  unfold zcB at h
  split at h
  · rename_i k k' n
    split at h
    · rename_i hk
      have hk := of_decide_eq_true hk; subst hk
      have hn : n = 0 := isZ_eq h
      subst hn
      exact ⟨.int _ _ (kmin_le k).1 (kmin_le k).2, rfl⟩
    · cases h
  · exact ⟨.bool _, rfl⟩
  · rename_i s
    have h := Nat.eq_of_beq_eq_true h
    exact ⟨.str s (by rw [h]; exact Nat.zero_le _), rfl⟩
  · rename_i e
    exact ⟨.rm e 0 [] (by simp) (Nat.zero_le _) (by simp) (by simp) (by simp), rfl⟩
  · cases h
theorem zcsB_v {P : Program} : ∀ {ks : List CK} {vs : List Value}, zcsB ks vs = true → vs.length = ks.length ∧ ∀ (j : Nat) (ck : CK) (u : Value), ks[j]? = some ck → vs[j]? = some u → WR P ck (zc true u) ∧ u.oneCell' = true
  | [], [], _ => ⟨rfl, fun j ck u h => by simp at h⟩
  | k :: ks, v :: vs, h => by
    simp only [zcsB] at h
    split at h
    · rename_i hv
      obtain ⟨h1, h2⟩ := zcsB_v (P := P) h
      refine ⟨by simp [h1], fun j ck u hj hu => ?_⟩
      cases j with
      | zero => simp at hj hu; subst hj; subst hu; exact zcB_v hv
      | succ j => exact h2 j ck u (by simpa using hj) (by simpa using hu)
    · cases h
  | [], _ :: _, h => by simp [zcsB] at h
  | _ :: _, [], h => by simp [zcsB] at h
theorem zok_mk {P : Program} {e : TypeId} {zs : List Value} (h : zcsB (cks P e) zs = true) : ZOk P e zs := zcsB_v h
def oPartsB (P : Program) (T : TypeId) : Nat → List OPart → Bool
  | _, [] => true
  | bnd, p :: l => match Nat.ble bnd p.off, Nat.ble (p.off + p.n) (cks P T).length, (match fieldOff P T p.i with | some (o, _) => Nat.beq o p.off | none => false), decide ((P.info? p.T).map (·.size) = some p.n), decide (aggT P p.T = some p.ag) with
    | true, true, true, true, true => match agOne p.ag p.n, Nat.beq (cks P p.T).length p.n, subB (cks P T) p.off (cks P p.T) with
      | true, true, true => oPartsB P T (p.off + p.n) l
      | _, _, _ => false
    | _, _, _, _, _ => false
theorem oPartsB_v {P : Program} {T : TypeId} : ∀ {l : List OPart} {bnd : Nat}, oPartsB P T bnd l = true → OPartsOk P T bnd l
  | [], _, _ => trivial
  | p :: l, bnd, h => by
    simp only [oPartsB] at h
    split at h
    · rename_i q1 q2 q3 q4 q5
      split at h
      · rename_i q6 q7 q8
        have q7 := Nat.eq_of_beq_eq_true q7
        refine ⟨Nat.le_of_ble_eq_true q1, Nat.le_of_ble_eq_true q2, ?_, tp_mk (of_decide_eq_true q4) (of_decide_eq_true q5) q6, q7, fun j hj => ?_, oPartsB_v h⟩
        · cases hf : fieldOff P T p.i with
          | none => simp [hf] at q3
          | some x =>
            obtain ⟨o, sz⟩ := x
            simp only [hf] at q3
            exact ⟨sz, by rw [Nat.eq_of_beq_eq_true q3]⟩
        · obtain ⟨k, hk⟩ : ∃ k, (cks P p.T)[j]? = some k := ⟨(cks P p.T)[j]'(by omega), by simp⟩
          rw [hk]; exact subB_v q8 j k hk
      · cases h
    · cases h
def covB (ps : List OPart) : Nat → List CK → Bool
  | _, [] => true
  | j, .sl _ :: r => match ps.any (fun p => match Nat.ble p.off j with | true => Nat.blt j (p.off + p.n) | false => false) with | true => covB ps (j + 1) r | false => false
  | j, _ :: r => covB ps (j + 1) r
theorem covB_v {ps : List OPart} : ∀ {l : List CK} {k : Nat}, covB ps k l = true → ∀ (j : Nat) (e : TypeId), l[j]? = some (.sl e) → ∃ p ∈ ps, p.off ≤ k + j ∧ k + j < p.off + p.n := by
  intro l
  induction l with
  | nil => intro k _ j e h; simp at h
  | cons x r ih =>
    intro k h j e hj
    have step : covB ps (k + 1) r = true ∧ (∀ e, x = .sl e → ∃ p ∈ ps, p.off ≤ k ∧ k < p.off + p.n) := by
      cases x <;> simp only [covB] at h
      case sl e' =>
        split at h
        · rename_i ha
          refine ⟨h, fun e he => ?_⟩
          obtain ⟨p, hp, hq⟩ := List.any_eq_true.1 ha
          split at hq
          · rename_i hb; exact ⟨p, hp, Nat.le_of_ble_eq_true hb, Nat.le_of_ble_eq_true hq⟩
          · cases hq
        · cases h
      all_goals exact ⟨h, fun e he => by cases he⟩
    cases j with
    | zero => simp at hj; subst hj; exact step.2 e rfl
    | succ j =>
      obtain ⟨p, hp, h1, h2⟩ := ih step.1 j e (by simpa using hj)
      exact ⟨p, hp, by omega, by omega⟩
def oRowsB (P : Program) (O : OTab) (rank : Nat) : List OPart → Bool
  | [] => true
  | p :: l => match calleeOk P p.g, lk O p.g with
    | true, some r1 => match Nat.beq r1.t p.T, decide (r1.ag = p.ag), Nat.blt r1.rank rank with
      | true, true, true => oRowsB P O rank l
      | _, _, _ => false
    | _, _ => false
theorem oRowsB_v {P : Program} {O : OTab} {rank : Nat} : ∀ {l : List OPart}, oRowsB P O rank l = true → ∀ p ∈ l, calleeOk P p.g = true ∧ ∃ r1, lk O p.g = some r1 ∧ r1.t = p.T ∧ r1.ag = p.ag ∧ r1.rank < rank
  | [], _, p, hp => by simp at hp
  | q :: l, h, p, hp => by
    simp only [oRowsB] at h
    split at h
    · rename_i r1 h1 h2
      split at h
      · rename_i q1 q2 q3
        rcases List.mem_cons.1 hp with rfl | hp
        · exact ⟨h1, r1, h2, Nat.eq_of_beq_eq_true q1, of_decide_eq_true q2, Nat.le_of_ble_eq_true q3⟩
        · exact oRowsB_v h p hp
      · cases h
    · cases h
section
variable {P : Program} {y : TY} {O : OTab} {f : FuncId} {rank : Nat}
theorem ofit_cp {L e : TypeId} {sz : Nat} {zs : List Value} (h : Body P f 9 [.tmp 2] (copiedC y L)) (h2 : P.underlying L = some (.slice e)) (h3 : El P e sz zs) (h4 : zcsB (cks P e) zs = true) (h5 : (cks P e).length = sz) (h6 : cks P L = [.sl e]) (h7 : scalars (cks P e) = true) : OFit P y O f ⟨.cp L e sz zs, rank⟩ :=
  ⟨h, h2, h3, zok_mk h4, h5, h6, h7⟩
theorem ofit_st {T : TypeId} {sz : Nat} {zs : List Value} {ps : List OPart} (h : Body P f (4 + 4 * ps.length) [.cell 2 T] (ownStC T ps)) (h3 : El P T sz zs) (h7 : (P.info? T).map (·.size) = some sz) (h8 : aggT P T = some true) (h5 : (cks P T).length = sz) (h6 : oPartsB P T 0 ps = true) (h9 : oRowsB P O rank ps = true) (h10 : covB ps 0 (cks P T) = true) : OFit P y O f ⟨.st T sz zs ps, rank⟩ :=
  ⟨h, h3, tp_mk h7 h8 rfl, h5, oPartsB_v h6, oRowsB_v h9, fun j e hj => by have := covB_v h10 j e hj; simpa using this⟩
theorem otab_mk (h : ∀ p ∈ O, OFit P y O p.1 p.2) : ∀ f r, lk O f = some r → OFit P y O f r := by
  have key : ∀ (l : OTab) f r, lk l f = some r → (f, r) ∈ l := by
    intro l
    induction l with
    | nil => intro f r h; simp [lk] at h
    | cons p l ih =>
      obtain ⟨k, x⟩ := p
      intro f r h
      simp only [lk] at h
      cases hb : Nat.beq k f with
      | true => simp only [hb, Option.some.injEq] at h; subst h; rw [Nat.eq_of_beq_eq_true hb]; simp
      | false => simp only [hb] at h; exact List.mem_cons.2 (.inr (ih f r h))
  intro f r hf
  exact h (f, r) (key O f r hf)
end
def ckIn (ms : List TypeId) : CK → Bool
  | .sl e => ms.any (Nat.beq e)
  | _ => true
def elB (P : Program) (ms : List TypeId) (e : TypeId) : Bool := match layB P 8 e, Nat.blt 0 (cks P e).length, Nat.beq (P.cellsOf e) (cks P e).length with
  | true, true, true => (cks P e).all (ckIn ms)
  | _, _, _ => false
theorem ckIn_v {ms : List TypeId} {k : CK} (h : ckIn ms k = true) : ∀ e, k = .sl e → e ∈ ms := by
  intro e he; subst he
  obtain ⟨x, hx, hb⟩ := List.any_eq_true.1 h
  rw [Nat.eq_of_beq_eq_true hb]; exact hx
theorem elB_v {P : Program} {ms : List TypeId} (h : ms.all (elB P ms) = true) : ∀ e, e ∈ ms → ElOk P (· ∈ ms) e := by
  intro e he
  have := List.all_eq_true.1 h e he
  unfold elB at this
  split at this
  · rename_i q1 q2 q3
    exact ⟨q1, Nat.le_of_ble_eq_true q2, Nat.eq_of_beq_eq_true q3, fun e' he' => ckIn_v (List.all_eq_true.1 this _ he') e' rfl⟩
  · cases this
theorem ks_mk {ms : List TypeId} {ks : List CK} (h : ks.all (ckIn ms) = true) : ∀ e, .sl e ∈ ks → e ∈ ms := fun e he => ckIn_v (List.all_eq_true.1 h _ he) e rfl
theorem walk_of {P : Program} {y : TY} {z : TZ} {T LC CT : TypeId} {sz : Nat} {zs : List Value} {D : TabD} {O : OTab} {S W great look same alike apart failing f : FuncId} {rS : Row} {rO : ORow} {Cs : List FuncId} (K : Kit P y) (K2 : Kit2 P y z) (K3 : Kit3 P y z T LC CT sz zs) (hD : TabOk P y D) (hS : lk D S = some rS) (hck : rS.ck = cks P T)
    (hO : ∀ f r, lk O f = some r → OFit P y O f r) (hW : lk O W = some rO) (hWt : rO.t = T) (hWa : rO.ag = true) (hWok : calleeOk P W = true) (hSok : calleeOk P S = true) (hG : Body P great 27 [.tmp 2] (greatC y)) (hL : Body P look 23 [.tmp 2] (lookC y z)) (hA : Body P alike 29 [.tmp 6] (alikeC y z same)) (hSm : Body P same 59 [.tmp 4] (sameC y))
    (hB : Body P apart 95 [.tmp 8] (apartC y z T LC CT great look same alike)) (hTop : Body P f 9 [.tmp 2] (topC T LC Cs apart W S failing)) (h0 : Nat.blt 0 Cs.length = true) (h1 : Nat.ble Cs.length 1000 = true)
    (hCs : ∀ C ∈ Cs, calleeOk P C = true ∧ CallC P D T 2097152 C) (hfl : calleeOk P failing = true) (hF : ∀ w', Ret P failing [] w' fun v w'' => v = .bool true ∧ Ch (fun _ => False) w' w'') :
    ∀ (w : World) (xs : List Value) (row : List PV), RowGot P w (cks P T) xs row → rz row ≤ 2097152 → Ret P f [.agg xs.toArray] w fun v w' => v = .bool true ∧ Ch (fun _ => False) w w' := by
  intro w xs row hg hN
  have hlen : xs.length = sz := by rw [hg.cw.len, ((WTs_iff _ _).1 hg.ty).1, K3.cks]
  have hOw : OwnC P W T true 2097152 := by
    have := own_ok hO 2097152 rO.rank W rO hW (Nat.le_refl _)
    rw [hWt, hWa] at this; exact this
  refine top_ok hTop K3.tp K3.lcU K3.ct (Nat.le_of_ble_eq_true h0) (Nat.le_of_ble_eq_true h1) hlen hg.cw.one hB.ok (fun w' bc hch hbc => ?_) hfl hF
  refine apart_ok K K2 K3 hD hS hck hOw hWok hG hL hA hSm hB (by
    obtain ⟨d, hd⟩ := hg.wz
    exact ⟨d, fun j k hj => by
      obtain ⟨u, h1, h2⟩ := hd j k hj
      exact ⟨u, h1, h2.cmono fun b o hb => hch.at hb fun h => h⟩⟩) (hg.cw.ch hch) hg.ty hN hbc (Nat.le_of_ble_eq_true h1) fun i hi => ?_
  refine ⟨Cs[i], by simp [fcells, hi], hCs _ (by simp)⟩
end Go.TL.H
namespace Go.TL.H
open Go
def pickL {α : Type} (is : List Nat) (l : List α) : List α := is.filterMap (l[·]?)
theorem pickL_cons {α : Type} (i : Nat) (is : List Nat) (l : List α) : pickL (i :: is) l = match l[i]? with | some x => x :: pickL is l | none => pickL is l := by
  unfold pickL; rw [List.filterMap_cons]; cases l[i]? <;> rfl
theorem cons_of {α : Type} {l : List α} {n : Nat} (h : l.length = n + 1) : ∃ x r, l = x :: r ∧ r.length = n := by
  cases l with
  | nil => simp at h
  | cons x r => exact ⟨x, r, rfl, by simpa using h⟩
theorem Cw.pick {w : World} {lo : Nat} {row : List PV} {vs : List Value} (h : Cw w lo row vs) : ∀ is : List Nat, Cw w lo (pickL is row) (pickL is vs)
  | [] => ⟨rfl, fun j x hj => by simp [pickL] at hj⟩
  | i :: is => by
    have ih := h.pick is
    rw [pickL_cons, pickL_cons]
    cases hr : row[i]? with
    | none =>
      have : vs[i]? = none := by rw [List.getElem?_eq_none_iff] at hr ⊢; rw [h.len]; exact hr
      rw [this]; exact ih
    | some x =>
      obtain ⟨u, hu, hrep⟩ := h.rep i x hr
      rw [hu]
      refine ⟨by simp [ih.len], fun j z hj => ?_⟩
      cases j with
      | zero => simp at hj; subst hj; exact ⟨u, rfl, hrep⟩
      | succ j => exact ih.rep j z (by simpa using hj)
theorem WTs_pick {P : Program} {ks : List CK} {row : List PV} (h : WTs P ks row) : ∀ is : List Nat, WTs P (pickL is ks) (pickL is row)
  | [] => trivial
  | i :: is => by
    have ih := WTs_pick h is
    have h2 := (WTs_iff _ _).1 h
    rw [pickL_cons, pickL_cons]
    cases hr : row[i]? with
    | none =>
      have : ks[i]? = none := by rw [List.getElem?_eq_none_iff] at hr ⊢; rw [← h2.1]; exact hr
      rw [this]; exact ih
    | some x =>
      have hlt : i < ks.length := by rw [← h2.1]; exact (List.getElem?_eq_some_iff.1 hr).1
      have hk : ks[i]? = some ks[i] := by simp
      rw [hk]
      exact ⟨h2.2 i _ x hk hr, ih⟩
def incB : Nat → List Nat → Bool
  | _, [] => true
  | k, i :: r => match Nat.ble k i with | true => incB (i + 1) r | false => false
theorem rz_drop_le (row : List PV) : ∀ (k i : Nat), k ≤ i → rz (row.drop i) ≤ rz (row.drop k) := by
  intro k i hki
  obtain ⟨d, rfl⟩ := Nat.le.dest hki
  have := rz_split (row.drop k) d
  rw [List.drop_drop] at this
  omega
theorem rz_pick (row : List PV) : ∀ (is : List Nat) (k : Nat), incB k is = true → rz (pickL is row) ≤ rz (row.drop k)
  | [], k, _ => by simp [pickL, rz_nil]
  | i :: is, k, h => by
    simp only [incB] at h
    split at h
    · rename_i hk
      have hk := Nat.le_of_ble_eq_true hk
      have ih := rz_pick row is (i + 1) h
      have hd := rz_drop_le row k i hk
      rw [pickL_cons]
      cases hr : row[i]? with
      | none => have := rz_drop_le row i (i + 1) (by omega); simp only; omega
      | some x =>
        have hc : row.drop i = x :: row.drop (i + 1) := by
          have hlt := (List.getElem?_eq_some_iff.1 hr).1
          rw [List.drop_eq_getElem_cons hlt]
          congr 1
          have := (List.getElem?_eq_some_iff.1 hr).2
          exact this
        rw [hc, rz_cons] at hd
        simp only [rz_cons]; omega
    · cases h
def drowD (ks : List CK) : RowR := match drow ks 0 with | some R => R | none => ⟨[], 0, [], [], Lin.lit 0⟩
theorem drowD_eq {ks : List CK} (h : (drow ks 0).isSome = true) : drow ks 0 = some (drowD ks) := by
  unfold drowD
  cases hd : drow ks 0 with
  | none => simp [hd] at h
  | some R => rfl
def lenOk (P : Program) (cells : List DP) (tys : List (Nat × TypeId)) (e : Lin) : Bool := match e.t with
  | [(a, k)] => match isOne k, Nat.beq (a % 4) 1, leZ e.c, cells.any (fun x => match x with | .sl (some v) => Nat.beq v (a / 4) | _ => false), lk tys (a / 4) with
    | true, true, true, true, some ty => Nat.ble 2097152 (((cks P ty).length + 1) * ((-e.c).toNat + 1))
    | _, _, _, _, _ => false
  | _ => false
theorem rz_len : ∀ row : List PV, row.length ≤ rz row
  | [] => by simp
  | x :: xs => by
    have := rz_len xs
    rw [rz_cons]
    have hx : 1 ≤ pz x := by
      cases x with
      | v v => cases v <;> simp only [pz] <;> omega
      | sl rows => simp only [pz]; omega
      | rm m rows => simp only [pz]; omega
    simp; omega
theorem rsz_len (m : Nat) : ∀ rows : List (List PV), (∀ row ∈ rows, row.length = m) → (m + 1) * rows.length ≤ rsz rows
  | [], _ => by simp
  | r :: rs, h => by
    have ih := rsz_len m rs fun row hr => h row (List.mem_cons_of_mem _ hr)
    have h1 := rz_len r
    have h2 := h r (List.mem_cons_self)
    rw [rsz_cons, List.length_cons, Nat.mul_succ]
    omega
theorem pz_mem {row : List PV} {x : PV} (h : x ∈ row) : pz x ≤ rz row := by
  induction row with
  | nil => simp at h
  | cons y ys ih =>
    rw [rz_cons]
    rcases List.mem_cons.1 h with rfl | h
    · omega
    · have := ih h; omega
theorem rowV_mem {ρ : Ro} {x : DP} : ∀ {xs : List DP}, x ∈ xs → x.v ρ ∈ rowV ρ xs
  | y :: ys, h => by
    simp only [rowV, List.mem_cons]
    rcases List.mem_cons.1 h with rfl | h
    · exact .inl rfl
    · exact .inr (rowV_mem h)
theorem lenOk_v {P : Program} {ρ : Ro} {cells : List DP} {tys : List (Nat × TypeId)} {e : Lin} (ht : tysV P ρ tys) (hN : rz (rowV ρ cells) ≤ 2097152) (h : lenOk P cells tys e = true) : e.v ρ ≤ 0 := by
  unfold lenOk at h
  split at h
  · rename_i a k he
    split at h
    · rename_i ty h1 h2 h3 h4 h5
      have h1 : k = 1 := by
        unfold isOne at h1
        split at h1
        · rename_i n; rw [Nat.eq_of_beq_eq_true h1]; rfl
        · cases h1
      have h2 := Nat.eq_of_beq_eq_true h2
      have h3 : e.c ≤ 0 := by
        unfold leZ at h3
        split at h3
        · rename_i n hn; have := Nat.eq_of_beq_eq_true h3; rw [hn, this]; exact Int.le_refl _
        · rename_i n hn; rw [hn]; omega
      obtain ⟨x, hx, hv⟩ := List.any_eq_true.1 h4
      split at hv
      · rename_i v
        have hv := Nat.eq_of_beq_eq_true hv; subst hv
        have hT := tysV_lk ht h5
        have hm := pz_mem (rowV_mem (ρ := ρ) hx)
        simp only [DP.v, lvV, pz] at hm
        have hl := hT.wt
        have hlen : ∀ row ∈ (ρ (a / 4)).l, row.length = (cks P ty).length := by
          cases hl with
          | sl _ _ _ hl _ => exact hl
        have hr := rsz_len _ _ hlen
        have hb := Nat.le_of_ble_eq_true h
        have hlt : (ρ (a / 4)).l.length < (-e.c).toNat + 1 := by
          refine Nat.lt_of_mul_lt_mul_left (a := (cks P ty).length + 1) ?_
          omega
        have hev : e.v ρ = e.c + ((ρ (a / 4)).l.length : Int) := by
          unfold Lin.v
          rw [he, h1]
          simp [sumV, atomV, h2]
        rw [hev]; omega
      · cases hv
    · cases h
  · cases h
def linAny (P : Program) (R : RowR) : List Lin → Bool
  | [] => true
  | e :: r => match ((linHas R.lin e || e.beq (R.rz.addc (-2097152))) || lenOk P R.cells R.tys e) with | true => linAny P R r | false => false
theorem linAny_v {P : Program} {ρ : Ro} {R : RowR} (ht : tysV P ρ R.tys) (hl : linsV ρ R.lin) (hz : R.rz.v ρ ≤ 2097152) (hN : rz (rowV ρ R.cells) ≤ 2097152) : ∀ {m : List Lin}, linAny P R m = true → linsV ρ m
  | [], _ => trivial
  | e :: r, h => by
    simp only [linAny] at h
    split at h
    · rename_i hc
      refine ⟨?_, linAny_v ht hl hz hN h⟩
      simp only [Bool.or_eq_true] at hc
      rcases hc with (hc | hc) | hc
      · exact linHas_v hl hc
      · rw [Lin.beq_eq hc, Lin.addc_v]; omega
      · exact lenOk_v ht hN hc
    · cases h
def linAll (l : List Lin) : List Lin → Bool
  | [] => true
  | e :: r => match linHas l e with | true => linAll l r | false => false
theorem linAll_v {ρ : Ro} {l : List Lin} (hl : linsV ρ l) : ∀ {m : List Lin}, linAll l m = true → linsV ρ m
  | [], _ => trivial
  | e :: r, h => by
    simp only [linAll] at h
    split at h
    · rename_i hc; exact ⟨linHas_v hl hc, linAll_v hl h⟩
    · cases h
def linOk (P : Program) (R : RowR) (is : List Nat) (m : List Lin) : Bool := match linAll R.lin m with
  | true => true
  | false => match incB 0 is with | true => linAny P R m | false => false
structure CallOk (P : Program) (T : TypeId) (s : Spec) (is : List Nat) (parts : List (Option Nat)) (kinds : List RK) : Prop where
  tab : s.tab = []
  prs : s.prs = []
  row : (drow (pickL is (cks P T)) 0).isSome = true
  args : s.args = chunkD parts (drowD (pickL is (cks P T))).cells
  tys : tySub (drowD (pickL is (cks P T))).tys s.tys = true
  lin : linOk P (drowD (pickL is (cks P T))) is s.lin = true
  posts : psChk kinds s.posts = true
theorem call_of {P : Program} {B : Pr} {J : Ex} {s : Spec} {T : TypeId} {is : List Nat} {parts : List (Option Nat)} {kinds : List RK} (hK : Known P B J s) (h : CallOk P T s is parts kinds) {w : World} {row : List PV} {vs : List Value} (hw : Ty P T row) (hc : Cw w 0 row vs) (hN : rz row ≤ 2097152) :
    Ret P s.fn (chunkV parts (pickL is vs)) w fun v w' => Ch (fun _ => False) w w' ∧ ∃ us, v = mkv us ∧ OneRes P w' w.heap.size kinds us := by
  obtain ⟨ρ, hρ⟩ := drow_ok (P := P) (pickL is (cks P T)) 0 _ (pickL is row) (fun _ => default) (drowD_eq h.row) (WTs_pick hw is) gok_def
  have hlin : linsV ρ s.lin := by
    have hi := h.lin
    unfold linOk at hi
    split at hi
    · rename_i h1; exact linAll_v hρ.lin h1
    · split at hi
      · rename_i h1
        have := rz_pick row is 0 h1
        rw [List.drop_zero] at this
        exact linAny_v hρ.tys hρ.lin (by rw [hρ.rz]; omega) (by rw [hρ.cells]; omega) hi
      · cases hi
  have hpre : s.pre.ok P B ρ := ⟨hρ.g, tySub_v hρ.tys h.tys, hlin, by simp only [Spec.pre, h.prs]; trivial⟩
  refine (fn_ret hK hpre h.tab (w := w) (vals := chunkV parts (pickL is vs)) (by rw [h.args]; exact chunk_vr parts _ _ (by rw [hρ.cells]; exact hc.pick is))).mono ?_
  rintro v w' ⟨hch, p, hp, ρ', E', hok, hv⟩
  exact ⟨hch, res_of (I := B) hok.g hok.tys hok.lin (psChk_mem h.posts p hp) hv⟩
theorem OneRes.nil {P : Program} {w : World} {lo : Nat} {us : List Value} (h : OneRes P w lo [] us) : us = [] := by
  cases us with
  | nil => rfl
  | cons u us => exact h.elim
theorem OneRes.skip {P : Program} {w : World} {lo : Nat} {r : List RK} {us : List Value} (h : OneRes P w lo (none :: r) us) : ∃ u us', us = u :: us' ∧ OneRes P w lo r us' := by
  cases us with
  | nil => exact h.elim
  | cons u us => exact ⟨u, us, rfl, h⟩
theorem OneRes.take {P : Program} {w : World} {lo : Nat} {ag : Bool} {ks : List CK} {r : List RK} {us : List Value} (h : OneRes P w lo (some (ag, ks) :: r) us) : ∃ row vs us', us = pk ag vs :: us' ∧ Cw w lo row vs ∧ WTs P ks row ∧ OneRes P w lo r us' := by
  cases us with
  | nil => exact h.elim
  | cons u us =>
    obtain ⟨⟨row, vs, rfl, h1, h2⟩, h3⟩ := h
    exact ⟨row, vs, us, rfl, h1, h2, h3⟩
theorem sub_get {l vs : List Value} (off n : Nat) (h : (l.drop off).take n = vs) : ∀ (j : Nat) (v : Value), vs[j]? = some v → l.toArray[off + j]? = some v := by
  intro j v hj
  subst h
  rw [List.getElem?_take] at hj
  split at hj
  · simpa [List.getElem?_drop] using hj
  · cases hj
theorem x_clo {P : Program} {o : Oper} {n : Nat} {sl : Slots} {a : Act} {w : World} {f : Fn} {first caps : Array Operand} {us vs : List Value} (h : SL n sl a) (ho : o.op = .makeFunc f first caps) (e1 : evs sl first.toList = some us) (e2 : evs sl caps.toList = some vs) :
    (execOp a.eval o).run P w = .ok (.value (.func f us.toArray vs.toArray)) w := by
  rw [x_func h ho e1 e2]; rfl
theorem known_hand {P : Program} {B : Pr} {J : Ex} {s : Spec} (hz : s.nz = true) (htab : s.tab = [])
    (h : ∀ ρ, s.pre.ok P B ρ → ∀ (w : World) (E : Env) (lo : Nat) (vals : List Value), VRs w E lo (dvs ρ s.args) vals → Ret P s.fn vals w fun v w' => Ch (fun _ => False) w w' ∧ v.oneCell' = true ∧ ∀ I : Pr, (∀ k, I (k + 1) = B (k + 1)) → PostR P I J s ρ (.p (.v v) true) []) : Known P B J s := by
  refine ⟨hz, fun N ρ hpre _ => ?_⟩
  intro lo w E vals hlo ht hv
  refine Calls.mono (h ρ hpre w E lo vals hv) ?_
  rintro e w' ⟨v, rfl, hch, h1, hp⟩
  rw [htab] at ht
  refine ⟨.p (.v v) true, v, [], E, rfl, hp B (fun _ => rfl), ⟨hch.os, hch.tape, hch.output, hch.size, fun b hb hn => ⟨hch.keep b hb fun h => h, hn⟩, rfl⟩, ?_, .v _ h1, fun k x hx => .inl hx⟩
  exact ⟨fun k ov hk => by simp [lk] at hk, fun k _ => ht.dead k (by simp [lk, tabV]), fun b k hk => by
    have := ht.own b k hk
    exact absurd rfl this.2.2, fun b hb => ⟨Nat.lt_of_lt_of_le (ht.ext b hb).1 hch.size, (ht.ext b hb).2⟩⟩
theorem wgU {ops : Array Oper} {o : Oper} {n : Nat} {sl : Slots} {a : Act} {j t : Nat} {want : Bool} (h : SL n sl a) (hg : o.guard = some (j, want)) (hj : (ops[j]?).bind (·.dst) = some t) (ht : lk sl t = some undef) (htn : Nat.ble (t + 1) n = true) :
    Region.wanted o (yielded ops a.tmps) = false := by
  have hlt : t < a.tmps.size := by rw [h.size]; exact Nat.le_of_ble_eq_true htn
  have h1 := h.slots t _ ht
  have h2 : a.tmps[t]? = some undef := by
    rw [Array.getD_eq_getD_getElem?] at h1
    rw [Array.getElem?_eq_getElem hlt] at h1 ⊢
    simpa using h1
  unfold Region.wanted
  rw [hg]
  simp only [yielded, hj, Option.bind_some, h2]
  cases want <;> rfl
def yOk (ops : Array Oper) (listed : Array Bool) (i : Nat) : Bool := match Region.noSelect ops, Region.free .any ops listed i, (Region.ready .any ops listed).contains i with
  | true, true, true => true
  | _, _, _ => false
theorem Yb {P : Program} {ops : Array Oper} {Q : Exit → Act → World → Prop} {o : Oper} {n : Nat} {sl : Slots} {a : Act} {w : World} {v : Value} {fuel : Nat} (i : Nat) {listed : Array Bool} (h : SL n sl a) (hi : ops[i]? = some o) (hg : o.guard = none) (hd : dok n o.dst = true) (hy : yOk ops listed i = true)
    (hQ : ∀ c a w, Q (.panic c) a w → False) (hx : ∀ w, (execOp a.eval o).run P w = .ok (.value v) w) (k : ∀ a', SL n (putl o.dst v sl) a' → wpAny P .any ops Q fuel (listed.setIfInBounds i true) a' w) : wpAny P .any ops Q (fuel + 1) listed a w := by
  unfold yOk at hy
  split at hy
  · rename_i h1 h2 h3; exact Y h hi hg hd h1 h2 h3 hQ hx k
  · cases hy
theorem any_with {P : Program} {ops : Array Oper} {Q : Exit → Act → World → Prop} {fuel : Nat} {listed : Array Bool} {a : Act} {w : World} (Leaf : Act → World → Prop) (hp : ∀ c a w, Q (.panic c) a w → False) (h : ∀ a w, Leaf a w → Q .normal a w)
    (k : (∀ c a w, Q (.panic c) a w → False) → (∀ a w, Leaf a w → Q .normal a w) → wpAny P .any ops Q fuel listed a w) : wpAny P .any ops Q fuel listed a w := k hp h
theorem wpOp_callR {P : Program} {ops : Array Oper} {Q : Exit → Act → World → Prop} {o : Oper} {n : Nat} {sl : Slots} {a : Act} {w : World} {i : Nat} {K : Act → World → Prop} {f : Operand} {args : Array Operand} {ts : Array TypeId} {g : FuncId} {first caps : Array Value} {vs : List Value} {R : Value → World → Prop} (h : SL n sl a) (hi : ops[i]? = some o) (hg : o.guard = none) (hd : dok n o.dst = true)
    (ho : o.op = .call ⟨.value f, args, ts⟩) (hf : ev sl f = some (.func (.func g) first caps)) (ha : evs sl args.toList = some vs) (hok : calleeOk P g = true)
    (hret : Ret P g (first.toList ++ (vs ++ caps.toList)) w R) (k : ∀ v w' a', R v w' → SL n (putl o.dst v sl) a' → K a' w') : wpOp P ops Q i K a w := by
  unfold wpOp
  simp only [hi]
  rw [if_pos (by unfold Region.wanted; rw [hg])]
  exact .inl (wp_call h hd ho hf ha hok hret k)
def LeafC (P : Program) (n t : Nat) (TR : TypeId) (ks : List CK) (w0 : World) (a : Act) (w : World) : Prop :=
  ∃ b3 rr uu, SL n [(t, Ptr b3 0)] a ∧ Ch (fun _ => False) w0 w ∧ w0.heap.size ≤ b3 ∧ w.heap[b3]? = some (.cells uu.toArray TR (0, 0)) ∧ Cw w w0.heap.size rr uu ∧ WTs P ks rr
theorem stores_ok {P : Program} {ops : Array Oper} {Q : Exit → Act → World → Prop} {listed : Array Bool} {a : Act} {w0 w : World} {n i1 i2 t3 t4 t5 t6 m1 m2 b3 b4 : Nat} {T1 T2 : TypeId} {ag1 ag2 : Bool} {o1 o2 : Oper} {uu0 uu1 : List Value} {rr0 : List PV} {ks : List CK} {c3 c4 : Array Value}
    (hr1 : Region.ready .any ops listed = [i1]) (hr2 : Region.ready .any ops (listed.setIfInBounds i1 true) = [i2]) (hr3 : Region.ready .any ops ((listed.setIfInBounds i1 true).setIfInBounds i2 true) = [])
    (hi1 : ops[i1]? = some o1) (hi2 : ops[i2]? = some o2) (hg1 : o1.guard = none) (hg2 : o2.guard = none) (hd1 : o1.dst = none) (hd2 : o2.dst = none) (ho1 : o1.op = .store T1 (.tmp t3) (.tmp t5)) (ho2 : o2.op = .store T2 (.tmp t4) (.tmp t6))
    (hT1 : Tp P T1 ag1 m1) (hT2 : Tp P T2 ag2 m2) (n34 : Nat.beq t3 t4 = false) (n35 : Nat.beq t3 t5 = false) (n36 : Nat.beq t3 t6 = false) (n45 : Nat.beq t4 t5 = false) (n46 : Nat.beq t4 t6 = false) (n56 : Nat.beq t5 t6 = false)
    (hQ : ∀ a w, LeafC P n t3 T1 ks w0 a w → Q .normal a w) (hs : SL n [(t3, Ptr b3 0), (t4, Ptr b4 0), (t5, pk ag1 uu0), (t6, pk ag2 uu1)] a) (g : Ch (fun _ => False) w0 w) (h3 : w.heap[b3]? = some (.cells c3 T1 (0, 0))) (h4 : w.heap[b4]? = some (.cells c4 T2 (0, 0))) (hne : b3 ≠ b4)
    (z3 : c3.size = m1) (z4 : c4.size = m2) (l0 : uu0.length = m1) (l1 : uu1.length = m2) (one0 : ∀ u ∈ uu0, u.oneCell' = true) (one1 : ∀ u ∈ uu1, u.oneCell' = true) (lo3 : w0.heap.size ≤ b3) (lo4 : w0.heap.size ≤ b4)
    (hst : ∀ w', (∀ b o, b ≠ b3 → b ≠ b4 → w.heap[b]? = some o → w'.heap[b]? = some o) → Cw w' w0.heap.size rr0 uu0) (wt : WTs P ks rr0) : wpAny P .any ops Q 2 listed a w := by
  have lk3 : lk [(t3, Ptr b3 0), (t4, Ptr b4 0), (t5, pk ag1 uu0), (t6, pk ag2 uu1)] t3 = some (Ptr b3 0) := by simp [lk, Nat.beq_refl]
  have lk4 : lk [(t3, Ptr b3 0), (t4, Ptr b4 0), (t5, pk ag1 uu0), (t6, pk ag2 uu1)] t4 = some (Ptr b4 0) := by simp [lk, Nat.beq_refl, n34]
  have lk5 : lk [(t3, Ptr b3 0), (t4, Ptr b4 0), (t5, pk ag1 uu0), (t6, pk ag2 uu1)] t5 = some (pk ag1 uu0) := by simp [lk, Nat.beq_refl, n35, n45]
  have lk6 : lk [(t3, Ptr b3 0), (t4, Ptr b4 0), (t5, pk ag1 uu0), (t6, pk ag2 uu1)] t6 = some (pk ag2 uu1) := by simp [lk, Nat.beq_refl, n36, n46, n56]
  refine Y1 i1 hr1 (wpOp_skip hs hi1 hg1 hd1 (x_stp (ag := ag1) (m := m1) uu0 hs ho1 lk3 lk5 hT1 l0 one0 h3 (by omega)) fun hs => ?_)
  have k1 := Ch.setRow w b3 (spl c3.toList 0 uu0).toArray
  have f1 : spl c3.toList 0 uu0 = uu0 := by simp [spl, l0, ← z3]
  rw [f1] at k1 ⊢
  have h3' := setRow_heap _ _ _ uu0.toArray _ _ h3
  have h4' := k1.at h4 (fun h => hne h.symm)
  have old1 : ∀ b o, b ≠ b3 → w.heap[b]? = some o → (w.setRow b3 uu0.toArray).heap[b]? = some o := fun b o hb hh => k1.at hh hb
  have g1 := g.trans' k1 fun b hb h => by omega
  generalize w.setRow b3 uu0.toArray = w1 at k1 h3' h4' old1 g1 ⊢
  refine Y1 i2 hr2 (wpOp_skip hs hi2 hg2 hd2 (x_stp (ag := ag2) (m := m2) uu1 hs ho2 lk4 lk6 hT2 l1 one1 h4' (by omega)) fun hs => ?_)
  have k2 := Ch.setRow w1 b4 (spl c4.toList 0 uu1).toArray
  have h3'' := k2.at h3' hne
  have old2 : ∀ b o, b ≠ b3 → b ≠ b4 → w.heap[b]? = some o → (w1.setRow b4 (spl c4.toList 0 uu1).toArray).heap[b]? = some o := fun b o hb hb4 hh => k2.at (old1 b o hb hh) hb4
  have g2 := g1.trans' k2 fun b hb h => by omega
  generalize w1.setRow b4 (spl c4.toList 0 uu1).toArray = w2 at k2 h3'' old2 g2 ⊢
  refine Ye hr3 (hQ _ _ ⟨b3, rr0, uu0, ?_, g2, lo3, h3'', hst w2 old2, wt⟩)
  refine ⟨hs.size, hs.defers, fun k v hk => hs.slots k v ?_⟩
  simp only [lk] at hk
  cases hb : Nat.beq t3 k with
  | true => simp only [hb, Option.some.injEq] at hk; subst hk; rw [← Nat.eq_of_beq_eq_true hb]; exact lk3
  | false => simp [hb] at hk
end Go.TL.H
