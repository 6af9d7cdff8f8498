/- From a walk to the contract of a claim that a call says true and changes nothing. -/
import Derived.Test.YtajkchpnbnbmfaaGreatDoorW23
import Derived.ChangeStays
import Derived.ChangeSame
import Derived.ChangeReads
import Derived.OpenShut
import Derived.WalkKit
import Derived.ProofKit
import Derived.JoinedCond
import Derived.Deep.Frames
import Derived.Deep.Modes
import Derived.WideShapes
import Derived.Lib.LaidTab
import Derived.Lib.ItoaNum
import Derived.Lib.ItoaLen
import Derived.Sort.Row
import Derived.Sort.Grow
import Derived.Lib.Bytealg
namespace Go.TL.H
open Go Go.ChangeShapes Go.WideShapes Go.ChangeAt Go.RowKit
theorem Nx {w w' : World} (h : Ch (fun _ => False) w w') : w.keptBut w' (fun _ => False) := by
 refine ⟨h.os,h.output,fun i hi => ?_⟩
 rw [h.keep i hi fun h => h]
 cases w.heap[i]? with
 | none => rfl
 | some o => cases o <;> simp
section
variable {H : Type} {enc : TypeId × Value → H} {P : Program}
theorem IM {f : Func} {s : ChangeSpec} {apart fresh handsOn again : Bool} {W W' : World} {args : Array Value} {v : Value} {ds gs : List (DataW H)} {before pa pv : List MemPlace}
  (hW : DataW.Whole enc P f.params.toList s.vars apart W args.toList ds gs before)
  (hres : ∀ (b : Nat) (sp : Nat → Bool) (hd : Bool),DataW.TrodAll enc P W' b sp hd f.resultTypes.toList (v.resultList f.resultTypes.size) (s.fn H (ds ++ gs)).results [])
  (hargs : ∀ sp : Nat → Bool,(∀ p ∈ before,sp p.block = true) → DataW.TrodAll enc P W' 0 sp true f.params.toList args.toList (s.fn H (ds ++ gs)).args pa)
  (hvars : ∀ sp : Nat → Bool,(∀ p ∈ before,sp p.block = true) → DataW.TrodVars enc P W' sp s.vars (s.fn H (ds ++ gs)).vars pv)
  (hps : before = pa ++ pv) (hk : W.keptBut W' (· ∈ before)) (hfz : ∀ b off,MemPlace.cell b off ∈ before → W'.frozen? ⟨b,off,none⟩ = W.frozen? ⟨b,off,none⟩)
  (hok : ∀ (j : Nat) (t : TypeId) (r : Value),f.resultTypes[j]? = some t → (v.resultList f.resultTypes.size)[j]? = some r → Value.okWide P W' .any 0 t r) :
  s.post enc P f apart fresh handsOn again W args v W' := by
 have hold : ∀ p ∈ before,(fun b => decide (b < W.heap.size)) p.block = true := fun p hp => by simpa using hW.lt p hp
 refine ⟨ds,gs,before,[],pa,pv,hW,hres _ _ _,hargs _ hold,hvars _ hold,World.keptBut_mono (fun p hp => ⟨hp,?_⟩) hk,fun _ => ?_⟩
 ·rw [hps,List.mem_append] at hp
  exact Or.inr hp
 ·obtain ⟨_,_,_,_,_,hz,hn⟩ := hW
  refine ⟨hok,_,_,([] ++ pa) ++ pv,⟨[] ++ pa,pv,trodAll_append (hargs _ (fun _ _ => rfl)) (hres _ _ _),hvars _ (fun _ _ => rfl),rfl,?_,?_⟩,?_⟩
  ·intro b off hp
   have hp' : MemPlace.cell b off ∈ before := by rw [hps]; simpa using hp
   rw [hfz b off hp']
   exact hz b off hp'
  ·intro ha
   have := hn ha
   rw [hps] at this
   simpa using this
  ·intro p hp _
   rw [hps]
   simpa using hp
theorem DL {f : FuncId} {fn : Func} {T tb : TypeId} {fs : Array Field} {s : ChangeSpec} {E : TypeId → Prop} {b : DataW H → Nat} {ba : List (DataW H) → Nat} (hb : Blk H b ba)
  (hrt : fn.resultTypes = #[tb]) (hpt : fn.params = #[T]) (hvars : s.vars = []) (hfn : ∀ d : DataW H,s.fn H [d] = { results := [.lit (.bool true)],args := [d] }) (hbool : P.underlying tb = some .bool) (hT : P.underlying T = some (.struct fs))
  (hlaid : laidOutB P = true) (hrd : P.readableRec T = true) (hlt : T < P.types.size) (hlay : nq P 8 T = true) (hE : ∀ e,E e → JQ P E e) (hks : ∀ e,.sl e ∈ cks P T → E e)
  (hwalk : ∀ (W : World) (xs : List Value) (row : List PV),dq P W → dx P W (cks P T) xs row → rz row ≤ 2097152 → Ret P f [.agg xs.toArray] W fun v w' => v = .bool true ∧ Ch (fun _ => False) W w')
  {apart fresh handsOn again : Bool} (W : World) (hla : dq P W) (base : Nat) (args : Array Value) (ds gs : List (DataW H)) (before : List MemPlace)
  (hval : ∀ (j : Nat) t v,fn.params[j]? = some t → args[j]? = some v → Value.okWide P W .any base t v) (hW : DataW.Whole enc P fn.params.toList s.vars apart W args.toList ds gs before) (hk : ba (ds ++ gs) ≤ 1048576) :
  Calls P f args W fun e W' => ∃ v,e = .returned v ∧ s.post enc P fn apart fresh handsOn again W args v W' := by
 have hW' := hW
 obtain ⟨p,q,hA,hV,rfl,hfz,hnd⟩ := hW
 rw [hpt] at hA
 obtain ⟨v0,vs0,d0,ds0,p0,q0,hargs,rfl,rfl,h0,r0⟩ := trodAll_cons hA
 obtain ⟨rfl,rfl,rfl⟩ := trodAll_nil r0
 obtain rfl : args = #[v0] := by cases args; simp_all
 rw [hvars] at hV
 obtain ⟨rfl,rfl⟩ := trodVars_none hV
 obtain ⟨cs,rfl,hcs⟩ := okWide_struct hT (hval 0 T v0 (by simp [hpt]) rfl)
 obtain ⟨fuel,hfuel⟩ := h0
 have hcl : (Value.agg cs).cells.toList = cs.toList := rfl
 rw [hcl] at hfuel
 simp only [List.append_nil] at hW' hfz hk
 have hbd : b d0 ≤ 1048576 := by simpa [hb.cons,hb.nil] using hk
 rw [← sQ hlay] at hks
 obtain ⟨row,hg,hrz⟩ := JV hb hE fuel 8 T cs.toList d0 p0 hfuel hfz hlay hks hbd
 rw [sQ hlay] at hg
 have hr := hwalk W cs.toList row hla hg (by omega)
 have : ([Value.agg cs.toList.toArray] : List Value).toArray = #[.agg cs] := by simp
 unfold Ret at hr
 rw [this] at hr
 refine Calls.mono hr ?_
 rintro e W' ⟨v,rfl,rfl,hch⟩
 have hkept := Nx hch
 have hlt' : ∀ p ∈ p0,p.block < W.heap.size := fun p hp => hW'.lt p hp
 refine ⟨_,rfl,IM (pa := p0) (pv := []) hW' ?_ ?_ ?_ (by simp) (World.keptBut_mono (fun _ h => h.elim) hkept) ?_ ?_⟩
 ·intro b sp hd
  rw [List.append_nil,hfn,hrt]
  exact trodAll_cons_mk (shut_bool hbool _) trodAll_mk0
 ·intro sp hsp
  rw [List.append_nil,hfn,hpt]
  refine trodAll_mk1 ⟨fuel,?_⟩
  rw [hcl]
  refine DataW.trod_stays (kids_book hlaid hrd) (book_sized hrd) (fun h => by cases h) ⟨hlt,book_self T⟩ hfuel (fun p hp => hkept.sameAt (hlt' p hp) (fun h => h) (fun b e => ?_)) hsp
  have := DataW.trod_good (kids_book hlaid hrd) (fun h => by cases h) fuel T cs.toList (d0,p0) ⟨hlt,book_self T⟩ hfuel p hp
  subst e
  exact this
 ·intro sp _
  rw [List.append_nil,hfn,hvars]; exact rfl
 ·intro b off hp
  have := hlt' _ hp
  have hh := hch.keep b this fun h => h
  unfold World.frozen?
  simp only [hh]
 ·exact ok_one hrt rfl (okWide_bool_mk hbool _)
end
end Go.TL.H
namespace Go.TL.H
open Go
theorem aF {P : Program} {f : FuncId} {n : Nat} {res : List ResultVar} {c' : Code} (h : (P.funcs[f]?).map (fun fn => (fn.body.map norm,fn.ntmps,fn.results.toList)) = some (some c',n,res)) (hok : aE P f = true) : Body P f n res c' := by
 cases hf : P.funcs[f]? with
 | none => simp [hf] at h
 | some fn =>
  simp only [hf,Option.map_some,Option.some.injEq,Prod.mk.injEq] at h
  obtain ⟨h1,h2,h3⟩ := h
  cases hb : fn.body with
  | none => simp [hb] at h1
  | some c => exact ⟨hok,fn,c,hf,hb,by simpa [hb] using h1,h2,h3⟩
theorem db {P : Program} {t : TypeId} {z : Value} (h : (P.info? t).map (fun i => (i.size,i.zero,Nat.ble i.bytes 24)) = some (1,some z,true)) (ha : ew P t = some false) (hz : z.cells = #[z]) : One P t z := by
 cases hi : P.info? t with
 | none => simp [hi] at h
 | some i =>
  simp only [hi,Option.map_some,Option.some.injEq,Prod.mk.injEq] at h
  exact ⟨⟨i,hi,ha,h.1,h.2.1,Nat.le_of_ble_eq_true h.2.2⟩,hz⟩
theorem PH {P : Program} {t : TypeId} {zs : List Value} (h : (P.info? t).map (fun i => (i.size,i.zero,Nat.ble i.bytes 1024)) = some (zs.length,some (.agg zs.toArray),true)) (ha : ew P t = some true) : Big P t zs := by
 cases hi : P.info? t with
 | none => simp [hi] at h
 | some i =>
  simp only [hi,Option.map_some,Option.some.injEq,Prod.mk.injEq] at h
  exact ⟨⟨i,hi,ha,h.1,h.2.1,Nat.le_of_ble_eq_true h.2.2⟩⟩
theorem fe {P : Program} {t : TypeId} {sz : Nat} {zs : List Value} (h : (P.info? t).map (fun i => (i.size,i.zero.map Value.cells,Nat.ble i.bytes 1024)) = some (sz,some zs.toArray,true)) (hl : zs.length = sz) (hp : Nat.blt 0 sz = true) (hr : Nat.ble 1000000 t = false := by rfl) : El P t sz zs := by
 cases hi : P.info? t with
 | none => simp [hi] at h
 | some i =>
  simp only [hi,Option.map_some,Option.some.injEq,Prod.mk.injEq] at h
  obtain ⟨h1,h2,h3⟩ := h
  cases hz : i.zero with
  | none => simp [hz] at h2
  | some z => exact ⟨⟨i,z,hi,h1,hz,by simpa [hz] using h2,Nat.le_of_ble_eq_true h3⟩,hl,Nat.le_of_ble_eq_true hp,hr⟩
def AE (ag : Bool) (n : Nat) : Bool := match ag with | true => true | false => Nat.beq n 1
theorem dT {P : Program} {t : TypeId} {ag : Bool} {n : Nat} (h : (P.info? t).map (·.size) = some n) (ha : ew P t = some ag) (h1 : AE ag n = true) : Tp P t ag n := by
 cases hi : P.info? t with
 | none => simp [hi] at h
 | some i =>
  simp only [hi,Option.map_some,Option.some.injEq] at h
  refine ⟨⟨i,hi,ha,h⟩,fun hf => ?_⟩
  subst hf; exact Nat.eq_of_beq_eq_true h1
theorem CP {P : Program} {t : TypeId} {n : Nat} (h : (P.info? t).map (fun i => Nat.ble i.bytes n) = some true) : ∀ i,P.info? t = some i → i.bytes ≤ n := by
 intro i hi
 simp only [hi,Option.map_some,Option.some.injEq] at h
 exact Nat.le_of_ble_eq_true h
theorem Ny {P : Program} {t : TypeId} {n : Nat} (h : (P.info? t).map (·.size) = some n) : ∃ i,P.info? t = some i ∧ i.size = n := by
 cases hi : P.info? t with
 | none => simp [hi] at h
 | some i => simp only [hi,Option.map_some,Option.some.injEq] at h; exact ⟨i,rfl,h⟩
def fD (ck : List CK) : Nat → List CK → Bool
 | _,[] => true
 | off,k :: r => match decide (ck[off]? = some k) with | true => fD ck (off + 1) r | false => false
theorem ou {ck : List CK} : ∀ {l : List CK} {off : Nat},fD ck off l = true → ∀ (j : Nat) (k : CK),l[j]? = some k → ck[off + j]? = some k
 | [],off,_,j,k,hj => by simp at hj
 | x :: r,off,h,j,k,hj => by
  simp only [fD] at h
  split at h
  ·rename_i hd
   have hd := of_decide_eq_true hd
   cases j with
   | zero => simp at hj; subst hj; exact hd
   | succ j => have := ou h j k (by simpa using hj); rw [← this]; congr 1; omega
  ·cases h
def tD (D : cX) : List (Nat × Nat × FuncId) → Bool
 | [] => false
 | (_,_,g) :: l => match lk D g with | some r => r.hn || tD D l | none => tD D l
def yA (D : cX) : List (Nat × Nat × FuncId) → Nat
 | [] => 0
 | (_,_,g) :: l => match lk D g with | some r => r.ck.length + yA D l | none => yA D l
def xe (P : Program) (D : cX) (T : TypeId) (ck : List CK) (bH : Nat) : List (Nat × Nat × FuncId) → Bool
 | [] => true
 | (i,off,g) :: l => match lk D g,bM P T i with
  | some rg,some (o,_) => match Nat.blt rg.bH bH,Nat.beq o off,fD ck off rg.ck with
   | true,true,true => xe P D T ck bH l
   | _,_,_ => false
  | _,_ => false
theorem CQ {P : Program} {D : cX} {T : TypeId} {ck : List CK} {bH : Nat} : ∀ {l : List (Nat × Nat × FuncId)},xe P D T ck bH l = true → sM P D T ck bH l (yA D l) (tD D l)
 | [],_ => ⟨rfl,rfl⟩
 | (i,off,g) :: l,h => by
  simp only [xe] at h
  split at h
  ·rename_i rg o sz h1 h2
   split at h
   ·rename_i q1 q2 q3
    have q2 := Nat.eq_of_beq_eq_true q2; subst q2
    exact ⟨rg,sz,yA D l,tD D l,h1,Nat.le_of_ble_eq_true q1,h2,fun j k hj => ou q3 j k hj,by simp [yA,h1],by simp [tD,h1],CQ h⟩
   ·cases h
  ·cases h
section
variable {P : Program} {y : TY} {D : cX} {f : FuncId} {bH : Nat}
theorem ES {T : TypeId} {z : Value} (h : Body P f 33 [] (A4 y T)) (hz : One P T z) : Fit P y D f ⟨.num T,[.int .i64],true,bH⟩ := ⟨h,⟨z,hz⟩,rfl,rfl⟩
theorem Nz (h : Body P f 49 [] (FB y)) : Fit P y D f ⟨.str,[.str],false,bH⟩ := ⟨h,rfl,rfl⟩
theorem oH {T : TypeId} {parts : List (Nat × Nat × FuncId)} {ck : List CK} {hn : Bool} (h : Body P f (4 + 5 * parts.length) [] (stC T 4 parts)) (hp : xe P D T ck bH parts = true) (hk : yA D parts = ck.length) (hh : tD D parts = hn) : Fit P y D f ⟨.st T parts,ck,hn,bH⟩ := by
 refine ⟨h,?_⟩
 have := CQ hp
 rw [hk,hh] at this; exact this
theorem oI {L e : TypeId} {al one : FuncId} {sz : Nat} {r1 : Row} (h : Body P f 9 [] (ux L al one)) (h2 : Body P al 46 [] (rB y L)) (h3 : P.underlying L = some (.slice e)) (h4 : (P.info? e).map (·.size) = some sz) (h5 : One P L aj) (h6 : aE P one = true)
  (h7 : lk D one = some r1) (h8 : r1.ck = cks P e) (h9 : r1.ck.length = sz) (h10 : Nat.ble sz 16 = true) (h11 : AE r1.hn sz = true) : Fit P y D f ⟨.via L al one e sz,[.sl e],true,bH⟩ :=
 ⟨h,h2,h3,Ny h4,h5,rfl,rfl,h6,r1,h7,h8,h9,Nat.le_of_ble_eq_true h10,fun hf => by rw [hf] at h11; exact Nat.eq_of_beq_eq_true h11⟩
theorem PI (h : ∀ p ∈ D,Fit P y D p.1 p.2) : jI P y D := by
 have key : ∀ (l : cX) f r,lk l f = some r → (f,r) ∈ l := by
  intro l
  induction l with
  | nil => intro f r h; simp [lk] at h
  | cons p l ih =>
   obtain ⟨k,x⟩ := p
   intro f r h
   simp only [lk] at h
   cases hb : Nat.beq k f with
   | true => simp only [hb,Option.some.injEq] at h; subst h; rw [Nat.eq_of_beq_eq_true hb]; simp
   | false => simp only [hb] at h; exact List.mem_cons.2 (.inr (ih f r h))
 intro f r hf
 exact h (f,r) (key D f r hf)
end
def zcB : CK → Value → Bool
 | .int k,.int k' n => match decide (k = k') with | true => isZ n | false => false
 | .bool,.bool _ => true
 | .str,.string s => Nat.beq s.size 0
 | .sl _,.slice none 0 0 => true
 | _,_ => false
def sB : List CK → List Value → Bool
 | [],[] => true
 | k :: ks,v :: vs => match zcB k v with | true => sB ks vs | false => false
 | _,_ => false
theorem ET (k : IntKind) : k.min ≤ 0 ∧ 0 ≤ k.max := by cases k <;> decide
theorem Q9 {P : Program} {k : CK} {v : Value} (h : zcB k v = true) : WR P k (zc true v) ∧ v.oneCell' = true := by
 unfold zcB at h
 split at h
 ·rename_i k k' n
  split at h
  ·rename_i hk
   have hk := of_decide_eq_true hk; subst hk
   have hn : n = 0 := nP h
   subst hn
   exact ⟨.int _ _ (ET k).1 (ET k).2,rfl⟩
  ·cases h
 ·exact ⟨.bool _,rfl⟩
 ·rename_i s
  have h := Nat.eq_of_beq_eq_true h
  exact ⟨.str s (by rw [h]; exact Nat.zero_le _),rfl⟩
 ·rename_i e
  exact ⟨.rm e 0 [] (by simp) (Nat.zero_le _) (by simp) (by simp) (by simp),rfl⟩
 ·cases h
theorem IN {P : Program} : ∀ {ks : List CK} {vs : List Value},sB ks vs = true → vs.length = ks.length ∧ ∀ (j : Nat) (ck : CK) (u : Value),ks[j]? = some ck → vs[j]? = some u → WR P ck (zc true u) ∧ u.oneCell' = true
 | [],[],_ => ⟨rfl,fun j ck u h => by simp at h⟩
 | k :: ks,v :: vs,h => by
  simp only [sB] at h
  split at h
  ·rename_i hv
   obtain ⟨h1,h2⟩ := IN (P := P) h
   refine ⟨by simp [h1],fun j ck u hj hu => ?_⟩
   cases j with
   | zero => simp at hj hu; subst hj; subst hu; exact Q9 hv
   | succ j => exact h2 j ck u (by simpa using hj) (by simpa using hu)
  ·cases h
 | [],_ :: _,h => by simp [sB] at h
 | _ :: _,[],h => by simp [sB] at h
theorem IP {P : Program} {e : TypeId} {zs : List Value} (h : sB (cks P e) zs = true) : ZOk P e zs := IN h
def tE (P : Program) (T : TypeId) : Nat → List fI → Bool
 | _,[] => true
 | bnd,p :: l => match Nat.ble bnd p.off,Nat.ble (p.off + p.n) (cks P T).length,(match bM P T p.i with | some (o,_) => Nat.beq o p.off | none => false),decide ((P.info? p.T).map (·.size) = some p.n),decide (ew P p.T = some p.ag) with
  | true,true,true,true,true => match AE p.ag p.n,Nat.beq (cks P p.T).length p.n,fD (cks P T) p.off (cks P p.T) with
   | true,true,true => tE P T (p.off + p.n) l
   | _,_,_ => false
  | _,_,_,_,_ => false
theorem zJ {P : Program} {T : TypeId} : ∀ {l : List fI} {bnd : Nat},tE P T bnd l = true → lQ P T bnd l
 | [],_,_ => trivial
 | p :: l,bnd,h => by
  simp only [tE] at h
  split at h
  ·rename_i q1 q2 q3 q4 q5
   split at h
   ·rename_i q6 q7 q8
    have q7 := Nat.eq_of_beq_eq_true q7
    refine ⟨Nat.le_of_ble_eq_true q1,Nat.le_of_ble_eq_true q2,?_,dT (of_decide_eq_true q4) (of_decide_eq_true q5) q6,q7,fun j hj => ?_,zJ h⟩
    ·cases hf : bM P T p.i with
     | none => simp [hf] at q3
     | some x =>
      obtain ⟨o,sz⟩ := x
      simp only [hf] at q3
      exact ⟨sz,by rw [Nat.eq_of_beq_eq_true q3]⟩
    ·obtain ⟨k,hk⟩ : ∃ k,(cks P p.T)[j]? = some k := ⟨(cks P p.T)[j]'(by omega),by simp⟩
     rw [hk]; exact ou q8 j k hk
   ·cases h
  ·cases h
def yB (ps : List fI) : Nat → List CK → Bool
 | _,[] => true
 | j,.sl _ :: r => match ps.any (fun p => match Nat.ble p.off j with | true => Nat.blt j (p.off + p.n) | false => false) with | true => yB ps (j + 1) r | false => false
 | j,_ :: r => yB ps (j + 1) r
theorem PJ {ps : List fI} : ∀ {l : List CK} {k : Nat},yB ps k l = true → ∀ (j : Nat) (e : TypeId),l[j]? = some (.sl e) → ∃ p ∈ ps,p.off ≤ k + j ∧ k + j < p.off + p.n := by
 intro l
 induction l with
 | nil => intro k _ j e h; simp at h
 | cons x r ih =>
  intro k h j e hj
  have step : yB ps (k + 1) r = true ∧ (∀ e,x = .sl e → ∃ p ∈ ps,p.off ≤ k ∧ k < p.off + p.n) := by
   cases x <;> simp only [yB] at h
   case sl e' =>
    split at h
    ·rename_i ha
     refine ⟨h,fun e he => ?_⟩
     obtain ⟨p,hp,hq⟩ := List.any_eq_true.1 ha
     split at hq
     ·rename_i hb; exact ⟨p,hp,Nat.le_of_ble_eq_true hb,Nat.le_of_ble_eq_true hq⟩
     ·cases hq
    ·cases h
   all_goals exact ⟨h,fun e he => by cases he⟩
  cases j with
  | zero => simp at hj; subst hj; exact step.2 e rfl
  | succ j =>
   obtain ⟨p,hp,h1,h2⟩ := ih step.1 j e (by simpa using hj)
   exact ⟨p,hp,by omega,by omega⟩
def xf (P : Program) (O : rC) (bH : Nat) : List fI → Bool
 | [] => true
 | p :: l => match aE P p.g,lk O p.g with
  | true,some r1 => match Nat.beq r1.t p.T,decide (r1.ag = p.ag),Nat.blt r1.bH bH with
   | true,true,true => xf P O bH l
   | _,_,_ => false
  | _,_ => false
theorem CR {P : Program} {O : rC} {bH : Nat} : ∀ {l : List fI},xf P O bH l = true → ∀ p ∈ l,aE P p.g = true ∧ ∃ r1,lk O p.g = some r1 ∧ r1.t = p.T ∧ r1.ag = p.ag ∧ r1.bH < bH
 | [],_,p,hp => by simp at hp
 | q :: l,h,p,hp => by
  simp only [xf] at h
  split at h
  ·rename_i r1 h1 h2
   split at h
   ·rename_i q1 q2 q3
    rcases List.mem_cons.1 hp with rfl | hp
    ·exact ⟨h1,r1,h2,Nat.eq_of_beq_eq_true q1,of_decide_eq_true q2,Nat.le_of_ble_eq_true q3⟩
    ·exact CR h p hp
   ·cases h
  ·cases h
section
variable {P : Program} {y : TY} {O : rC} {f : FuncId} {bH : Nat}
theorem EU {L e : TypeId} {sz : Nat} {zs : List Value} (h : Body P f 9 [.tmp 2] (ea y L)) (h2 : P.underlying L = some (.slice e)) (h3 : El P e sz zs) (h4 : sB (cks P e) zs = true) (h5 : (cks P e).length = sz) (h6 : cks P L = [.sl e]) (h7 : scalars (cks P e) = true) : e8 P y O f ⟨.cp L e sz zs,bH⟩ :=
 ⟨h,h2,h3,IP h4,h5,h6,h7⟩
theorem yC {L e : TypeId} {sz : Nat} {ag : Bool} {zs : List Value} {cp one : FuncId} {r1 : dw} (h : Body P f 21 [.tmp 2] (nN y L e cp one)) (h1 : Body P cp 9 [.tmp 2] (ea y L)) (h2 : P.underlying L = some (.slice e)) (h3 : El P e sz zs) (h4 : sB (cks P e) zs = true) (h5 : (cks P e).length = sz) (h6 : cks P L = [.sl e])
  (h7 : (P.info? e).map (·.size) = some sz) (h8 : ew P e = some ag) (h9 : AE ag sz = true) (h10 : aE P one = true) (h11 : lk O one = some r1) (h12 : r1.t = e) (h13 : r1.ag = ag) : e8 P y O f ⟨.ls L e sz ag zs cp one,bH⟩ :=
 ⟨h,h1,h2,h3,IP h4,h5,h6,dT h7 h8 h9,h10,r1,h11,h12,h13⟩
theorem oJ {T : TypeId} {sz : Nat} {zs : List Value} {ps : List fI} (h : Body P f (4 + 4 * ps.length) [.cell 2 T] (jX T ps)) (h3 : El P T sz zs) (h7 : (P.info? T).map (·.size) = some sz) (h8 : ew P T = some true) (h5 : (cks P T).length = sz) (h6 : tE P T 0 ps = true) (h9 : xf P O bH ps = true) (h10 : yB ps 0 (cks P T) = true) : e8 P y O f ⟨.st T sz zs ps,bH⟩ :=
 ⟨h,h3,dT h7 h8 rfl,h5,zJ h6,CR h9,fun j e hj => by have := PJ h10 j e hj; simpa using this⟩
theorem NA (h : ∀ p ∈ O,e8 P y O p.1 p.2) : ∀ f r,lk O f = some r → e8 P y O f r := by
 have key : ∀ (l : rC) f r,lk l f = some r → (f,r) ∈ l := by
  intro l
  induction l with
  | nil => intro f r h; simp [lk] at h
  | cons p l ih =>
   obtain ⟨k,x⟩ := p
   intro f r h
   simp only [lk] at h
   cases hb : Nat.beq k f with
   | true => simp only [hb,Option.some.injEq] at h; subst h; rw [Nat.eq_of_beq_eq_true hb]; simp
   | false => simp only [hb] at h; exact List.mem_cons.2 (.inr (ih f r h))
 intro f r hf
 exact h (f,r) (key O f r hf)
end
def KN (ms : List TypeId) : CK → Bool
 | .sl e => ms.any (Nat.beq e)
 | _ => true
def elB (P : Program) (ms : List TypeId) (e : TypeId) : Bool := match nq P 8 e,Nat.blt 0 (cks P e).length,Nat.beq (P.cellsOf e) (cks P e).length with
 | true,true,true => (cks P e).all (KN ms)
 | _,_,_ => false
theorem IQ {ms : List TypeId} {k : CK} (h : KN ms k = true) : ∀ e,k = .sl e → e ∈ ms := by
 intro e he; subst he
 obtain ⟨x,hx,hb⟩ := List.any_eq_true.1 h
 rw [Nat.eq_of_beq_eq_true hb]; exact hx
theorem Ra {P : Program} {ms : List TypeId} (h : ms.all (elB P ms) = true) : ∀ e,e ∈ ms → JQ P (· ∈ ms) e := by
 intro e he
 have := List.all_eq_true.1 h e he
 unfold elB at this
 split at this
 ·rename_i q1 q2 q3
  exact ⟨q1,Nat.le_of_ble_eq_true q2,Nat.eq_of_beq_eq_true q3,fun e' he' => IQ (List.all_eq_true.1 this _ he') e' rfl⟩
 ·cases this
theorem Rb {ms : List TypeId} {ks : List CK} (h : ks.all (KN ms) = true) : ∀ e,.sl e ∈ ks → e ∈ ms := fun e he => IQ (List.all_eq_true.1 h _ he) e rfl
theorem NC {P : Program} {y : TY} {z : TZ} {T LC CT : TypeId} {sz : Nat} {zs : List Value} {D : cX} {O : rC} {S W great look same alike apart failing f : FuncId} {rS : Row} {rO : dw} {Cs : List FuncId} (K : Kit P y) (K2 : uy P y z) (K3 : uB P y z T LC CT sz zs) (hD : jI P y D) (hS : lk D S = some rS) (hck : rS.ck = cks P T)
  (hO : ∀ f r,lk O f = some r → e8 P y O f r) (hW : lk O W = some rO) (hWt : rO.t = T) (hWa : rO.ag = true) (hWok : aE P W = true) (_hSok : aE P S = true) (hG : Body P great 27 [.tmp 2] (vN y)) (hL : Body P look 23 [.tmp 2] (sP y z)) (hA : Body P alike 29 [.tmp 6] (nM y z same)) (hSm : Body P same 59 [.tmp 4] (mK y))
  (hB : Body P apart 95 [.tmp 8] (Bc y z T LC CT great look same alike)) (hTop : Body P f 9 [.tmp 2] (JW T LC Cs apart W S failing)) (h0 : Nat.blt 0 Cs.length = true) (h1 : Nat.ble Cs.length 1000 = true)
  (hCs : ∀ C ∈ Cs,aE P C = true ∧ kO P D T 2097152 C) (hfl : aE P failing = true) (hF : ∀ w',dq P w' → Ret P failing [] w' fun v w'' => v = .bool true ∧ Ch (fun _ => False) w' w'') :
  ∀ (w : World) (xs : List Value) (row : List PV),dq P w → dx P w (cks P T) xs row → rz row ≤ 2097152 → Ret P f [.agg xs.toArray] w fun v w' => v = .bool true ∧ Ch (fun _ => False) w w' := by
 intro w xs row hld hg hN
 have hlen : xs.length = sz := by rw [hg.cw.len,((aY _ _).1 hg.ty).1,K3.cks]
 have hOw : lP P W T true 2097152 := by
  have := O1 hO 2097152 rO.bH W rO hW (Nat.le_refl _)
  rw [hWt,hWa] at this; exact this
 refine O6 hTop K3.tp K3.lcU K3.ct (Nat.le_of_ble_eq_true h0) (Nat.le_of_ble_eq_true h1) hlen hg.cw.one hB.ok (fun w' bc hch hbc => ?_) hfl fun w' hch => hF w' (hld.ch hch)
 refine JP K K2 K3 hD hS hck hOw hWok hG hL hA hSm hB (by
  obtain ⟨d,hd⟩ := hg.wz
  exact ⟨d,fun j k hj => by
   obtain ⟨u,h1,h2⟩ := hd j k hj
   exact ⟨u,h1,h2.Mj fun b o hb => hch.at hb fun h => h⟩⟩) (hld.ch hch) (hg.cw.ch hch) hg.ty hN hbc (Nat.le_of_ble_eq_true h1) fun i hi => ?_
 refine ⟨Cs[i],by simp [gG,hi],hCs _ (by simp)⟩
end Go.TL.H
namespace Go.TL.H
open Go
def cS {α : Type} (is : List Nat) (l : List α) : List α := is.filterMap (l[·]?)
theorem jb {α : Type} (i : Nat) (is : List Nat) (l : List α) : cS (i :: is) l = match l[i]? with | some x => x :: cS is l | none => cS is l := by
 unfold cS; rw [List.filterMap_cons]; cases l[i]? <;> rfl
theorem aK {α : Type} {l : List α} {n : Nat} (h : l.length = n + 1) : ∃ x r,l = x :: r ∧ r.length = n := by
 cases l with
 | nil => simp at h
 | cons x r => exact ⟨x,r,rfl,by simpa using h⟩
theorem Cw.pick {w : World} {lo : Nat} {row : List PV} {vs : List Value} (h : Cw w lo row vs) : ∀ is : List Nat,Cw w lo (cS is row) (cS is vs)
 | [] => ⟨rfl,fun j x hj => by simp [cS] at hj⟩
 | i :: is => by
  have ih := h.pick is
  rw [jb,jb]
  cases hr : row[i]? with
  | none =>
   have : vs[i]? = none := by rw [List.getElem?_eq_none_iff] at hr ⊢; rw [h.len]; exact hr
   rw [this]; exact ih
  | some x =>
   obtain ⟨u,hu,hrep⟩ := h.rep i x hr
   rw [hu]
   refine ⟨by simp [ih.len],fun j z hj => ?_⟩
   cases j with
   | zero => simp at hj; subst hj; exact ⟨u,rfl,hrep⟩
   | succ j => exact ih.rep j z (by simpa using hj)
theorem CS {P : Program} {ks : List CK} {row : List PV} (h : WTs P ks row) : ∀ is : List Nat,WTs P (cS is ks) (cS is row)
 | [] => trivial
 | i :: is => by
  have ih := CS h is
  have h2 := (aY _ _).1 h
  rw [jb,jb]
  cases hr : row[i]? with
  | none =>
   have : ks[i]? = none := by rw [List.getElem?_eq_none_iff] at hr ⊢; rw [← h2.1]; exact hr
   rw [this]; exact ih
  | some x =>
   have hlt : i < ks.length := by rw [← h2.1]; exact (List.getElem?_eq_some_iff.1 hr).1
   have hk : ks[i]? = some ks[i] := by simp
   rw [hk]
   exact ⟨h2.2 i _ x hk hr,ih⟩
def GZ : Nat → List Nat → Bool
 | _,[] => true
 | k,i :: r => match Nat.ble k i with | true => GZ (i + 1) r | false => false
theorem xg (row : List PV) : ∀ (k i : Nat),k ≤ i → rz (row.drop i) ≤ rz (row.drop k) := by
 intro k i hki
 obtain ⟨d,rfl⟩ := Nat.le.dest hki
 have := uA (row.drop k) d
 rw [List.drop_drop] at this
 omega
theorem EV (row : List PV) : ∀ (is : List Nat) (k : Nat),GZ k is = true → rz (cS is row) ≤ rz (row.drop k)
 | [],k,_ => by simp [cS,fi]
 | i :: is,k,h => by
  simp only [GZ] at h
  split at h
  ·rename_i hk
   have hk := Nat.le_of_ble_eq_true hk
   have ih := EV row is (i + 1) h
   have hd := xg row k i hk
   rw [jb]
   cases hr : row[i]? with
   | none => have := xg row i (i + 1) (by omega); simp only; omega
   | some x =>
    have hc : row.drop i = x :: row.drop (i + 1) := by
     have hlt := (List.getElem?_eq_some_iff.1 hr).1
     rw [List.drop_eq_getElem_cons hlt]
     congr 1
     have := (List.getElem?_eq_some_iff.1 hr).2
     exact this
    rw [hc,dc] at hd
    simp only [dc]; omega
  ·cases h
def xh (ks : List CK) : ij := match eM ks 0 with | some R => R | none => ⟨[],0,[],[],Lin.lit 0⟩
theorem KO {ks : List CK} (h : (eM ks 0).isSome = true) : eM ks 0 = some (xh ks) := by
 unfold xh
 cases hd : eM ks 0 with
 | none => simp [hd] at h
 | some R => rfl
def G0 (P : Program) (cells : List DP) (tys : List (Nat × TypeId)) (e : Lin) : Bool := match e.t with
 | [(a,k)] => match mL k,Nat.beq (a % 4) 1,leZ e.c,cells.any (fun x => match x with | .sl (some v) => Nat.beq v (a / 4) | _ => false),lk tys (a / 4) with
  | true,true,true,true,some ty => Nat.ble 2097152 (((cks P ty).length + 1) * ((-e.c).toNat + 1))
  | _,_,_,_,_ => false
 | _ => false
theorem IS : ∀ row : List PV,row.length ≤ rz row
 | [] => by simp
 | x :: xs => by
  have := IS xs
  rw [dc]
  have hx : 1 ≤ pz x := by
   cases x with
   | v v => cases v <;> simp only [pz] <;> omega
   | sl rows => simp only [pz]; omega
   | rm m rows => simp only [pz]; omega
   | ls rows => simp only [pz]; omega
   | un => simp only [pz]; omega
   | mp a rows => simp only [pz]; omega
  simp; omega
theorem EW (m : Nat) : ∀ rows : List (List PV),(∀ row ∈ rows,row.length = m) → (m + 1) * rows.length ≤ rsz rows
 | [],_ => by simp
 | r :: rs,h => by
  have ih := EW m rs fun row hr => h row (List.mem_cons_of_mem _ hr)
  have h1 := IS r
  have h2 := h r (List.mem_cons_self)
  rw [dM,List.length_cons,Nat.mul_succ]
  omega
theorem PK {row : List PV} {x : PV} (h : x ∈ row) : pz x ≤ rz row := by
 induction row with
 | nil => simp at h
 | cons y ys ih =>
  rw [dc]
  rcases List.mem_cons.1 h with rfl | h
  ·omega
  ·have := ih h; omega
theorem CU {ρ : Ro} {x : DP} : ∀ {xs : List DP},x ∈ xs → x.v ρ ∈ ak ρ xs
 | y :: ys,h => by
  simp only [ak,List.mem_cons]
  rcases List.mem_cons.1 h with rfl | h
  ·exact .inl rfl
  ·exact .inr (CU h)
theorem ND {P : Program} {ρ : Ro} {cells : List DP} {tys : List (Nat × TypeId)} {e : Lin} (ht : cb P ρ tys) (hN : rz (ak ρ cells) ≤ 2097152) (h : G0 P cells tys e = true) : e.v ρ ≤ 0 := by
 unfold G0 at h
 split at h
 ·rename_i a k he
  split at h
  ·rename_i ty h1 h2 h3 h4 h5
   have h1 : k = 1 := by
    unfold mL at h1
    split at h1
    ·rename_i n; rw [Nat.eq_of_beq_eq_true h1]; rfl
    ·cases h1
   have h2 := Nat.eq_of_beq_eq_true h2
   have h3 : e.c ≤ 0 := by
    unfold leZ at h3
    split at h3
    ·rename_i n hn; have := Nat.eq_of_beq_eq_true h3; rw [hn,this]; exact Int.le_refl _
    ·rename_i n hn; rw [hn]; omega
   obtain ⟨x,hx,hv⟩ := List.any_eq_true.1 h4
   split at hv
   ·rename_i v
    have hv := Nat.eq_of_beq_eq_true hv; subst hv
    have hT := c7 ht h5
    have hm := PK (CU (ρ := ρ) hx)
    simp only [DP.v,lvV,pz] at hm
    have hl := hT.wt
    have hlen : ∀ row ∈ (ρ (a / 4)).l,row.length = (cks P ty).length := by
     cases hl with
     | sl _ _ _ hl _ => exact hl
    have hr := EW _ _ hlen
    have hb := Nat.le_of_ble_eq_true h
    have hlt : (ρ (a / 4)).l.length < (-e.c).toNat + 1 := by
     refine Nat.lt_of_mul_lt_mul_left (a := (cks P ty).length + 1) ?_
     omega
    have hev : e.v ρ = e.c + ((ρ (a / 4)).l.length : Int) := by
     unfold Lin.v
     rw [he,h1]
     simp [bO,aN,h2]
    rw [hev]; omega
   ·cases hv
  ·cases h
 ·cases h
def xi (P : Program) (R : ij) : List Lin → Bool
 | [] => true
 | e :: r => match ((oG R.lin e || e.beq (R.rz.aD (-2097152))) || G0 P R.cells R.tys e) with | true => xi P R r | false => false
theorem CV {P : Program} {ρ : Ro} {R : ij} (ht : cb P ρ R.tys) (hl : aR ρ R.lin) (hz : R.rz.v ρ ≤ 2097152) (hN : rz (ak ρ R.cells) ≤ 2097152) : ∀ {m : List Lin},xi P R m = true → aR ρ m
 | [],_ => trivial
 | e :: r,h => by
  simp only [xi] at h
  split at h
  ·rename_i hc
   refine ⟨?_,CV ht hl hz hN h⟩
   simp only [Bool.or_eq_true] at hc
   rcases hc with (hc | hc) | hc
   ·exact qh hl hc
   ·rw [Lin.beq_eq hc,Lin.aB]; omega
   ·exact ND ht hN hc
  ·cases h
def xj (l : List Lin) : List Lin → Bool
 | [] => true
 | e :: r => match oG l e with | true => xj l r | false => false
theorem CW {ρ : Ro} {l : List Lin} (hl : aR ρ l) : ∀ {m : List Lin},xj l m = true → aR ρ m
 | [],_ => trivial
 | e :: r,h => by
  simp only [xj] at h
  split at h
  ·rename_i hc; exact ⟨qh hl hc,CW hl h⟩
  ·cases h
def MF (P : Program) (R : ij) (is : List Nat) (m : List Lin) : Bool := match xj R.lin m with
 | true => true
 | false => match GZ 0 is with | true => xi P R m | false => false
structure PL (P : Program) (T : TypeId) (s : Spec) (is : List Nat) (parts : List (Option Nat)) (kinds : List RK) : Prop where
 tab : s.tab = []
 prs : s.prs = []
 row : (eM (cS is (cks P T)) 0).isSome = true
 args : s.args = ja parts (xh (cS is (cks P T))).cells
 tys : AB (xh (cS is (cks P T))).tys s.tys = true
 lin : MF P (xh (cS is (cks P T))) is s.lin = true
 gW : AD kinds s.gW = true
theorem oK {P : Program} {B : Pr} {s : Spec} {T : TypeId} {is : List Nat} {parts : List (Option Nat)} {kinds : List RK} (hK : aC P B s) (h : PL P T s is parts kinds) {w : World} {row : List PV} {vs : List Value} (hld : dq P w) (hw : Ty P T row) (hc : Cw w 0 row vs) (hN : rz row ≤ 2097152) :
  Ret P s.fn (dO parts (cS is vs)) w fun v w' => Ch (fun _ => False) w w' ∧ ∃ us,v = mkv us ∧ eQ P w' w.heap.size kinds us := by
 obtain ⟨ρ,hρ⟩ := nX (P := P) (cS is (cks P T)) 0 _ (cS is row) (fun _ => default) (KO h.row) (CS hw is) ER
 have hlin : aR ρ s.lin := by
  have hi := h.lin
  unfold MF at hi
  split at hi
  ·rename_i h1; exact CW hρ.lin h1
  ·split at hi
   ·rename_i h1
    have := EV row is 0 h1
    rw [List.drop_zero] at this
    exact CV hρ.tys hρ.lin (by rw [hρ.rz]; omega) (by rw [hρ.cells]; omega) hi
   ·cases hi
 have hpre : s.pre.ok P B ρ := ⟨hρ.g,EP hρ.tys h.tys,hlin,by simp only [Spec.pre,h.prs]; trivial⟩
 refine (IJ hK hpre h.tab (w := w) hld (vals := dO parts (cS is vs)) (by rw [h.args]; exact qf parts _ _ (by rw [hρ.cells]; exact hc.pick is))).mono ?_
 rintro v w' ⟨hch,p,hp,ρ',E',hok,hv⟩
 exact ⟨hch,PD (I := B) hok.g hok.tys hok.lin (zI h.gW p hp) hv⟩
theorem eQ.nil {P : Program} {w : World} {lo : Nat} {us : List Value} (h : eQ P w lo [] us) : us = [] := by
 cases us with
 | nil => rfl
 | cons u us => exact h.elim
theorem eQ.skip {P : Program} {w : World} {lo : Nat} {r : List RK} {us : List Value} (h : eQ P w lo (none :: r) us) : ∃ u us',us = u :: us' ∧ eQ P w lo r us' := by
 cases us with
 | nil => exact h.elim
 | cons u us => exact ⟨u,us,rfl,h⟩
theorem eQ.take {P : Program} {w : World} {lo : Nat} {ag : Bool} {ks : List CK} {r : List RK} {us : List Value} (h : eQ P w lo (some (ag,ks) :: r) us) : ∃ row vs us',us = pk ag vs :: us' ∧ Cw w lo row vs ∧ WTs P ks row ∧ eQ P w lo r us' := by
 cases us with
 | nil => exact h.elim
 | cons u us =>
  obtain ⟨⟨row,vs,rfl,h1,h2⟩,h3⟩ := h
  exact ⟨row,vs,us,rfl,h1,h2,h3⟩
theorem oL {l vs : List Value} (off n : Nat) (h : (l.drop off).take n = vs) : ∀ (j : Nat) (v : Value),vs[j]? = some v → l.toArray[off + j]? = some v := by
 intro j v hj
 subst h
 rw [List.getElem?_take] at hj
 split at hj
 ·simpa [List.getElem?_drop] using hj
 ·cases hj
theorem MG {P : Program} {o : Oper} {n : Nat} {sl : cj} {a : Act} {w : World} {f : Fn} {first caps : Array Operand} {us vs : List Value} (h : SL n sl a) (ho : o.op = .makeFunc f first caps) (e1 : evs sl first.toList = some us) (e2 : evs sl caps.toList = some vs) :
  (execOp a.eval o).run P w = .ok (.value (.func f us.toArray vs.toArray)) w := by
 rw [A2 h ho e1 e2]; rfl
theorem tF {T : TypeId} {zs us : List Value} (w : World) (hl : us.length = zs.length) :
  Ch (fun _ => False) w ((w.alloc (.cells zs.toArray T)).setRow w.heap.size (spl zs.toArray.toList 0 us).toArray) ∧
   ((w.alloc (.cells zs.toArray T)).setRow w.heap.size (spl zs.toArray.toList 0 us).toArray).heap[w.heap.size]? = some (.cells us.toArray T (0,0)) := by
 have h1 := Ch.alloc (fun _ => False) w (.cells zs.toArray T)
 have h2 := Ch.setRow (w.alloc (.cells zs.toArray T)) w.heap.size (spl zs.toArray.toList 0 us).toArray
 have hb : (w.alloc (.cells zs.toArray T)).heap[w.heap.size]? = some (.cells zs.toArray T (0,0)) := heap_alloc_new w (.cells zs.toArray T)
 refine ⟨h1.trans' h2 fun b hb' h => by omega,?_⟩
 have h : spl zs.toArray.toList 0 us = us := by simp [spl,hl]
 rw [h]
 exact setRow_heap _ _ _ us.toArray _ _ hb
end Go.TL.H
namespace Go.TL.H
open Go
theorem gi {P : Program} {B : Pr} {s : Spec} (hz : s.nz = true) (h : ∀ ρ,s.pre.ok P B ρ → FnS P s.fn (dvs ρ s.args) (aG ρ s.tab) (jM P B s ρ)) : aC P B s := ⟨hz,fun _ ρ hok _ => h ρ hok⟩
theorem G4 {P : Program} {B : Pr} {s : Spec} (hz : s.nz = true) (htab : s.tab = [])
  (h : ∀ ρ,s.pre.ok P B ρ → ∀ (w : World) (E : Env) (lo : Nat) (vals : List Value),oU P lo w E → VRs w E lo (dvs ρ s.args) vals → Ret P s.fn vals w fun v w' => Ch (fun _ => False) w w' ∧ v.oneCell' = true ∧ jM P B s ρ (.p (.v v) true) []) : aC P B s := by
 refine gi hz fun ρ hpre => ?_
 intro lo w E vals hlo ht hv
 refine Calls.mono (h ρ hpre w E lo vals hlo hv) ?_
 rintro e w' ⟨v,rfl,hch,h1,hp⟩
 rw [htab] at ht
 refine ⟨.p (.v v) true,v,[],E,rfl,hp,⟨hch.os,hch.tape,hch.output,hch.size,fun b hb hn => ⟨hch.keep b hb fun h => h,hn⟩,rfl⟩,?_,.v _ h1,fun k x hx => .inl hx⟩
 exact ⟨fun k ov hk => by simp [lk] at hk,fun k _ => ht.dead k (by simp [lk,aG]),fun b k hk => by
  have := ht.own b k hk
  exact absurd rfl this.2.2,fun b hb => ⟨Nat.lt_of_lt_of_le (ht.ext b hb).1 hch.size,(ht.ext b hb).2⟩⟩
theorem KP {P : Program} {B : Pr} {s : Spec} {ρ : Ro} {x : DP} {v : Value} {lin : List Lin} (va : Va) (hok : s.pre.ok P B ρ) (hp : s.gW = [⟨1,[],lin,[],[],[.p x true]⟩]) (hva : ig va) (hl : aR (up ρ s.nv va) lin) (hx : x.v (up ρ s.nv va) = .v v) : jM P B s ρ (.p (.v v) true) [] := by
 refine ⟨(⟨1,[],lin,[],[],[.p x true]⟩ : TL.bh),by rw [hp]; exact List.mem_singleton.2 rfl,up ρ s.nv va,bR _ _ _ _ (Nat.le_refl _),⟨hok.g.up _ hva,trivial,hl,trivial⟩,?_,rfl⟩
 simp [dmk,DV.v,hx]
theorem KQ {s : ByteArray} (h : s.size = 1) : ∃ c,s = ⟨#[c]⟩ := by
 obtain ⟨⟨l⟩⟩ := s
 match l,h with
 | [c],_ => exact ⟨c,rfl⟩
theorem yD {P : Program} {f : Nat} {g : ByteArray → UInt8 → Bool} (h : ∀ (s : ByteArray) (c : UInt8) (w : World),Calls P f #[.string s,.string ⟨#[c]⟩] w fun e w' => e = .returned (.bool (g s c)) ∧ w' = w) :
  aC P aH ⟨f,2,[.p (.st (.var 0)) true,.p (.st (.var 1)) true],[],[],[⟨-1,[(7,1)]⟩,⟨1,[(7, -1)]⟩],[],⟨0,[]⟩,[⟨1,[],[],[],[],[.p (.bl (.var 2)) true]⟩]⟩ := by
 refine G4 rfl rfl fun ρ hok w E lo vals _ hv => ?_
 match vals,hv with
 | [v0,v1],hv =>
  simp only [dvs,VRs] at hv
  have e0 := cf hv.1
  have e1 := cf hv.2.1
  subst e0; subst e1
  have hl := hok.lin
  simp only [Spec.pre,aR,Lin.v,bO,aN] at hl
  obtain ⟨c,hc⟩ := KQ (s := (ρ 1).s) (by have h1 := hl.1; have h2 := hl.2.1; simp at h1 h2; omega)
  simp only [SE.v,hc]
  refine Calls.mono (h (ρ 0).s c w) ?_
  rintro e w' ⟨rfl,rfl⟩
  exact ⟨_,rfl,Ch.refl _ _,rfl,KP (vaB _) hok rfl (nU _) trivial (by simp [DP.v,BF.v,aI,vaB]; rfl)⟩
theorem NF {S : Nat → Prop} {w : World} (k : Nat) (os : Array Obj) : Ch S w (Sort.grow (w.drewN k) os) := by
 refine ⟨rfl,rfl,rfl,by simp [Sort.grow,World.drewN],fun b hb _ => ?_⟩
 simp only [Sort.grow,World.drewN]
 rw [Array.getElem?_append_left hb]
theorem KR {P : Program} {lo : Nat} {w : World} (hu : (P.globalNamed "internal/strconv.uint64pow10").isSome = true) (h : Fg P lo w) : Lib.TabIs P w "internal/strconv.uint64pow10" .u64 Lib.pow10Tab := by
 obtain ⟨g,hg⟩ := Option.isSome_iff_exists.1 hu
 obtain ⟨_,cs,t,fz,h1,rfl⟩ := h g hg
 unfold Lib.TabIs World.var?
 simp only [hg,Option.bind_some,h1]
 simp [Lib.pow10Tab]
def G5 (l : List UInt8) : Nat := l.foldl (fun a d => 10 * a + (d.toNat - 48)) 0
theorem uk (u : Nat) : G5 (Lib.decDigits u) = u := by
 induction u using Nat.strongRecOn with
 | _ u ih =>
  rw [Lib.decDigits]
  split
  ·simp [G5]; omega
  ·have := ih (u / 10) (by omega)
   unfold G5 at this ⊢
   rw [List.foldl_append,this]
   simp; omega
def nm (pre : List UInt8) (n : Int) : ByteArray := ⟨pre.toArray⟩ ++ ⟨(Lib.itoa n).toArray⟩
theorem PM {pre : List UInt8} {m n : Int} (hm : 0 ≤ m) (hn : 0 ≤ n) (h : nm pre m = nm pre n) : m = n := by
 have h1 := congrArg (fun b : ByteArray => b.data.toList) h
 simp only [nm,ByteArray.data_append,Array.toList_append,List.append_cancel_left_eq] at h1
 unfold Lib.itoa at h1
 rw [if_neg (by omega),if_neg (by omega)] at h1
 have := congrArg G5 h1
 rw [uk,uk] at this
 omega
theorem CX : ∀ (m : Nat) (l : List Nat),l.Nodup → (∀ x ∈ l,x < m) → l.length ≤ m
 | 0,l,_,h => by
  cases l with
  | nil => simp
  | cons x l => exact absurd (h x (by simp)) (by omega)
 | m + 1,l,hn,h => by
  have := CX m (l.erase m) (hn.erase m) fun x hx => by
   have h1 := h x (List.mem_of_mem_erase hx)
   have : x ≠ m := fun e => by subst e; exact (hn.not_mem_erase) hx
   omega
  rw [List.length_erase] at this
  split at this <;> omega
theorem PN {k m : Nat} {R : Nat → Nat → Prop} (h : ∀ j,j < k → ∃ i,i < m ∧ R j i) (hR : ∀ j j' i,R j i → R j' i → j = j') : k ≤ m := by
 let f : Nat → Nat := fun j => if hj : j < k then Classical.choose (h j hj) else 0
 have hf : ∀ j,j < k → f j < m ∧ R j (f j) := fun j hj => by
  simp only [f,dif_pos hj]; exact Classical.choose_spec (h j hj)
 have h1 : ((List.range k).map f).Nodup := by
  refine List.Pairwise.map _ (R := fun a b => a < k ∧ b < k ∧ a ≠ b) (fun a b hab e => ?_) ?_
  ·have := (hf a hab.1).2
   rw [e] at this
   exact hab.2.2 (hR _ _ _ this (hf b hab.2.1).2)
  ·have := List.nodup_range (n := k)
   exact (List.Pairwise.and_mem.1 this).imp fun h => by simp at h; exact ⟨h.1,h.2.1,h.2.2⟩
 have := CX m _ h1 fun x hx => by
  obtain ⟨j,hj,rfl⟩ := List.mem_map.1 hx
  exact (hf j (by simpa using hj)).1
 simpa using this
def IT (M I ST MT B : TypeId) (it : FuncId) (pre : List UInt8) : Code :=
 (.seq (.region 0 ([⟨(some 2),.assign (.const (.string ⟨#[]⟩)),0, "", #[],none⟩] : List Oper).toArray false) (.block 0 (.loop (.block 1 (.seq (.region 0 ([⟨(some 4),.move (.tmp 0),0, "", #[],none⟩,⟨(some 5),.nilCheck (.tmp 4),0, "", #[],none⟩,⟨(some 6),.fieldAddr M (.tmp 5) 1,0, "", #[],none⟩,⟨(some 7),.load I (.tmp 6),0, "", #[],none⟩,⟨(some 8),.binOp .add I (.tmp 7) (.const (.int .i64 1)) I,0, "", #[],none⟩,⟨(some 9),.nilCheck (.tmp 4),0, "", #[],none⟩,⟨(some 10),.fieldAddr M (.tmp 9) 1,0, "", #[],none⟩,⟨none,.store I (.tmp 10) (.tmp 8),0, "", #[],none⟩] : List Oper).toArray false) (.seq (.region 0 ([⟨(some 11),.move (.tmp 0),0, "", #[],none⟩,⟨(some 12),.nilCheck (.tmp 11),0, "", #[],none⟩,⟨(some 13),.fieldAddr M (.tmp 12) 1,0, "", #[],none⟩,⟨(some 14),.load I (.tmp 13),0, "", #[],none⟩,⟨(some 15),.call ⟨(.value (.func it)), #[(.tmp 14)], #[]⟩,0, "", #[],none⟩,⟨(some 16),.binOp .add ST (.const (.string ⟨pre.toArray⟩)) (.tmp 15) ST,0, "", #[],none⟩,⟨(some 3),.assign (.tmp 16),0, "", #[],none⟩] : List Oper).toArray false) (.seq (.region 0 ([⟨(some 17),.move (.tmp 0),0, "", #[],none⟩,⟨(some 18),.nilCheck (.tmp 17),0, "", #[],none⟩,⟨(some 19),.fieldAddr M (.tmp 18) 0,0, "", #[],none⟩,⟨(some 20),.load MT (.tmp 19),0, "", #[],none⟩,⟨(some 21),.move (.tmp 3),0, "", #[],none⟩,⟨(some 22),.lookup MT (.tmp 20) (.tmp 21) false,0, "", #[],none⟩,⟨(some 23),.unOp .not B (.tmp 22),0, "", #[],none⟩] : List Oper).toArray false) (.cond (.tmp 23) (.seq (.region 0 ([⟨(some 24),.move (.tmp 0),0, "", #[],none⟩,⟨(some 25),.nilCheck (.tmp 24),0, "", #[],none⟩,⟨(some 26),.fieldAddr M (.tmp 25) 0,0, "", #[],none⟩,⟨(some 27),.load MT (.tmp 26),0, "", #[],none⟩,⟨(some 28),.move (.tmp 3),0, "", #[],none⟩,⟨none,.mapUpdate MT (.tmp 27) (.tmp 28) (.const (.bool true)),0, "", #[],none⟩] : List Oper).toArray false) (.seq (.region 0 ([⟨(some 29),.move (.tmp 3),0, "", #[],none⟩,⟨(some 2),.assign (.tmp 29),0, "", #[],none⟩] : List Oper).toArray false) .ret)) .skip))))))))
theorem G6 {P : Program} {w : World} {t kt et : TypeId} {b : Nat} {es : Array MapEntry} {clock : Nat} {z : Value} {s : ByteArray} (ht : P.underlying t = some (.map kt et)) (hk : P.underlying kt = some .string)
  (hb : w.heap[b]? = some (.map es clock)) (hks : ∀ x ∈ es.toList,MapKept.IsKey .string x.key) (hz : (zeroValue et).run P w = .ok z w) :
  (∃ (i : Nat) (e : MapEntry),es[i]? = some e ∧ e.key = .string s ∧ (Instr.lookup t (.map (some b)) (.string s) false).run P w = .ok e.val w) ∨ (Instr.lookup t (.map (some b)) (.string s) false).run P w = .ok z w := by
 rcases MapKept.findNow_spec (d := .string) (k := .string s) trivial es.toList 0 hks with ⟨h1,h2⟩ | ⟨j,e,h1,h2,h3⟩
 ·refine .inr ?_
  simp [Instr.lookup,run_underlying ht,MapKept.run_getObj_map hb,MapKept.run_checkKey hk (d := .string) (k := .string s) trivial,MapKept.run_findKey hk h1,hz,Result.andThen]
 ·refine .inl ⟨j,e,by simpa using h2,h3,?_⟩
  simp [Instr.lookup,run_underlying ht,MapKept.run_getObj_map hb,MapKept.run_checkKey hk (d := .string) (k := .string s) trivial,MapKept.run_findKey hk h1,Result.andThen]
theorem qi {v : Value} {cs : List Value} : ∀ (j : Nat) u,[v][j]? = some u → (v :: cs).toArray[0 + j]? = some u := by
 intro j u h
 cases j with
 | zero => simpa using h
 | succ j => simp at h
theorem PO {v u0 : Value} {cs : List Value} : ∀ (j : Nat) u,[v][j]? = some u → (u0 :: v :: cs).toArray[1 + j]? = some u := by
 intro j u h
 cases j with
 | zero => simpa using h
 | succ j => simp at h
theorem jy {w : World} {b : Nat} {o : Obj} (h : b < w.heap.size) : Ch (· = b) w { w with heap := w.heap.setIfInBounds b o } ∧ ({ w with heap := w.heap.setIfInBounds b o } : World).heap[b]? = some o :=
 ⟨⟨rfl,rfl,rfl,by simp,fun c _ hn => by simp [Ne.symm hn]⟩,by simp [h]⟩
theorem IU {P : Program} {f : FuncId} {M I ST MT B : TypeId} {it : FuncId} {pre : List UInt8} (hB : Body P f 30 [.tmp 2] (IT M I ST MT B it pre)) (hpre : pre.length ≤ 40) (f1 : bM P M 1 = some (1,1)) (f0 : bM P M 0 = some (0,1)) (hI : Tp P I false 1) (hM : Tp P MT false 1)
  (hu : P.underlying MT = some (.map ST B)) (hs : P.underlying ST = some .string) (hz : ∀ w,(zeroValue B).run P w = .ok (.bool false) w) (hok : aE P it = true)
  (hit : ∀ (n : Int), -9223372036854775808 ≤ n → n ≤ 9223372036854775807 → ∀ w : World,Lib.TabIs P w "internal/strconv.uint64pow10" .u64 Lib.pow10Tab → Calls P it #[.int .i64 n] w fun e w' => e = .returned (.string ⟨(Lib.itoa n).toArray⟩) ∧ ∃ k os,w' = Sort.grow (w.drewN k) os)
  {w : World} {b bm : Nat} {t : TypeId} {n : Int} {es : Array MapEntry} {clock : Nat} (hb : w.heap[b]? = some (.cells #[.map (some bm),.int .i64 n] t (0,0))) (hm : w.heap[bm]? = some (.map es clock)) (hks : ∀ x ∈ es.toList,MapKept.IsKey .string x.key) (hvs : ∀ (i : Nat) e,es[i]? = some e → ∃ c,e.val = .bool c)
  (hn0 : 0 ≤ n) (hn : n ≤ 4611686018427387904) (hsz : es.size ≤ 1073741824) (ht : ∀ w',Ch (fun c => c = b ∨ c = bm) w w' → Lib.TabIs P w' "internal/strconv.uint64pow10" .u64 Lib.pow10Tab) :
  Ret P f [Ptr b 0] w fun v w' => ∃ s k es' clock',v = .string s ∧ s.size ≤ 64 ∧ 1 ≤ k ∧ k ≤ (es.size : Int) + 1 ∧ Ch (fun c => c = b ∨ c = bm) w w' ∧ w'.heap[b]? = some (.cells #[.map (some bm),.int .i64 (n + k)] t (0,0)) ∧ w'.heap[bm]? = some (.map es' clock') ∧
   (es' = es.push { key := .string s,val := .bool true,born := clock } ∨ ∃ (j : Nat) (e : MapEntry),es[j]? = some e ∧ es' = es.modify j fun e => { e with key := .string s,val := .bool true }) := by
 have hne : b ≠ bm := fun e => by subst e; rw [hb] at hm; cases hm
 refine bW hB ?_
 have hs0 := SL.init (n := 30) [Ptr b 0] rfl
 revert hs0
 generalize ({ tmps := _,defers := [] } : Act) = a
 intro hs0
 refine ae (aa ?_)
 refine L hs0 rfl rfl (ah hs0 (.inr rfl) rfl) fun a hs1 => ?_
 refine Le (bD (dY (fun m a w1 => SL 30 [(0,Ptr b 0)] a ∧ ∃ k : Nat,m + k = es.size + 1 ∧ Ch (fun c => c = b ∨ c = bm) w w1 ∧ w1.heap[b]? = some (.cells #[.map (some bm),.int .i64 (n + k)] t (0,0)) ∧ w1.heap[bm]? = some (.map es clock) ∧
  ∀ j,j < k → ∃ (i : Nat) (e : MapEntry),es[i]? = some e ∧ e.key = .string (nm pre (n + (j + 1 : Nat)))) (es.size + 1) ⟨hs1.keep [0],0,rfl,Ch.refl _ _,by simpa using hb,hm,by simp⟩ ?_))
 rintro m a w1 ⟨h0,k,hmk,hch,h1,h2,h3⟩
 have hk : k ≤ es.size := PN (R := fun j i => ∃ e : MapEntry,es[i]? = some e ∧ e.key = .string (nm pre (n + (j + 1 : Nat)))) (fun j hj => by
  obtain ⟨i,e,h4,h5⟩ := h3 j hj
  exact ⟨i,(Array.getElem?_eq_some_iff.1 h4).1,e,h4,h5⟩) (by
  rintro j j' i ⟨e,h4,h5⟩ ⟨e',h4',h5'⟩
  rw [h4] at h4'; cases h4'
  rw [h5] at h5'
  have := PM (by omega) (by omega) (Value.string.inj h5')
  omega)
 refine bD (ae (aa ?_))
 refine L h0 rfl rfl (ah h0 (.inl rfl) rfl) fun a h0 => ?_
 refine L h0 rfl rfl (bB h0 rfl rfl) fun a h0 => ?_
 refine L h0 rfl rfl (bE h0 rfl rfl f1) fun a h0 => ?_
 refine L h0 rfl rfl (cY [.int .i64 (n + k)] h0 rfl rfl hI rfl h1 PO) fun a h0 => ?_
 refine L h0 rfl rfl (b9 h0 rfl rfl rfl rfl) fun a h0 => ?_
 rw [dZ (by omega) (by omega)] at h0
 refine L h0 rfl rfl (bB h0 rfl rfl) fun a h0 => ?_
 refine L h0 rfl rfl (bE h0 rfl rfl f1) fun a h0 => ?_
 refine Ls h0 rfl rfl (kM [.int .i64 (n + k + 1)] h0 rfl rfl rfl hI rfl (by simp [Value.oneCell']) h1 (by simp)) fun h0 => ?_
 have g1 := Ch.setRow w1 b (spl [.map (some bm),.int .i64 (n + k)] (0 + 1) [.int .i64 (n + k + 1)]).toArray
 have e1 := setRow_heap w1 b _ (spl [.map (some bm),.int .i64 (n + k)] (0 + 1) [.int .i64 (n + k + 1)]).toArray _ _ h1
 have e2 := g1.at h2 (Ne.symm hne)
 have g2 := hch.trans' (S' := (· = b)) g1 (fun c _ h => .inl h)
 generalize World.setRow w1 b _ = w2 at g1 e1 e2 g2 ⊢
 refine Le (ae (aa ?_))
 have e1' : w2.heap[b]? = some (.cells #[.map (some bm),.int .i64 (n + k + 1)] t (0,0)) := e1
 refine L h0 rfl rfl (ah h0 (.inl rfl) rfl) fun a h0 => ?_
 refine L h0 rfl rfl (bB h0 rfl rfl) fun a h0 => ?_
 refine L h0 rfl rfl (bE h0 rfl rfl f1) fun a h0 => ?_
 refine L h0 rfl rfl (cY [.int .i64 (n + k + 1)] h0 rfl rfl hI rfl e1' PO) fun a h0 => ?_
 refine Lc (vs := [.int .i64 (n + k + 1)]) (R := fun v w' => v = .string ⟨(Lib.itoa (n + k + 1)).toArray⟩ ∧ ∃ k os,w' = Sort.grow (w2.drewN k) os) h0 rfl rfl rfl rfl rfl hok (Calls.mono (hit (n + k + 1) (by omega) (by omega) w2 (ht _ g2)) fun e w' h => ⟨_,h.1,rfl,h.2⟩) fun v w3 a hv h0 => ?_
 obtain ⟨rfl,q,os,rfl⟩ := hv
 have g3 := NF (S := fun _ => False) (w := w2) q os
 have e3 := g3.at e1' fun h => h
 have e4 := g3.at e2 fun h => h
 have g4 := g2.trans' g3 (fun _ _ h => h.elim)
 generalize Sort.grow (w2.drewN q) os = w3 at g3 e3 e4 g4 h0 ⊢
 have hl := Lib.itoa_length_le (n + k + 1) (by omega) (by omega)
 have hsz1 : (⟨(Lib.itoa (n + k + 1)).toArray⟩ : ByteArray).size = (Lib.itoa (n + k + 1)).length := by simp [ByteArray.size]
 have hsz2 : (⟨pre.toArray⟩ : ByteArray).size = pre.length := by simp [ByteArray.size]
 refine L h0 rfl rfl (Mh h0 rfl rfl rfl (by rw [hsz1,hsz2]; omega)) fun a h0 => ?_
 refine L h0 rfl rfl (ah h0 (.inr rfl) rfl) fun a h0 => ?_
 have hnm : (⟨pre.toArray⟩ : ByteArray) ++ ⟨(Lib.itoa (n + k + 1)).toArray⟩ = nm pre (n + (k + 1 : Nat)) := by
  unfold nm; rw [show n + ((k + 1 : Nat) : Int) = n + k + 1 by omega]
 have hnz : (nm pre (n + (k + 1 : Nat))).size ≤ 64 := by rw [← hnm,ByteArray.size_append,hsz1,hsz2]; omega
 rw [hnm] at h0
 generalize hsn : nm pre (n + (k + 1 : Nat)) = s at h0 hnz
 refine Le (ae (aa ?_))
 refine L h0 rfl rfl (ah h0 (.inl rfl) rfl) fun a h0 => ?_
 refine L h0 rfl rfl (bB h0 rfl rfl) fun a h0 => ?_
 refine L h0 rfl rfl (bE h0 rfl rfl f0) fun a h0 => ?_
 refine L h0 rfl rfl (cY [.map (some bm)] h0 rfl rfl hM rfl e3 qi) fun a h0 => ?_
 refine L h0 rfl rfl (ah h0 (.inl rfl) rfl) fun a h0 => ?_
 have step : ∃ c : Bool,(c = true → ∃ (i : Nat) (e : MapEntry),es[i]? = some e ∧ e.key = .string s) ∧ (Instr.lookup MT (.map (some bm)) (.string s) false).run P w3 = .ok (.bool c) w3 := by
  rcases G6 (P := P) (w := w3) (s := s) hu hs e4 hks (hz w3) with ⟨i,e,h5,h6,h7⟩ | h7
  ·obtain ⟨c,hc⟩ := hvs i e h5
   rw [hc] at h7
   exact ⟨c,fun _ => ⟨i,e,h5,h6⟩,h7⟩
  ·exact ⟨false,fun h => (by cases h),h7⟩
 obtain ⟨c,hc,hrun⟩ := step
 refine L h0 rfl rfl (v := .bool c) (w' := w3) (by simp [execOp,show a.eval (.tmp 20) = .map (some bm) from h0.ev rfl,show a.eval (.tmp 21) = .string s from h0.ev rfl,hrun]) fun a h0 => ?_
 refine L h0 rfl rfl (pB h0 rfl rfl) fun a h0 => ?_
 refine Le (br (t := !c) (h0.ev rfl) (fun hc' => ?_) (fun hc' => ?_))
 ·refine ae (aa ?_)
  refine L h0 rfl rfl (ah h0 (.inl rfl) rfl) fun a h0 => ?_
  refine L h0 rfl rfl (bB h0 rfl rfl) fun a h0 => ?_
  refine L h0 rfl rfl (bE h0 rfl rfl f0) fun a h0 => ?_
  refine L h0 rfl rfl (cY [.map (some bm)] h0 rfl rfl hM rfl e3 qi) fun a h0 => ?_
  refine L h0 rfl rfl (ah h0 (.inl rfl) rfl) fun a h0 => ?_
  obtain ⟨es',cl',hrun2,hes⟩ := gX (P := P) (w := w3) (v := .bool true) (s := s) hu hs e4 hks
  obtain ⟨g5,e5⟩ := jy (w := w3) (b := bm) (o := .map es' cl') (aJ e4)
  refine Ls (w' := { w3 with heap := w3.heap.setIfInBounds bm (.map es' cl') }) h0 rfl rfl (by simp [execOp,show a.eval (.tmp 27) = .map (some bm) from h0.ev rfl,show a.eval (.tmp 28) = .string s from h0.ev rfl,show a.eval (.const (.bool true)) = .bool true from rfl,hrun2]) fun h0 => ?_
  have e6 := g5.at e3 hne
  have g6 := g4.trans' g5 (fun _ _ h => .inr h)
  refine Le (ae (aa ?_))
  refine L h0 rfl rfl (ah h0 (.inl rfl) rfl) fun a h0 => ?_
  refine L h0 rfl rfl (ah h0 (.inr rfl) rfl) fun a h0 => ?_
  refine Le (cW (eK h0 rfl ⟨s,k + 1,es',cl',rfl,hnz,by omega,by omega,g6,by rw [show n + ((k : Int) + 1) = n + k + 1 by omega]; exact e6,e5,hes⟩))
 ·refine bA ⟨m - 1,by omega,h0.keep [0],k + 1,by omega,g4,by rw [show n + ((k + 1 : Nat) : Int) = n + k + 1 by omega]; exact e3,e4,fun j hj => ?_⟩
  rcases Nat.lt_succ_iff_lt_or_eq.1 hj with hj | rfl
  ·exact h3 j hj
  ·rw [hsn]; exact hc (by simpa using hc')
end Go.TL.H
