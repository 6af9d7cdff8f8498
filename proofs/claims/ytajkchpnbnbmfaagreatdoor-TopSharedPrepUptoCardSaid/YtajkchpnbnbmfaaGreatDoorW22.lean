/- Maps of strings and chains: what operations on them make of a state. -/
import Derived.Test.YtajkchpnbnbmfaaGreatDoorW20
import Derived.Test.YtajkchpnbnbmfaaGreatDoorW21
import Derived.Laws.StructEq
import Derived.Lib.SliceRun
import Derived.ChangeKeysEq
namespace Go.TL
theorem aM.of {P : Program} {I : Pr} {n : Nat} {o : Oper} {σ : DSt} {outs : List DSt} (hsc : σ.sc → ∀ σ' ∈ outs,σ'.sc ∧ σ.nx ≤ σ'.nx)
  (h : σ.sc → ∀ ρ,σ.ok P I ρ → ∀ (C : Ctx) (E : Env) (a : Act) (w : World),C.P = P → au C E (σ.v ρ) a w → aV C o → ∃ σ' ∈ outs, ∃ ρ' s,ao σ.nx ρ ρ' ∧ σ'.ok P I ρ' ∧ bs C o s a w ∧ bu s (σ'.v ρ')) : aM P I n o σ outs := by
 intro hs
 refine ⟨hsc hs,?_⟩
 intro ρ hok K Q lo w0 E0 hK a w ⟨E,hh⟩ hd
 obtain ⟨σ',hm,ρ',s,ha,hok',⟨v,w',hrun,hH⟩,hS⟩ := h hs ρ hok (mkC P n lo w0 E0) E a w rfl hh hd
 unfold Oper.wp
 rcases hrun with hrun | ⟨hrun,rfl⟩
 ·change Sem.run P _ _ = _ at hrun
  rw [hrun]; exact hK σ' hm ρ' ha hok' _ _ (hS.holds hH)
 ·change Sem.run P _ _ = _ at hrun
  rw [hrun]; exact hK σ' hm ρ' ha hok' _ _ (hS.holds hH)
def Cv (P : Program) (t : TypeId) : Option (TypeId × TypeId × Option Nat × Value) :=
 match P.underlying t with
 | some (.map kt et) => match P.underlying kt,P.info? et,ew P et with
  | some .string,some i,some ag => match i.zero with
   | some z => some (kt,et,(match ag with | true => some i.size | false => none),z)
   | none => none
  | _,_,_ => none
 | _ => none
theorem EE {P : Program} {t kt et : TypeId} {q : Option Nat} {z : Value} (h : Cv P t = some (kt,et,q,z)) : P.underlying t = some (.map kt et) ∧ P.underlying kt = some .string ∧ ∀ w,(zeroValue et).run P w = .ok z w := by
 unfold Cv at h
 split at h
 ·rename_i k e hu
  split at h
  ·rename_i i ag hk hi _
   cases hz : i.zero with
   | none => rw [hz] at h; cases h
   | some z0 =>
    simp only [hz,Option.some.injEq,Prod.mk.injEq] at h; obtain ⟨rfl,rfl,_,rfl⟩ := h
    exact ⟨hu,hk,fun w => by simp [zeroValue,typeInfo,hi,hz]⟩
  ·cases h
 ·cases h
def mE (et : TypeId) : TypeId := et + 1000000
def cE (t : TypeId) : TypeId := t + 2000000
def Cx (σ : DSt) (e : TypeId) : LV → Bool
 | none => true
 | some k => match lk σ.tys k with | some e' => Nat.beq e e' | none => false
theorem Cy {P : Program} {I : Pr} {σ : DSt} {ρ : Ro} (hok : σ.ok P I ρ) {e : TypeId} : ∀ {l : LV},Cx σ e l = true → aU P e (lvV ρ l)
 | none,_ => aU.nil
 | some k,h => by
  simp only [Cx] at h
  split at h
  ·rename_i e' hl; rw [Nat.eq_of_beq_eq_true h]; exact c7 hok.tys hl
  ·cases h
def Cz (σ : DSt) : DV → Option (Option Nat × LV × Bool)
 | .ref k => match lk σ.tab k with | some (.mp q l fr) => some (q,l,fr) | _ => none
 | .p (.mp q l) fr => some (q,l,fr)
 | _ => none
theorem KB {σ : DSt} {x : DV} {q : Option Nat} {l : LV} {fr : Bool} (ρ : Ro) (h : Cz σ x = some (q,l,fr)) : wW (σ.v ρ).tab (x.v ρ) q (lvV ρ l) fr := by
 unfold Cz at h
 split at h
 ·split at h
  ·rename_i hl
   simp only [Option.some.injEq,Prod.mk.injEq] at h; obtain ⟨rfl,rfl,rfl⟩ := h
   simp only [DV.v]; exact .own (by rw [da hl]; rfl)
  ·cases h
 ·simp only [Option.some.injEq,Prod.mk.injEq] at h; obtain ⟨rfl,rfl,rfl⟩ := h
  simp only [DV.v,DP.v]; exact .pure _ _ _
 ·cases h
def Gy : DV → Option SE
 | .p (.st e) _ => match FQ e with | true => some e | false => none
 | _ => none
theorem IC {ρ : Ro} {x : DV} {e : SE} (h : Gy x = some e) : isStr (x.v ρ) = some (e.v ρ) ∧ FQ e = true := by
 unfold Gy at h
 split at h
 ·split at h
  ·rename_i hs; simp only [Option.some.injEq] at h; subst h; exact ⟨by simp [DV.v,DP.v,isStr],hs⟩
  ·cases h
 ·cases h
def vk : Nat → List DV
 | 0 => []
 | n + 1 => .u :: vk n
theorem ID (ρ : Ro) : ∀ n,dvs ρ (vk n) = List.replicate n .u
 | 0 => by simp [vk,dvs]
 | n + 1 => by simp only [vk,dvs,DV.v,List.replicate_succ,ID ρ n]
theorem EF {m : Nat} : ∀ n,Sc m (av (vk n))
 | 0 => Sc.nil
 | n + 1 => by simp only [vk,av,DV.vars,List.nil_append]; exact EF n
def mvD (q : Option Nat) (fr : Bool) (row : List DP) : DV :=
 match q,row with
 | none,x :: _ => rN fr x
 | none,[] => .u
 | some n,row => .agg (fJ fr row ++ vk (n - row.length))
theorem Q5 (ρ : Ro) (q : Option Nat) (fr : Bool) (row : List DP) : (mvD q fr row).v ρ = mvS q fr (ak ρ row) := by
 cases q with
 | none => cases row with
  | nil => simp [mvD,DV.v,mvS,ak]
  | cons x r => simp only [mvD,mvS,ak,H4]
 | some n => simp only [mvD,mvS,DV.v,pJ,ID,sT,dh]
theorem Pv {n : Nat} {q : Option Nat} {fr : Bool} {row : List DP} (h : Sc n (bf row)) : Sc n (mvD q fr row).vars := by
 cases q with
 | none => cases row with
  | nil => exact Sc.nil
  | cons x r => simp only [bf,Sc.app] at h; cases x <;> exact h.1
 | some m => simp only [mvD,DV.vars,ns]; exact ⟨pM h,EF _⟩
def lkD (c : Bool) (x : DV) (b : Nat) : DV := match c with | true => .tup [x,.p (.bl (.var b)) true] | false => x
def CA (q : Option Nat) (z : Value) : Bool := (z.cells.toList.all (·.oneCell') && (bY q { key := z,val := z,born := 0 }).isSome) && (match q,z with | none,.agg _ => false | _,_ => true)
theorem Gz {q : Option Nat} {z : Value} (h : CA q z = true) {w : World} {bad : Nat → Prop} {lo : Nat} {s : ByteArray} (m : Nat) : jw w bad lo q (.v (.string s) :: (z.cells.toList.map (zc false)).take m) (.string s) z := by
 have key : (z.cells.toList.all (·.oneCell')) = true ∧ bY q { key := .string s,val := z,born := 0 } = some (.string s :: z.cells.toList) := by
  simp only [CA,Bool.and_eq_true] at h
  obtain ⟨⟨h1,h2⟩,h3⟩ := h
  refine ⟨h1,?_⟩
  cases q with
  | none => cases z <;> first | rfl | cases h3
  | some n =>
   cases z <;> first | (simp [bY] at h2; done) | skip
   rename_i cs
   simp only [bY] at h2 ⊢
   cases hd : decide (cs.size = n) with
   | true => rfl
   | false => rw [hd] at h2; cases h2
 refine ⟨_,key.2,fun j => (Value.string s :: z.cells.toList).getD j undef,?_⟩
 intro j x hx
 cases j with
 | zero => simp only [List.getElem?_cons_zero,Option.some.injEq] at hx; subst hx; exact ⟨rfl,.v _ rfl⟩
 | succ j =>
  simp only [List.getElem?_cons_succ,List.getElem?_take] at hx
  split at hx
  ·rw [List.getElem?_map] at hx
   obtain ⟨y,hy,rfl⟩ := Option.map_eq_some_iff.1 hx
   have h1 := List.all_eq_true.1 key.1 y (List.mem_of_getElem? hy)
   have e : (Value.string s :: z.cells.toList).getD (j + 1) undef = y := by simp [hy]
   simp only [e]
   exact ⟨by simpa using hy,AP h1⟩
  ·cases hx
def unR : List CK → List DP → List DP
 | [],xs => xs
 | _ :: _,[] => []
 | c :: cs,x :: xs => (match c with | .any => .un | _ => x) :: unR cs xs
theorem EG {ρ : Ro} : ∀ (cs : List CK) (row : List DP) (j : Nat) (y : PV),(ak ρ (unR cs row))[j]? = some y → ∃ x,(ak ρ row)[j]? = some x ∧ (y = x ∨ y = .un)
 | [],row,j,y,h => ⟨y,h,.inl rfl⟩
 | _ :: _,[],j,y,h => by simp [unR,ak] at h
 | c :: cs,x :: xs,0,y,h => by
  cases c <;> simp only [unR,ak,List.getElem?_cons_zero,Option.some.injEq] at h ⊢ <;> subst h <;> first | exact ⟨_,rfl,.inl rfl⟩ | exact ⟨_,rfl,.inr rfl⟩
 | c :: cs,x :: xs,j + 1,y,h => by
  simp only [unR,ak,List.getElem?_cons_succ] at h ⊢
  exact EG cs xs j y h
theorem jw.un {w : World} {bad : Nat → Prop} {lo : Nat} {q : Option Nat} {ρ : Ro} {s : ByteArray} {v : Value} {row : List DP} (cs : List CK) (h : jw w bad lo q (.v (.string s) :: ak ρ row) (.string s) v) :
  jw w bad lo q (.v (.string s) :: ak ρ (unR cs row)) (.string s) v := by
 obtain ⟨vs,h1,g,h2⟩ := h
 refine ⟨vs,h1,g,fun j y hy => ?_⟩
 cases j with
 | zero => exact h2 0 y hy
 | succ j =>
  simp only [List.getElem?_cons_succ] at hy
  obtain ⟨x,hx,hxy⟩ := EG cs row j y hy
  obtain ⟨e1,e2⟩ := h2 (j + 1) x (by simpa using hx)
  rcases hxy with rfl | rfl
  ·exact ⟨e1,e2⟩
  ·exact ⟨e1,.un _ e2.one⟩
def GA (P : Program) (σ : DSt) (o : Oper) (t : TypeId) (m x : Operand) (c : Bool) : aQ :=
 match Cv P t,Cz σ (dev σ m),Gy (dev σ x) with
 | some (_,et,q,z),some (q',l,fr),some _ => match fb q q',Cx σ (mE et) l,CA q z,cks P (mE et) with
  | true,true,true,.str :: cs => match eM cs σ.nx,dty σ.tys cs (unR cs ((fF z.cells.toList).take cs.length)) with
   | some R,some gs => some ([(σ.grow (R.nx - σ.nx + 1) R.tys R.lin []).put o.dst (lkD c (mvD q fr R.cells) R.nx)],todo σ gs)
   | _,_ => none
  | _,_,_,_ => none
 | _,_,_ => none
theorem GB {P : Program} {I : Pr} {n : Nat} {σ : DSt} {o : Oper} {t : TypeId} {m x : Operand} {c : Bool} {outs : List DSt} {q : List Seq} (ho : o.op = .lookup t m x c) (h : GA P σ o t m x c = some (outs,q)) (hV : Valid P I q) : aM P I n o σ outs := by
 unfold GA at h
 split at h
 ·rename_i kt et qq z q' l fr e ht hm hx
  split at h
  ·rename_i cs hq hl hz hcs
   split at h
   ·rename_i R gs hR hty
    simp only [Option.some.injEq,Prod.mk.injEq] at h; obtain ⟨rfl,rfl⟩ := h
    have := dJ hq; subst this
    have hRs := lp cs σ.nx R hR
    have hn : σ.nx + (R.nx - σ.nx + 1) = R.nx + 1 := by have := hRs.le; omega
    have hlk : ∀ fr,Sc (R.nx + 1) (lkD c (mvD qq fr R.cells) R.nx).vars := by
     intro fr
     have h1 : Sc (R.nx + 1) (mvD qq fr R.cells).vars := Pv (hRs.cells.mono (Nat.le_succ _))
     cases c with
     | false => exact h1
     | true => simp only [lkD,DV.vars,av,DP.vars,BF.vars,Sc.app,Sc.cons]; exact ⟨h1,⟨Nat.lt_succ_self _,Sc.nil⟩,Sc.nil⟩
    have hg : fT (σ.nx + (R.nx - σ.nx + 1)) R.tys R.lin [] := by
     rw [hn]; exact ⟨fun k e hk => Nat.lt_succ_of_lt (hRs.tys k e hk),fun e he => (hRs.lin e he).mono (Nat.le_succ _),by simp⟩
    refine aM.of (fun hs => ?_) fun hs ρ hok C E a w hC hh hd => ?_
    ·intro σ' hσ'
     simp only [List.mem_singleton] at hσ'; subst hσ'
     refine ⟨(hs.grow hg).put o.dst ?_,by rw [cC]; exact Nat.le_add_right _ _⟩
     simp only [DSt.grow,hn]; exact hlk fr
    ·obtain ⟨h1,h2,h3⟩ := EE ht
     have hty' := dz (P := P) hok.g hok.tys cs _ gs hty (fk hok hV)
     have hrow0 : ak ρ ((fF z.cells.toList).take cs.length) = (z.cells.toList.map (zc false)).take cs.length := by rw [fV,BK]
     have hrows := Cy hok hl
     obtain ⟨y,row,b,hrow,hout⟩ := IB (C := C) ho hh hd (hC ▸ h1) (hC ▸ h2) (hC ▸ h3 w) (by rw [aA]; exact KB ρ hm) (qb.of hcs hrows.2) (by rw [aA]; exact (IC hx).1)
      ((hrow0 ▸ Gz (w := w) (bad := E.bad) (lo := flo C.lo fr) hz cs.length).un cs)
     have hw : WTs P cs row := by
      rcases hrow with rfl | hrow
      ·exact hty'
      ·have := Ty.to hcs (hrows.2 _ hrow); exact (fP this).elim fun _ ⟨_,e,_,h⟩ => by cases e; exact h
     obtain ⟨ρ1,r⟩ := nX (P := P) cs σ.nx R row ρ hR hw hok.g
     let ρ' := up ρ1 R.nx (vaB b)
     have ag1 : ao R.nx ρ1 ρ' := bR _ _ _ _ (Nat.le_refl _)
     have ag : ao σ.nx ρ ρ' := r.ag.trans ag1 hRs.le
     have okk : (σ.grow (R.nx - σ.nx + 1) R.tys R.lin []).ok P I ρ' := hok.grow hs ag (r.g.up _ (nU b)) ((rI ag1 hRs.tys).2 r.tys) ((nT ag1 hRs.lin).2 r.lin) trivial
     refine ⟨_,List.mem_cons_self ..,ρ',_,ag,okk.put _ _,hout,?_⟩
     rw [dy]
     have e1 : (lkD c (mvD qq fr R.cells) R.nx).v ρ' = lkS c (mvS qq fr row) b := by
      have e2 : (mvD qq fr R.cells).v ρ' = mvS qq fr row := by rw [Q5,gH ag1 hRs.cells,r.cells]
      cases c with
      | false => exact e2
      | true =>
       have e3 : (ρ' R.nx).b = b := by simp only [ρ',aI]; rfl
       simp only [lkD,lkS,DV.v,dvs,e2,DP.v,BF.v,e3]
     rw [e1]
     exact bu.put (DSt.eb hs ag) _ _
   ·cases h
  ·cases h
 ·cases h
theorem KC {P : Program} {I : Pr} {σ : DSt} {ρ : Ro} (hs : σ.sc) (hok : σ.ok P I ρ) {e : TypeId} {lin : List Lin} {rows : List (List PV)} (ht : aU P e rows)
  (hl : aR (up ρ σ.nx (vaL rows)) lin) : ao σ.nx ρ (up ρ σ.nx (vaL rows)) ∧ (σ.grow 1 [(σ.nx,e)] lin []).ok P I (up ρ σ.nx (vaL rows)) ∧ lvV (up ρ σ.nx (vaL rows)) (some σ.nx) = rows := by
 have ag := bR ρ σ.nx σ.nx (vaL rows) (Nat.le_refl _)
 exact ⟨ag,hok.grow hs ag (hok.g.up _ (ej ht.len)) ⟨by rw [aI]; exact ht,trivial⟩ hl trivial,by simp only [lvV,aI]; rfl⟩
def DSt.addRef (σ : DSt) (d : Nat) (ov : DO) : DSt := { σ with ab := (d,.ref d) :: σ.ab,tab := (d,ov) :: σ.tab }
def vm (P : Program) (σ : DSt) (o : Oper) (t : TypeId) : aQ :=
 match Cv P t,o.dst with
 | some (_,et,q,_),some d => match lk σ.tab d with
  | none => some ([(σ.grow 1 [(σ.nx,mE et)] [Lin.at (4 * σ.nx + 1),Lin.at (4 * σ.nx + 2)] []).addRef d (.mp q (some σ.nx) true)],[])
  | some _ => none
 | _,_ => none
theorem eT {n k j : Nat} (h : k < n) (hj : j < 4) : Sc n (Lin.at (4 * k + j)).vars := Lin.aS (by omega)
theorem zY {P : Program} {I : Pr} {n : Nat} {σ : DSt} {o : Oper} {t : TypeId} {outs : List DSt} {q : List Seq} (ho : o.op = .makeMap t none) (h : vm P σ o t = some (outs,q)) : aM P I n o σ outs := by
 unfold vm at h
 split at h
 ·rename_i kt et qq z d ht hdst
  split at h
  ·rename_i hf
   simp only [Option.some.injEq,Prod.mk.injEq] at h; obtain ⟨rfl,rfl⟩ := h
   refine aM.of (fun hs => ?_) fun hs ρ hok C E a w hC hh hd => ?_
   ·intro σ' hσ'
    simp only [List.mem_singleton] at hσ'; subst hσ'
    have hlt : σ.nx < σ.nx + 1 := Nat.lt_succ_self _
    have hg := hs.grow (n := 1) (tys := [(σ.nx,mE et)]) (lin := [Lin.at (4 * σ.nx + 1),Lin.at (4 * σ.nx + 2)]) (prs := []) ⟨by simp,by simp only [List.mem_cons,List.mem_nil_iff,or_false]; rintro e (rfl | rfl); exact eT hlt (by omega); exact eT hlt (by omega),by simp⟩
    refine ⟨⟨?_,?_,hg.tys,hg.lin,hg.prs⟩,Nat.le_succ _⟩
    ·intro t' v hl
     simp only [DSt.addRef,bS] at hl
     split at hl
     ·simp only [Option.some.injEq] at hl; subst hl; exact Sc.nil
     ·exact hg.ab t' v hl
    ·intro t' v hl
     simp only [DSt.addRef,bS] at hl
     split at hl
     ·simp only [Option.some.injEq] at hl; subst hl; simp only [DO.vars,aL,Sc.cons]; exact ⟨hlt,Sc.nil⟩
     ·exact hg.tab t' v hl
   ·obtain ⟨ag,ok',hv⟩ := KC (e := mE et) hs hok (lin := [Lin.at (4 * σ.nx + 1),Lin.at (4 * σ.nx + 2)]) (aU.nil (P := P)) (by
     simp only [aR,Lin.aW,cJ,c9,aI,vaL,List.length_nil,jh]; exact ⟨by decide,by decide,trivial⟩)
    have hout := Gx (C := C) (σ := σ.v ρ) qq ho hh hd hdst (lV hf)
    refine ⟨_,List.mem_cons_self ..,_,_,ag,⟨ok'.g,ok'.tys,ok'.lin,ok'.prs⟩,hout,?_⟩
    have S := DSt.eb hs ag
    refine ⟨fun t' => ?_,fun t' => ?_⟩
    ·simp only [DSt.addRef,DSt.v,bK,DV.v,bS]; split
     ·rfl
     ·exact S.ab t'
    ·simp only [DSt.addRef,DSt.v,aG,DO.v,hv,bS]; split
     ·rfl
     ·exact S.tab t'
  ·cases h
 ·cases h
def CB (q : Option Nat) (m : Nat) : DV → Option (List DP × Bool)
 | .agg xs => match q with
  | some n => match Nat.beq xs.length n,fj (xs.take m) with
   | true,some (row,fr) => match j5 row with | true => some (row,fr) | false => none
   | _,_ => none
  | none => none
 | .p x fr => match q,s6 (.p x fr) with
  | none,some (y,f) => match Aj y with | true => some ([y],f) | false => none
  | _,_ => none
 | _ => none
theorem KD {w : World} {E : Env} {lo m : Nat} {q : Option Nat} {x : DV} {row : List DP} {fr : Bool} {ρ : Ro} {v : Value} {s : ByteArray} (h : CB q m x = some (row,fr)) (hv : VR w E lo (x.v ρ) v) :
  jw w E.bad (flo lo fr) q (.v (.string s) :: ak ρ row) (.string s) v := by
 unfold CB at h
 split at h
 ·rename_i xs
  split at h
  ·rename_i n
   split at h
   ·rename_i hn hr
    split at h
    ·rename_i hc
     simp only [Option.some.injEq,Prod.mk.injEq] at h; obtain ⟨rfl,rfl⟩ := h
     have hn := Nat.eq_of_beq_eq_true hn
     simp only [DV.v,VR] at hv
     obtain ⟨vs,rfl,hvs⟩ := hv
     have hl := bJ hvs
     rw [ek] at hl
     obtain ⟨g1,g2,f,f1,f2⟩ := iv _ _ _ (jq (ρ := ρ) hr hc) (vs.take m) (by rw [uL]; exact lD m hvs)
     have hvl : vs.length = n := by omega
     refine ⟨.string s :: vs,by simp [bY,hvl],fun j => match j with | 0 => .string s | j + 1 => f j,?_⟩
     intro j y hy
     cases j with
     | zero => simp only [List.getElem?_cons_zero,Option.some.injEq] at hy; subst hy; exact ⟨rfl,.v _ rfl⟩
     | succ j =>
      simp only [List.getElem?_cons_succ] at hy ⊢
      refine ⟨?_,f2 j y hy⟩
      have := f1 j y hy
      rw [List.getElem?_take] at this
      split at this
      ·exact this
      ·cases this
    ·cases h
   ·cases h
  ·cases h
 ·split at h
  ·rename_i hr
   split at h
   ·rename_i hc
    simp only [Option.some.injEq,Prod.mk.injEq] at h; obtain ⟨rfl,rfl⟩ := h
    have := AI (Ep (ρ := ρ) hr hc) hv
    refine ⟨[.string s,v],rfl,fun j => match j with | 0 => .string s | _ => v,?_⟩
    intro j y hy
    match j,hy with
    | 0,hy => simp only [List.getElem?_cons_zero,Option.some.injEq] at hy; subst hy; exact ⟨rfl,.v _ rfl⟩
    | 1,hy => simp only [ak,List.getElem?_cons_succ,List.getElem?_cons_zero,Option.some.injEq] at hy; subst hy; exact ⟨rfl,this⟩
    | j + 2,hy => simp [ak] at hy
   ·cases h
  ·cases h
 ·cases h
def KE (P : Program) (σ : DSt) (o : Oper) (t : TypeId) (m x v : Operand) : aQ :=
 match Cv P t,dev σ m,Gy (dev σ x) with
 | some (_,et,q,_),.ref k,some _e => match lk σ.tab k,cks P (mE et) with
  | some (.mp q' l fr),.str :: cs => match CB q cs.length (dev σ v),fb q q',Cx σ (mE et) l with
   | some (row,fr'),true,true => match dty σ.tys cs (unR cs row) with
    | some gs => some ([((σ.grow 1 [(σ.nx,mE et)] [(Lin.at (4 * σ.nx + 1)).ax (-1) ((bj l).aD 1),(bj l).ax (-1) (Lin.at (4 * σ.nx + 1))] []).setObj k (.mp q (some σ.nx) (fr && fr'))).put o.dst .u],todo σ (.le ((bj l).aD (-1073741823)) :: gs))
    | none => none
   | _,_,_ => none
  | _,_ => none
 | _,_,_ => none
theorem IE {P : Program} {I : Pr} {n : Nat} {σ : DSt} {o : Oper} {t : TypeId} {m x v : Operand} {outs : List DSt} {q : List Seq} (ho : o.op = .mapUpdate t m x v ∨ o.op = .insert t m x v) (h : KE P σ o t m x v = some (outs,q)) (hV : Valid P I q) : aM P I n o σ outs := by
 unfold KE at h
 split at h
 ·rename_i kt et qq z k e ht hm hx
  split at h
  ·rename_i q' l fr cs hl hcs
   split at h
   ·rename_i row fr' hv hq hly
    split at h
    ·rename_i gs hty
     simp only [Option.some.injEq,Prod.mk.injEq] at h; obtain ⟨rfl,rfl⟩ := h
     have := dJ hq; subst this
     have hlt : σ.nx < σ.nx + 1 := Nat.lt_succ_self _
     refine aM.of (fun hs => ?_) fun hs ρ hok C E a w hC hh hd => ?_
     ·intro σ' hσ'
      simp only [List.mem_singleton] at hσ'; subst hσ'
      have hll : Sc (σ.nx + 1) (bj l).vars := df ((hs.tab k _ hl).mono (Nat.le_succ _))
      have hg := hs.grow (n := 1) (tys := [(σ.nx,mE et)]) (lin := [(Lin.at (4 * σ.nx + 1)).ax (-1) ((bj l).aD 1),(bj l).ax (-1) (Lin.at (4 * σ.nx + 1))]) (prs := []) ⟨by simp,by
       simp only [List.mem_cons,List.mem_nil_iff,or_false]; rintro e (rfl | rfl); exact Lin.aw (eT hlt (by omega)) (Lin.aX hll); exact Lin.aw hll (eT hlt (by omega)),by simp⟩
      refine ⟨(mT hg (by simp only [DO.vars,aL,Sc.cons]; exact ⟨hlt,Sc.nil⟩)).put o.dst (by simp [DV.vars,Sc.nil]),by rw [cC]; exact Nat.le_succ _⟩
     ·obtain ⟨h1,h2,h3⟩ := EE ht
      have hgs := fk hok hV
      have hrow := dz (P := P) hok.g hok.tys cs _ gs hty hgs.2
      have hrows := Cy hok hly
      have hlen := hgs.1
      simp only [G.v,Lin.aB,de] at hlen
      obtain ⟨hk1,hk2⟩ := IC (ρ := ρ) hx
      have hte : Ty P (mE et) (.v (.string (e.v ρ)) :: ak ρ (unR cs row)) := Ty.of hcs (vF (Ie hok.g hk2) hrow)
      obtain ⟨rows',hr',hout⟩ := Cu (C := C) (σ := σ.v ρ) (fr' := fr') ho hh hd (hC ▸ h1) (hC ▸ h2) (by rw [aA,hm]; rfl) (by rw [da hl]; rfl) (qb.of hcs hrows.2) (by rw [aA]; exact hk1)
       ((KD hv (by rw [← aA]; exact a7 hh v)).un cs)
      have hty' : aU P (mE et) rows' ∧ rows'.length ≤ (lvV ρ l).length + 1 ∧ (lvV ρ l).length ≤ rows'.length := by
       rcases hr' with rfl | ⟨j,rfl⟩
       ·exact ⟨.ofC (Nat.le_add_left ..) (by simp; omega) (hrows.2.append (.one hte)),by simp,by simp⟩
       ·refine ⟨⟨by have := hrows.1; simpa using this,?_⟩,by simp,by simp⟩
        intro r hr
        rcases List.mem_or_eq_of_mem_set hr with hr | rfl
        ·exact hrows.2 r hr
        ·exact hte
      have hla : ∀ ρ',ao σ.nx ρ ρ' → (bj l).v ρ' = ((lvV ρ l).length : Int) := fun ρ' ha => by rw [Lin.ag ha (df (hs.tab k _ hl)),de]
      obtain ⟨ag,ok',hvv⟩ := KC (e := mE et) hs hok (lin := [(Lin.at (4 * σ.nx + 1)).ax (-1) ((bj l).aD 1),(bj l).ax (-1) (Lin.at (4 * σ.nx + 1))]) hty'.1 (by
       have := hla _ (bR ρ σ.nx σ.nx (vaL rows') (Nat.le_refl _))
       simp only [aR,Lin.aZ,Lin.aB,Lin.aW,cJ,this,and_true]
       rw [aI]
       have e1 : (vaL rows').l = rows' := rfl
       rw [e1]; omega)
      have S := DSt.eb hs ag
      have okk : (((σ.grow 1 [(σ.nx,mE et)] [(Lin.at (4 * σ.nx + 1)).ax (-1) ((bj l).aD 1),(bj l).ax (-1) (Lin.at (4 * σ.nx + 1))] []).setObj k (.mp qq (some σ.nx) (fr && fr')))).ok P I (up ρ σ.nx (vaL rows')) := ⟨ok'.g,ok'.tys,ok'.lin,ok'.prs⟩
      refine ⟨_,List.mem_cons_self ..,_,_,ag,okk.put _ _,hout,?_⟩
      rw [dy,lX,dVU]
      simp only [DO.v,hvv]
      exact (S.setObj k _).put _ _
    ·cases h
   ·cases h
  ·cases h
 ·cases h
def kh : List DV → Option (List DV × LV × Bool)
 | [] => none
 | [x] => match x with
  | .p (.ls l) fr => some ([],l,fr)
  | .p (.cst (.pointer none)) _ => some ([],none,true)
  | _ => none
 | x :: xs => match kh xs with
  | some (i,l,f) => some (x :: i,l,f)
  | none => none
theorem CC {w : World} {E : Env} {lo : Nat} {ρ : Ro} : ∀ {xs i : List DV} {l : LV} {f : Bool} {vs : List Value},kh xs = some (i,l,f) → VRs w E lo (dvs ρ xs) vs → VRs w E lo (dvs ρ (i ++ [.p (.ls l) f])) vs
 | [x],i,l,f,vs,h,hv => by
  simp only [kh] at h
  split at h
  ·simp only [Option.some.injEq,Prod.mk.injEq] at h; obtain ⟨rfl,rfl,rfl⟩ := h; exact hv
  ·rename_i fr
   simp only [Option.some.injEq,Prod.mk.injEq] at h; obtain ⟨rfl,rfl,rfl⟩ := h
   cases vs with
   | nil => simp [dvs,VRs] at hv
   | cons v vs =>
    simp only [dvs,List.nil_append,VRs,DV.v,DP.v,VR,lvV] at hv ⊢
    have := eW hv.1; subst this
    exact ⟨.lsNil,hv.2⟩
  ·cases h
 | x :: y :: xs,i,l,f,vs,h,hv => by
  simp only [kh] at h
  split at h
  ·rename_i i' l' f' h'
   simp only [Option.some.injEq,Prod.mk.injEq] at h; obtain ⟨rfl,rfl,rfl⟩ := h
   cases vs with
   | nil => simp [dvs,VRs] at hv
   | cons v vs =>
    rw [dvs] at hv
    simp only [VRs] at hv
    rw [List.cons_append,dvs]
    simp only [VRs]
    exact ⟨hv.1,CC h' hv.2⟩
  ·cases h
theorem zF {n : Nat} : ∀ {xs i : List DV} {l : LV} {f : Bool},kh xs = some (i,l,f) → Sc n (av xs) → Sc n (av i) ∧ Sc n (aL l)
 | [x],i,l,f,h,hs => by
  simp only [kh] at h
  split at h
  ·simp only [Option.some.injEq,Prod.mk.injEq] at h; obtain ⟨rfl,rfl,rfl⟩ := h
   simp only [av,DV.vars,DP.vars,Sc.app] at hs ⊢; exact ⟨Sc.nil,hs.1⟩
  ·simp only [Option.some.injEq,Prod.mk.injEq] at h; obtain ⟨rfl,rfl,rfl⟩ := h; exact ⟨Sc.nil,Sc.nil⟩
  ·cases h
 | x :: y :: xs,i,l,f,h,hs => by
  simp only [kh] at h
  split at h
  ·rename_i i' l' f' h'
   simp only [Option.some.injEq,Prod.mk.injEq] at h; obtain ⟨rfl,rfl,rfl⟩ := h
   rw [av,Sc.app] at hs
   have := zF h' hs.2
   rw [av,Sc.app]; exact ⟨⟨hs.1,this.1⟩,this.2⟩
  ·cases h
def jO (n : Nat) (l : LV) (z : Lin) : List Lin :=
 [(Lin.at (4 * n + 1)).ax (-1) ((bj l).aD 1),((bj l).aD 1).ax (-1) (Lin.at (4 * n + 1)),(Lin.at (4 * n + 2)).ax (-1) ((z.add (dS l)).aD 1),((z.add (dS l)).aD 1).ax (-1) (Lin.at (4 * n + 2))]
theorem CD {n m : Nat} {l : LV} {z : Lin} (hn : n < m) (hl : Sc m (aL l)) (hz : Sc m z.vars) : ∀ e ∈ jO n l z,Sc m e.vars := by
 have h1 := Lin.aX (k := 1) (df hl)
 have h2 := Lin.aX (k := 1) (Lin.HZ hz (fa hl))
 simp only [jO,List.mem_cons,List.mem_nil_iff,or_false]
 rintro e (rfl | rfl | rfl | rfl)
 ·exact Lin.aw (eT hn (by omega)) h1
 ·exact Lin.aw h1 (eT hn (by omega))
 ·exact Lin.aw (eT hn (by omega)) h2
 ·exact Lin.aw h2 (eT hn (by omega))
theorem EH {ρ : Ro} {n : Nat} {l : LV} {z : Lin} {row : List PV} (h : (ρ n).l = row :: lvV ρ l) (hz : z.v ρ = (rz row : Int)) : aR ρ (jO n l z) := by
 simp only [jO,aR,Lin.aZ,Lin.aB,Lin.FF,Lin.aW,cJ,c9,h,hz,de,iE,List.length_cons,dM,and_true]; omega
def CE (P : Program) (σ : DSt) (o : Oper) (t : TypeId) (x : Operand) : aQ :=
 match dev σ x with
 | .agg xs => match kh xs with
  | some (i,l,f) => match fj (i ++ [.p (.ls l) f]) with
   | some (row,fr) => match mV row (row.dropLast ++ [.ls l]),j5 row,Cx σ (cE t) l,dty σ.tys (cks P (cE t)) row.dropLast with
    | true,true,true,some gs => some ([(σ.grow 1 [(σ.nx,cE t)] (jO σ.nx l (drz row.dropLast)) []).put o.dst (.p (.ls (some σ.nx)) fr)],todo σ (.le ((bj l).aD (-1073741823)) :: gs))
    | _,_,_,_ => none
   | none => none
  | none => none
 | _ => none
theorem DJ {P : Program} {I : Pr} {n : Nat} {σ : DSt} {o : Oper} {t : TypeId} {x : Operand} {outs : List DSt} {q : List Seq} (ho : o.op = .box t x) (h : CE P σ o t x = some (outs,q)) (hV : Valid P I q) : aM P I n o σ outs := by
 unfold CE at h
 split at h
 ·rename_i xs hx
  split at h
  ·rename_i i l f hi
   split at h
   ·rename_i row fr hr
    split at h
    ·rename_i gs he hc hl hty
     simp only [Option.some.injEq,Prod.mk.injEq] at h; obtain ⟨rfl,rfl⟩ := h
     have he := pU he
     have hlt : σ.nx < σ.nx + 1 := Nat.lt_succ_self _
     have hsc : σ.sc → Sc σ.nx (bf row.dropLast) ∧ Sc σ.nx (aL l) := fun hs => by
      have h1 := hs.dev x
      rw [hx] at h1; simp only [DV.vars] at h1
      have h2 := zF hi h1
      have h3 := j6 hr (n := σ.nx) (by rw [ns]; exact ⟨h2.1,by simpa [av,DV.vars,DP.vars] using h2.2⟩)
      rw [jY] at h3 ⊢
      exact ⟨fun y hy => h3 y (List.dropLast_subset _ hy),h2.2⟩
     have hzs : σ.sc → Sc (σ.nx + 1) (drz row.dropLast).vars := fun hs => (nY (hsc hs).1).mono (Nat.le_succ _)
     refine aM.of (fun hs => ?_) fun hs ρ hok C E a w hC hh hd => ?_
     ·intro σ' hσ'
      simp only [List.mem_singleton] at hσ'; subst hσ'
      have hg := hs.grow (n := 1) (tys := [(σ.nx,cE t)]) (lin := jO σ.nx l (drz row.dropLast)) (prs := []) ⟨by simp,CD hlt ((hsc hs).2.mono (Nat.le_succ _)) (hzs hs),by simp⟩
      exact ⟨hg.put o.dst (by simp only [DV.vars,DP.vars,aL,Sc.cons]; exact ⟨hlt,Sc.nil⟩),by rw [cC]; exact Nat.le_succ _⟩
     ·have hgs := fk hok hV
      have hrow := dz (P := P) hok.g hok.tys _ _ gs hty hgs.2
      have hrz := vU (P := P) (I := I) (ρ := ρ) hok.g _ _ gs hty
      have hrows := Cy hok hl
      have hlen := hgs.1
      simp only [G.v,Lin.aB,de] at hlen
      have hp := jq (ρ := ρ) hr hc
      rw [he,nr] at hp
      have hev := a7 hh x
      rw [aA,hx] at hev
      simp only [DV.v,VR] at hev
      obtain ⟨vs,hvs,hvv⟩ := hev
      have hout := KA (C := C) (row := ak ρ row.dropLast) (rows := lvV ρ l) ho hh hd (by rw [hvs]; exact CC hi hvv) hp
      have hT : aU P (cE t) (ak ρ row.dropLast :: lvV ρ l) := .ofC (Nat.le_trans (by decide) (Nat.le_add_left 2000000 _)) (by simp; omega) (.cons hrow hrows.2)
      obtain ⟨ag,ok',hnv⟩ := KC (e := cE t) hs hok (lin := jO σ.nx l (drz row.dropLast)) hT (by
       have ag := bR ρ σ.nx σ.nx (vaL (ak ρ row.dropLast :: lvV ρ l)) (Nat.le_refl _)
       refine EH (row := ak ρ row.dropLast) ?_ ?_
       ·rw [aI,dR ag (hsc hs).2]; rfl
       ·rw [Lin.ag ag (nY (hsc hs).1)]; exact hrz)
      refine ⟨_,List.mem_cons_self ..,_,_,ag,ok'.put _ _,hout,?_⟩
      rw [dy]
      simp only [DV.v,DP.v,hnv]
      exact bu.put (DSt.eb hs ag) _ _
    ·cases h
   ·cases h
  ·cases h
 ·cases h
def GC (P : Program) (σ : DSt) (o : Oper) (x : Operand) : aQ :=
 match dev σ x with
 | .p (.ls (some l)) fr => match lk σ.tys l with
  | some e => match eM (cks P e) σ.nx with
   | some R => some ([(σ.grow (R.nx - σ.nx + 1) ((R.nx,e) :: R.tys) (jO l (some R.nx) R.rz ++ R.lin) []).put o.dst (.pd (R.cells ++ [.ls (some R.nx)]) 0 fr)],todo σ [.le ((Lin.scale (-1) (Lin.at (4 * l + 1))).aD 1)])
   | none => none
  | none => none
 | _ => none
theorem GD {P : Program} {I : Pr} {n : Nat} {σ : DSt} {o : Oper} {x : Operand} {outs : List DSt} {q : List Seq} (ho : o.op = .nilCheck x) (h : GC P σ o x = some (outs,q)) (hV : Valid P I q) : aM P I n o σ outs := by
 unfold GC at h
 split at h
 ·rename_i l fr hx
  split at h
  ·rename_i e hl
   split at h
   ·rename_i R hR
    simp only [Option.some.injEq,Prod.mk.injEq] at h; obtain ⟨rfl,rfl⟩ := h
    have hRs := lp _ σ.nx R hR
    have hn : σ.nx + (R.nx - σ.nx + 1) = R.nx + 1 := by have := hRs.le; omega
    have hlt := Nat.lt_succ_self R.nx
    have hll : σ.sc → l < R.nx + 1 := fun hs => by have := gN hs hl; have := hRs.le; omega
    have hg : σ.sc → fT (σ.nx + (R.nx - σ.nx + 1)) ((R.nx,e) :: R.tys) (jO l (some R.nx) R.rz ++ R.lin) [] := fun hs => by
     rw [hn]
     refine ⟨?_,?_,by simp⟩
     ·intro k e' hk
      simp only [List.mem_cons,Prod.mk.injEq] at hk
      rcases hk with ⟨rfl,_⟩ | hk
      ·exact hlt
      ·exact Nat.lt_succ_of_lt (hRs.tys k e' hk)
     ·intro y hy
      rcases List.mem_append.1 hy with hy | hy
      ·exact CD (hll hs) (by simp only [aL,Sc.cons]; exact ⟨hlt,Sc.nil⟩) (hRs.rz.mono (Nat.le_succ _)) y hy
      ·exact (hRs.lin y hy).mono (Nat.le_succ _)
    refine aM.of (fun hs => ?_) fun hs ρ hok C E a w hC hh hd => ?_
    ·intro σ' hσ'
     simp only [List.mem_singleton] at hσ'; subst hσ'
     refine ⟨(hs.grow (hg hs)).put o.dst ?_,by rw [cC]; exact Nat.le_add_right _ _⟩
     simp only [DSt.grow,hn,DV.vars]
     rw [jY]
     intro y hy
     rcases List.mem_append.1 hy with hy | hy
     ·exact ((jY.1 hRs.cells) y hy).mono (Nat.le_succ _)
     ·simp only [List.mem_singleton] at hy; subst hy; simp only [DP.vars,aL,Sc.cons]; exact ⟨hlt,Sc.nil⟩
    ·have hgs := fk hok hV
     have h1 := hgs.1
     simp only [G.v,Lin.aB,Lin.aT,Lin.aW,cJ] at h1
     have hty := c7 hok.tys hl
     cases hq : (ρ l).l with
     | nil => rw [hq] at h1; simp at h1
     | cons row rows =>
      rw [hq] at hty
      have hw := hty.2 row (List.mem_cons_self ..)
      obtain ⟨ρ1,r⟩ := nX (P := P) _ σ.nx R row ρ hR hw hok.g
      have hT : aU P e rows := ⟨by have := hty.1; simp at this; omega,fun y hy => hty.2 y (List.mem_cons_of_mem _ hy)⟩
      have ag1 := bR ρ1 R.nx R.nx (vaL rows) (Nat.le_refl _)
      have ag : ao σ.nx ρ (up ρ1 R.nx (vaL rows)) := r.ag.trans ag1 hRs.le
      have hlv : (up ρ1 R.nx (vaL rows) l) = ρ l := ag l (gN hs hl)
      have okk : (σ.grow (R.nx - σ.nx + 1) ((R.nx,e) :: R.tys) (jO l (some R.nx) R.rz ++ R.lin) []).ok P I (up ρ1 R.nx (vaL rows)) := by
       refine hok.grow hs ag (r.g.up _ (ej hT.len)) ⟨by rw [aI]; exact hT,(rI ag1 hRs.tys).2 r.tys⟩ (cq (EH (row := row) ?_ ?_) ((nT ag1 hRs.lin).2 r.lin)) trivial
       ·rw [hlv,hq]; simp only [lvV,aI]; rfl
       ·rw [Lin.ag ag1 hRs.rz,r.rz]
      have hout := Np (C := C) (σ := σ.v ρ) (row := row) (rows := rows) (fr := fr) ho hh hd (by rw [aA,hx]; simp only [DV.v,DP.v,lvV,hq])
      refine ⟨_,List.mem_cons_self ..,_,_,ag,okk.put _ _,hout,?_⟩
      rw [dy]
      simp only [DV.v,nr,gH ag1 hRs.cells,r.cells,ak,DP.v,lvV,aI]
      exact bu.put (DSt.eb hs ag) _ _
   ·cases h
  ·cases h
 ·cases h
def tA (P : Program) (σ : DSt) (t : TypeId) (x y : Operand) : Option BF :=
 match P.underlying t with
 | some (.pointer _) => match dev σ x,we (dev σ y) with
  | .p (.ls l) _,some true => some (.le (bj l))
  | _,_ => none
 | some (.map _ _) => match dev σ y with
  | .p (.cst (.map none)) _ => match dev σ x with
   | .p (.cst (.map none)) _ => some (.lit true)
   | .ref k => match lk σ.tab k with | some (.mp _ _ _) => some (.lit false) | _ => none
   | _ => none
  | _ => none
 | _ => none
def GF (P : Program) (σ : DSt) (o : Oper) (op : BinOp) (t : TypeId) (x y : Operand) : aQ :=
 match tA P σ t x y,op with
 | some f,.eql => some ([σ.put o.dst (.p (.bl f) true)],[])
 | some f,.neq => some ([σ.put o.dst (.p (.bl (.not f)) true)],[])
 | _,_ => none
theorem Nq {P : Program} {σ : DSt} {o : Oper} {op : BinOp} {tx ty : TypeId} {x y : Operand} {f : BF} (ho : o.op = .binOp op tx x y ty) (hop : op = .eql ∨ op = .neq) (h : tA P σ tx x y = some f) {ρ : Ro} {C : Ctx} {E : Env} {a : Act} {w : World} (hC : C.P = P) (hh : au C E (σ.v ρ) a w) (hd : aV C o) :
  bs C o ((σ.v ρ).put o.dst (.p (.v (.bool (opB op (f.v ρ)))) true)) a w := by
 unfold tA at h
 split at h
 ·rename_i e hu
  split at h
  ·rename_i l fr hx hy
   simp only [Option.some.injEq] at h; subst h
   have e1 : o9 (ev (σ.v ρ) x) = some (BF.v ρ (.le (bj l))) := by
    rw [aA,hx]
    simp only [DV.v,DP.v,BF.v,de]
    cases lvV ρ l with
    | nil => simp [o9]
    | cons r rs => simp [o9]
   have e2 := (n6 (ρ := ρ) hy).1
   rw [← aA] at e2
   have e3 : jE C.P (σ.v ρ) tx x y = some (BF.v ρ (.le (bj l))) := by simp only [jE,hC,hu,e1,e2]
   rcases hop with rfl | rfl
   ·exact (kF ho (by simp only [pe,e3]; rfl) hh hd).out
   ·exact (kF ho (by simp only [pe,e3]; rfl) hh hd).out
  ·cases h
 ·rename_i k e hu
  split at h
  ·rename_i fr hy
   have ey : a.eval y = .map none := fC hh (fr := fr) (by rw [aA,hy]; simp only [DV.v,DP.v])
   split at h
   ·rename_i fr' hx
    simp only [Option.some.injEq] at h; subst h
    have ex : a.eval x = .map none := fC hh (fr := fr') (by rw [aA,hx]; simp only [DV.v,DP.v])
    have := zE ho hop (hC ▸ hu) ex ey hh hd
    rcases hop with rfl | rfl <;> exact this
   ·rename_i k' hx
    split at h
    ·rename_i hl
     simp only [Option.some.injEq] at h; subst h
     obtain ⟨b,es,cl,h1,_⟩ := hh.tab.obj k' _ (da hl)
     have hev := a7 hh x
     rw [aA,hx] at hev
     simp only [DV.v,VR] at hev
     rw [h1] at hev
     have := zE ho hop (hC ▸ hu) (Option.some.inj hev.1).symm ey hh hd
     rcases hop with rfl | rfl <;> exact this
    ·cases h
   ·cases h
  ·cases h
 ·cases h
theorem KF {P : Program} {σ : DSt} (hs : σ.sc) {t : TypeId} {x y : Operand} {f : BF} (h : tA P σ t x y = some f) : Sc σ.nx f.vars := by
 unfold tA at h
 split at h
 ·split at h
  ·rename_i hx _
   simp only [Option.some.injEq] at h; subst h
   have := hs.dev x; rw [hx] at this
   exact df (by simpa [DV.vars,DP.vars] using this)
  ·cases h
 ·split at h
  ·split at h
   ·simp only [Option.some.injEq] at h; subst h; exact Sc.nil
   ·split at h
    ·simp only [Option.some.injEq] at h; subst h; exact Sc.nil
    ·cases h
   ·cases h
  ·cases h
 ·cases h
theorem GG {P : Program} {I : Pr} {n : Nat} {σ : DSt} {o : Oper} {op : BinOp} {tx ty : TypeId} {x y : Operand} {outs : List DSt} {q : List Seq} (ho : o.op = .binOp op tx x y ty) (h : GF P σ o op tx x y = some (outs,q)) : aM P I n o σ outs := by
 have step : ∀ (f g : BF),tA P σ tx x y = some f → (op = .eql ∨ op = .neq) → g.vars = f.vars → (∀ ρ,g.v ρ = opB op (f.v ρ)) → aM P I n o σ [σ.put o.dst (.p (.bl g) true)] := by
  intro f g hf hop hvars hg
  refine aM.of (fun hs => ?_) fun hs ρ hok C E a w hC hh hd => ?_
  ·intro σ' hσ'
   simp only [List.mem_singleton] at hσ'; subst hσ'
   exact ⟨hs.put o.dst (by simp only [DV.vars,DP.vars,hvars]; exact KF hs hf),by rw [cC]; exact Nat.le_refl _⟩
  ·refine ⟨_,List.mem_cons_self ..,ρ,_,ao.refl _ _,hok.put _ _,Nq ho hop hf hC hh hd,?_⟩
   rw [dy]; simp only [DV.v,DP.v,hg]; exact bu.refl _
 unfold GF at h
 split at h
 ·rename_i f hf
  simp only [Option.some.injEq,Prod.mk.injEq] at h; obtain ⟨rfl,rfl⟩ := h
  exact step _ _ hf (.inl rfl) rfl fun _ => rfl
 ·rename_i f hf
  simp only [Option.some.injEq,Prod.mk.injEq] at h; obtain ⟨rfl,rfl⟩ := h
  exact step _ (.not _) hf (.inr rfl) rfl fun _ => rfl
 ·cases h
def eqK (P : Program) (t : TypeId) (x y : DV) : Bool :=
 match P.underlying t,x,y with
 | some (.int _),.p (.int k _) _,.p (.int k' _) _ => BP k k'
 | some .string,.p (.st _) _,.p (.st _) _ => true
 | some .bool,.p (.bl _) _,.p (.bl _) _ => true
 | _,_,_ => false
def GH (P : Program) (xs ys : List DV) : List Field → Bool
 | [] => true
 | f :: r => match decide (f.name = "_"),P.plainKey f.type,xs[f.offset]?,ys[f.offset]? with
  | false,true,some x,some y => match eqK P f.type x y with | true => GH P xs ys r | false => false
  | _,_,_,_ => false
theorem Nr {P : Program} {w : World} {E : Env} {lo : Nat} {ρ : Ro} {t : TypeId} {x y : DV} (d : Nat) (h : eqK P t x y = true) {u v : Value} (hu : VR w E lo (x.v ρ) u) (hv : VR w E lo (y.v ρ) v) :
  ∃ b,(Op.equalIn (d + 1) t u v).run P w = .ok b w := by
 unfold eqK at h
 split at h
 ·rename_i ht
  have := of_decide_eq_true h; subst this
  rw [cf hu,cf hv]; exact ⟨_,run_equalIn_int w d t _ _ _ _ ht⟩
 ·rename_i ht
  rw [cf hu,cf hv]; exact ⟨_,run_equalIn_string w d t _ _ ht⟩
 ·rename_i ht
  rw [cf hu,cf hv]; exact ⟨_,run_equalIn_bool' w d t _ _ ht⟩
 ·cases h
theorem CF {P : Program} {w : World} {E : Env} {lo : Nat} {ρ : Ro} {xs ys : List DV} {us vs : List Value} (d : Nat) (hu : VRs w E lo (xs.map (·.v ρ)) us) (hv : VRs w E lo (ys.map (·.v ρ)) vs) :
  ∀ fs,GH P xs ys fs = true → ∃ b,(Op.eqFields (d + 1) us.toArray vs.toArray fs).run P w = .ok b w
 | [],_ => ⟨true,rfl⟩
 | f :: r,h => by
  simp only [GH] at h
  split at h
  ·rename_i x y h1 h2 h3 h4
   split at h
   ·rename_i h5
    obtain ⟨u,e1,u1⟩ := k8 (n := f.offset) (x := x.v ρ) hu (by simp [h3])
    obtain ⟨v,e2,v1⟩ := k8 (n := f.offset) (x := y.v ρ) hv (by simp [h4])
    obtain ⟨b,hb⟩ := Nr d h5 u1 v1
    have p1 := run_part_plain (w := w) h2 (xs := us.toArray) (off := f.offset) (v := u) (by simpa using e1)
    have p2 := run_part_plain (w := w) h2 (xs := vs.toArray) (off := f.offset) (v := v) (by simpa using e2)
    unfold Op.eqFields
    rw [if_pos (of_decide_eq_false h1)]
    simp only [Sem.run_bind,p1,p2,hb,Result.andThen_ok]
    cases b with
    | false => exact ⟨false,by simp⟩
    | true => simpa using CF d hu hv r h
   ·cases h
  ·cases h
def KG (P : Program) (t : TypeId) (xs ys : List DV) : Bool :=
 match P.underlying t,P.stoodInHeld t,P.eqGuardType P.depth t with
 | some (.struct fs),false,false => GH P xs ys fs.toList
 | _,_,_ => false
def KH (P : Program) (σ : DSt) (o : Oper) (op : BinOp) (t : TypeId) (x y : Operand) : aQ :=
 match dev σ x,dev σ y with
 | .agg xs,.agg ys => match KG P t xs ys,op with
  | true,.eql => some ([(σ.grow 1 [] [] []).put o.dst (.p (.bl (.var σ.nx)) true)],[])
  | true,.neq => some ([(σ.grow 1 [] [] []).put o.dst (.p (.bl (.var σ.nx)) true)],[])
  | _,_ => none
 | _,_ => none
theorem IF {P : Program} {I : Pr} {n : Nat} {σ : DSt} {o : Oper} {op : BinOp} {tx ty : TypeId} {x y : Operand} {outs : List DSt} {q : List Seq} (ho : o.op = .binOp op tx x y ty) (h : KH P σ o op tx x y = some (outs,q)) : aM P I n o σ outs := by
 have step : ∀ xs ys,dev σ x = .agg xs → dev σ y = .agg ys → KG P tx xs ys = true → (op = .eql ∨ op = .neq) → aM P I n o σ [(σ.grow 1 [] [] []).put o.dst (.p (.bl (.var σ.nx)) true)] := by
  intro xs ys hx hy hq hop
  have hg : fT (σ.nx + 1) [] [] [] := ⟨by simp,by simp,by simp⟩
  refine aM.of (fun hs => ?_) fun hs ρ hok C E a w hC hh hd => ?_
  ·intro σ' hσ'
   simp only [List.mem_singleton] at hσ'; subst hσ'
   exact ⟨(hs.grow hg).put o.dst (by simp only [DV.vars,DP.vars,BF.vars,DSt.grow,Sc.cons]; exact ⟨Nat.lt_succ_self _,Sc.nil⟩),by rw [cC]; exact Nat.le_add_right _ _⟩
  ·have ex := a7 hh x
   have ey := a7 hh y
   rw [aA,hx] at ex
   rw [aA,hy] at ey
   simp only [DV.v,VR,dI] at ex ey
   obtain ⟨us,eu,ru⟩ := ex
   obtain ⟨vs,ev,rv⟩ := ey
   have hrun : ∃ b,(execOp a.eval o).run C.P w = .ok (.value (.bool b)) w := by
    unfold KG at hq
    split at hq
    ·rename_i fs hu h1 h2
     have hf : P.fieldsOf tx = fs := by simp [Program.fieldsOf,hu]
     obtain ⟨b,hb⟩ := CF 9998 ru rv fs.toList hq
     have hS := run_equalIn_struct w 9999 tx us.toArray vs.toArray (by rw [hf]; exact hu) h1
     rw [hf,hb] at hS
     have hG := fun op => run_eqGuard_agg w op tx x y us.toArray vs.toArray h2
     subst hC
     rcases hop with rfl | rfl
     ·refine ⟨b,?_⟩
      have := run_eql_struct (P := C.P) w tx us.toArray vs.toArray
      rw [hS] at this
      unfold execOp
      simp only [ho,eu,ev,Sem.run_bind,hG,Result.andThen_ok,this,Sem.run_pure]
     ·refine ⟨!b,?_⟩
      have := run_neq_struct (P := C.P) w tx us.toArray vs.toArray
      rw [hS] at this
      unfold execOp
      simp only [ho,eu,ev,Sem.run_bind,hG,Result.andThen_ok,this,Sem.run_pure]
    ·cases hq
   obtain ⟨b,hb⟩ := hrun
   have ag := bR ρ σ.nx σ.nx (vaB b) (Nat.le_refl _)
   have okk : (σ.grow 1 [] [] []).ok P I (up ρ σ.nx (vaB b)) := hok.grow hs ag (hok.g.up _ (nU b)) trivial trivial trivial
   refine ⟨_,List.mem_cons_self ..,_,_,ag,okk.put _ _,bn hh hd (v := .bool b) hb (cT true rfl),?_⟩
   rw [dy]
   simp only [DV.v,DP.v,BF.v,aI]
   exact bu.put (DSt.eb hs ag) _ _
 unfold KH at h
 split at h
 ·rename_i xs ys hx hy
  split at h
  ·rename_i hq
   simp only [Option.some.injEq,Prod.mk.injEq] at h; obtain ⟨rfl,rfl⟩ := h
   exact step xs ys hx hy hq (.inl rfl)
  ·rename_i hq
   simp only [Option.some.injEq,Prod.mk.injEq] at h; obtain ⟨rfl,rfl⟩ := h
   exact step xs ys hx hy hq (.inr rfl)
  ·cases h
 ·cases h
def gY (σ : DSt) (d : Option Nat) (b : Bool) : DSt := σ.put d (.p (.bl (.lit b)) true)
def GI (P : Program) (σ : DSt) (o : Oper) (op : BinOp) (t : TypeId) (x y : Operand) : aQ :=
 match P.underlying t,dev σ x,dev σ y with
 | some (.slice _),.p (.sl l) _,.p .nl _ => match op with
  | .eql => some ([gY { σ with lin := bj l :: dS l :: σ.lin } o.dst true,gY σ o.dst false],[])
  | .neq => some ([gY { σ with lin := bj l :: dS l :: σ.lin } o.dst false,gY σ o.dst true],[])
  | _ => none
 | _,_,_ => none
theorem GJ {P : Program} {I : Pr} {n : Nat} {σ : DSt} {o : Oper} {op : BinOp} {tx ty : TypeId} {x y : Operand} {outs : List DSt} {q : List Seq} (ho : o.op = .binOp op tx x y ty) (h : GI P σ o op tx x y = some (outs,q)) : aM P I n o σ outs := by
 unfold GI at h
 split at h
 ·rename_i e l fr fr' hu hx hy
  have key : ∀ b1 : Bool,(op = .eql ∧ b1 = true ∨ op = .neq ∧ b1 = false) → aM P I n o σ [gY { σ with lin := bj l :: dS l :: σ.lin } o.dst b1,gY σ o.dst !b1] := by
   intro b1 hop
   have hll : σ.sc → Sc σ.nx (bj l).vars := fun hs => by have := hs.dev x; rw [hx] at this; exact df (by simpa [DV.vars,DP.vars] using this)
   refine aM.of (fun hs => ?_) fun hs ρ hok C E a w hC hh hd => ?_
   ·intro σ' hσ'
    simp only [List.mem_cons,List.mem_nil_iff,or_false] at hσ'
    rcases hσ' with rfl | rfl
    ·refine ⟨DSt.sc.put (σ := { σ with lin := bj l :: dS l :: σ.lin }) ⟨hs.ab,hs.tab,hs.tys,?_,hs.prs⟩ o.dst Sc.nil,by rw [gY,cC]; exact Nat.le_refl _⟩
     intro e he
     rcases List.mem_cons.1 he with rfl | he
     ·exact hll hs
     ·rcases List.mem_cons.1 he with rfl | he
      ·have := hs.dev x; rw [hx] at this; exact fa (by simpa [DV.vars,DP.vars] using this)
      ·exact hs.lin e he
    ·exact ⟨hs.put o.dst Sc.nil,by rw [gY,cC]; exact Nat.le_refl _⟩
   ·have ex := a7 hh x
    rw [aA,hx] at ex
    simp only [DV.v,DP.v,VR] at ex
    have ey : a.eval y = .slice none 0 0 := fC hh (fr := fr') (by rw [aA,hy]; simp only [DV.v,DP.v])
    have run : ∀ (p : Option Addr) (m c : Nat),a.eval x = .slice p m c → bs C o ((σ.v ρ).put o.dst (.p (.v (.bool (p.isNone == b1))) true)) a w := by
     intro p m c hv
     have h1 := Lib.run_equalIn_slice_nil (P := C.P) w 9999 tx e p m c 0 0 (hC ▸ hu)
     have h2 : (Op.equal tx (.slice p m c) (.slice none 0 0)).run C.P w = .ok p.isNone w := h1
     rcases hop with ⟨rfl,rfl⟩ | ⟨rfl,rfl⟩
     ·exact bn hh hd (v := .bool (p.isNone == true)) (cF ho (by rw [hv,ey]; simp [eqGuard]) (by rw [hv,ey]; simp [binOp,h2])) (cT true rfl)
     ·exact bn hh hd (v := .bool (p.isNone == false)) (cF ho (by rw [hv,ey]; simp [eqGuard]) (by rw [hv,ey]; simp [binOp,h2])) (cT true rfl)
    have some' : ∀ (p : Addr) (m c : Nat),a.eval x = .slice (some p) m c → ∃ σ' ∈ [gY { σ with lin := bj l :: dS l :: σ.lin } o.dst b1,gY σ o.dst !b1], ∃ ρ' s,ao σ.nx ρ ρ' ∧ σ'.ok P I ρ' ∧ bs C o s a w ∧ bu s (σ'.v ρ') := by
     intro p m c hv
     refine ⟨_,List.mem_cons_of_mem _ (List.mem_cons_self ..),ρ,_,ao.refl _ _,hok.put _ _,run _ _ _ hv,?_⟩
     rw [gY,dy]
     simp only [DV.v,DP.v,BF.v,Option.isNone_some]
     cases b1 <;> exact bu.refl _
    generalize hv : a.eval x = v at ex
    cases hl : lvV ρ l with
    | nil =>
     rw [hl] at ex
     cases ex with
     | nil p c =>
      cases p with
      | some p => exact some' p 0 c hv
      | none =>
       refine ⟨_,List.mem_cons_self ..,ρ,_,ao.refl _ _,DSt.ok.put (σ := { σ with lin := bj l :: dS l :: σ.lin }) ⟨hok.g,hok.tys,⟨by rw [de,hl]; exact Int.le_refl _,by rw [iE,hl]; exact Int.le_refl _,hok.lin⟩,hok.prs⟩ _ _,run _ _ _ hv,?_⟩
       rw [gY,dy]
       simp only [DV.v,DP.v,BF.v,Option.isNone_none]
       cases b1 <;> exact bu.refl _
     | sl _ b off cap => exact some' _ _ _ hv
    | cons r rs =>
     rw [hl] at ex
     cases ex with
     | sl _ b off cap => exact some' _ _ _ hv
  split at h
  ·rename_i hop
   simp only [Option.some.injEq,Prod.mk.injEq] at h; obtain ⟨rfl,rfl⟩ := h
   exact key true (.inl ⟨rfl,rfl⟩)
  ·simp only [Option.some.injEq,Prod.mk.injEq] at h; obtain ⟨rfl,rfl⟩ := h
   exact key false (.inr ⟨rfl,rfl⟩)
  ·cases h
 ·cases h
def wX : List DV → List Co
 | [] => []
 | .vec k :: r => fc (.fz k) (wX r)
 | _ :: r => wX r
def Aw (P : Program) (n : Nat) (σ : DSt) (o : Oper) (t : TypeId) (m x v : Operand) : aQ :=
 match σ.cos n (match dev σ v with | .agg xs => wX xs | _ => []) with
 | some σ1 => KE P σ1 o t m x v
 | none => none
theorem Co1.step {P : Program} {I : Pr} {n : Nat} {o : Oper} {σ σ1 : DSt} {outs : List DSt} (c : Co1 P n σ σ1) (h : aM P I n o σ1 outs) : aM P I n o σ outs := by
 intro hs
 obtain ⟨h1,h2⟩ := h (c.sc hs)
 have hn : σ.nx = σ1.nx := by rw [c.nx]
 refine ⟨fun σ' hσ' => ⟨(h1 σ' hσ').1,hn ▸ (h1 σ' hσ').2⟩,?_⟩
 intro ρ hok K Q lo w0 E0 hK a w hh hd
 exact h2 ρ (c.ok hok) K Q lo w0 E0 (fun σ' hσ' ρ' ha => hK σ' hσ' ρ' (hn ▸ ha)) a w (c.imp ρ lo w0 E0 a w hh) hd
theorem wY {P : Program} {I : Pr} {n : Nat} {σ : DSt} {o : Oper} {t : TypeId} {m x v : Operand} {outs : List DSt} {q : List Seq} (ho : o.op = .mapUpdate t m x v ∨ o.op = .insert t m x v) (h : Aw P n σ o t m x v = some (outs,q)) (hV : Valid P I q) : aM P I n o σ outs := by
 unfold Aw at h
 split at h
 ·rename_i σ1 h1; exact (oh h1).step (IE ho h hV)
 ·cases h
def qc (σ : DSt) : List (Nat × Operand) → List Co
 | [] => []
 | (_,x) :: r => match dev σ x with
  | .agg xs => wX xs ++ qc σ r
  | .vec k => fc (.fz k) (qc σ r)
  | _ => qc σ r
def yx (P : Program) (n : Nat) (σ : DSt) (o : Oper) (ps : Array (Nat × Operand)) : aQ :=
 match qc σ ps.toList with
 | [] => none
 | c :: cs => match σ.cos n (c :: cs) with
  | some σ1 => match dop P σ1 o with
   | some (σ',gs) => some ([σ'],todo σ1 gs)
   | none => none
  | none => none
theorem CG {P : Program} {I : Pr} {n : Nat} {σ : DSt} {o : Oper} {ps : Array (Nat × Operand)} {outs : List DSt} {q : List Seq} (h : yx P n σ o ps = some (outs,q)) (hV : Valid P I q) : aM P I n o σ outs := by
 unfold yx at h
 split at h
 ·cases h
 ·split at h
  ·rename_i σ1 h1
   split at h
   ·rename_i σ' gs h2
    simp only [Option.some.injEq,Prod.mk.injEq] at h; obtain ⟨rfl,rfl⟩ := h
    exact (oh h1).step (u6 h2 hV)
   ·cases h
  ·cases h
def GK (P : Program) (n : Nat) (σ : DSt) (o : Oper) : aQ :=
 match o.op with
 | .lookup t m x c => GA P σ o t m x c
 | .makeMap t none => vm P σ o t
 | .mapUpdate t m x v => Aw P n σ o t m x v
 | .insert t m x v => Aw P n σ o t m x v
 | .box t x => CE P σ o t x
 | .buildSlice _ _ ps => yx P n σ o ps
 | .nilCheck x => GC P σ o x
 | .binOp op t x y _ => match GF P σ o op t x y with
  | some r => some r
  | none => match GI P σ o op t x y with
   | some r => some r
   | none => KH P σ o op t x y
 | _ => none
theorem GL {P : Program} {I : Pr} {n : Nat} : Handler P I n (GK P n) := by
 intro σ o outs q h hV
 unfold GK at h
 split at h
 ·rename_i ho; exact GB ho h hV
 ·rename_i ho; exact zY ho h
 ·rename_i ho; exact wY (.inl ho) h hV
 ·rename_i ho; exact wY (.inr ho) h hV
 ·rename_i ho; exact DJ ho h hV
 ·exact CG h hV
 ·rename_i ho; exact GD ho h hV
 ·rename_i ho
  split at h
  ·rename_i r hr; cases h; exact GG ho hr
  ·split at h
   ·rename_i r hr; cases h; exact GJ ho hr
   ·exact IF ho h
 ·cases h
end Go.TL
namespace Go.TL
def Q6 (P : Program) (n : Nat) : DSt → Oper → aQ := hOr (Cr P) (hOr (Gt P) (GK P n))
def Pw (P : Program) (n : Nat) (SS : List (Spec × Option Nat)) : DSt → Oper → aQ := hOr (Gn P n SS) (Q6 P n)
theorem IG {P : Program} {I : Pr} {n : Nat} {SS : List (Spec × Option Nat)} (hS : ∀ p ∈ SS,oA P I p.1 p.2) : Handler P I n (Pw P n SS) := vj (Gp hS) (vj DH (vj Gu GL))
end Go.TL
