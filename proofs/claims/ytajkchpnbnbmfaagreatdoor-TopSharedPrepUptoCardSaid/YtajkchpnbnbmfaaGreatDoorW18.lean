/- Runs of operations; code. -/
import Derived.Test.YtajkchpnbnbmfaaGreatDoorW17
namespace Go.TL
def aM (P : Program) (I : Pr) (n : Nat) (o : Oper) (σ : DSt) (outs : List DSt) : Prop :=
 σ.sc → (∀ σ' ∈ outs,σ'.sc ∧ σ.nx ≤ σ'.nx) ∧ ∀ ρ,σ.ok P I ρ → ∀ (K : Act → World → Prop) (Q : Exit → Act → World → Prop) (lo : Nat) (w0 : World) (E0 : Env),
  (∀ σ' ∈ outs, ∀ ρ',ao σ.nx ρ ρ' → σ'.ok P I ρ' → ∀ a' w',Holds (mkC P n lo w0 E0) (σ'.v ρ') a' w' → K a' w') →
  ∀ a w,Holds (mkC P n lo w0 E0) (σ.v ρ) a w → (∀ d,o.dst = some d → d < n) → o.wp P a w K Q
abbrev aQ := Option (List DSt × List Seq)
def Handler (P : Program) (I : Pr) (n : Nat) (CL : DSt → Oper → aQ) : Prop :=
 ∀ σ o outs q,CL σ o = some (outs,q) → Valid P I q → aM P I n o σ outs
def u5 (P : Program) (σ : DSt) (d : Nat) : Option DSt :=
 match lk σ.tab d with
 | some (.vec e sz (some l) false) => match scalars (cks P e),lk σ.tys l with
  | true,some e' => match Nat.beq e e' with | true => some (σ.setObj d (.vec e sz (some l) true)) | false => none
  | _,_ => none
 | _ => none
theorem Kr {P : Program} {w : World} {bad : Nat → Prop} {lo lo' : Nat} {c : CK} {x : PV} {v : Value} (hs : (∃ k,c = .int k) ∨ c = .bool ∨ c = .str) (hw : WT P c x) (h : Rep w bad lo x v) : Rep w bad lo' x v := by
 obtain ⟨⟨y,rfl⟩,_⟩ := rq hs hw
 cases h with | v _ hx => exact .v _ hx
theorem F8 {P : Program} {I : Pr} {σ σ' : DSt} {d : Nat} {ρ : Ro} (h : u5 P σ d = some σ') (hok : σ.ok P I ρ) {C : Ctx} {E : Env} {a : Act} {w : World} (hh : au C E (σ.v ρ) a w) : au C E (σ'.v ρ) a w := by
 unfold u5 at h
 split at h
 ·rename_i e sz l hl
  split at h
  ·rename_i e' hs hty
   split at h
   ·rename_i he
    simp only [Option.some.injEq] at h; subst h
    have := Nat.eq_of_beq_eq_true he; subst this
    have ht := c7 hok.tys hty
    refine { hh with ab := ?_,tab := ?_ }
    ·rw [lX]; exact hh.ab
    ·have hd := hh.tab.obj d _ (da hl)
     rw [lX]
     refine ⟨fun k ov hk => ?_,fun k hk => ?_,fun b k hb => ?_,hh.tab.ext⟩
     ·rw [bS] at hk
      split at hk
      ·rename_i e1; subst e1
       simp only [Option.some.injEq] at hk; subst hk
       obtain ⟨v,xs,h1,h2,h3,h4,f,f1,f2,f3⟩ := hd
       refine ⟨v,xs,h1,h2,h3,h4,f,f1,f2,fun i row j x hi hj => ?_⟩
       have hr := ht.2 row (List.mem_of_getElem? hi)
       have hw := (aY _ _).1 hr
       have hj' : j < (cks P e).length := by rw [← hw.1]; exact (List.getElem?_eq_some_iff.1 hj).1
       exact Kr (fq hs _ (List.getElem_mem hj')) (hw.2 j _ x (List.getElem?_eq_getElem hj') hj) (f3 i row j x hi hj)
      ·rename_i e1; rw [bP _ _ _ e1] at hk; exact hh.tab.obj k ov hk
     ·rw [bS] at hk
      split at hk
      ·cases hk
      ·rename_i e1; rw [bP _ _ _ e1] at hk; exact hh.tab.dead k hk
     ·obtain ⟨h1,h2,h3⟩ := hh.tab.own b k hb
      refine ⟨h1,h2,?_⟩
      rw [bS]
      split
      ·simp
      ·rename_i e1; rw [bP _ _ _ e1]; exact h3
   ·cases h
  ·cases h
 ·cases h
theorem Nj {P : Program} {σ σ' : DSt} {d : Nat} (h : u5 P σ d = some σ') (hs : σ.sc) : σ'.sc ∧ σ'.nx = σ.nx := by
 unfold u5 at h
 split at h
 ·rename_i e sz l hl
  split at h
  ·split at h
   ·simp only [Option.some.injEq] at h; subst h
    have := hs.tab d _ hl
    exact ⟨mT hs this,rfl⟩
   ·cases h
  ·cases h
 ·cases h
theorem Nk {P : Program} {I : Pr} {σ σ' : DSt} {d : Nat} {ρ : Ro} (h : u5 P σ d = some σ') (hok : σ.ok P I ρ) : σ'.ok P I ρ := by
 unfold u5 at h
 split at h
 ·split at h
  ·split at h
   ·simp only [Option.some.injEq] at h; subst h; exact ⟨hok.g,hok.tys,hok.lin,hok.prs⟩
   ·cases h
  ·cases h
 ·cases h
def upD (P : Program) (d : Option Nat) (σ : DSt) : DSt :=
 match d with
 | some d => match u5 P σ d with | some σ' => σ' | none => σ
 | none => σ
theorem Pk {P : Program} {d : Option Nat} {σ : DSt} (hs : σ.sc) : (upD P d σ).sc ∧ (upD P d σ).nx = σ.nx := by
 unfold upD
 split
 ·split
  ·rename_i h; exact Nj h hs
  ·exact ⟨hs,rfl⟩
 ·exact ⟨hs,rfl⟩
theorem Pm {P : Program} {I : Pr} {d : Option Nat} {σ : DSt} {ρ : Ro} (hok : σ.ok P I ρ) : (upD P d σ).ok P I ρ := by
 unfold upD
 split
 ·split
  ·rename_i h; exact Nk h hok
  ·exact hok
 ·exact hok
theorem Iq {P : Program} {I : Pr} {d : Option Nat} {σ : DSt} {ρ : Ro} (hok : σ.ok P I ρ) {C : Ctx} {a : Act} {w : World} (hh : Holds C (σ.v ρ) a w) : Holds C ((upD P d σ).v ρ) a w := by
 obtain ⟨E,hh⟩ := hh
 unfold upD
 split
 ·split
  ·rename_i h; exact ⟨E,F8 h hok hh⟩
  ·exact ⟨E,hh⟩
 ·exact ⟨E,hh⟩
def F9 (P : Program) (CL : DSt → Oper → aQ) (σ : DSt) (o : Oper) : aQ :=
 match dop P σ o with
 | some (σ',gs) => some ([upD P o.dst (Ar σ')],todo σ gs)
 | none => CL σ o
theorem u6 {P : Program} {I : Pr} {n : Nat} {σ σ' : DSt} {o : Oper} {gs : List G} (h : dop P σ o = some (σ',gs)) (hV : Valid P I (todo σ gs)) : aM P I n o σ [σ'] := by
 intro hs
 obtain ⟨h1,h2,h3⟩ := BN (I := I) h hs
 refine ⟨by simp [h1,h2],?_⟩
 intro ρ hok K Q lo w0 E0 hK a w hh hd
 obtain ⟨ρ',ha,hok',H,s,ps,e1,e2,e3⟩ := h3 ρ hok (fk hok hV)
 obtain ⟨v,w',hrun,hs'⟩ := Hx (C := mkC P n lo w0 E0) e1 e2 hh hd
 unfold Oper.wp
 rcases hrun with hrun | ⟨hrun,rfl⟩
 ·change Sem.run P _ _ = _ at hrun
  rw [hrun]; exact hK σ' (by simp) ρ' ha hok' _ _ (e3.holds hs')
 ·change Sem.run P _ _ = _ at hrun
  rw [hrun]; exact hK σ' (by simp) ρ' ha hok' _ _ (e3.holds hs')
theorem Ga {P : Program} {I : Pr} {n : Nat} {CL : DSt → Oper → aQ} (hC : Handler P I n CL) {σ : DSt} {o : Oper} {outs : List DSt} {q : List Seq} (h : F9 P CL σ o = some (outs,q)) (hV : Valid P I q) : aM P I n o σ outs := by
 unfold F9 at h
 split at h
 ·rename_i σ' gs hd
  simp only [Option.some.injEq,Prod.mk.injEq] at h; obtain ⟨rfl,rfl⟩ := h
  have x := u6 (n := n) hd hV
  intro hs
  obtain ⟨h1,h2⟩ := x hs
  have g := Kq (P := P) (I := I) (σ := σ')
  have hσ := h1 σ' (by simp)
  have hu := Pk (P := P) (d := o.dst) (g.sc hσ.1)
  refine ⟨fun y hy => by simp only [List.mem_singleton] at hy; subst hy; exact ⟨hu.1,hu.2 ▸ Nat.le_trans hσ.2 g.nx⟩,?_⟩
  intro ρ hok K Q lo w0 E0 hK a w hh hd'
  refine h2 ρ hok K Q lo w0 E0 ?_ a w hh hd'
  intro y hy ρ' ha hok' a' w' hh'
  simp only [List.mem_singleton] at hy; subst hy
  obtain ⟨ρ2,a2,o2,s2⟩ := g.run hσ.1 ρ' hok'
  exact hK (upD P o.dst (Ar y)) (List.mem_singleton.2 rfl) ρ2 (ha.trans a2 hσ.2) (Pm o2) a' w' (Iq o2 (s2.holds hh'))
 ·exact hC σ o outs q h hV
def cN (σ : DSt) : Bool → BF → List Lin × List PF
 | true,.le e => ([e],[])
 | false,.le e => ([j7 e],[])
 | true,.eq e => ([e,Lin.scale (-1) e],[])
 | false,.eq e => match bN σ (Lin.scale (-1) e) with
  | true => ([j7 e],[])
  | false => match bN σ e with
   | true => ([e.aD 1],[])
   | false => ([],[.tru (.not (.eq e))])
 | b,.not f => cN σ (!b) f
 | true,.and f g => ((cN σ true f).1 ++ (cN σ true g).1,(cN σ true f).2 ++ (cN σ true g).2)
 | false,.or f g => ((cN σ false f).1 ++ (cN σ false g).1,(cN σ false f).2 ++ (cN σ false g).2)
 | true,f => ([],[.tru f])
 | false,f => ([],[.tru (.not f)])
theorem me {P : Program} {I : Pr} {σ : DSt} {ρ : Ro} (hok : σ.ok P I ρ) : ∀ (f : BF) (b : Bool),f.v ρ = b → aR ρ (cN σ b f).1 ∧ bQ I ρ (cN σ b f).2
 | .le e,true,h => by simp only [BF.v,decide_eq_true_eq] at h; exact ⟨⟨h,trivial⟩,trivial⟩
 | .le e,false,h => by
  simp only [BF.v,decide_eq_false_iff_not] at h
  exact ⟨⟨by simp only [j7,Lin.aB,Lin.aT]; omega,trivial⟩,trivial⟩
 | .eq e,true,h => by
  simp only [BF.v,decide_eq_true_eq] at h
  exact ⟨⟨by omega,by rw [Lin.aT]; omega,trivial⟩,trivial⟩
 | .eq e,false,h => by
  have h' := h
  simp only [BF.v,decide_eq_false_iff_not] at h
  simp only [cN]
  split
  ·rename_i hp
   have := bw hok hp
   rw [Lin.aT] at this
   exact ⟨⟨by simp only [j7,Lin.aB,Lin.aT]; omega,trivial⟩,trivial⟩
  ·split
   ·rename_i hp
    have := bw hok hp
    exact ⟨⟨by rw [Lin.aB]; omega,trivial⟩,trivial⟩
   ·exact ⟨trivial,⟨by simp only [PF.v,BF.v]; simp [h],trivial⟩⟩
 | .not f,true,h => by simp only [BF.v] at h; simp only [cN]; exact me hok f false (by simpa using h)
 | .not f,false,h => by simp only [BF.v] at h; simp only [cN]; exact me hok f true (by simpa using h)
 | .and f g,true,h => by
  simp only [BF.v,Bool.and_eq_true] at h
  have a := me hok f true h.1
  have b := me hok g true h.2
  exact ⟨cq a.1 b.1,ic.2 ⟨a.2,b.2⟩⟩
 | .and f g,false,h => ⟨trivial,⟨by have : (BF.and f g).v ρ = false := h; simp only [PF.v,BF.v] at this ⊢; simp [this],trivial⟩⟩
 | .or f g,false,h => by
  simp only [BF.v,Bool.or_eq_false_iff] at h
  have a := me hok f false h.1
  have b := me hok g false h.2
  exact ⟨cq a.1 b.1,ic.2 ⟨a.2,b.2⟩⟩
 | .or f g,true,h => ⟨trivial,⟨h,trivial⟩⟩
 | .lit c,true,h => ⟨trivial,⟨h,trivial⟩⟩
 | .lit c,false,h => ⟨trivial,⟨by have : (BF.lit c).v ρ = false := h; simp only [PF.v,BF.v] at this ⊢; simp [this],trivial⟩⟩
 | .var k,true,h => ⟨trivial,⟨h,trivial⟩⟩
 | .var k,false,h => ⟨trivial,⟨by have : (BF.var k).v ρ = false := h; simp only [PF.v,BF.v] at this ⊢; simp [this],trivial⟩⟩
theorem jv {σ : DSt} {n : Nat} : ∀ (f : BF) (b : Bool),Sc n f.vars → (∀ e ∈ (cN σ b f).1,Sc n e.vars) ∧ ∀ p ∈ (cN σ b f).2,Sc n p.vars
 | .le e,true,h => by simp only [cN]; exact ⟨by intro x hx; simp only [List.mem_singleton] at hx; subst hx; exact h,by simp⟩
 | .le e,false,h => by simp only [cN]; exact ⟨by intro x hx; simp only [List.mem_singleton] at hx; subst hx; exact Lin.aX (Lin.cL h),by simp⟩
 | .eq e,true,h => by
  simp only [cN]
  refine ⟨?_,by simp⟩
  intro x hx
  simp only [List.mem_cons,List.mem_nil_iff,or_false] at hx
  rcases hx with rfl | rfl
  ·exact h
  ·exact Lin.cL h
 | .eq e,false,h => by
  simp only [cN]
  split
  ·exact ⟨by intro x hx; simp only [List.mem_singleton] at hx; subst hx; exact Lin.aX (Lin.cL h),by simp⟩
  ·split
   ·exact ⟨by intro x hx; simp only [List.mem_singleton] at hx; subst hx; exact Lin.aX h,by simp⟩
   ·exact ⟨by simp,by intro x hx; simp only [List.mem_singleton] at hx; subst hx; exact h⟩
 | .not f,true,h => by simp only [cN]; exact jv f false h
 | .not f,false,h => by simp only [cN]; exact jv f true h
 | .and f g,true,h => by
  simp only [BF.vars,Sc.app] at h
  have a := jv (σ := σ) f true h.1
  have b := jv (σ := σ) g true h.2
  simp only [cN]
  exact ⟨fun x hx => (List.mem_append.1 hx).elim (a.1 x) (b.1 x),fun x hx => (List.mem_append.1 hx).elim (a.2 x) (b.2 x)⟩
 | .and f g,false,h => by simp only [cN]; exact ⟨by simp,by intro x hx; simp only [List.mem_singleton] at hx; subst hx; exact h⟩
 | .or f g,false,h => by
  simp only [BF.vars,Sc.app] at h
  have a := jv (σ := σ) f false h.1
  have b := jv (σ := σ) g false h.2
  simp only [cN]
  exact ⟨fun x hx => (List.mem_append.1 hx).elim (a.1 x) (b.1 x),fun x hx => (List.mem_append.1 hx).elim (a.2 x) (b.2 x)⟩
 | .or f g,true,h => by simp only [cN]; exact ⟨by simp,by intro x hx; simp only [List.mem_singleton] at hx; subst hx; exact h⟩
 | .lit c,true,h => by simp only [cN]; exact ⟨by simp,by intro x hx; simp only [List.mem_singleton] at hx; subst hx; exact h⟩
 | .lit c,false,h => by simp only [cN]; exact ⟨by simp,by intro x hx; simp only [List.mem_singleton] at hx; subst hx; exact h⟩
 | .var k,true,h => by simp only [cN]; exact ⟨by simp,by intro x hx; simp only [List.mem_singleton] at hx; subst hx; exact h⟩
 | .var k,false,h => by simp only [cN]; exact ⟨by simp,by intro x hx; simp only [List.mem_singleton] at hx; subst hx; exact h⟩
def DSt.asm (σ : DSt) (t : Option Nat) (b : Bool) (f : BF) : DSt :=
 let r := cN σ b f
 { σ with ab := (match t with | some t => (t,.p (.bl (.lit b)) true) :: σ.ab | none => σ.ab),lin := r.1 ++ σ.lin,prs := r.2 ++ σ.prs }
theorem B0 {σ : DSt} (hs : σ.sc) (t : Option Nat) (b : Bool) {f : BF} (hf : Sc σ.nx f.vars) : (σ.asm t b f).sc := by
 have h := jv (σ := σ) f b hf
 refine ⟨?_,hs.tab,hs.tys,?_,?_⟩
 ·intro j v hl
  cases t with
  | none => exact hs.ab j v hl
  | some t =>
   simp only [DSt.asm,bS] at hl
   split at hl
   ·simp only [Option.some.injEq] at hl; subst hl; simp [DV.vars,DP.vars,BF.vars,Sc.nil]
   ·exact hs.ab j v hl
 ·intro e he; exact (List.mem_append.1 he).elim (h.1 e) (hs.lin e)
 ·intro e he; exact (List.mem_append.1 he).elim (h.2 e) (hs.prs e)
theorem B1 {P : Program} {I : Pr} {σ : DSt} {ρ : Ro} (hok : σ.ok P I ρ) (t : Option Nat) {b : Bool} {f : BF} (hf : f.v ρ = b) : (σ.asm t b f).ok P I ρ := by
 have h := me hok f b hf
 exact ⟨hok.g,hok.tys,cq h.1 hok.lin,ic.2 ⟨h.2,hok.prs⟩⟩
theorem B2 {σ : DSt} {ρ : Ro} (t : Option Nat) {b : Bool} {f : BF} (hf : f.v ρ = b) (ht : ∀ j,t = some j → ∃ fr,lk σ.ab j = some (.p (.bl f) fr)) {C : Ctx} {a : Act} {w : World} (h : Holds C (σ.v ρ) a w) : Holds C ((σ.asm t b f).v ρ) a w := by
 obtain ⟨E,e⟩ := h
 refine ⟨E,e.size,e.defers,?_,e.tab,e.fr,e.lo,e.ids,e.gZ⟩
 intro j sv hl
 cases t with
 | none => exact e.ab j sv hl
 | some t =>
  simp only [DSt.asm,DSt.v,bK,bS] at hl
  split at hl
  ·rename_i hj
   subst hj
   simp only [Option.some.injEq] at hl; subst hl
   obtain ⟨fr,h1⟩ := ht j rfl
   have := e.ab j (.p (.v (.bool b)) fr) (by simp only [DSt.v,eh,h1,Option.map_some,DV.v,DP.v,hf])
   rw [cf this]
   simp only [DV.v,DP.v,BF.v]
   exact cT true rfl
  ·exact e.ab j sv hl
inductive Wd where
 | yes
 | no
 | split (t : Nat) (f : BF) (want : Bool)
 | bad
def tf (σ : DSt) (ops : List Oper) (o : Oper) : Wd :=
 match o.guard with
 | none => .yes
 | some (j,want) => match ops[j]? with
  | some oj => match oj.dst with
   | some t => match lk σ.ab t with
    | some (.p (.bl f) _) => match f with
     | .lit b => match b,want with | true,true => .yes | false,false => .yes | _,_ => .no
     | f => .split t f want
    | some (.tup []) => .no
    | _ => .bad
   | none => .bad
  | none => .bad
theorem Nl {σ : DSt} {ops : List Oper} {o : Oper} (ρ : Ro) : match tf σ ops o with
  | .yes => dH (σ.v ρ) ops o = some true
  | .no => dH (σ.v ρ) ops o = some false
  | .split t f want => (∃ fr,lk σ.ab t = some (.p (.bl f) fr)) ∧ dH (σ.v ρ) ops o = some (f.v ρ == want)
  | .bad => True := by
 unfold tf dH
 cases o.guard with
 | none => rfl
 | some g =>
  obtain ⟨j,want⟩ := g
  simp only
  cases ops[j]? with
  | none => trivial
  | some oj =>
   simp only
   cases oj.dst with
   | none => trivial
   | some t =>
    simp only [DSt.v,eh]
    cases hl : lk σ.ab t with
    | none => trivial
    | some x =>
     cases x with
     | p y fr =>
      cases y with
      | bl f =>
       simp only [Option.map_some,DV.v,DP.v]
       cases f with
       | lit b => cases b <;> cases want <;> rfl
       | _ => exact ⟨⟨fr,hl⟩,rfl⟩
      | _ => trivial
     | tup xs => cases xs with
      | nil => simp only [Option.map_some,DV.v,dvs]
      | cons _ _ => trivial
     | _ => trivial
def iH (f : DSt → aQ) : List DSt → aQ
 | [] => some ([],[])
 | σ :: r => match f σ,iH f r with
  | some (a,q),some (b,q') => some (a ++ b,q ++ q')
  | _,_ => none
def tg : aQ → aQ → aQ
 | some (a,q),some (b,q') => some (a ++ b,q ++ q')
 | _,_ => none
def wH (q : List Seq) : aQ → aQ
 | some (a,q') => some (a,q ++ q')
 | none => none
theorem wI {x y : aQ} {r : List DSt} {q : List Seq} (h : tg x y = some (r,q)) : ∃ a p b p',x = some (a,p) ∧ y = some (b,p') ∧ r = a ++ b ∧ q = p ++ p' := by
 unfold tg at h
 split at h
 ·simp only [Option.some.injEq,Prod.mk.injEq] at h; exact ⟨_,_,_,_,rfl,rfl,h.1.symm,h.2.symm⟩
 ·cases h
theorem u7 {x : aQ} {r : List DSt} {q q0 : List Seq} (h : wH q0 x = some (r,q)) : ∃ p,x = some (r,p) ∧ q = q0 ++ p := by
 unfold wH at h
 split at h
 ·simp only [Option.some.injEq,Prod.mk.injEq] at h; obtain ⟨rfl,rfl⟩ := h; exact ⟨_,rfl,rfl⟩
 ·cases h
theorem gQ {f : DSt → aQ} : ∀ {S : List DSt} {r : List DSt} {q : List Seq},iH f S = some (r,q) → ∀ σ ∈ S, ∃ a p,f σ = some (a,p) ∧ (∀ x ∈ a,x ∈ r) ∧ ∀ s ∈ p,s ∈ q
 | [],r,q,h,σ,hσ => by simp at hσ
 | σ0 :: S,r,q,h,σ,hσ => by
  simp only [iH] at h
  split at h
  ·rename_i a p b p' h1 h2
   simp only [Option.some.injEq,Prod.mk.injEq] at h; obtain ⟨rfl,rfl⟩ := h
   rcases List.mem_cons.1 hσ with rfl | hσ
   ·exact ⟨a,p,h1,fun x hx => List.mem_append.2 (.inl hx),fun s hs => List.mem_append.2 (.inl hs)⟩
   ·obtain ⟨a',q',e1,e2,e3⟩ := gQ h2 σ hσ
    exact ⟨a',q',e1,fun x hx => List.mem_append.2 (.inr (e2 x hx)),fun s hs => List.mem_append.2 (.inr (e3 s hs))⟩
  ·cases h
theorem mf {f : DSt → aQ} : ∀ {S : List DSt} {r : List DSt} {q : List Seq},iH f S = some (r,q) → ∀ x ∈ r, ∃ σ ∈ S, ∃ a p,f σ = some (a,p) ∧ x ∈ a
 | [],r,q,h,x,hx => by simp only [iH,Option.some.injEq,Prod.mk.injEq] at h; rw [← h.1] at hx; simp at hx
 | σ0 :: S,r,q,h,x,hx => by
  simp only [iH] at h
  split at h
  ·rename_i a p b p' h1 h2
   simp only [Option.some.injEq,Prod.mk.injEq] at h; obtain ⟨rfl,rfl⟩ := h
   rcases List.mem_append.1 hx with hx | hx
   ·exact ⟨σ0,List.mem_cons_self ..,a,p,h1,hx⟩
   ·obtain ⟨σ,hσ,r⟩ := mf h2 x hx
    exact ⟨σ,List.mem_cons_of_mem _ hσ,r⟩
  ·cases h
def sb (ops : List Oper) (o : Oper) (go next : DSt → aQ) (σ : DSt) : aQ :=
 match tf σ ops o with
 | .yes => go σ
 | .no => next (σ.put o.dst (.tup []))
 | .split t f want => match want with
  | true => tg (go (σ.asm (some t) true f)) (next ((σ.asm (some t) false f).put o.dst (.tup [])))
  | false => tg (next ((σ.asm (some t) true f).put o.dst (.tup []))) (go (σ.asm (some t) false f))
 | .bad => none
def Gb (P : Program) (CL : DSt → Oper → aQ) (o : Oper) (next : DSt → aQ) (σ : DSt) : aQ :=
 match F9 P CL σ o with
 | some (outs,q) => wH q (iH next outs)
 | none => none
def B3 (P : Program) (o : Oper) (next : DSt → aQ) (σ : DSt) : aQ :=
 match dop P σ o with
 | some (σ',gs) => wH (todo σ gs) (next σ')
 | none => none
def th (P : Program) (n : Nat) (CL : DSt → Oper → aQ) (ops : List Oper) : List Nat → DSt → aQ
 | [],σ => some ([σ],[])
 | i :: is,σ => match ops[i]? with
  | none => none
  | some o => match AU n o with
   | true => sb ops o (Gb P CL o (th P n CL ops is)) (th P n CL ops is) σ
   | false => none
structure gy (P : Program) (I : Pr) (A B : St → Prop) (σ : DSt) (outs : List DSt) : Prop where
 sc : ∀ σ' ∈ outs,σ'.sc ∧ σ.nx ≤ σ'.nx
 run : ∀ ρ,σ.ok P I ρ → (∀ σ' ∈ outs, ∀ ρ',ao σ.nx ρ ρ' → σ'.ok P I ρ' → B (σ'.v ρ')) → A (σ.v ρ)
structure p5 (P : Program) (I : Pr) (ops : List Oper) (o : Oper) (b : Bool) (A B : St → Prop) (σ : DSt) (outs : List DSt) : Prop where
 sc : ∀ σ' ∈ outs,σ'.sc ∧ σ.nx ≤ σ'.nx
 run : ∀ ρ,σ.ok P I ρ → dH (σ.v ρ) ops o = some b → (∀ σ' ∈ outs, ∀ ρ',ao σ.nx ρ ρ' → σ'.ok P I ρ' → B (σ'.v ρ')) → A (σ.v ρ)
def Pn (P : Program) (n : Nat) (A : St → Prop) : Prop := ∀ s s',(∀ lo w0 E0 a w,Holds (mkC P n lo w0 E0) s a w → Holds (mkC P n lo w0 E0) s' a w) → A s' → A s
theorem Ms {σ : DSt} (hs : σ.sc) (dst : Option Nat) : (σ.put dst (.tup [])).sc ∧ σ.nx ≤ (σ.put dst (.tup [])).nx := ⟨hs.put dst (by simp [DV.vars,av,Sc.nil]),by rw [cC]; exact Nat.le_refl _⟩
theorem B4 {σ : DSt} {ops : List Oper} {o : Oper} {t : Nat} {f : BF} {want : Bool} (hw : tf σ ops o = .split t f want) (b : Bool) (ρ : Ro) : dH ((σ.asm (some t) b f).v ρ) ops o = some (b == want) := by
 unfold dH
 unfold tf at hw
 cases hg : o.guard with
 | none => simp [hg] at hw
 | some g =>
  obtain ⟨j,wt⟩ := g
  simp only [hg] at hw ⊢
  cases hoj : ops[j]? with
  | none => simp [hoj] at hw
  | some oj =>
   simp only [hoj] at hw ⊢
   cases hdst : oj.dst with
   | none => simp [hdst] at hw
   | some t' =>
    simp only [hdst] at hw ⊢
    have htt : t' = t ∧ wt = want := by
     cases hq : lk σ.ab t' with
     | none => simp [hq] at hw
     | some y =>
      rw [hq] at hw
      cases y with
      | p z fr' =>
       cases z with
       | bl g' =>
        simp only at hw
        cases g' with
        | lit c => cases c <;> cases wt <;> simp at hw
        | _ => simp only [Wd.split.injEq] at hw; exact ⟨hw.1,hw.2.2⟩
       | _ => simp at hw
      | tup xs => cases xs <;> simp at hw
      | _ => simp at hw
    obtain ⟨rfl,rfl⟩ := htt
    simp only [DSt.asm,DSt.v,bK,ar,DV.v,DP.v,BF.v]
theorem nA {P : Program} {I : Pr} {n : Nat} {ops : List Oper} {o : Oper} {A B : St → Prop} {go next : DSt → aQ} (hA : Pn P n A)
  (hgo : ∀ σ outs q,go σ = some (outs,q) → Valid P I q → σ.sc → p5 P I ops o true A B σ outs)
  (hnext : ∀ σ outs q,next (σ.put o.dst (.tup [])) = some (outs,q) → Valid P I q → σ.sc → p5 P I ops o false A B σ outs)
  {σ : DSt} {outs : List DSt} {q : List Seq} (h : sb ops o go next σ = some (outs,q)) (hV : Valid P I q) (hs : σ.sc) : gy P I A B σ outs := by
 unfold sb at h
 have hwv := fun ρ => Nl (σ := σ) (ops := ops) (o := o) ρ
 cases hw : tf σ ops o with
 | yes =>
  simp only [hw] at h hwv
  have g := hgo σ outs q h hV hs
  exact ⟨g.sc,fun ρ hok hB => g.run ρ hok (hwv ρ) hB⟩
 | no =>
  simp only [hw] at h hwv
  have g := hnext σ outs q h hV hs
  exact ⟨g.sc,fun ρ hok hB => g.run ρ hok (hwv ρ) hB⟩
 | bad => simp [hw] at h
 | split t f want =>
  simp only [hw] at h hwv
  obtain ⟨fr,hlk⟩ := (hwv (fun _ => default)).1
  have hfsc : Sc σ.nx f.vars := by have := hs.ab t _ hlk; simpa [DV.vars,DP.vars] using this
  have hsT := B0 hs (some t) true hfsc
  have hsF := B0 hs (some t) false hfsc
  have hlkj : ∀ j,some t = some j → ∃ fr,lk σ.ab j = some (.p (.bl f) fr) := fun j hj => by cases hj; exact ⟨fr,hlk⟩
  have fin : ∀ (oT oF : List DSt) (bT bF : Bool),bT = (true == want) → bF = (false == want) → p5 P I ops o bT A B (σ.asm (some t) true f) oT → p5 P I ops o bF A B (σ.asm (some t) false f) oF → gy P I A B σ (oT ++ oF) := by
   intro oT oF bT bF hbT hbF hT hF
   refine ⟨fun σ' hσ' => (List.mem_append.1 hσ').elim (hT.sc σ') (hF.sc σ'),?_⟩
   intro ρ hok hB
   cases hb : f.v ρ with
   | true =>
    refine hA _ _ (fun lo w0 E0 a w hh => B2 _ hb hlkj hh) (hT.run ρ (B1 hok _ hb) (by rw [hbT]; exact B4 hw true ρ) fun σ' hσ' => hB σ' (List.mem_append.2 (.inl hσ')))
   | false =>
    refine hA _ _ (fun lo w0 E0 a w hh => B2 _ hb hlkj hh) (hF.run ρ (B1 hok _ hb) (by rw [hbF]; exact B4 hw false ρ) fun σ' hσ' => hB σ' (List.mem_append.2 (.inr hσ')))
  cases want with
  | true =>
   simp only at h
   obtain ⟨a,p,b,p',e1,e2,rfl,rfl⟩ := wI h
   rw [Valid.app] at hV
   exact fin a b true false rfl rfl (hgo _ a p e1 hV.1 hsT) (hnext _ b p' e2 hV.2 hsF)
  | false =>
   simp only at h
   obtain ⟨a,p,b,p',e1,e2,rfl,rfl⟩ := wI h
   rw [Valid.app] at hV
   exact fin a b false true rfl rfl (hnext _ a p e1 hV.1 hsT) (hgo _ b p' e2 hV.2 hsF)
theorem zw {P : Program} {I : Pr} {n : Nat} {CL : DSt → Oper → aQ} (hC : Handler P I n CL) {ops : List Oper} {o : Oper} (hdo : ∀ d,o.dst = some d → d < n) {Q : Exit → St → Prop} {B : St → Prop}
  (X K : Nat → World → Env → Act → World → Prop) (hX : ∀ s lo w0 E0 a w,Holds (mkC P n lo w0 E0) s a w → dH s ops o = some true → o.wp P a w (K lo w0 E0) (lift (mkC P n lo w0 E0) Q) → X lo w0 E0 a w)
  {next : DSt → aQ} (hnext : ∀ σ outs q,next σ = some (outs,q) → Valid P I q → σ.sc → gy P I (fun s => ∀ lo w0 E0 a w,Holds (mkC P n lo w0 E0) s a w → K lo w0 E0 a w) B σ outs)
  (σ : DSt) (outs : List DSt) (q : List Seq) (h : Gb P CL o next σ = some (outs,q)) (hV : Valid P I q) (hs : σ.sc) :
  p5 P I ops o true (fun s => ∀ lo w0 E0 a w,Holds (mkC P n lo w0 E0) s a w → X lo w0 E0 a w) B σ outs := by
 unfold Gb at h
 split at h
 ·rename_i o1 q1 h1
  obtain ⟨p,h2,rfl⟩ := u7 h
  rw [Valid.app] at hV
  obtain ⟨g1,g2⟩ := Ga hC h1 hV.1 hs
  refine ⟨?_,?_⟩
  ·intro σ' hσ'
   obtain ⟨σ1,hm,a,p',e1,e2⟩ := mf h2 σ' hσ'
   obtain ⟨a',p'',f1,f2,f3⟩ := gQ h2 σ1 hm
   rw [e1] at f1; simp only [Option.some.injEq,Prod.mk.injEq] at f1; obtain ⟨rfl,rfl⟩ := f1
   obtain ⟨s1,l1⟩ := g1 σ1 hm
   have := (hnext σ1 a p' e1 (fun s hs => hV.2 s (f3 s hs)) s1).sc σ' e2
   exact ⟨this.1,Nat.le_trans l1 this.2⟩
  ·intro ρ hok hw hB lo w0 E0 a w hh
   refine hX _ lo w0 E0 a w hh hw ?_
   refine g2 ρ hok _ _ lo w0 E0 ?_ a w hh hdo
   intro σ1 hm ρ1 ha1 hok1 a' w' hh'
   obtain ⟨a',p'',f1,f2,f3⟩ := gQ h2 σ1 hm
   obtain ⟨s1,l1⟩ := g1 σ1 hm
   refine (hnext σ1 a' p'' f1 (fun s hs => hV.2 s (f3 s hs)) s1).run ρ1 hok1 ?_ lo w0 E0 _ _ hh'
   intro σ' hσ' ρ' ha' hok'
   exact hB σ' (f2 σ' hσ') ρ' (ha1.trans ha' l1) hok'
 ·cases h
theorem zx {P : Program} {I : Pr} {n : Nat} {ops : List Oper} {o : Oper} (hdo : ∀ d,o.dst = some d → d < n) {B : St → Prop}
  (X K : Nat → World → Env → Act → World → Prop) (hX : ∀ s lo w0 E0 a w,Holds (mkC P n lo w0 E0) s a w → dH s ops o = some false → K lo w0 E0 (a.put o.dst undef) w → X lo w0 E0 a w)
  {next : DSt → aQ} (hnext : ∀ σ outs q,next σ = some (outs,q) → Valid P I q → σ.sc → gy P I (fun s => ∀ lo w0 E0 a w,Holds (mkC P n lo w0 E0) s a w → K lo w0 E0 a w) B σ outs)
  (σ : DSt) (outs : List DSt) (q : List Seq) (h : next (σ.put o.dst (.tup [])) = some (outs,q)) (hV : Valid P I q) (hs : σ.sc) :
  p5 P I ops o false (fun s => ∀ lo w0 E0 a w,Holds (mkC P n lo w0 E0) s a w → X lo w0 E0 a w) B σ outs := by
 have g := hnext _ outs q h hV (Ms hs o.dst).1
 refine ⟨fun σ' hσ' => by have := g.sc σ' hσ'; rw [cC] at this; exact this,?_⟩
 intro ρ hok hw hB lo w0 E0 a w hh
 refine hX _ lo w0 E0 a w hh hw ?_
 have := g.run ρ (hok.put _ _) (fun σ' hσ' ρ' ha hok' => hB σ' hσ' ρ' (by rw [cC] at ha; exact ha) hok') lo w0 E0
 rw [dy] at this
 simp only [DV.v,dvs] at this
 exact this _ _ (D1 hh hdo)
theorem B5 {P : Program} {n : Nat} (X : Nat → World → Env → Act → World → Prop) : Pn P n (fun s => ∀ lo w0 E0 a w,Holds (mkC P n lo w0 E0) s a w → X lo w0 E0 a w) :=
 fun _ _ h k lo w0 E0 a w hh => k lo w0 E0 a w (h lo w0 E0 a w hh)
theorem wJ {P : Program} {I : Pr} {n : Nat} {CL : DSt → Oper → aQ} (hC : Handler P I n CL) {ops : Array Oper} (hds : gR n ops.toList = true) {Q : Exit → St → Prop} :
  ∀ (is : List Nat) (σ : DSt) (outs : List DSt) (q : List Seq),th P n CL ops.toList is σ = some (outs,q) → Valid P I q → σ.sc → gy P I (fun s => xH P n ops is s Q) (fun s => Q .normal s) σ outs
 | [],σ,outs,q,h,hV,hs => by
  simp only [th,Option.some.injEq,Prod.mk.injEq] at h; obtain ⟨rfl,rfl⟩ := h
  exact ⟨by simp [hs],fun ρ hok hB => Js (hB σ (by simp) ρ (ao.refl _ _) hok)⟩
 | i :: is,σ,outs,q,h,hV,hs => by
  simp only [th] at h
  split at h
  ·cases h
  ·rename_i o ho
   split at h
   ·have ho' : ops[i]? = some o := by simpa using ho
    have hdo : ∀ d,o.dst = some d → d < n := fun d hd => dL hds o (List.mem_of_getElem? ho) d hd
    have hnx := fun σ outs q h hV hs => wJ hC hds (Q := Q) is σ outs q h hV hs
    refine nA (B5 fun lo w0 E0 a w => wpOps P ops (lift (mkC P n lo w0 E0) Q) (i :: is) a w)
     (zw hC hdo (Q := Q) _ (fun lo w0 E0 a w => wpOps P ops (lift (mkC P n lo w0 E0) Q) is a w) (fun s lo w0 E0 a w hh hw hwp => Fj ho' (gu hh (dL hds) hw) hwp) hnx)
     (zx hdo _ (fun lo w0 E0 a w => wpOps P ops (lift (mkC P n lo w0 E0) Q) is a w) (fun s lo w0 E0 a w hh hw hk => Fk ho' (gu hh (dL hds) hw) hk) hnx) h hV hs
   ·cases h
def Q2 (σ : DSt) (o : Oper) : Bool :=
 match o.op with
 | .binOp _ _ x _ _ => match dev σ x with | .agg _ => true | .p (.sl _) _ => true | _ => false
 | _ => false
def B6 (ops : Array Oper) (listed : Array Bool) (σ : DSt) : List Nat → Option Nat
 | [] => none
 | i :: r => match ops.toList[i]? with
  | none => none
  | some o => match (nJ o && Region.free .any ops listed i) && !Q2 σ o with
   | true => some i
   | false => B6 ops listed σ r
theorem DC {P : Program} {I : Pr} {n : Nat} {ops : Array Oper} {fuel i : Nat} {listed : Array Bool} {o : Oper} {Q : Exit → St → Prop} {B : St → Prop} (ho : ops.toList[i]? = some o) (hds : gR n ops.toList = true)
  (hpure : nJ o = true) (hsel : Region.noSelect ops = true) (hfree : Region.free .any ops listed i = true) (hr : (Region.ready .any ops listed).contains i = true) (hQ : ∀ c s,Q (.panic c) s → False)
  {next : DSt → aQ} (hnext : ∀ σ outs q,next σ = some (outs,q) → Valid P I q → σ.sc → gy P I (fun s => fE P n ops fuel (listed.setIfInBounds i true) s Q) B σ outs)
  (σ : DSt) (outs : List DSt) (q : List Seq) (h : B3 P o next σ = some (outs,q)) (hV : Valid P I q) (hs : σ.sc) :
  p5 P I ops.toList o true (fun s => fE P n ops (fuel + 1) listed s Q) B σ outs := by
 unfold B3 at h
 split at h
 ·rename_i σ' gs h1
  obtain ⟨p,h2,rfl⟩ := u7 h
  rw [Valid.app] at hV
  obtain ⟨g1,g2,g3⟩ := BN (I := I) h1 hs
  have g := hnext σ' outs p h2 hV.2 g1
  refine ⟨fun x hx => ⟨(g.sc x hx).1,Nat.le_trans g2 (g.sc x hx).2⟩,?_⟩
  intro ρ hok hw hB
  obtain ⟨ρ',ha,hok',H,s,ps,e1,e2,e3⟩ := g3 ρ hok (fk hok hV.1)
  refine HH i ho hds hpure hw hsel hfree hr hQ e1 e2 rfl ?_
  refine A0 (fun lo w0 E0 a w hh => e3.holds hh) ?_
  exact g.run ρ' hok' fun x hx ρ2 ha2 hok2 => hB x hx ρ2 (ha.trans ha2 g2) hok2
 ·cases h
end Go.TL
