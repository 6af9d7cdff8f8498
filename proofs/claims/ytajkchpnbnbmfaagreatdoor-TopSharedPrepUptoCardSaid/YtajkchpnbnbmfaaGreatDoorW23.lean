/- Functions: what is told of them is so. -/
import Derived.Test.YtajkchpnbnbmfaaGreatDoorW22
import Derived.Test.YtajkchpnbnbmfaaGreatDoorW11
namespace Go.TL
def jx : Nat := 1000000
theorem Q7 {w : World} {E : Env} {lo : Nat} : ∀ {xs : List SV} {vs : List Value},VRs w E lo xs vs → VR w E lo (mk xs) (if h : vs.toArray.size = 1 then vs.toArray[0] else .tuple vs.toArray)
 | [],vs,h => by
  have := bJ h
  cases vs with
  | nil => simp only [mk,VR]; exact ⟨[],rfl,h⟩
  | cons v vs => simp at this
 | [x],vs,h => by
  have := bJ h
  match vs,this,h with
  | [v],_,h => simpa [mk] using (ay.1 h).1
 | x :: y :: r,vs,h => by
  have hl := bJ h
  have hs : ¬ vs.toArray.size = 1 := by simp at hl ⊢; omega
  rw [dif_neg hs]
  simp only [mk,VR]; exact ⟨vs,rfl,h⟩
theorem DK {P : Program} {fn : Func} {tmps : Array Value} {w : World} {vs : List Value} (h : (fn.results.toList.mapM (fg tmps)).run P w = .ok vs w) :
  (results fn tmps).run P w = .ok (if h : vs.toArray.size = 1 then vs.toArray[0] else .tuple vs.toArray) w := by
 have hres : results fn tmps = (fn.results.mapM (fg tmps) >>= fun vs => pure (if h : vs.size = 1 then vs[0] else .tuple vs)) := by
  unfold results
  congr 1
 rw [hres]
 simp [Array.mapM_eq_mapM_toList,h]
def GM (P : Program) (fn : Func) (R : SV → Tab → Prop) (σ : St) : Prop :=
 ∃ rs,iy P σ fn.results.toList = some rs ∧ rs.length ≤ jx ∧ ∃ σ2 xs,Imp P jx ⟨c8 0 rs,σ.tab⟩ σ2 ∧ xs.length = rs.length ∧ (∀ i x,xs[i]? = some x → lk σ2.ab i = some x) ∧ R (mk xs) σ2.tab
def MB (P : Program) (fn : Func) (R : SV → Tab → Prop) : Exit → St → Prop := fun e σ =>
 match e with
 | .normal => ∃ σ1,Imp P fn.ntmps σ σ1 ∧ GM P fn R σ1
 | .ret => ∃ σ1,Imp P fn.ntmps σ σ1 ∧ GM P fn R σ1
 | _ => False
theorem wZ {w : World} {E : Env} {lo : Nat} : ∀ {xs : List SV} {vs : List Value},xs.length = vs.length → (∀ (i : Nat) (x : SV) (v : Value),xs[i]? = some x → vs[i]? = some v → VR w E lo x v) → VRs w E lo xs vs
 | [],[],_,_ => by simp [VRs]
 | x :: xs,v :: vs,hl,h => bC (h 0 x v rfl rfl) (wZ (by simpa using hl) fun i y u hy hu => h (i + 1) y u (by simpa using hy) (by simpa using hu))
 | [],_ :: _,hl,_ => by simp at hl
 | _ :: _,[],hl,_ => by simp at hl
theorem GN {P : Program} {f : FuncId} {fn : Func} {c : Code} {args : List SV} {T : Tab} {R : SV → Tab → Prop} (hf : P.funcs[f]? = some fn) (hb : fn.body = some c) (hn : Nat.ble args.length fn.ntmps = true)
  (hnb : Nat.ble fn.ntmps jx = true) (hids : xI jx T = true) (h : AWP P fn.ntmps c ⟨c8 0 args,T⟩ (MB P fn R)) : FnS P f args T R := by
 intro lo w E vals hlo ht hv
 have hlen := bJ hv
 have hn' := Nat.le_of_ble_eq_true hn
 have hnb' := Nat.le_of_ble_eq_true hnb
 refine calls_of_wp hf hb ?_
 have hold : Holds (mkC P fn.ntmps lo w E) ⟨c8 0 args,T⟩ { tmps := vals.toArray ++ Array.replicate (fn.ntmps - vals.toArray.size) undef,defers := [] } w := by
  refine ⟨E,by simp [mkC]; omega,rfl,?_,ht,Fr.refl w E,hlo,?_,fun k x hk => .inl hk⟩
  ·intro t sv hl
   rw [iO] at hl
   simp at hl
   obtain ⟨v,hv1,hv2⟩ := k8 hv hl
   have hlt : t < vals.length := (List.getElem?_eq_some_iff.1 hv1).1
   have : (vals.toArray ++ Array.replicate (fn.ntmps - vals.toArray.size) undef).getD t undef = v := by
    simp only [Array.getD_eq_getD_getElem?,Array.getElem?_append,List.size_toArray,hlt,if_true,List.getElem?_toArray,hv1,Option.getD_some]
   simp only [this]
   exact hv2
  ·intro k hk
   exact Nat.le_trans hnb' (xJ hids k fun e => hk (ht.dead k e))
 refine wp_mono (h lo w E _ w hold) ?_
 rintro e a' w' ⟨σ,hq,hs⟩
 have fin : (∃ σ1,Imp P fn.ntmps σ σ1 ∧ GM P fn R σ1) → a'.defers = [] ∧ ∃ v,(results fn a'.tmps).run P w' = .ok v w' ∧ ∃ r v_1 T' E',Ending.returned v = .returned v_1 ∧ R r T' ∧ Fr w E w' E' ∧ a8 w' E' lo T' ∧ VR w' E' lo r v_1 ∧ ∀ k x,E.val k = some x → E'.val k = some x ∨ E'.val k = none := by
  rintro ⟨σ,himp,rs,hr,hrl,σ2,xs,himp2,hxl,hl,hR⟩
  obtain ⟨E',hs⟩ := himp lo w E a' w' hs
  obtain ⟨vs,h1,h2⟩ := tS hs _ _ hr
  have hvl := bJ h2
  have hold2 : Holds (mkC P jx lo w E) ⟨c8 0 rs,σ.tab⟩ { tmps := vs.toArray ++ Array.replicate (jx - vs.toArray.size) undef,defers := [] } w' := by
   refine ⟨E',by simp [mkC]; omega,rfl,?_,hs.tab,hs.fr,hs.lo,fun k hk => xJ hids k fun e => hk (ht.dead k e),hs.gZ⟩
   intro t sv hl
   rw [iO] at hl
   simp at hl
   obtain ⟨v,hv1,hv2⟩ := k8 h2 hl
   have hlt : t < vs.length := (List.getElem?_eq_some_iff.1 hv1).1
   have : (vs.toArray ++ Array.replicate (jx - vs.toArray.size) undef).getD t undef = v := by
    simp only [Array.getD_eq_getD_getElem?,Array.getElem?_append,List.size_toArray,hlt,if_true,List.getElem?_toArray,hv1,Option.getD_some]
   simp only [this]
   exact hv2
  obtain ⟨E2,hs2⟩ := himp2 lo w E _ w' hold2
  have hxs : VRs w' E2 lo xs vs := by
   refine wZ (by omega) ?_
   intro i x v hx hv
   have := hs2.ab i x (hl i x hx)
   have hlt : i < vs.length := (List.getElem?_eq_some_iff.1 hv).1
   have e : (vs.toArray ++ Array.replicate (jx - vs.toArray.size) undef).getD i undef = v := by
    simp only [Array.getD_eq_getD_getElem?,Array.getElem?_append,List.size_toArray,hlt,if_true,List.getElem?_toArray,hv,Option.getD_some]
   simp only [e] at this
   exact this
  exact ⟨hs.defers,_,DK h1,mk xs,_,σ2.tab,E2,rfl,hR,hs2.fr,hs2.tab,Q7 hxs,hs2.gZ⟩
 cases e with
 | normal => exact fin hq
 | ret => exact fin hq
 | _ => exact hq.elim
def xa (P : Program) (σ : DSt) : ResultVar → Option DV
 | .tmp t => some (σ.get t)
 | .cell x t => match σ.get x with
  | .ptr k off => match lk σ.tab k with
   | some (.box _ cells) => eE P t off cells
   | _ => none
  | _ => none
def gh (P : Program) (σ : DSt) : List ResultVar → Option (List DV)
 | [] => some []
 | r :: rs => match xa P σ r,gh P σ rs with
  | some x,some xs => some (x :: xs)
  | _,_ => none
theorem KI {P : Program} {ρ : Ro} {σ : DSt} {r : ResultVar} {x : DV} (h : xa P σ r = some x) : ph P (σ.v ρ) r = some (x.v ρ) := by
 cases r with
 | tmp t => simp only [xa,Option.some.injEq] at h; subst h; simp only [ph,Bo]
 | cell x t =>
  simp only [xa] at h
  split at h
  ·rename_i k off he
   split at h
   ·rename_i bt cells hl
    simp only [ph,Bo,he,DV.v,da hl,DO.v,gv,h,Option.map_some]
   ·cases h
  ·cases h
theorem xb {P : Program} {ρ : Ro} {σ : DSt} : ∀ {rs : List ResultVar} {xs : List DV},gh P σ rs = some xs → iy P (σ.v ρ) rs = some (dvs ρ xs)
 | [],xs,h => by simp only [gh,Option.some.injEq] at h; subst h; simp [iy,dvs]
 | r :: rs,xs,h => by
  simp only [gh] at h
  split at h
  ·rename_i x xs' h1 h2
   simp only [Option.some.injEq] at h; subst h
   simp only [iy,KI (ρ := ρ) h1,xb h2,dvs]
  ·cases h
def mq (nv : Nat) (σ : DSt) : List bh → Option (List Seq)
 | [] => none
 | p :: r => match pZ jx nv σ (p.st nv) (fun _ => []) with
  | some [] => some []
  | some q => match mq nv σ r with
   | some [] => some []
   | _ => some q
  | none => mq nv σ r
theorem mr {nv : Nat} {σ : DSt} : ∀ {ps : List bh} {q : List Seq},mq nv σ ps = some q → ∃ p ∈ ps,pZ jx nv σ (p.st nv) (fun _ => []) = some q
 | p :: r,q,h => by
  simp only [mq] at h
  split at h
  ·rename_i h1; simp only [Option.some.injEq] at h; subst h; exact ⟨p,List.mem_cons_self ..,h1⟩
  ·rename_i q' hne h1
   split at h
   ·rename_i h2
    simp only [Option.some.injEq] at h; subst h
    obtain ⟨p',h3,h4⟩ := mr h2
    exact ⟨p',List.mem_cons_of_mem _ h3,h4⟩
   ·simp only [Option.some.injEq] at h; subst h; exact ⟨p,List.mem_cons_self ..,h1⟩
  ·obtain ⟨p',h3,h4⟩ := mr h; exact ⟨p',List.mem_cons_of_mem _ h3,h4⟩
def GO (P : Program) (rs : List ResultVar) (s : Spec) (σ : DSt) : Option (List Seq) :=
 match gh P σ rs with
 | some xs => match Nat.ble xs.length 1000 with
  | true => mq s.nv ⟨dj 0 xs,σ.tab,σ.tys,σ.lin,σ.prs,σ.nx,σ.hc⟩ s.gW
  | false => none
 | none => none
theorem zZ (xs : List SV) (i : Nat) : lk (c8 0 xs) i = xs[i]? := by rw [iO]; simp
theorem EI {P : Program} {I : Pr} {fn : Func} {s : Spec} {σ : DSt} {q : List Seq} (h : GO P fn.results.toList s σ = some q) (hV : Valid P I q) {ρ0 ρ : Ro} (hag : ao s.nv ρ0 ρ) (hok : σ.ok P I ρ)
  (hlen : ∀ p ∈ s.gW,p.res.length = fn.results.size) : GM P fn (jM P I s ρ0) (σ.v ρ) := by
 unfold GO at h
 split at h
 ·rename_i xs hx
  split at h
  ·rename_i hb
   obtain ⟨p,hp,hi⟩ := mr h
   obtain ⟨θ,c,_⟩ := uZ hi hV ρ ⟨hok.g,hok.tys,hok.lin,hok.prs⟩
   have hl1 : xs.length = fn.results.size := by
    have : ∀ (rs : List ResultVar) (xs : List DV),gh P σ rs = some xs → xs.length = rs.length := by
     intro rs
     induction rs with
     | nil => intro xs h; simp only [gh,Option.some.injEq] at h; subst h; rfl
     | cons r rs ih =>
      intro xs h
      simp only [gh] at h
      split at h
      ·rename_i x xs' h1 h2
       simp only [Option.some.injEq] at h; subst h
       simp [ih _ h2]
      ·cases h
    simpa using this _ _ hx
   refine ⟨dvs ρ xs,xb hx,?_,(p.st s.nv).v (ap ρ θ),dvs (ap ρ θ) p.res,?_,?_,?_,p,hp,ap ρ θ,fun k hk => (c.ag k hk).trans (hag k hk),⟨c.g,c.tys,c.lin,c.prs⟩,(Q3 _ _).symm,rfl⟩
   ·have := Nat.le_of_ble_eq_true hb
    simp only [dI,List.length_map,jx]; omega
   ·have := c.imp
    simp only [DSt.v,iY] at this ⊢
    exact this
   ·simp only [dI,List.length_map]; rw [hlen p hp,hl1]
   ·intro i x hx
    simp only [bh.st,DSt.v,iY,zZ]; exact hx
  ·cases h
 ·cases h
def GP (n : Nat) : az → Bool
 | [] => true
 | (k,_) :: r => match Nat.ble n k with | true => GP n r | false => false
theorem IH {ρ : Ro} {n : Nat} : ∀ T : az,xI n (aG ρ T) = GP n T
 | [] => rfl
 | (k,x) :: r => by simp only [aG,xI,GP,IH r]; rfl
def Spec.start (s : Spec) (hc : List Cert) : DSt :=
 { s.pre with hc := hc,lin := (Lin.at (4 * s.nv + 2)).ax (-1) s.gf :: s.gf.ax (-1) (Lin.at (4 * s.nv + 2)) :: s.lin,prs := .pr 0 [s.nv] :: s.prs,nx := s.nv + 1 }
def Ax (n : Nat) : List bh → Bool
 | [] => true
 | p :: r => match Nat.beq p.res.length n with | true => Ax n r | false => false
theorem sA {n : Nat} : ∀ {l : List bh},Ax n l = true → ∀ p ∈ l,p.res.length = n
 | p :: r,h,x,hx => by
  simp only [Ax] at h
  split at h
  ·rename_i h1
   rcases List.mem_cons.1 hx with rfl | hx
   ·exact Nat.eq_of_beq_eq_true h1
   ·exact sA h x hx
  ·cases h
def GQ (P : Program) (rs : List ResultVar) (s : Spec) : List DSt → Option (List Seq)
 | [] => some []
 | σ :: r => match GO P rs s σ,GQ P rs s r with
  | some a,some b => some (a ++ b)
  | _,_ => none
theorem vo {P : Program} {rs : List ResultVar} {s : Spec} : ∀ {l : List DSt} {q : List Seq},GQ P rs s l = some q → ∀ σ ∈ l, ∃ p,GO P rs s σ = some p ∧ ∀ x ∈ p,x ∈ q
 | σ0 :: r,q,h,σ,hσ => by
  simp only [GQ] at h
  split at h
  ·rename_i a b h1 h2
   simp only [Option.some.injEq] at h; subst h
   rcases List.mem_cons.1 hσ with rfl | hσ
   ·exact ⟨a,h1,fun s hs => List.mem_append.2 (.inl hs)⟩
   ·obtain ⟨p,e1,e2⟩ := vo h2 σ hσ
    exact ⟨p,e1,fun s hs => List.mem_append.2 (.inr (e2 s hs))⟩
  ·cases h
def mu : List (Exit × DSt) → Option (List DSt)
 | [] => some []
 | (.ret,σ) :: r => match mu r with | some l => some (σ :: l) | none => none
 | _ => none
theorem xc : ∀ {l : List (Exit × DSt)} {S : List DSt},mu l = some S → ∀ e σ,(e,σ) ∈ l → e = .ret ∧ σ ∈ S
 | [],S,h,e,σ,hm => by simp at hm
 | (.ret,σ0) :: r,S,h,e,σ,hm => by
  simp only [mu] at h
  split at h
  ·rename_i l hl
   simp only [Option.some.injEq] at h; subst h
   rcases List.mem_cons.1 hm with hm | hm
   ·simp only [Prod.mk.injEq] at hm; rw [hm.1,hm.2]; exact ⟨rfl,List.mem_cons_self ..⟩
   ·obtain ⟨h1,h2⟩ := xc hl e σ hm; exact ⟨h1,List.mem_cons_of_mem _ h2⟩
  ·cases h
 | (.normal,_) :: _,S,h,_,_,_ => by simp [mu] at h
 | (.exit _,_) :: _,S,h,_,_,_ => by simp [mu] at h
 | (.panic _,_) :: _,S,h,_,_,_ => by simp [mu] at h
def EJ (P : Program) (SS : List (Spec × Option Nat)) (s : Spec) (A : Ann) (n : Nat) (rs : List ResultVar) (c : Code) : Option (List Seq) :=
 match Nat.ble s.args.length n,Nat.ble n jx,GP jx s.tab,Ax rs.length s.gW,kW 0 (s.start A.hc),kW 0 s.pre,scB s.nv s.gf.vars with
 | true,true,true,true,true,true,true => match exec P n (Pw P n SS) A c 0 (s.start A.hc) [s.start A.hc] with
  | some R => match mu R.oth with
   | some S => match GQ P rs s (R.nor ++ S) with
    | some q => some (R.q ++ (q ++ todo { s.pre with hc := A.hc } [.le (Lin.scale (-1) s.gf)]))
    | none => none
   | none => none
  | none => none
 | _,_,_,_,_,_,_ => none
def verify (P : Program) (SS : List (Spec × Option Nat)) (s : Spec) (A : Ann) : Option (List Seq) :=
 match P.funcs[s.fn]? with
 | some fn => match fn.body with
  | some c => EJ P SS s A fn.ntmps fn.results.toList c
  | none => none
 | none => none
def oC (k : Nat) : List (List PV) := match k with | 0 => [] | k + 1 => [List.replicate k (.v (.bool true))]
theorem Px (k : Nat) : rz (List.replicate k (.v (.bool true))) = k := by
 induction k with
 | zero => simp [rz]
 | succ k ih => rw [List.replicate_succ,dc,ih]; simp [pz]; omega
theorem GR (k : Nat) : rsz (oC k) = k := by
 cases k with
 | zero => simp [oC,rsz]
 | succ k => simp only [oC,dM,jh,Px]; omega
theorem GU (k : Nat) : (oC k).length ≤ b7 := by cases k <;> simp [oC,b7]
theorem II {P : Program} {I : Pr} (_hI : Pt I) {SS : List (Spec × Option Nat)} {s : Spec} {A : Ann} {q : List Seq} (h : verify P SS s A = some q) (hS : ∀ p ∈ SS,oA P I p.1 p.2) (hV : Valid P I q) {N : Nat}
  (hN : ∀ va : Va,rsz va.l ≤ N → I 0 [va]) : fy P I (N + 1) s := by
 unfold verify at h
 split at h
 ·rename_i fn hf
  split at h
  ·rename_i c hb
   unfold EJ at h
   split at h
   ·rename_i e1 e2 e3 e4 e5 e6 e7
    split at h
    ·rename_i R hR
     split at h
     ·rename_i S hSr
      split at h
      ·rename_i q' hq
       simp only [Option.some.injEq] at h; subst h
       have V1 : Valid P I R.q := fun s hs => hV s (List.mem_append.2 (.inl hs))
       have V2 : Valid P I q' := fun s hs => hV s (List.mem_append.2 (.inr (List.mem_append.2 (.inl hs))))
       have V3 : Valid P I (todo { s.pre with hc := A.hc } [.le (Lin.scale (-1) s.gf)]) := fun s hs => hV s (List.mem_append.2 (.inr (List.mem_append.2 (.inr hs))))
       intro ρ hok hm
       have hge := (fk (σ := { s.pre with hc := A.hc }) (ρ := ρ) ⟨hok.g,hok.tys,hok.lin,hok.prs⟩ V3).1
       simp only [G.v,Lin.aT] at hge
       have hsc := (u9 e5).2
       have hpsc := (u9 e6).2
       let va : Va := { (default : Va) with l := oC (s.gf.v ρ).toNat }
       have hva : rsz va.l = (s.gf.v ρ).toNat := GR _
       let ρ1 : Ro := fun k => if k = s.nv then va else ρ k
       have hag : ao s.nv ρ ρ1 := fun k hk => by simp only [ρ1]; rw [if_neg (by omega)]
       have hvok : ig va := nW (GU _)
       have hg1 : Gok ρ1 := by
        have key : ∀ k,ig (ρ1 k) := by
         intro k
         simp only [ρ1]
         split
         ·exact hvok
         ·exact ⟨hok.g.lo k,hok.g.hi k,hok.g.st k,hok.g.ln k⟩
        exact ⟨fun k => (key k).lo,fun k => (key k).hi,fun k => (key k).st,fun k => (key k).ln⟩
       have hpre1 : s.pre.ok P I ρ1 := hok.ag hpsc hag hg1
       have hm1 : s.gf.v ρ1 = s.gf.v ρ := Lin.ag hag (j9 e7)
       have hat : (Lin.at (4 * s.nv + 2)).v ρ1 = s.gf.v ρ := by
        rw [Lin.aW]
        unfold aN
        have q1 : (4 * s.nv + 2) % 4 = 2 := by omega
        have q2 : (4 * s.nv + 2) / 4 = s.nv := by omega
        simp only [q1,q2,ρ1,if_true,hva]
        omega
       have hst : (s.start A.hc).ok P I ρ1 := by
        refine ⟨hg1,hpre1.tys,⟨?_,?_,hpre1.lin⟩,⟨?_,hpre1.prs⟩⟩
        ·rw [Lin.aZ,hat,hm1]; omega
        ·rw [Lin.aZ,hat,hm1]; omega
        ·simp only [PF.v,List.map_cons,List.map_nil,ρ1,if_true]
         refine hN va ?_
         rw [hva]; omega
       have x := Nn (IG hS) A c 0 (s.start A.hc) [s.start A.hc] R hR V1 hsc (by simpa using hsc)
       have hargs : dvs ρ1 s.args = dvs ρ s.args ∧ aG ρ1 s.tab = aG ρ s.tab := by
        have h6 := e6
        unfold kW at h6
        split at h6
        ·have hs := j9 h6
         simp only [Sc.app] at hs
         refine ⟨lR hag ?_,yo hag hs.2.1⟩
         have : ∀ (k : Nat) (l : List DV),fR (dj k l) = av l := by
          intro k l
          induction l generalizing k with
          | nil => simp [dj,fR,av]
          | cons x xs ih => simp only [dj,fR,av,ih]
         have h7 := hs.1
         simp only [Spec.pre,this] at h7
         exact h7
        ·cases h6
       have hrun := x.run (s.start A.hc) (by simp) ρ1 hst hst (MB P fn (jM P I s ρ)) (fun _ _ h => h) ?_ ?_
       ·refine GN hf hb ?_ e2 ?_ ?_
        ·simp only [dI,List.length_map]; exact e1
        ·rw [IH]; exact e3
        ·rw [← hargs.1, ← hargs.2, ← iY]
         exact hrun
       ·intro σ' hσ' ρ' ha hok' _ st im
        obtain ⟨p,h1,h2⟩ := vo hq σ' (List.mem_append.2 (.inl hσ'))
        exact ⟨_,im,EI h1 (fun s hs => V2 s (h2 s hs)) (fun k hk => (ha k (Nat.lt_succ_of_lt hk)).trans (hag k hk)) hok' (by simpa using sA e4)⟩
       ·intro e σ' hσ' ρ' ha hok' st im
        obtain ⟨rfl,h0⟩ := xc hSr e σ' hσ'
        obtain ⟨p,h1,h2⟩ := vo hq σ' (List.mem_append.2 (.inr h0))
        exact ⟨_,im,EI h1 (fun s hs => V2 s (h2 s hs)) (fun k hk => (ha k (Nat.lt_succ_of_lt hk)).trans (hag k hk)) hok' (by simpa using sA e4)⟩
      ·cases h
     ·cases h
    ·cases h
   ·cases h
  ·cases h
 ·cases h
def inN (B : Pr) (N : Nat) : Pr := fun id args => match id with | 0 => ∀ va ∈ args,rsz va.l ≤ N | k + 1 => B (k + 1) args
def nzB : List PF → Bool
 | [] => true
 | .pr 0 _ :: _ => false
 | _ :: r => nzB r
theorem jP {B B' : Pr} {ρ : Ro} (hB : ∀ k,B (k + 1) = B' (k + 1)) : ∀ {l : List PF},nzB l = true → bQ B ρ l → bQ B' ρ l
 | [],_,_ => trivial
 | .row _ _ _ :: r,h,v => ⟨v.1,jP hB (l := r) h v.2⟩
 | .app _ _ _ :: r,h,v => ⟨v.1,jP hB (l := r) h v.2⟩
 | .lit _ _ :: r,h,v => ⟨v.1,jP hB (l := r) h v.2⟩
 | .sub _ _ _ _ :: r,h,v => ⟨v.1,jP hB (l := r) h v.2⟩
 | .set _ _ _ _ :: r,h,v => ⟨v.1,jP hB (l := r) h v.2⟩
 | .tru _ :: r,h,v => ⟨v.1,jP hB (l := r) h v.2⟩
 | .cat _ _ _ :: r,h,v => ⟨v.1,jP hB (l := r) h v.2⟩
 | .pr (k + 1) args :: r,h,v => ⟨by have := v.1; simp only [PF.v] at this ⊢; rw [← hB k]; exact this,jP hB (l := r) h v.2⟩
 | .pr 0 _ :: _,h,_ => by simp [nzB] at h
def tB : List bh → Bool
 | [] => true
 | p :: r => match nzB p.prs with | true => tB r | false => false
theorem uj : ∀ {l : List bh},tB l = true → ∀ p ∈ l,nzB p.prs = true
 | p :: r,h,x,hx => by
  simp only [tB] at h
  split at h
  ·rename_i h1
   rcases List.mem_cons.1 hx with rfl | hx
   ·exact h1
   ·exact uj h x hx
  ·cases h
def Spec.nz (s : Spec) : Bool := match nzB s.prs with | true => tB s.gW | false => false
theorem fy.sub {P : Program} {B B' : Pr} {N : Nat} {s : Spec} (hz : s.nz = true) (hB : ∀ k,B (k + 1) = B' (k + 1)) (h : fy P B N s) : fy P B' N s := by
 unfold Spec.nz at hz
 split at hz
 ·rename_i h1
  intro ρ hok hm
  have := h ρ ⟨hok.g,hok.tys,hok.lin,jP (fun k => (hB k).symm) h1 hok.prs⟩ hm
  refine this.mono ?_
  rintro r T' ⟨p,hp,ρ',h2,h3,h4,h5⟩
  exact ⟨p,hp,ρ',h2,⟨h3.g,h3.tys,h3.lin,jP hB (uj hz p hp) h3.prs⟩,h4,h5⟩
 ·cases hz
structure aC (P : Program) (B : Pr) (s : Spec) : Prop where
 nz : s.nz = true
 ok : ∀ N,fy P B N s
def Ay : List Spec → List (Spec × Option Nat)
 | [] => []
 | s :: r => (s,none) :: Ay r
def Az (m : Nat) : List Spec → List (Spec × Option Nat)
 | [] => []
 | s :: r => (s,some m) :: Az m r
theorem zG {p : Spec × Option Nat} : ∀ {l : List Spec},p ∈ Ay l → p.1 ∈ l ∧ p.2 = none
 | s :: r,h => by
  simp only [Ay,List.mem_cons] at h
  rcases h with rfl | h
  ·exact ⟨List.mem_cons_self ..,rfl⟩
  ·obtain ⟨a,b⟩ := zG h; exact ⟨List.mem_cons_of_mem _ a,b⟩
theorem zH {m : Nat} {p : Spec × Option Nat} : ∀ {l : List Spec},p ∈ Az m l → p.1 ∈ l ∧ p.2 = some m
 | s :: r,h => by
  simp only [Az,List.mem_cons] at h
  rcases h with rfl | h
  ·exact ⟨List.mem_cons_self ..,rfl⟩
  ·obtain ⟨a,b⟩ := zH h; exact ⟨List.mem_cons_of_mem _ a,b⟩
def oD (P : Program) (D G : List Spec) (s : Spec) (A : Ann) : Option (List Seq) :=
 match s.nz with
 | true => verify P (Az s.nv G ++ Ay D) s A
 | false => none
theorem Ns (N : Nat) : Pt (inN (aH) N) := ⟨fun id vs h => by cases id with | zero => exact absurd rfl h | succ k => rfl⟩
theorem KJ {P : Program} {D G : List Spec} (hD : ∀ s ∈ D,aC P aH s) (hG : ∀ s ∈ G, ∃ A q,oD P D G s A = some q ∧ ∀ N,Valid P (inN aH N) q) : ∀ s ∈ G,aC P aH s := by
 have hB : ∀ N k,inN aH N (k + 1) = aH (k + 1) := fun N k => rfl
 have hnz : ∀ s ∈ G,s.nz = true := by
  intro s hs
  obtain ⟨A,q,h,_⟩ := hG s hs
  unfold oD at h
  split at h
  ·assumption
  ·cases h
 have key : ∀ N, ∀ s ∈ G,fy P aH N s := by
  intro N
  induction N with
  | zero =>
   intro s hs ρ hok hm
   omega
  | succ N ih =>
   intro s hs
   obtain ⟨A,q,h,hv⟩ := hG s hs
   unfold oD at h
   rw [hnz s hs] at h
   refine fy.sub (B := inN aH N) (hnz s hs) (hB N) (II (Ns N) h ?_ (hv N) (N := N) ?_)
   ·intro p hp
    rcases List.mem_append.1 hp with hp | hp
    ·obtain ⟨h1,h2⟩ := zH hp
     rw [h2]
     exact ⟨N,fun va h => h va (by simp),fy.sub (hnz _ h1) (fun k => (hB N k).symm) (ih _ h1)⟩
    ·obtain ⟨h1,h2⟩ := zG hp
     rw [h2]
     intro ρ hok
     exact fy.sub (hD _ h1).nz (fun k => (hB N k).symm) ((hD _ h1).ok ((p.1.gf.v ρ).toNat + 1)) ρ hok (by omega)
   ·intro va hva x hx
    simp only [List.mem_singleton] at hx; subst hx; exact hva
 exact fun s hs => ⟨hnz s hs,fun N => key N s hs⟩
end Go.TL
namespace Go.TL
inductive Mo where
 | g (fr : Bool)
 | v (K e sz : Nat) (fr : Bool)
 | d
structure LA where
 bid : Nat
 live : List Nat
 gen : List (Nat × Mo)
 ob : List (Nat × Mo)
 facts : List Lin
 PE : List (Nat × Nat)
 gf : Lin
 prs : List PF
structure GS where
 nx : Nat
 tys : List (Nat × TypeId)
def gLv (S : List (Nat × TypeId)) (l : LV) (g : GS) : LV × GS :=
 match l with
 | some k => match lk S k with
  | some e => (some g.nx,⟨g.nx + 1,(g.nx,e) :: g.tys⟩)
  | none => (some g.nx,⟨g.nx + 1,g.tys⟩)
 | none => (none,g)
def gDP (S : List (Nat × TypeId)) : DP → GS → DP × GS
 | .int k _,g => (.int k (Lin.at (4 * g.nx)),⟨g.nx + 1,g.tys⟩)
 | .bl _,g => (.bl (.var g.nx),⟨g.nx + 1,g.tys⟩)
 | .st _,g => (.st (.var g.nx),⟨g.nx + 1,g.tys⟩)
 | .sl l,g => match gLv S l g with | (l,g) => (.sl l,g)
 | .ls l,g => match gLv S l g with | (l,g) => (.ls l,g)
 | .un,g => (.un,g)
 | .mp a l,g => match gLv S l g with | (l,g) => (.mp a l,g)
 | x,g => (x,g)
def Py (S : List (Nat × TypeId)) : List DP → GS → List DP × GS
 | [],g => ([],g)
 | x :: xs,g => match gDP S x g with
  | (x,g) => match Py S xs g with | (xs,g) => (x :: xs,g)
mutual
def gDV (S : List (Nat × TypeId)) (ff : Bool) : DV → GS → DV × GS
 | .p x fr,g => match gDP S x g with | (x,g) => (.p x (fr && ff),g)
 | .vptr k sz _ off,g => (.vptr k sz (Lin.at (4 * g.nx)) off,⟨g.nx + 1,g.tys⟩)
 | .pd r off fr,g => match Py S r g with | (r,g) => (.pd r off (fr && ff),g)
 | .pc l fr,g => match gLv S l g with | (l,g) => (.p (.sl l) (fr && ff),g)
 | .agg xs,g => match GV S ff xs g with | (xs,g) => (.agg xs,g)
 | .tup xs,g => match GV S ff xs g with | (xs,g) => (.tup xs,g)
 | .ifc t x,g => match gDV S ff x g with | (x,g) => (.ifc t x,g)
 | .fn f a b,g => (.fn f a b,g)
 | .u,g => (.u,g)
 | .ptr k off,g => (.ptr k off,g)
 | .vec k,g => (.vec k,g)
 | .ref k,g => (.ref k,g)
def GV (S : List (Nat × TypeId)) (ff : Bool) : List DV → GS → List DV × GS
 | [],g => ([],g)
 | x :: xs,g => match gDV S ff x g with
  | (x,g) => match GV S ff xs g with | (xs,g) => (x :: xs,g)
end
def KK (e : TypeId) (sz : Nat) (fr : Bool) (g : GS) : DO × GS := (.vec e sz (some g.nx) fr,⟨g.nx + 1,(g.nx,e) :: g.tys⟩)
def gDO (S : List (Nat × TypeId)) (ff : Bool) : DO → GS → DO × GS
 | .box t xs,g => match GV S ff xs g with | (xs,g) => (.box t xs,g)
 | .vec e sz _ fr,g => KK e sz (fr && ff) g
 | .mp a l fr,g => match gLv S l g with | (l,g) => (.mp a l (fr && ff),g)
def ir (σ : DSt) (gen : List (Nat × Mo)) : List Nat → az → GS → bq × az × GS
 | [],T,g => ([],T,g)
 | t :: r,T,g => match lk σ.ab t with
  | none => ir σ gen r T g
  | some x => match lk gen t with
   | none => match ir σ gen r T g with | (s,q) => ((t,x) :: s,q)
   | some .d => ir σ gen r T g
   | some (.g ff) => match gDV σ.tys ff x g with
    | (x,g) => match ir σ gen r T g with | (s,q) => ((t,x) :: s,q)
   | some (.v K e sz fr) => match (lk T K).isSome with
    | true => match ir σ gen r T g with | (s,q) => ((t,.vec K) :: s,q)
    | false => match KK e sz fr g with
     | (o,g) => match ir σ gen r ((K,o) :: T) g with | (s,q) => ((t,.vec K) :: s,q)
def qd (k : Nat) (S : List (Nat × TypeId)) (ff : Bool) (ob : List (Nat × Mo)) : Nat → List DV → az → GS → List DV × az × GS
 | _,[],T,g => ([],T,g)
 | j,x :: xs,T,g => match lk ob ((j + 1) * 100000000 + k) with
  | some (.v K e sz fr) => match KK e sz fr g with
   | (o,g) => match qd k S ff ob (j + 1) xs ((K,o) :: T) g with | (ys,q) => (.vec K :: ys,q)
  | some .d => match qd k S ff ob (j + 1) xs T g with | (ys,q) => (x :: ys,q)
  | _ => match gDV S ff x g with
   | (x,g) => match qd k S ff ob (j + 1) xs T g with | (ys,q) => (x :: ys,q)
def oE (σ : DSt) (ob : List (Nat × Mo)) : az → az → GS → az × GS
 | [],T,g => (T,g)
 | (k,x) :: r,T,g => match lk ob k with
  | none => oE σ ob r ((k,x) :: T) g
  | some .d => oE σ ob r T g
  | some (.g ff) => match x with
   | .box t xs => match qd k σ.tys ff ob 0 xs T g with | (ys,T,g) => oE σ ob r ((k,.box t ys) :: T) g
   | x => match gDO σ.tys ff x g with | (x,g) => oE σ ob r ((k,x) :: T) g
  | some _ => oE σ ob r ((k,x) :: T) g
def tC (S : bq) (tys : List (Nat × TypeId)) : List (Nat × Nat) → GS → List PF × GS
 | [],g => ([],g)
 | (l,ti) :: r,g => match lk S ti with
  | some (.p (.int _ e) _) => match lk tys l with
   | some ty => match tC S tys r ⟨g.nx + 1,(g.nx,ty) :: g.tys⟩ with
    | (ps,g') => (.sub g.nx l e (Lin.at (4 * l + 1)) :: ps,g')
   | none => tC S tys r g
  | _ => tC S tys r g
def MD : List (Nat × Nat) → List Nat
 | [] => []
 | (l,_) :: r => l :: MD r
def Nt (σ : DSt) (a : LA) : DSt :=
 match oE σ a.ob σ.tab [] ⟨σ.nx,[]⟩ with
 | (T,g) => match ir σ a.gen a.live T g with
  | (s,T,g) => match tC s (g.tys ++ σ.tys) a.PE g with
   | (ps,g) => ⟨s,T,g.tys,a.facts,a.prs ++ ps,g.nx,[]⟩
def CH (n : Nat) (l : List Nat) : Bool := scB n l
structure JS where
 nx : Nat
 tys : List (Nat × TypeId)
 nm : List (Nat × Nat × Nat)
 kd : List (Nat × Nat)
def JS.fresh (g : JS) (kind : Nat) : JS := { g with nx := g.nx + 1,kd := (g.nx,kind) :: g.kd }
def JS.list (g : JS) (e : TypeId) : JS := { g with nx := g.nx + 1,kd := (g.nx,1) :: g.kd,tys := (g.nx,e) :: g.tys }
def jQ (S1 S2 : List (Nat × TypeId)) (a b : LV) : Option TypeId :=
 match a with
 | some k => lk S1 k
 | none => match b with | some k => lk S2 k | none => none
def Q8 (a b : Option Nat) : Bool := fb a b
def jDP (n0 : Nat) (S1 S2 : List (Nat × TypeId)) (x y : DP) (g : JS) : Option (DP × JS) :=
 match x.beq y,CH n0 x.vars with
 | true,true => some (x,g)
 | _,_ => match x,y with
  | .int k _,.int k' _ => match BP k k' with | true => some (.int k (Lin.at (4 * g.nx)),g.fresh 0) | false => none
  | .bl _,.bl _ => some (.bl (.var g.nx),g.fresh 2)
  | .st _,.st _ => some (.st (.var g.nx),g.fresh 3)
  | .sl a,.sl b => match jQ S1 S2 a b with | some e => some (.sl (some g.nx),g.list e) | none => none
  | .sl a,.nl => match jQ S1 S2 a none with | some e => some (.sl (some g.nx),g.list e) | none => some (.sl none,g)
  | .nl,.sl b => match jQ S1 S2 none b with | some e => some (.sl (some g.nx),g.list e) | none => some (.sl none,g)
  | .nl,.nl => some (.nl,g)
  | .ls a,y => match y with
   | .ls b => match jQ S1 S2 a b with | some e => some (.ls (some g.nx),g.list e) | none => none
   | .cst _ => match jQ S1 S2 a none with | some e => some (.ls (some g.nx),g.list e) | none => none
   | _ => none
  | .mp q a,y => match y with
   | .mp q' b => match Q8 q q',jQ S1 S2 a b with | true,some e => some (.mp q (some g.nx),g.list e) | _,_ => none
   | .cst _ => match jQ S1 S2 a none with | some e => some (.mp q (some g.nx),g.list e) | none => none
   | _ => none
  | .cst _,.ls b => match jQ S1 S2 none b with | some e => some (.ls (some g.nx),g.list e) | none => none
  | .cst _,.mp q b => match jQ S1 S2 none b with | some e => some (.mp q (some g.nx),g.list e) | none => none
  | _,_ => none
def Pz (n0 : Nat) (S1 S2 : List (Nat × TypeId)) : List DP → List DP → JS → Option (List DP × JS)
 | [],[],g => some ([],g)
 | x :: xs,y :: ys,g => match jDP n0 S1 S2 x y g with
  | some (z,g) => match Pz n0 S1 S2 xs ys g with
   | some (zs,g) => some (z :: zs,g)
   | none => none
  | none => none
 | _,_,_ => none
def CI (k1 k2 : Nat) : List (Nat × Nat × Nat) → Option Nat
 | [] => none
 | (K,a,b) :: r => match Nat.beq a k1,Nat.beq b k2 with | true,true => some K | _,_ => CI k1 k2 r
def GW (T1 T2 : az) (k1 k2 : Nat) (g : JS) : Option (Nat × JS) :=
 match CI k1 k2 g.nm with
 | some K => some (K,g)
 | none => match Nat.beq k1 k2 with
  | true => some (k1, { g with nm := (k1,k1,k2) :: g.nm })
  | false => match (lk T2 k1).isSome,(lk T1 k2).isSome with
   | false,_ => some (k1, { g with nm := (k1,k1,k2) :: g.nm })
   | _,false => some (k2, { g with nm := (k2,k1,k2) :: g.nm })
   | _,_ => none
def PA : Nat := 99999999
def EK (T : az) (k : Nat) : Option TypeId := match lk T k with | some (.vec e _ _ _) => some e | _ => none
mutual
def jDV (n0 : Nat) (A B : DSt) : DV → DV → JS → DV × JS
 | .p x fr,y,g => match y with
  | .p y fr' => match jDP n0 A.tys B.tys x y g with | some (z,g) => (.p z (fr && fr'),g) | none => (.u,g)
  | .vec k => match x with
   | .nl => match (lk A.tab k).isSome with
    | true => (.u,g)
    | false => (.vec k, { g with nm := (k,PA,k) :: g.nm })
   | .sl _ => match EK B.tab k with | some e => (.p (.sl (some g.nx)) false,g.list e) | none => (.u,g)
   | _ => (.u,g)
  | _ => (.u,g)
 | .vec k,y,g => match y with
  | .vec k' => match GW A.tab B.tab k k' g with | some (K,g) => (.vec K,g) | none => (.u,g)
  | .p .nl _ => match (lk B.tab k).isSome with
   | true => (.u,g)
   | false => (.vec k, { g with nm := (k,k,PA) :: g.nm })
  | .p (.sl _) _ => match EK A.tab k with | some e => (.p (.sl (some g.nx)) false,g.list e) | none => (.u,g)
  | _ => (.u,g)
 | .ptr k off,y,g => match y with
  | .ptr k' off' => match Nat.beq off off' with
   | true => match GW A.tab B.tab k k' g with | some (K,g) => (.ptr K off,g) | none => (.u,g)
   | false => (.u,g)
  | _ => (.u,g)
 | .vptr k sz i off,y,g => match y with
  | .vptr k' sz' i' off' => match cM (.vptr k sz i off) (.vptr k' sz' i' off'),CH n0 i.vars with
   | true,true => (.vptr k sz i off, { g with nm := (k,k,k) :: g.nm })
   | _,_ => match Nat.beq k k',Nat.beq off off' with
    | true,true => (.vptr k sz (Lin.at (4 * g.nx)) off, { g.fresh 0 with nm := (k,k,k) :: g.nm })
    | _,_ => (.u,g)
  | _ => (.u,g)
 | .pd r off fr,y,g => match y with
  | .pd r' off' fr' => match Nat.beq off off' with
   | true => match Pz n0 A.tys B.tys r r' g with | some (z,g) => (.pd z off (fr && fr'),g) | none => (.u,g)
   | false => (.u,g)
  | _ => (.u,g)
 | .pc l fr,y,g => match y with
  | .pc l' fr' => match fb l l',CH n0 (aL l) with
   | true,true => (.pc l (fr && fr'),g)
   | _,_ => match jDP n0 A.tys B.tys (.sl l) (.sl l') g with | some (z,g) => (.p z (fr && fr'),g) | none => (.u,g)
  | .p (.sl l') fr' => match jDP n0 A.tys B.tys (.sl l) (.sl l') g with | some (z,g) => (.p z (fr && fr'),g) | none => (.u,g)
  | _ => (.u,g)
 | .agg xs,y,g => match y with
  | .agg ys => match yy n0 A B xs ys g with | (zs,g) => (.agg zs,g)
  | _ => (.u,g)
 | .tup xs,y,g => match y with
  | .tup ys => match yy n0 A B xs ys g with | (zs,g) => (.tup zs,g)
  | _ => (.u,g)
 | .ref k,y,g => match y with
  | .ref k' => match GW A.tab B.tab k k' g with | some (K,g) => (.ref K,g) | none => (.u,g)
  | _ => (.u,g)
 | .fn f a b,y,g => match y with
  | .fn f' a' b' => match FX f f' with
   | true => match yy n0 A B a a' g with
    | (x,g) => match yy n0 A B b b' g with | (z,g) => (.fn f x z,g)
   | false => (.u,g)
  | _ => (.u,g)
 | .ifc t x,y,g => match y with
  | .ifc t' y => match Nat.beq t t' with
   | true => match jDV n0 A B x y g with | (z,g) => (.ifc t z,g)
   | false => (.u,g)
  | _ => (.u,g)
 | .u,_,g => (.u,g)
def yy (n0 : Nat) (A B : DSt) : List DV → List DV → JS → List DV × JS
 | x :: xs,ys,g => match ys with
  | y :: ys => match jDV n0 A B x y g with
   | (z,g) => match yy n0 A B xs ys g with | (zs,g) => (z :: zs,g)
  | [] => ([],g)
 | [],_,g => ([],g)
end
def xd (n0 : Nat) (A B : DSt) : bq → List Nat → JS → bq × JS
 | [],_,g => ([],g)
 | (t,x) :: r,seen,g => match seen.any (Nat.beq t) with
  | true => xd n0 A B r seen g
  | false => match lk B.ab t with
   | some y => match jDV n0 A B x y g with
    | (z,g) => match xd n0 A B r (t :: seen) g with
     | (zs,g) => match z with | .u => (zs,g) | z => ((t,z) :: zs,g)
   | none => xd n0 A B r (t :: seen) g
def AA (T2 : az) : az → JS → JS
 | [],g => g
 | (k,_) :: r,g => match (lk T2 k).isSome with
  | true => match CI k k g.nm with
   | some _ => AA T2 r g
   | none => AA T2 r (match g.nm.any (fun p => Nat.beq p.1 k) with | true => g | false => { g with nm := (k,k,k) :: g.nm })
  | false => AA T2 r g
def jR (n0 : Nat) (A B : DSt) : Nat → List Nat → az → JS → az × JS
 | 0,_,T,g => (T,g)
 | fuel + 1,done,T,g => match g.nm.find? (fun p => !(done.any (Nat.beq p.1))) with
  | none => (T,g)
  | some (K,k1,k2) => match lk A.tab k1,lk B.tab k2 with
   | some (.vec e sz l fr),some (.vec _ _ l' fr') => match fb l l',CH n0 (aL l) with
    | true,true => jR n0 A B fuel (K :: done) ((K,.vec e sz l (fr && fr')) :: T) g
    | _,_ => jR n0 A B fuel (K :: done) ((K,.vec e sz (some g.nx) (fr && fr')) :: T) (g.list e)
   | some (.vec e sz _ fr),none => jR n0 A B fuel (K :: done) ((K,.vec e sz (some g.nx) fr) :: T) (g.list e)
   | none,some (.vec e sz _ fr) => jR n0 A B fuel (K :: done) ((K,.vec e sz (some g.nx) fr) :: T) (g.list e)
   | some (.box t xs),some (.box _ ys) => match yy n0 A B xs ys g with
    | (zs,g) => jR n0 A B fuel (K :: done) ((K,.box t zs) :: T) g
   | some (.mp q l fr),some (.mp _ l' fr') => match fb l l',CH n0 (aL l) with
    | true,true => jR n0 A B fuel (K :: done) ((K,.mp q l (fr && fr')) :: T) g
    | _,_ => match jQ A.tys B.tys l l' with
     | some e => jR n0 A B fuel (K :: done) ((K,.mp q (some g.nx) (fr && fr')) :: T) (g.list e)
     | none => jR n0 A B fuel (K :: done) T g
   | _,_ => jR n0 A B fuel (K :: done) T g
def EL (n0 : Nat) (A B : DSt) (nx : Nat) : DSt × List (Nat × Nat) :=
 match xd n0 A B A.ab [] ⟨nx,[],[],[]⟩ with
 | (s,g) => match jR n0 A B 100 [] [] (AA B.tab A.tab g) with
  | (T,g) => (⟨s,T,g.tys,[],[],g.nx,[]⟩,g.kd)
def CJ (n0 : Nat) (base : List (Nat × TypeId)) : DSt → List (Nat × Nat) → List DSt → DSt × List (Nat × Nat)
 | A,kd,[] => (A,kd)
 | A,_,[B] => EL n0 A B n0
 | A,_,B :: r => match EL n0 A B n0 with
  | (T,kd) => CJ n0 base { T with tys := T.tys ++ base } kd r
structure An where
 n : Nat
 lim : Nat
 keeps : List (Nat × List Nat)
 loops : List LA
 ME : List (Nat × List Lin)
 unr : List (Nat × Nat)
 hc : List Cert
def CM (bid : Nat) : List LA → Option LA
 | [] => none
 | a :: r => match Nat.beq a.bid bid with | true => some a | false => CM bid r
def An.ann (a : An) : Ann where
 hc := a.hc
 Iw i := lk a.unr i
 keep id := lk a.keeps id
 loop bid σ := match CM bid a.loops with
  | some l => some (Nt σ l,l.gf)
  | none => none
 opens bid _ := match CM bid a.loops with
  | some l => MD l.PE
  | none => []
 join must i σ0 S := match lk a.ME (500000000 + i),S with
  | some _,A :: _ => some (mW σ0 A)
  | _,_ => match must,Nat.ble S.length a.lim with
   | false,true => none
   | _,_ => match S with
    | [] => none
    | A :: r => match CJ σ0.nx σ0.tys A [] r with
     | (T,_) => some { T with lin := match lk a.ME i with | some l => l | none => [] }
end Go.TL
namespace Go.TL
inductive Kd where
 | i
 | ik (k : IntKind)
 | b
 | s
 | l (e : TypeId) (fr : Bool)
 | row (t : TypeId) (fr : Bool)
 | val (t : TypeId) (fr : Bool)
 | v (k : Nat) (e : TypeId) (fr : Bool)
 | vl (k : Nat) (e : TypeId) (fr : Bool)
 | box (k : Nat) (t : TypeId) (cells : List Kd)
 | agg (xs : List Kd)
 | ifc (t : TypeId) (x : Kd)
 | pcl (e : TypeId) (fr : Bool)
 | mp (e : TypeId) (fr : Bool)
 | om (k : Nat) (e : TypeId)
 | ch (e : TypeId) (fr : Bool)
 | ob (k : Nat) (o : DO)
 | x (d : DV)
def agN (P : Program) (e : TypeId) : Option Nat := match ew P e,P.info? e with | some true,some i => some i.size | _,_ => none
structure KS where
 nx : Nat
 tys : List (Nat × TypeId)
 lin : List Lin
 tab : az
def KS.one (g : KS) : KS := { g with nx := g.nx + 1 }
mutual
def Kd.mk (P : Program) : Kd → KS → DV × KS
 | .i,g => (.p (.int .i64 (Lin.at (4 * g.nx))) true,g.one)
 | .ik k,g => (.p (.int k (Lin.at (4 * g.nx))) true, { g.one with lin := (Lin.at (4 * g.nx)).aD (-k.max) :: (Lin.scale (-1) (Lin.at (4 * g.nx))).aD k.min :: g.lin })
 | .b,g => (.p (.bl (.var g.nx)) true,g.one)
 | .s,g => (.p (.st (.var g.nx)) true,g.one)
 | .l e fr,g => (.p (.sl (some g.nx)) fr, { g.one with tys := (g.nx,e) :: g.tys })
 | .row t fr,g => match eM (cks P t) g.nx with
  | some R => (.pd R.cells 0 fr, { g with nx := R.nx,tys := R.tys ++ g.tys,lin := R.lin ++ g.lin })
  | none => (.u,g)
 | .val t fr,g => match eM (cks P t) g.nx with
  | some R => (.agg (fJ fr R.cells), { g with nx := R.nx,tys := R.tys ++ g.tys,lin := R.lin ++ g.lin })
  | none => (.u,g)
 | .v k e fr,g => (.vec k, { g.one with tys := (g.nx,e) :: g.tys,tab := (k,.vec e (match P.info? e with | some i => i.size | none => 0) (some g.nx) fr) :: g.tab })
 | .vl k e fr,g => (.vec k, { g.one with tab := (k,.vec e (match P.info? e with | some i => i.size | none => 0) (some g.nx) fr) :: g.tab })
 | .box k t cells,g => match KL P cells g with | (xs,g) => (.ptr k 0, { g with tab := (k,.box t xs) :: g.tab })
 | .agg xs,g => match KL P xs g with | (xs,g) => (.agg xs,g)
 | .pcl e fr,g => (.pc (some g.nx) fr, { g.one with tys := (g.nx,e) :: g.tys })
 | .mp e fr,g => (.p (.mp (agN P e) (some g.nx)) fr, { g.one with tys := (g.nx,mE e) :: g.tys })
 | .om k e,g => (.ref k, { g.one with tys := (g.nx,mE e) :: g.tys,tab := (k,.mp (agN P e) (some g.nx) true) :: g.tab })
 | .ob k o,g => (.ref k, { g with tab := (k,o) :: g.tab })
 | .ch e fr,g => (.p (.ls (some g.nx)) fr, { g.one with tys := (g.nx,cE e) :: g.tys })
 | .ifc t x,g => match Kd.mk P x g with | (d,g) => (.ifc t d,g)
 | .x d,g => (d,g)
def KL (P : Program) : List Kd → KS → List DV × KS
 | [],g => ([],g)
 | x :: xs,g => match Kd.mk P x g with
  | (x,g) => match KL P xs g with | (xs,g) => (x :: xs,g)
end
structure S8 where
 res : List Kd
 Ta : List Kd := []
 facts : List DV → az → List DV → az → List Lin := fun _ _ _ _ => []
 prs : List DV → List DV → List PF := fun _ _ => []
end Go.TL
namespace Go.TL.H
open Go
def E00 : Env := ⟨fun _ => none,fun _ => none,fun _ => False⟩
theorem Nu (b : Nat) : ¬ E00.bad b := by simp [E00,Env.bad]
theorem Rep.nb {w : World} {bad : Nat → Prop} {lo : Nat} {x : PV} {v : Value} (h : Rep w bad lo x v) : Rep w NB lo x v := h.mono (Nat.le_refl _) fun _ _ h _ => ⟨h,fun h => h⟩
theorem Rep.e00 {w : World} {lo : Nat} {x : PV} {v : Value} (h : Rep w NB lo x v) : Rep w E00.bad lo x v := h.mono (Nat.le_refl _) fun b _ h _ => ⟨h,Nu b⟩
theorem IJ {P : Program} {B : Pr} {s : Spec} (hK : aC P B s) {ρ : Ro} (hpre : s.pre.ok P B ρ) (htab : s.tab = []) {w : World} (hld : dq P w) {vals : List Value} (hv : VRs w E00 w.heap.size (dvs ρ s.args) vals) :
  Ret P s.fn vals w fun v w' => Ch (fun _ => False) w w' ∧ ∃ p ∈ s.gW, ∃ ρ' E',(p.st s.nv).ok P B ρ' ∧ VR w' E' w.heap.size ((dmk p.res).v ρ') v := by
 have h := hK.ok ((s.gf.v ρ).toNat + 1) ρ hpre (by omega) w.heap.size w E00 vals ⟨Nat.le_refl _,hld,fun _ _ => rfl⟩
  ⟨fun k ov hk => by simp [htab,aG,lk] at hk,fun _ _ => rfl,fun b k hb => by simp [E00] at hb,fun b hb => by simp [E00] at hb⟩ hv
 refine Calls.mono h ?_
 rintro e w' ⟨r,v,T',E',rfl,⟨p,hp,ρ',h1,h2,rfl,rfl⟩,hfr,_,hvr,_⟩
 exact ⟨v,rfl,⟨hfr.os,hfr.tape,hfr.output,hfr.size,fun b hb _ => (hfr.keep b hb rfl).1⟩,p,hp,ρ',E',h2,hvr⟩
def ja : List (Option Nat) → List DP → List DV
 | [],_ => []
 | none :: r,x :: xs => rN false x :: ja r xs
 | some n :: r,xs => .agg (fJ false (xs.take n)) :: ja r (xs.drop n)
 | none :: r,[] => .u :: ja r []
def dO : List (Option Nat) → List Value → List Value
 | [],_ => []
 | none :: r,x :: xs => x :: dO r xs
 | some n :: r,xs => .agg (xs.take n).toArray :: dO r (xs.drop n)
 | none :: r,[] => .nilFunc :: dO r []
theorem Cw.drop {w : World} {lo n : Nat} {row : List PV} {vs : List Value} (h : Cw w lo row vs) : Cw w lo (row.drop n) (vs.drop n) :=
 ⟨by simp [h.len],fun j x hj => by rw [List.getElem?_drop] at hj ⊢; exact h.rep _ x hj⟩
theorem Cw.take {w : World} {lo n : Nat} {row : List PV} {vs : List Value} (h : Cw w lo row vs) : Cw w lo (row.take n) (vs.take n) :=
 ⟨by simp [h.len],fun j x hj => by
  rw [List.getElem?_take] at hj ⊢
  split at hj
  ·rw [if_pos (by assumption)]; exact h.rep _ x hj
  ·cases hj⟩
theorem Cw.cons {w : World} {lo : Nat} {x : PV} {xs : List PV} {v : Value} {vs : List Value} (h : Cw w lo (x :: xs) (v :: vs)) : Rep w NB lo x v ∧ Cw w lo xs vs := by
 refine ⟨?_,by have := h.drop (n := 1); simpa using this⟩
 obtain ⟨u,h1,h2⟩ := h.rep 0 x rfl
 simp at h1; subst h1; exact h2
theorem fV (ρ : Ro) : ∀ (n : Nat) (xs : List DP),ak ρ (xs.take n) = (ak ρ xs).take n
 | 0,xs => by simp [ak]
 | n + 1,[] => by simp [ak]
 | n + 1,x :: xs => by simp [ak,fV ρ n xs]
theorem iD (ρ : Ro) : ∀ (n : Nat) (xs : List DP),ak ρ (xs.drop n) = (ak ρ xs).drop n
 | 0,xs => by simp
 | n + 1,[] => by simp [ak]
 | n + 1,x :: xs => by simp [ak,iD ρ n xs]
theorem Nv {w : World} {bad : Nat → Prop} {lo lo' : Nat} {x : Value} {v : Value} (h : Rep w bad lo (.v x) v) : Rep w bad lo' (.v x) v := by
 cases h with
 | v _ hx => exact .v _ hx
theorem EM {w : World} {ρ : Ro} {lo : Nat} (x : DP) (v : Value) (h : Rep w NB 0 (x.v ρ) v) : VR w E00 lo ((rN false x).v ρ) v := by
 cases x <;> simp only [rN,DV.v,DP.v,VR,flo] at h ⊢ <;> first | exact Nv (Rep.e00 h) | exact Rep.e00 h | (cases h with | un _ hx => exact .un _ hx)
theorem EO {w : World} {ρ : Ro} {lo : Nat} : ∀ (xs : List DP) (vs : List Value),Cw w 0 (ak ρ xs) vs → VRs w E00 lo (dvs ρ (fJ false xs)) vs
 | [],vs,h => by
  have : vs = [] := List.length_eq_zero_iff.1 (by simpa [ak] using h.len)
  subst this; simp [fJ,dvs,VRs]
 | x :: xs,vs,h => by
  cases vs with
  | nil => have := h.len; simp [ak] at this
  | cons v vs =>
   obtain ⟨h1,h2⟩ := h.cons
   simp only [fJ,dvs,VRs]
   exact ⟨EM x v h1,EO xs vs h2⟩
theorem qf {w : World} {ρ : Ro} {lo : Nat} : ∀ (parts : List (Option Nat)) (xs : List DP) (vs : List Value),Cw w 0 (ak ρ xs) vs → VRs w E00 lo (dvs ρ (ja parts xs)) (dO parts vs)
 | [],_,_,_ => by simp [ja,dO,dvs,VRs]
 | some n :: r,xs,vs,h => by
  simp only [ja,dO,dvs,VRs,DV.v,VR]
  exact ⟨⟨_,rfl,EO _ _ (by rw [fV]; exact h.take)⟩,qf r _ _ (by rw [iD]; exact h.drop)⟩
 | none :: r,[],vs,h => by
  have : vs = [] := List.length_eq_zero_iff.1 (by simpa [ak] using h.len)
  subst this
  simp only [ja,dO,dvs,VRs,DV.v,VR,true_and]
  exact qf r [] [] h
 | none :: r,x :: xs,vs,h => by
  cases vs with
  | nil => have := h.len; simp [ak] at this
  | cons v vs =>
   obtain ⟨h1,h2⟩ := h.cons
   simp only [ja,dO,dvs,VRs]
   exact ⟨EM x v h1,qf r xs vs h2⟩
def AB (b : List (Nat × TypeId)) : List (Nat × TypeId) → Bool
 | [] => true
 | (k,e) :: r => match lk b k with
  | some e' => match Nat.beq e' e with | true => AB b r | false => false
  | none => false
theorem EP {P : Program} {ρ : Ro} {b : List (Nat × TypeId)} (hb : cb P ρ b) : ∀ {a : List (Nat × TypeId)},AB b a = true → cb P ρ a
 | [],_ => trivial
 | (k,e) :: r,h => by
  simp only [AB] at h
  split at h
  ·rename_i e' hl
   split at h
   ·rename_i hb'
    have := Nat.eq_of_beq_eq_true hb'; subst this
    exact ⟨c7 hb hl,EP hb h⟩
   ·cases h
  ·cases h
theorem ER : Gok (fun _ => default) := by
 constructor <;> intro k <;> simp [default,bz,ByteArray.size]
abbrev RK := Option (Bool × List CK)
def oG (l : List Lin) (e : Lin) : Bool := match l with | [] => false | x :: r => match x.beq e with | true => true | false => oG r e
def GX (e : Lin) : Bool := match e.t with
 | [(a,_)] => match Nat.beq (a % 4) 0 with
  | true => match e.beq ((Lin.at a).aD (-9223372036854775807)) with | true => true | false => e.beq ((Lin.scale (-1) (Lin.at a)).aD (-9223372036854775808))
  | false => false
 | _ => false
def GY (l : List Lin) : List G → Bool
 | [] => true
 | .le e :: r => match (match GX e with | true => true | false => oG l e) with | true => GY l r | false => false
 | .pf _ :: _ => false
theorem qh {ρ : Ro} {e : Lin} : ∀ {l : List Lin},aR ρ l → oG l e = true → e.v ρ ≤ 0
 | [],_,h => by cases h
 | x :: r,hl,h => by
  simp only [oG] at h
  split at h
  ·rename_i hb; rw [← Lin.beq_eq hb]; exact hl.1
  ·exact qh hl.2 h
theorem Nw {ρ : Ro} (hg : Gok ρ) {e : Lin} (h : GX e = true) : e.v ρ ≤ 0 := by
 unfold GX at h
 split at h
 ·rename_i a c he
  split at h
  ·rename_i hm
   have hm := Nat.eq_of_beq_eq_true hm
   have hv : (Lin.at a).v ρ = (ρ (a / 4)).n := by simp [Lin.aW,aN,hm]
   have h1 := hg.lo (a / 4)
   have h2 := hg.hi (a / 4)
   split at h
   ·rename_i hb; rw [Lin.beq_eq hb,Lin.aB,hv]; omega
   ·rw [Lin.beq_eq h,Lin.aB,Lin.aT,hv]; omega
  ·cases h
 ·cases h
theorem IK {I : Pr} {ρ : Ro} (hg : Gok ρ) {l : List Lin} (hl : aR ρ l) : ∀ {gs : List G},GY l gs = true → gsV I ρ gs
 | [],_ => trivial
 | .le e :: r,h => by
  simp only [GY] at h
  split at h
  ·rename_i hc
   refine ⟨?_,IK hg hl h⟩
   split at hc
   ·rename_i h6; exact Nw hg h6
   ·exact qh hl hc
  ·cases h
 | .pf _ :: _,h => by cases h
def unP : List DV → Option (List DP)
 | [] => some []
 | .p x true :: r => match unP r with | some xs => some (x :: xs) | none => none
 | _ :: _ => none
def IL (ag : Bool) (x : DV) : Option (List DP) := match ag,x with
 | true,.agg xs => unP xs
 | false,.p x true => some [x]
 | _,_ => none
def vp (p : TL.bh) : List RK → List DV → Bool
 | [],[] => true
 | none :: r,_ :: xs => vp p r xs
 | some (ag,ks) :: r,x :: xs => match IL ag x with
  | some cells => match dty p.tys ks cells with
   | some gs => match GY p.lin gs with | true => vp p r xs | false => false
   | none => false
  | none => false
 | _,_ => false
def AD (kinds : List RK) : List TL.bh → Bool
 | [] => true
 | p :: r => match vp p kinds p.res with | true => AD kinds r | false => false
def PB (P : Program) (w : World) (lo : Nat) (ag : Bool) (ks : List CK) (v : Value) : Prop := ∃ row us,v = pk ag us ∧ Cw w lo row us ∧ WTs P ks row
def eQ (P : Program) (w : World) (lo : Nat) : List RK → List Value → Prop
 | [],[] => True
 | none :: r,_ :: vs => eQ P w lo r vs
 | some (ag,ks) :: r,v :: vs => PB P w lo ag ks v ∧ eQ P w lo r vs
 | _,_ => False
def mkv : List Value → Value
 | [x] => x
 | xs => .tuple xs.toArray
theorem CN {w : World} {ρ : Ro} {E : Env} {lo : Nat} : ∀ (xs : List DV) (cells : List DP) (vs : List Value),unP xs = some cells → VRs w E lo (dvs ρ xs) vs → Cw w lo (ak ρ cells) vs
 | [],cells,vs,h,hv => by
  simp only [unP,Option.some.injEq] at h; subst h
  cases vs with
  | nil => exact ⟨rfl,fun j x hj => by simp [ak] at hj⟩
  | cons v vs => simp [dvs,VRs] at hv
 | x :: xs,cells,vs,h,hv => by
  unfold unP at h
  split at h
  ·rename_i heq; cases heq
  ·rename_i y r heq
   cases heq
   split at h
   ·rename_i ys hys
    simp only [Option.some.injEq] at h; subst h
    cases vs with
    | nil => simp [dvs,VRs] at hv
    | cons v vs =>
     simp only [dvs,VRs,DV.v,VR,flo] at hv
     have ih := CN xs ys vs hys hv.2
     refine ⟨by simp [ak,ih.len],fun j z hj => ?_⟩
     cases j with
     | zero => simp [ak] at hj; subst hj; exact ⟨v,rfl,Rep.nb hv.1⟩
     | succ j => simp [ak] at hj; exact ih.rep j z hj
   ·cases h
  ·cases h
theorem yz {P : Program} {I : Pr} {w : World} {ρ : Ro} {E : Env} {lo : Nat} {p : TL.bh} (hg : Gok ρ) (ht : cb P ρ p.tys) (hl : aR ρ p.lin) : ∀ (kinds : List RK) (xs : List DV) (vs : List Value),vp p kinds xs = true → VRs w E lo (dvs ρ xs) vs → eQ P w lo kinds vs
 | [],[],vs,_,hv => by
  cases vs with
  | nil => trivial
  | cons v vs => simp [dvs,VRs] at hv
 | [],_ :: _,_,h,_ => by cases h
 | none :: r,[],_,h,_ => by cases h
 | some _ :: r,[],_,h,_ => by cases h
 | none :: r,x :: xs,vs,h,hv => by
  cases vs with
  | nil => simp [dvs,VRs] at hv
  | cons v vs => exact yz (I := I) hg ht hl r xs vs h (by simp only [dvs,VRs] at hv; exact hv.2)
 | some (ag,ks) :: r,x :: xs,vs,h,hv => by
  cases vs with
  | nil => simp [dvs,VRs] at hv
  | cons v vs =>
   simp only [dvs,VRs] at hv
   simp only [vp] at h
   split at h
   ·rename_i cells hc
    split at h
    ·rename_i gs hd
     split at h
     ·rename_i hgc
      refine ⟨?_,yz (I := I) hg ht hl r xs vs h hv.2⟩
      have hw := dz (I := I) hg ht ks cells gs hd (IK hg hl hgc)
      unfold IL at hc
      split at hc
      ·rename_i ys
       have hv1 := hv.1
       simp only [DV.v,VR] at hv1
       obtain ⟨us,rfl,hus⟩ := hv1
       exact ⟨_,us,rfl,CN ys cells us hc hus,hw⟩
      ·rename_i y
       simp only [Option.some.injEq] at hc; subst hc
       refine ⟨_,[v],rfl,CN (E := E) [.p y true] [y] [v] rfl ?_,hw⟩
       simp only [dvs,VRs]; exact ⟨hv.1,trivial⟩
      ·cases hc
     ·cases h
    ·cases h
   ·cases h
theorem PD {P : Program} {I : Pr} {w : World} {ρ : Ro} {E : Env} {lo : Nat} {p : TL.bh} (hg : Gok ρ) (ht : cb P ρ p.tys) (hl : aR ρ p.lin) {kinds : List RK} {v : Value} (h : vp p kinds p.res = true) (hv : VR w E lo ((dmk p.res).v ρ) v) :
  ∃ vs,v = mkv vs ∧ eQ P w lo kinds vs := by
 have key : ∀ xs : List DV,VR w E lo ((dmk xs).v ρ) v → ∃ vs,v = mkv vs ∧ VRs w E lo (dvs ρ xs) vs := by
  intro xs hv
  match xs with
  | [] =>
   simp only [dmk,DV.v,VR] at hv
   obtain ⟨vs,rfl,h⟩ := hv
   have : vs = [] := by cases vs with | nil => rfl | cons v vs => simp [dvs,VRs] at h
   subst this
   exact ⟨[],rfl,h⟩
  | [x] => exact ⟨[v],rfl,by simp only [dvs,VRs]; exact ⟨hv,trivial⟩⟩
  | x :: y :: r =>
   simp only [dmk,DV.v,VR] at hv
   obtain ⟨vs,rfl,h⟩ := hv
   refine ⟨vs,?_,h⟩
   match vs,h with
   | [],h => simp [dvs,VRs] at h
   | [u],h => simp [dvs,VRs] at h
   | u :: u' :: us,h => rfl
 obtain ⟨vs,rfl,h2⟩ := key p.res hv
 exact ⟨vs,rfl,yz (I := I) hg ht hl kinds p.res vs h h2⟩
theorem zI {kinds : List RK} : ∀ {ps : List TL.bh},AD kinds ps = true → ∀ p ∈ ps,vp p kinds p.res = true
 | [],_,p,hp => by simp at hp
 | q :: r,h,p,hp => by
  simp only [AD] at h
  split at h
  ·rename_i hq
   rcases List.mem_cons.1 hp with rfl | hp
   ·exact hq
   ·exact zI h p hp
  ·cases h
theorem KM {P : Program} {B : Pr} {s : Spec} (hK : aC P B s) {f n : Nat} {m : Lin} (hs : s = ⟨f,n,[],[],[],[],[],m,[⟨1,[],[],[.tru (.var n)],[],[.p (.bl (.var n)) true]⟩]⟩) (w : World) (hld : dq P w) :
  Ret P f [] w fun v w' => v = .bool true ∧ Ch (fun _ => False) w w' := by
 subst hs
 have h := IJ hK (ρ := fun _ => default) ⟨ER,trivial,trivial,trivial⟩ rfl (w := w) hld (vals := []) (by simp [dvs,VRs])
 refine h.mono ?_
 rintro v w' ⟨hch,p,hp,ρ',E',hok,hv⟩
 simp only [List.mem_cons,List.mem_nil_iff,or_false] at hp; subst hp
 have hb : (ρ' n).b = true := by have := hok.prs.1; simpa [PF.v,BF.v] using this
 simp only [dmk,DV.v,DP.v,BF.v,VR,flo,hb] at hv
 cases hv
 exact ⟨rfl,hch⟩
end Go.TL.H
