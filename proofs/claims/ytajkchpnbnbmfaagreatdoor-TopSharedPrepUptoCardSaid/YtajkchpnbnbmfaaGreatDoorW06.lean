/- Objects under other names. -/
import Derived.Test.YtajkchpnbnbmfaaGreatDoorW05
import Derived.Orders
namespace Go.TL
def sw (a b k : Nat) : Nat :=
 match Nat.beq k a with
 | true => b
 | false => match Nat.beq k b with
  | true => a
  | false => k
theorem Mg (a b k : Nat) : sw a b k = if k = a then b else if k = b then a else k := by
 unfold sw
 cases h : Nat.beq k a with
 | true => simp [Nat.eq_of_beq_eq_true h]
 | false =>
  have h1 := beq_false h
  cases h2 : Nat.beq k b with
  | true => have := Nat.eq_of_beq_eq_true h2; simp [this]; intro e; exact absurd (this.trans e) h1
  | false => have h3 := beq_false h2; simp [h1,h3]
theorem dn (a b k : Nat) : sw a b (sw a b k) = k := by
 simp only [Mg]; split <;> (try split) <;> (try split) <;> simp_all
mutual
def SV.rn (π : Nat → Nat) : SV → SV
 | .vec j => .vec (π j)
 | .ptr j off => .ptr (π j) off
 | .vptr j sz i off => .vptr (π j) sz i off
 | .ref j => .ref (π j)
 | .agg xs => .agg (rns π xs)
 | .tup xs => .tup (rns π xs)
 | .fn f first caps => .fn f (rns π first) (rns π caps)
 | .ifc t x => .ifc t (SV.rn π x)
 | .u => .u
 | .p x fr => .p x fr
 | .pd row off fr => .pd row off fr
 | .pc rows fr => .pc rows fr
def rns (π : Nat → Nat) : List SV → List SV
 | [] => []
 | x :: xs => SV.rn π x :: rns π xs
end
def OV.rn (π : Nat → Nat) : OV → OV
 | .box t cells => .box t (rns π cells)
 | o => o
def cK (π : Nat → Nat) : Tab → Tab
 | [] => []
 | (k,x) :: r => (π k,OV.rn π x) :: cK π r
def lj (π : Nat → Nat) : List (Nat × SV) → List (Nat × SV)
 | [] => []
 | (t,x) :: r => (t,SV.rn π x) :: lj π r
theorem Ft (π : Nat → Nat) (l : List (Nat × SV)) (t : Nat) : lk (lj π l) t = (lk l t).map (SV.rn π) := by
 induction l with
 | nil => rfl
 | cons h r ih => obtain ⟨j,x⟩ := h; simp only [lj,lk]; cases Nat.beq j t <;> simp [ih]
theorem uv (a b : Nat) (l : Tab) (k : Nat) : lk (cK (sw a b) l) k = (lk l (sw a b k)).map (OV.rn (sw a b)) := by
 induction l with
 | nil => rfl
 | cons h r ih =>
  obtain ⟨j,x⟩ := h
  simp only [cK,lk]
  have : Nat.beq (sw a b j) k = Nat.beq j (sw a b k) := by
   cases h1 : Nat.beq (sw a b j) k with
   | true => have := Nat.eq_of_beq_eq_true h1; rw [← this,dn]; exact (Nat.beq_refl j).symm
   | false =>
    cases h2 : Nat.beq j (sw a b k) with
    | false => rfl
    | true => have := Nat.eq_of_beq_eq_true h2; subst this; rw [dn,Nat.beq_refl] at h1; cases h1
  rw [this]
  cases Nat.beq j (sw a b k) <;> simp [ih]
def Env.sw (E : Env) (a b : Nat) : Env := ⟨fun k => E.val (Go.TL.sw a b k),fun c => (E.own c).map (Go.TL.sw a b),E.ext⟩
theorem Env.rp (E : Env) (a b : Nat) : (E.sw a b).bad = E.bad := by
 funext c; apply propext; simp [Env.bad,Env.sw]
theorem Env.HE (E : Env) (a b c k : Nat) : (E.sw a b).own c = some k ↔ E.own c = some (Go.TL.sw a b k) := by
 simp only [Env.sw]
 cases hc : E.own c with
 | none => simp
 | some j =>
  simp only [Option.map_some,Option.some.injEq]
  constructor
  ·intro e; rw [← e,dn]
  ·intro e; rw [e,dn]
theorem Env.dn (E : Env) (a b : Nat) : (E.sw a b).sw a b = E := by
 cases E with
 | mk v o x =>
  simp only [Env.sw,Go.TL.dn,Option.map_map]
  congr 1
  funext c
  cases o c with
  | none => rfl
  | some j => simp [Go.TL.dn]
mutual
theorem VR.sw {w : World} {E : Env} {lo a b : Nat} : ∀ (sv : SV) (v : Value),VR w E lo sv v → VR w (E.sw a b) lo (SV.rn (Go.TL.sw a b) sv) v
 | .u,_,_ => by simp [SV.rn,VR]
 | .p x fr,v,h => by simp only [SV.rn,VR] at h ⊢; rw [Env.rp]; exact h
 | .ptr k off,v,h => by simp only [SV.rn,VR] at h ⊢; obtain ⟨c,h1,h2⟩ := h; exact ⟨c,by simp [Env.sw,Go.TL.dn,h1],h2⟩
 | .vec k,v,h => by simp only [SV.rn,VR] at h ⊢; exact ⟨by simp [Env.sw,Go.TL.dn,h.1],h.2⟩
 | .vptr k sz i off,v,h => by simp only [SV.rn,VR] at h ⊢; obtain ⟨c,n,m,h1,h2⟩ := h; exact ⟨c,n,m,by simp [Env.sw,Go.TL.dn,h1],h2⟩
 | .pd row off fr,v,h => by simp only [SV.rn,VR] at h ⊢; rw [Env.rp]; exact h
 | .pc rows fr,v,h => by simp only [SV.rn,VR] at h ⊢; rw [Env.rp]; exact h
 | .agg xs,v,h => by simp only [SV.rn,VR] at h ⊢; obtain ⟨vs,h1,h2⟩ := h; exact ⟨vs,h1,VRs.sw xs vs h2⟩
 | .tup xs,v,h => by simp only [SV.rn,VR] at h ⊢; obtain ⟨vs,h1,h2⟩ := h; exact ⟨vs,h1,VRs.sw xs vs h2⟩
 | .ref k,v,h => by simp only [SV.rn,VR] at h ⊢; exact ⟨by simp [Env.sw,Go.TL.dn,h.1],h.2⟩
 | .fn f first caps,v,h => by simp only [SV.rn,VR] at h ⊢; obtain ⟨vs,ws,h1,h2,h3⟩ := h; exact ⟨vs,ws,h1,VRs.sw first vs h2,VRs.sw caps ws h3⟩
 | .ifc t x,v,h => by simp only [SV.rn,VR] at h ⊢; obtain ⟨y,h1,h2⟩ := h; exact ⟨y,h1,VR.sw x y h2⟩
theorem VRs.sw {w : World} {E : Env} {lo a b : Nat} : ∀ (xs : List SV) (vs : List Value),VRs w E lo xs vs → VRs w (E.sw a b) lo (rns (Go.TL.sw a b) xs) vs
 | [],[],_ => by simp [rns,VRs]
 | x :: xs,v :: vs,h => by simp only [rns]; exact bC (VR.sw x v (ay.1 h).1) (VRs.sw xs vs (ay.1 h).2)
 | [],_ :: _,h => by simp [VRs] at h
 | _ :: _,[],h => by simp [VRs] at h
end
theorem OR.sw {w : World} {E : Env} {lo a b k : Nat} {ov : OV} (h : OR w E lo k ov) : OR w (E.sw a b) lo (Go.TL.sw a b k) (OV.rn (Go.TL.sw a b) ov) := by
 have hv : (E.sw a b).val (Go.TL.sw a b k) = E.val k := by simp [Env.sw,Go.TL.dn]
 have ho : ∀ c,(E.sw a b).own c = some (Go.TL.sw a b k) ↔ E.own c = some k := fun c => by rw [Env.HE,Go.TL.dn]
 cases ov with
 | box t cells => obtain ⟨c,vs,h1,h2,h3,h4⟩ := h; exact ⟨c,vs,hv.trans h1,(ho c).2 h2,h3,VRs.sw cells vs h4⟩
 | vec t sz rows fr => obtain ⟨v,xs,h1,h2,h3,h4,h5⟩ := h; exact ⟨v,xs,hv.trans h1,h2,h3,fun g hg => (ho g).2 (h4 g hg),by rw [Env.rp]; exact h5⟩
 | mp a rows fr => obtain ⟨c,es,cl,h1,h2,h3,h4⟩ := h; exact ⟨c,es,cl,hv.trans h1,(ho c).2 h2,h3,by rw [Env.rp]; exact h4⟩
theorem a8.sw {w : World} {E : Env} {lo a b : Nat} {T : Tab} (h : a8 w E lo T) : a8 w (E.sw a b) lo (cK (Go.TL.sw a b) T) := by
 refine ⟨?_,?_,?_,?_⟩
 ·intro k ov hl
  rw [uv] at hl
  cases hq : lk T (Go.TL.sw a b k) with
  | none => simp [hq] at hl
  | some o =>
   simp [hq] at hl; subst hl
   have := OR.sw (a := a) (b := b) (h.obj _ _ hq)
   rwa [Go.TL.dn] at this
 ·intro k hl
  rw [uv] at hl
  exact h.dead _ (by simpa using hl)
 ·intro c k ho
  have := h.own c _ ((Env.HE E a b c k).1 ho)
  refine ⟨this.1,this.2.1,?_⟩
  rw [uv]; simpa using this.2.2
 ·intro c hx
  have := h.ext c hx
  exact ⟨this.1,by simp [Env.sw,this.2]⟩
theorem Fr.sw {w w' : World} {E E' : Env} {a b : Nat} (h : Fr w E w' E') : Fr w (E.sw a b) w' (E'.sw a b) :=
 ⟨h.os,h.tape,h.output,h.size,fun c hc hn => by
  have hn' : E.own c = none := by simpa [Env.sw] using hn
  have := h.keep c hc hn'
  exact ⟨this.1,by simp [Env.sw,this.2]⟩,h.ext⟩
theorem D6 (a b : Nat) : ∀ xs : List SV,rns (sw a b) (rns (sw a b) xs) = xs := by
 have key : ∀ n, ∀ x : SV,SizeOf.sizeOf x < n → SV.rn (sw a b) (SV.rn (sw a b) x) = x := by
  intro n
  induction n with
  | zero => intro x h; omega
  | succ n ih =>
   have ihs : ∀ xs : List SV,SizeOf.sizeOf xs ≤ n → rns (sw a b) (rns (sw a b) xs) = xs := by
    intro xs
    induction xs with
    | nil => intro _; rfl
    | cons x xs ihx =>
     intro h
     simp at h
     simp only [rns]
     rw [ih x (by omega),ihx (by omega)]
   intro x h
   cases x <;> simp only [SV.rn,dn] <;> simp at h
   ·rw [ihs _ (by omega)]
   ·rw [ihs _ (by omega)]
   ·rw [ihs _ (by omega),ihs _ (by omega)]
   ·rw [ih _ (by omega)]
 intro xs
 induction xs with
 | nil => rfl
 | cons x xs ih => simp only [rns]; rw [key _ x (Nat.lt_succ_self _),ih]
theorem FnS.sw {P : Program} {f : FuncId} {args : List SV} {T : Tab} {R : SV → Tab → Prop} (a b : Nat) (h : FnS P f args T R) :
  FnS P f (rns (Go.TL.sw a b) args) (cK (Go.TL.sw a b) T) fun r T' => ∃ r0 T0,R r0 T0 ∧ r = SV.rn (Go.TL.sw a b) r0 ∧ T' = cK (Go.TL.sw a b) T0 := by
 intro lo w E vals hlo ht hv
 have ht' := a8.sw (a := a) (b := b) ht
 have hv' := VRs.sw (a := a) (b := b) _ _ hv
 rw [D6] at hv'
 have hT : cK (Go.TL.sw a b) (cK (Go.TL.sw a b) T) = T := by
  clear ht ht' h
  induction T with
  | nil => rfl
  | cons x T ih =>
   obtain ⟨k,ov⟩ := x
   simp only [cK,dn,ih]
   congr 1
   congr 1
   cases ov <;> simp [OV.rn,D6]
 rw [hT] at ht'
 refine (h lo w (E.sw a b) vals ⟨hlo.le,hlo.laid,fun b hb => by simp [Env.sw,hlo.own b hb]⟩ ht' hv').mono ?_
 rintro e w' ⟨r,v,T',E',rfl,hR,hfr,htt,hr,hp⟩
 refine ⟨_,v,_,E'.sw a b,rfl,⟨r,T',hR,rfl,rfl⟩,?_,a8.sw htt,VR.sw r v hr,?_⟩
 ·have := Fr.sw (a := a) (b := b) hfr
  rwa [Env.dn] at this
 ·intro k x hk
  have := hp (Go.TL.sw a b k) x (by simpa [Env.sw,Go.TL.dn] using hk)
  simpa [Env.sw] using this
def St.rn (σ : St) (k k' : Nat) : St := ⟨lj (sw k k') σ.ab,cK (sw k k') σ.tab⟩
theorem Jy {P : Program} {n lo : Nat} {w0 : World} {E0 : Env} {σ : St} {a : Act} {w : World} {k k' : Nat} (h : Holds (mkC P n lo w0 E0) σ a w) (hf : lk σ.tab k' = none) (hi : Nat.ble (k' + 1) n = true) : Holds (mkC P n lo w0 E0) (σ.rn k k') a w := by
 obtain ⟨E,h⟩ := h
 have hk' : k' < n := Nat.le_of_ble_eq_true hi
 refine ⟨E.sw k k',h.size,h.defers,?_,a8.sw h.tab,?_,h.lo,h.ids,?_⟩
 ·intro t s hl
  simp only [St.rn,Ft] at hl
  cases hq : lk σ.ab t with
  | none => simp [hq] at hl
  | some s0 => simp [hq] at hl; subst hl; exact VR.sw s0 _ (h.ab t s0 hq)
 ·exact ⟨h.fr.os,h.fr.tape,h.fr.output,h.fr.size,fun c hc hn => by
   have := h.fr.keep c hc hn
   exact ⟨this.1,by simp [Env.sw,this.2]⟩,h.fr.ext⟩
 ·intro j x hj
  have hid : n ≤ j := h.ids j (by rw [hj]; simp)
  simp only [Env.sw]
  rw [Mg]
  by_cases h1 : j = k
  ·rw [if_pos h1]; exact .inr (h.tab.dead k' hf)
  ·rw [if_neg h1,if_neg (by omega)]; exact h.gZ j x hj
theorem OE {P : Program} {n : Nat} {σ σ' : St} (k k' : Nat) (hf : (lk σ.tab k').isSome = false) (hi : Nat.ble (k' + 1) n = true) (h : σ.rn k k' = σ') : Imp P n σ σ' :=
 fun _ _ _ _ _ hh => h ▸ Jy hh (by simpa using hf) hi
def St.lL (t K : Nat) (e : TypeId) (sz : Nat) (σ : St) : St := ⟨(t,.vec K) :: rm σ.ab t,(K,.vec e sz [] true) :: σ.tab⟩
def Jz (σ : St) (t : Nat) : Bool :=
 match lk σ.ab t with
 | some (.p (.v (.slice none 0 0)) _) => true
 | _ => false
theorem Fu {P : Program} {n : Nat} {σ σ' : St} (t K : Nat) (e : TypeId) (sz : Nat) (ht : Jz σ t = true) (hf : (lk σ.tab K).isSome = false) (hi : Nat.ble (K + 1) n = true) (hz : Nat.ble 1 sz = true) (h : σ.lL t K e sz = σ') : Imp P n σ σ' := by
 subst h
 rintro lo w0 E0 a w ⟨E,h⟩
 have hK : K < n := Nat.le_of_ble_eq_true hi
 have hf' : lk σ.tab K = none := by simpa using hf
 have hval : a.tmps.getD t undef = .slice none 0 0 := by
  unfold Jz at ht
  split at ht
  ·rename_i hl; exact cf (h.ab t _ hl)
  ·cases ht
 let E' : Env := ⟨fun k => if k = K then some (.slice none 0 0) else E.val k,E.own,E.ext⟩
 have hk : cP w E w E' := ⟨fun _ _ h => ⟨rfl,h⟩,rfl⟩
 have hv : ∀ k x,E.val k = some x → E'.val k = some x := by
  intro k x hx
  have : k ≠ K := fun e => by subst e; rw [h.tab.dead k hf'] at hx; cases hx
  simp [E',this,hx]
 refine ⟨E',h.size,h.defers,?_,⟨?_,?_,?_,?_⟩,⟨h.fr.os,h.fr.tape,h.fr.output,h.fr.size,h.fr.keep,h.fr.ext⟩,h.lo,h.ids,?_⟩
 ·intro t' s hl
  simp only [St.lL] at hl
  by_cases he : t' = t
  ·subst he
   rw [ar] at hl; cases hl
   simp only [VR]
   exact ⟨by simp [E',hval],_,_,_,hval⟩
  ·rw [aq _ _ _ _ he,bP _ _ _ he] at hl
   exact VR.mono hk hv s _ (h.ab t' s hl)
 ·intro k ov hl
  simp only [St.lL] at hl
  by_cases he : k = K
  ·subst he
   rw [ar] at hl; cases hl
   exact ⟨.slice none 0 0,[],by simp [E'],Nat.le_of_ble_eq_true hz,World.ownsRow_nil w 0 e sz,by simp [Value.ownBlock],fun _ _ => undef,by simp,by simp,by simp⟩
  ·rw [aq _ _ _ _ he] at hl
   exact OR.mono hk hv (fun _ => Iff.rfl) (fun _ _ => rfl) (h.tab.obj k ov hl)
 ·intro k hl
  have he : k ≠ K := fun e => by subst e; simp only [St.lL] at hl; rw [ar] at hl; cases hl
  simp only [St.lL] at hl
  rw [aq _ _ _ _ he] at hl
  simp [E',he,h.tab.dead k hl]
 ·intro c k ho
  have := h.tab.own c k ho
  refine ⟨this.1,this.2.1,?_⟩
  simp only [St.lL]
  by_cases he : k = K
  ·subst he; rw [ar]; simp
  ·rw [aq _ _ _ _ he]; exact this.2.2
 ·exact h.tab.ext
 ·intro j x hj
  have hid : n ≤ j := h.ids j (by rw [hj]; simp)
  have : j ≠ K := by omega
  simpa [E',this] using h.gZ j x hj
def kK (K : Nat) : List SV → List SV
 | [] => []
 | x :: xs => (match x with | .vec j => (match Nat.beq j K with | true => .p (.v (.slice none 0 0)) true | false => .vec j) | x => x) :: kK K xs
theorem yS {w : World} {E E' : Env} {lo K : Nat} (hk : cP w E w E') (hv : ∀ k x,E.val k = some x → E'.val k = some x) (hK : E'.val K = some (.slice none 0 0)) :
  ∀ (xs : List SV) (vs : List Value),VRs w E lo (kK K xs) vs → VRs w E' lo xs vs
 | [],[],_ => by simp [VRs]
 | x :: xs,v :: vs,h => by
  simp only [kK] at h
  have h2 := yS hk hv hK xs vs (ay.1 h).2
  refine bC ?_ h2
  have h1 := (ay.1 h).1
  cases x with
  | vec j =>
   simp only at h1
   cases hj : Nat.beq j K with
   | true =>
    have := Nat.eq_of_beq_eq_true hj; subst this
    simp only [hj] at h1
    have := cf h1; subst this
    simp only [VR]
    exact ⟨hK,_,_,_,rfl⟩
   | false => simp only [hj] at h1; exact VR.mono hk hv _ _ h1
  | _ => exact VR.mono hk hv _ _ h1
 | [],_ :: _,h => by simp [kK,VRs] at h
 | _ :: _,[],h => by simp [kK,VRs] at h
theorem FnS.OF {P : Program} {g : FuncId} {T : Tab} {R : SV → Tab → Prop} (K : Nat) (e : TypeId) (sz : Nat) (svs : List SV) {svs' : List SV} (hsv : kK K svs = svs') (hf : (lk T K).isSome = false) (hz : Nat.ble 1 sz = true)
  (h : FnS P g svs ((K,.vec e sz [] true) :: T) R) : FnS P g svs' T R := by
 subst hsv
 intro lo w E vals hlo ht hv
 have hf' : lk T K = none := by simpa using hf
 let E' : Env := ⟨fun k => if k = K then some (.slice none 0 0) else E.val k,E.own,E.ext⟩
 have hk : cP w E w E' := ⟨fun _ _ h => ⟨rfl,h⟩,rfl⟩
 have hvE : ∀ k x,E.val k = some x → E'.val k = some x := by
  intro k x hx
  have : k ≠ K := fun e => by subst e; rw [ht.dead k hf'] at hx; cases hx
  simp [E',this,hx]
 have ht' : a8 w E' lo ((K,.vec e sz [] true) :: T) := by
  refine ⟨?_,?_,?_,ht.ext⟩
  ·intro k ov hl
   by_cases he : k = K
   ·subst he
    rw [ar] at hl; cases hl
    exact ⟨.slice none 0 0,[],by simp [E'],Nat.le_of_ble_eq_true hz,World.ownsRow_nil w 0 e sz,by simp [Value.ownBlock],fun _ _ => undef,by simp,by simp,by simp⟩
   ·rw [aq _ _ _ _ he] at hl
    exact OR.mono hk hvE (fun _ => Iff.rfl) (fun _ _ => rfl) (ht.obj k ov hl)
  ·intro k hl
   have he : k ≠ K := fun e => by subst e; rw [ar] at hl; cases hl
   rw [aq _ _ _ _ he] at hl
   simp [E',he,ht.dead k hl]
  ·intro c k ho
   have := ht.own c k ho
   refine ⟨this.1,this.2.1,?_⟩
   by_cases he : k = K
   ·subst he; rw [ar]; simp
   ·rw [aq _ _ _ _ he]; exact this.2.2
 refine (h lo w E' vals ⟨hlo.le,hlo.laid,hlo.own⟩ ht' (yS hk hvE (by simp [E']) svs vals hv)).mono ?_
 rintro e' w' ⟨r,v,T',E'',rfl,hR,hfr,hto,hr,hp⟩
 refine ⟨r,v,T',E'',rfl,hR,⟨hfr.os,hfr.tape,hfr.output,hfr.size,hfr.keep,hfr.ext⟩,hto,hr,?_⟩
 intro k x hx
 exact hp k x (hvE k x hx)
end Go.TL
namespace Go.TL
mutual
def SV.cU : SV → SV
 | .p (.sl rows) _ => .p (.sl rows) false
 | .p (.rm len rows) _ => .p (.rm len rows) false
 | .p (.ls rows) _ => .p (.ls rows) false
 | .p .un fr => .p .un fr
 | .p (.mp a rows) _ => .p (.mp a rows) false
 | .pd row off _ => .pd row off false
 | .pc rows _ => .pc rows false
 | .agg xs => .agg (sL xs)
 | .tup xs => .tup (sL xs)
 | .p (.v x) fr => match dW x with
  | true => .p (.sl []) false
  | false => .p (.v x) fr
 | .u => .u
 | .ptr k off => .ptr k off
 | .vec k => .vec k
 | .vptr k sz i off => .vptr k sz i off
 | .ref k => .ref k
 | .fn f first caps => .fn f first caps
 | .ifc t x => .ifc t (SV.cU x)
def sL : List SV → List SV
 | [] => []
 | x :: xs => SV.cU x :: sL xs
end
theorem Rep.AZ {w : World} {bad : Nat → Prop} {lo : Nat} {x : PV} {v : Value} (h : Rep w bad lo x v) : Rep w bad 0 x v := h.mono (Nat.zero_le _) fun _ _ h k => ⟨h,k⟩
mutual
theorem VR.cU {w : World} {E : Env} {lo : Nat} : ∀ (sv : SV) (v : Value),VR w E lo sv v → VR w E lo sv.cU v
 | .p (.sl rows) fr,v,h => by simp only [SV.cU,VR,flo] at h ⊢; exact h.AZ
 | .p (.rm len rows) fr,v,h => by simp only [SV.cU,VR,flo] at h ⊢; exact h.AZ
 | .p (.ls rows) fr,v,h => by simp only [SV.cU,VR,flo] at h ⊢; exact h.AZ
 | .p .un fr,v,h => by simpa only [SV.cU] using h
 | .p (.mp a rows) fr,v,h => by simp only [SV.cU,VR,flo] at h ⊢; exact h.AZ
 | .pd row off fr,v,h => by
  simp only [SV.cU,VR,flo] at h ⊢
  obtain ⟨b,o,h1,h2⟩ := h
  exact ⟨b,o,h1,h2.mono (Nat.zero_le _) fun _ _ h k => ⟨h,k⟩⟩
 | .pc rows fr,v,h => by
  simp only [SV.cU,VR,flo] at h ⊢
  obtain ⟨a,h1,h2⟩ := h
  exact ⟨a,h1,h2.AZ⟩
 | .agg xs,v,h => by simp only [SV.cU,VR] at h ⊢; obtain ⟨vs,h1,h2⟩ := h; exact ⟨vs,h1,VRs.cU xs vs h2⟩
 | .tup xs,v,h => by simp only [SV.cU,VR] at h ⊢; obtain ⟨vs,h1,h2⟩ := h; exact ⟨vs,h1,VRs.cU xs vs h2⟩
 | .p (.v x) fr,v,h => by
  simp only [SV.cU]
  cases hx : dW x with
  | true =>
   have := kD hx; subst this
   rw [cf h]
   simp only [VR]
   exact .nil none 0
  | false => exact h
 | .u,_,h => by simpa only [SV.cU] using h
 | .ptr k off,_,h => by simpa only [SV.cU] using h
 | .vec k,_,h => by simpa only [SV.cU] using h
 | .vptr k sz i off,_,h => by simpa only [SV.cU] using h
 | .ref k,_,h => by simpa only [SV.cU] using h
 | .fn f first caps,_,h => by simpa only [SV.cU] using h
 | .ifc t x,v,h => by simp only [SV.cU,VR] at h ⊢; obtain ⟨y,h1,h2⟩ := h; exact ⟨y,h1,VR.cU x y h2⟩
theorem VRs.cU {w : World} {E : Env} {lo : Nat} : ∀ (xs : List SV) (vs : List Value),VRs w E lo xs vs → VRs w E lo (sL xs) vs
 | [],[],_ => by simp [sL,VRs]
 | x :: xs,v :: vs,h => by simp only [sL]; exact bC (VR.cU x v (ay.1 h).1) (VRs.cU xs vs (ay.1 h).2)
 | [],_ :: _,h => by simp [VRs] at h
 | _ :: _,[],h => by simp [VRs] at h
end
def gS : List Bool → List SV → List SV
 | true :: m,x :: xs => x.cU :: gS m xs
 | false :: m,x :: xs => x :: gS m xs
 | _,xs => xs
theorem VRs.gS {w : World} {E : Env} {lo : Nat} : ∀ (m : List Bool) (xs : List SV) (vs : List Value),VRs w E lo xs vs → VRs w E lo (Go.TL.gS m xs) vs
 | [],xs,vs,h => by simpa only [Go.TL.gS] using h
 | b :: m,[],vs,h => by cases b <;> simpa only [Go.TL.gS] using h
 | true :: m,x :: xs,v :: vs,h => by simp only [Go.TL.gS]; exact bC (VR.cU x v (ay.1 h).1) (VRs.gS m xs vs (ay.1 h).2)
 | false :: m,x :: xs,v :: vs,h => by simp only [Go.TL.gS]; exact bC (ay.1 h).1 (VRs.gS m xs vs (ay.1 h).2)
 | true :: m,x :: xs,[],h => by simp [VRs] at h
 | false :: m,x :: xs,[],h => by simp [VRs] at h
theorem FnS.cU {P : Program} {g : FuncId} {T : Tab} {R : SV → Tab → Prop} (m : List Bool) (svs : List SV) {svs' : List SV} (e : gS m svs = svs') (h : FnS P g svs' T R) : FnS P g svs T R := by
 subst e
 intro lo w E vals hlo ht hv
 exact h lo w E vals hlo ht (VRs.gS m svs vals hv)
def St.nl (t : Nat) (fr : Bool) (σ : St) : St := ⟨(t,.p (.sl []) fr) :: rm σ.ab t,σ.tab⟩
mutual
def SV.nlf : SV → SV
 | .p (.v x) fr => match dW x with
  | true => .p (.sl []) true
  | false => .p (.v x) fr
 | .agg xs => .agg (xN xs)
 | .tup xs => .tup (xN xs)
 | .p (.sl rows) fr => .p (.sl rows) fr
 | .p (.rm len rows) fr => .p (.rm len rows) fr
 | .p (.ls rows) fr => .p (.ls rows) fr
 | .p .un fr => .p .un fr
 | .p (.mp a rows) fr => .p (.mp a rows) fr
 | .pd row off fr => .pd row off fr
 | .pc rows fr => .pc rows fr
 | .u => .u
 | .ptr k off => .ptr k off
 | .vec k => .vec k
 | .vptr k sz i off => .vptr k sz i off
 | .ref k => .ref k
 | .fn f first caps => .fn f first caps
 | .ifc t x => .ifc t x
def xN : List SV → List SV
 | [] => []
 | x :: xs => SV.nlf x :: xN xs
end
mutual
theorem VR.nlf {w : World} {E : Env} {lo : Nat} : ∀ (sv : SV) (v : Value),VR w E lo sv v → VR w E lo sv.nlf v
 | .p (.v x) fr,v,h => by
  simp only [SV.nlf]
  cases hx : dW x with
  | true =>
   have := kD hx; subst this
   rw [cf h]
   simp only [VR]
   exact .nil none 0
  | false => exact h
 | .agg xs,v,h => by simp only [SV.nlf,VR] at h ⊢; obtain ⟨vs,h1,h2⟩ := h; exact ⟨vs,h1,VRs.nlf xs vs h2⟩
 | .tup xs,v,h => by simp only [SV.nlf,VR] at h ⊢; obtain ⟨vs,h1,h2⟩ := h; exact ⟨vs,h1,VRs.nlf xs vs h2⟩
 | .p (.sl rows) fr,v,h => by simpa only [SV.nlf] using h
 | .p (.rm len rows) fr,v,h => by simpa only [SV.nlf] using h
 | .p (.ls rows) fr,v,h => by simpa only [SV.nlf] using h
 | .p .un fr,v,h => by simpa only [SV.nlf] using h
 | .p (.mp a rows) fr,v,h => by simpa only [SV.nlf] using h
 | .pd row off fr,v,h => by simpa only [SV.nlf] using h
 | .pc rows fr,v,h => by simpa only [SV.nlf] using h
 | .u,_,h => by simpa only [SV.nlf] using h
 | .ptr k off,_,h => by simpa only [SV.nlf] using h
 | .vec k,_,h => by simpa only [SV.nlf] using h
 | .vptr k sz i off,_,h => by simpa only [SV.nlf] using h
 | .ref k,_,h => by simpa only [SV.nlf] using h
 | .fn f first caps,_,h => by simpa only [SV.nlf] using h
 | .ifc t x,v,h => by simpa only [SV.nlf] using h
theorem VRs.nlf {w : World} {E : Env} {lo : Nat} : ∀ (xs : List SV) (vs : List Value),VRs w E lo xs vs → VRs w E lo (xN xs) vs
 | [],[],_ => by simp [xN,VRs]
 | x :: xs,v :: vs,h => by simp only [xN]; exact bC (VR.nlf x v (ay.1 h).1) (VRs.nlf xs vs (ay.1 h).2)
 | [],_ :: _,h => by simp [VRs] at h
 | _ :: _,[],h => by simp [VRs] at h
end
def km : List Bool → List SV → List SV
 | true :: m,x :: xs => x.nlf :: km m xs
 | false :: m,x :: xs => x :: km m xs
 | _,xs => xs
theorem VRs.km {w : World} {E : Env} {lo : Nat} : ∀ (m : List Bool) (xs : List SV) (vs : List Value),VRs w E lo xs vs → VRs w E lo (Go.TL.km m xs) vs
 | [],xs,vs,h => by simpa only [Go.TL.km] using h
 | b :: m,[],vs,h => by cases b <;> simpa only [Go.TL.km] using h
 | true :: m,x :: xs,v :: vs,h => by simp only [Go.TL.km]; exact bC (VR.nlf x v (ay.1 h).1) (VRs.km m xs vs (ay.1 h).2)
 | false :: m,x :: xs,v :: vs,h => by simp only [Go.TL.km]; exact bC (ay.1 h).1 (VRs.km m xs vs (ay.1 h).2)
 | true :: m,x :: xs,[],h => by simp [VRs] at h
 | false :: m,x :: xs,[],h => by simp [VRs] at h
theorem FnS.nlf {P : Program} {g : FuncId} {T : Tab} {R : SV → Tab → Prop} (m : List Bool) (svs : List SV) {svs' : List SV} (e : km m svs = svs') (h : FnS P g svs' T R) : FnS P g svs T R := by
 subst e
 intro lo w E vals hlo ht hv
 exact h lo w E vals hlo ht (VRs.km m svs vals hv)
end Go.TL
namespace Go.TL
def nJ (o : Oper) : Bool :=
 match o.op with
 | .move _ => true
 | .assign _ => true
 | .pick _ _ _ => true
 | .nilCheck _ => true
 | .fieldAddr _ _ _ => true
 | .extract _ _ => true
 | .indexAddr _ _ _ => true
 | .binOp _ _ _ _ _ => true
 | .call c => match c.callee,c.args.toList,c.argTypes.toList with
  | .builtin .len,[_],[_] => true
  | _,_,_ => false
 | _ => false
theorem JA {C : Ctx} {H : Hint} {σ σ' : St} {a : Act} {w : World} {o : Oper} {ps : List Prop} (hpure : nJ o = true) (hf : aop C.P H σ o = some (σ',ps)) (hp : ia ps) (h : Holds C σ a w) (hd : aV C o) : eg C o σ' a w := by
 obtain ⟨E,h⟩ := h
 unfold nJ at hpure
 unfold aop at hf
 split at hpure
 ·rename_i ho; simp only [ho] at hf; obtain ⟨_,hq⟩ := bV hf; exact jF (.inl ho) hq h hd
 ·rename_i ho; simp only [ho] at hf; obtain ⟨_,hq⟩ := bV hf; exact jF (.inr ho) hq h hd
 ·rename_i ho; simp only [ho] at hf; obtain ⟨_,hq⟩ := bV hf; exact tQ ho hq h hd
 ·rename_i ho; simp only [ho] at hf; obtain ⟨_,hq⟩ := bV hf; exact mG ho hq h hd
 ·rename_i ho; simp only [ho] at hf; obtain ⟨_,hq⟩ := bV hf; exact lG ho hq h hd
 ·rename_i ho; simp only [ho] at hf; obtain ⟨_,hq⟩ := bV hf; exact nE ho hq h hd
 ·rename_i ho; simp only [ho] at hf
  split at hf
  ·rename_i he; obtain ⟨_,hq⟩ := bV hf; exact eX ho hq (lI he hq) h hd
  ·obtain ⟨_,hq,hv⟩ := dP hf hp; exact eX ho hq hv h hd
 ·rename_i ho; simp only [ho] at hf
  split at hf
  ·split at hf
   ·rename_i r hr
    obtain ⟨_,hq,hv⟩ := dP hf hp
    rw [hq] at hr
    exact tR ho hr hv h hd
   ·obtain ⟨_,hq,hv⟩ := dP hf hp; exact kE ho hq hv h hd
  ·rename_i hn
   split at hf
   ·rename_i r hr
    obtain ⟨_,hq⟩ := bV hf
    rw [hq] at hr
    exact kE ho hr (vA hn hr) h hd
   ·obtain ⟨_,hq⟩ := bV hf; exact kF ho hq h hd
 ·rename_i c ho; simp only [ho] at hf
  split at hpure
  ·rename_i x t hc ha ht
   simp only [hc,ha,ht] at hf
   have ho' : o.op = .call { callee := .builtin .len,args := #[x],argTypes := #[t] } := by
    rw [ho]; obtain ⟨cc,ca,ct⟩ := c; simp only at hc ha ht; subst hc; rw [kG ha,kG ht]
   obtain ⟨_,hq⟩ := bV hf; exact vz ho' hq h hd
  ·cases hpure
 ·cases hpure
end Go.TL
namespace Go.TL
def fE (P : Program) (n : Nat) (ops : Array Oper) (fuel : Nat) (listed : Array Bool) (σ : St) (Q : Exit → St → Prop) : Prop :=
 ∀ lo w0 E0 a w,Holds (mkC P n lo w0 E0) σ a w → wpAny P .any ops (lift (mkC P n lo w0 E0) Q) fuel listed a w
theorem Fv {C : Ctx} {σ : St} {a : Act} {w : World} (h : Holds C σ a w) : Holds C σ a { w with drawn := w.drawn + 1 } := by
 obtain ⟨E,h⟩ := h
 have hk : cP w E { w with drawn := w.drawn + 1 } E := ⟨fun _ _ h => ⟨rfl,h⟩,rfl⟩
 refine ⟨E,h.size,h.defers,fun t sv hl => VR.mono hk (fun _ _ h => h) sv _ (h.ab t sv hl),⟨?_,h.tab.dead,h.tab.own,h.tab.ext⟩,⟨h.fr.os,h.fr.tape,h.fr.output,h.fr.size,h.fr.keep,h.fr.ext⟩,h.lo,h.ids,h.gZ⟩
 intro k ov hl
 exact OR.mono hk (fun _ _ h => h) (fun _ => Iff.rfl) (fun _ _ => rfl) (h.tab.obj k ov hl)
theorem HF {P : Program} {n id : Nat} {ops : Array Oper} {σ : St} {Q : Exit → St → Prop} (k : Nat) (l : Array Bool) (hm : P.follows .mixedOrders = true) (hk : ops.size = k) (hl : Array.replicate k false = l)
  (h : fE P n ops k l σ Q) : AWP P n (.region id ops true) σ Q := by
 subst hk; subst hl
 exact fun lo w0 E0 a w hh => wp_region_any hm (h lo w0 E0 a _ (Fv hh))
theorem HG {P : Program} {n : Nat} {ops : Array Oper} {fuel : Nat} {listed : Array Bool} {σ : St} {Q : Exit → St → Prop} (hr : (Region.ready .any ops listed).isEmpty = true) (h : Q .normal σ) : fE P n ops fuel listed σ Q :=
 fun _ _ _ _ _ hh => wpAny_done (by simpa using hr) ⟨σ,h,hh⟩ fuel
theorem A0 {P : Program} {n : Nat} {ops : Array Oper} {fuel : Nat} {listed : Array Bool} {σ σ' : St} {Q : Exit → St → Prop} (h : Imp P n σ σ') (k : fE P n ops fuel listed σ' Q) : fE P n ops fuel listed σ Q :=
 fun lo w0 E0 a w hh => k lo w0 E0 a w (h lo w0 E0 a w hh)
def Fw (P : Program) (n : Nat) (ops : Array Oper) (fuel : Nat) (listed : Array Bool) (σ : St) (Q : Exit → St → Prop) : List Nat → Prop
 | [] => True
 | i :: rs => (∀ lo w0 E0 a w,Holds (mkC P n lo w0 E0) σ a w → wpOp P ops (lift (mkC P n lo w0 E0) Q) i (wpAny P .any ops (lift (mkC P n lo w0 E0) Q) fuel (listed.setIfInBounds i true)) a w) ∧ Fw P n ops fuel listed σ Q rs
theorem A1 {P : Program} {n : Nat} {ops : Array Oper} {fuel : Nat} {listed : Array Bool} {σ : St} {Q : Exit → St → Prop} : ∀ {rs : List Nat},Fw P n ops fuel listed σ Q rs → ∀ i ∈ rs,
  ∀ lo w0 E0 a w,Holds (mkC P n lo w0 E0) σ a w → wpOp P ops (lift (mkC P n lo w0 E0) Q) i (wpAny P .any ops (lift (mkC P n lo w0 E0) Q) fuel (listed.setIfInBounds i true)) a w
 | [],_,i,hi => by simp at hi
 | j :: rs,h,i,hi => by
  rcases List.mem_cons.1 hi with rfl | hi
  ·exact h.1
  ·exact A1 h.2 i hi
theorem JB {P : Program} {n : Nat} {ops : Array Oper} {fuel : Nat} {listed : Array Bool} {σ : St} {Q : Exit → St → Prop} (rs : List Nat) (hr : Region.ready .any ops listed = rs) (hne : rs.isEmpty = false)
  (h : Fw P n ops fuel listed σ Q rs) : fE P n ops (fuel + 1) listed σ Q := by
 intro lo w0 E0 a w hh
 refine wpAny_all hr ?_ fun i hi => A1 h i hi lo w0 E0 a w hh
 intro e; rw [e] at hne; simp at hne
theorem HH {P : Program} {n : Nat} {H : Hint} {ops : Array Oper} {fuel : Nat} (i : Nat) {listed listed' : Array Bool} {σ σ' : St} {Q : Exit → St → Prop} {o : Oper} {ps : List Prop} (ho : ops.toList[i]? = some o) (hds : gR n ops.toList = true)
  (hpure : nJ o = true) (hw : dH σ ops.toList o = some true) (hs : Region.noSelect ops = true) (hfree : Region.free .any ops listed i = true) (hr : (Region.ready .any ops listed).contains i = true)
  (hQ : ∀ c s,Q (.panic c) s → False) (hf : aop P H σ o = some (σ',ps)) (hp : ia ps) (hl : listed.setIfInBounds i true = listed') (h : fE P n ops fuel listed' σ' Q) : fE P n ops (fuel + 1) listed σ Q := by
 intro lo w0 E0 a w hh
 subst hl
 have ho' : ops[i]? = some o := by simpa using ho
 have hd : aV (mkC P n lo w0 E0) o := fun d hd => dL hds o (List.mem_of_getElem? ho) d hd
 obtain ⟨v,hrun,hs'⟩ := JA (C := mkC P n lo w0 E0) hpure hf hp hh hd
 refine wpAny_take (v := v) ho' hs hfree hr ?_ (.inl ⟨gu hh (dL hds) hw,hrun⟩) (h lo w0 E0 _ _ hs')
 rintro c a' w' ⟨s,hq,_⟩
 exact (hQ c s hq).elim
theorem zV {P : Program} {n : Nat} {ops : Array Oper} {fuel : Nat} (i : Nat) {listed : Array Bool} {σ : St} {Q : Exit → St → Prop} {o : Oper} (ho : ops.toList[i]? = some o) (hds : gR n ops.toList = true)
  (hw : dH σ ops.toList o = some false) (hs : Region.noSelect ops = true) (hfree : Region.free .any ops listed i = true) (hr : (Region.ready .any ops listed).contains i = true)
  (hQ : ∀ c s,Q (.panic c) s → False) (h : fE P n ops fuel (listed.setIfInBounds i true) (σ.put o.dst (.tup [])) Q) : fE P n ops (fuel + 1) listed σ Q := by
 intro lo w0 E0 a w hh
 have ho' : ops[i]? = some o := by simpa using ho
 refine wpAny_take (v := undef) ho' hs hfree hr ?_ (.inr ⟨gu hh (dL hds) hw,rfl⟩) (h lo w0 E0 _ _ (D1 hh fun d hd => dL hds o (List.mem_of_getElem? ho) d hd))
 rintro c a' w' ⟨s,hq,_⟩
 exact (hQ c s hq).elim
theorem MS {P : Program} {n : Nat} {lo : Nat} {w0 : World} {E0 : Env} {a : Act} {w : World} {σ : St} {K : Act → World → Prop} {Q : Exit → Act → World → Prop} {o : Oper} {g : FuncId} {svs : List SV} {R : SV → Tab → Prop} (T0 : Tab)
  (hd : ∀ d,o.dst = some d → d < n) (hc : lJ P σ o = some (g,svs)) (hok : aE P g = true)
  (hs : ∀ k ov,lk T0 k = some ov → lk σ.tab k = some ov) (hsb : fD T0 T0 = true) (hin : gC T0 svs = true) (hspec : FnS P g svs T0 R) (hh : Holds (mkC P n lo w0 E0) σ a w)
  (hnext : ∀ r T',R r T' → fN n T0 σ.tab T' = true ∧ ∀ a' w',Holds (mkC P n lo w0 E0) ((σ.after T0 T').put o.dst r) a' w' → K a' w') : o.wp P a w K Q := by
 obtain ⟨E,h⟩ := hh
 obtain ⟨vals,hall,hrun⟩ := Fo (C := mkC P n lo w0 E0) h hc hok
 have hcall := hspec lo w (E.sub T0) _ ((h.lo.fr h.fr).sub T0) (h.tab.sub hs hsb) (VRs.sub _ _ hin hall)
 unfold Oper.wp
 rw [show (execOp a.eval o).run P w = _ from hrun]
 show Calls P g _ w _
 refine hcall.mono ?_
 rintro e w' ⟨r,v,T',E',rfl,hR,hfr,ht,hr,hp⟩
 obtain ⟨hnew,hnx⟩ := hnext r T' hR
 exact hnx _ _ (Dm (C := mkC P n lo w0 E0) h hs hfr ht hr hp hnew hd)
end Go.TL
namespace Go.TL
inductive WR (P : Program) : CK → PV → Prop
 | int (k : IntKind) (n : Int) (h1 : k.min ≤ n) (h2 : n ≤ k.max) : WR P (.int k) (.v (.int k n))
 | bool (x : Bool) : WR P .bool (.v (.bool x))
 | str (x : ByteArray) (h : x.size ≤ bz) : WR P .str (.v (.string x))
 | rm (e : TypeId) (len : Nat) (rows : List (List PV)) (h : len ≤ rows.length) (hm : len ≤ b7) (hr : rows.length ≤ len + 2) (hl : ∀ row ∈ rows,row.length = (cks P e).length)
   (hw : ∀ (row : List PV),row ∈ rows → ∀ (j : Nat) (ck : CK) (x : PV),(cks P e)[j]? = some ck → row[j]? = some x → WR P ck x) : WR P (.sl e) (.rm len rows)
def WRs (P : Program) : List CK → List PV → Prop
 | [],[] => True
 | c :: cs,x :: xs => WR P c x ∧ WRs P cs xs
 | _,_ => False
theorem dp {P : Program} : ∀ (cs : List CK) (xs : List PV),WRs P cs xs ↔ xs.length = cs.length ∧ ∀ (j : Nat) (ck : CK) (x : PV),cs[j]? = some ck → xs[j]? = some x → WR P ck x
 | [],[] => by simp [WRs]
 | c :: cs,x :: xs => by
  simp only [WRs]
  rw [dp cs xs]
  constructor
  ·rintro ⟨h1,h2,h3⟩
   refine ⟨by simp [h2],?_⟩
   intro j ck y hc hy
   cases j with
   | zero => simp at hc hy; subst hc; subst hy; exact h1
   | succ j => exact h3 j ck y (by simpa using hc) (by simpa using hy)
  ·rintro ⟨h1,h2⟩
   exact ⟨h2 0 c x rfl rfl,by simpa using h1,fun j ck y hc hy => h2 (j + 1) ck y (by simpa using hc) (by simpa using hy)⟩
 | [],_ :: _ => by simp [WRs]
 | _ :: _,[] => by simp [WRs]
def TyR (P : Program) (t : TypeId) (row : List PV) : Prop := WRs P (cks P t) row
theorem TyR.of {P : Program} {t : TypeId} {cs : List CK} {row : List PV} (hc : cks P t = cs) (h : WRs P cs row) : TyR P t row := by unfold TyR; rw [hc]; exact h
theorem TyR.to {P : Program} {t : TypeId} {cs : List CK} {row : List PV} (hc : cks P t = cs) (h : TyR P t row) : WRs P cs row := by unfold TyR at h; rw [hc] at h; exact h
mutual
def PV.er : PV → PV
 | .v x => .v x
 | .sl rows => .sl rows
 | .rm len rows => .sl (dk len rows)
 | .ls rows => .ls rows
 | .un => .un
 | .mp a rows => .mp a rows
def cR : List PV → List PV
 | [] => []
 | x :: xs => PV.er x :: cR xs
def dk : Nat → List (List PV) → List (List PV)
 | _,[] => []
 | 0,_ :: _ => []
 | n + 1,r :: rs => cR r :: dk n rs
end
theorem eR : ∀ (row : List PV) (j : Nat),(cR row)[j]? = (row[j]?).map PV.er
 | [],j => by simp [cR]
 | x :: xs,0 => by simp [cR]
 | x :: xs,j + 1 => by simp [cR,eR xs j]
theorem iP (row : List PV) : (cR row).length = row.length := by
 induction row with
 | nil => simp [cR]
 | cons x xs ih => simp [cR,ih]
theorem kL : ∀ (n : Nat) (rows : List (List PV)) (i : Nat),(dk n rows)[i]? = if i < n then (rows[i]?).map cR else none
 | _,[],i => by simp [dk]
 | 0,_ :: _,i => by simp [dk]
 | n + 1,r :: rs,0 => by simp [dk]
 | n + 1,r :: rs,i + 1 => by simp [dk,kL n rs i]
theorem qH (n : Nat) (rows : List (List PV)) : (dk n rows).length = min n rows.length := by
 induction rows generalizing n with
 | nil => simp [dk]
 | cons r rs ih => cases n with
  | zero => simp [dk]
  | succ n => simp only [dk,List.length_cons,ih]; omega
theorem Rep.er {w : World} {bad : Nat → Prop} {lo : Nat} {x : PV} {v : Value} (h : Rep w bad lo x v) : Rep w bad lo x.er v := by
 induction h with
 | v x hx => exact .v x hx
 | nil b c => exact .nil b c
 | sl rows b off cap cs t fz sz f hcap hb hbad hlo hfz hlen hc hr ih => exact .sl rows b off cap cs t fz sz f hcap hb hbad hlo hfz hlen hc hr
 | rmNil => simp only [PV.er,dk]; exact .nil none 0
 | rm len rows b off cs t sz f hcap hb hbad hlo hlen hc hr ih =>
  simp only [PV.er]
  have hl : (dk len rows).length = len := by rw [qH]; omega
  have hget : ∀ (i : Nat) (row : List PV),(dk len rows)[i]? = some row → ∃ r0,rows[i]? = some r0 ∧ row = cR r0 := by
   intro i row hi
   rw [kL] at hi
   split at hi
   ·cases hq : rows[i]? with
    | none => simp [hq] at hi
    | some r0 => simp [hq] at hi; exact ⟨r0,rfl,hi.symm⟩
   ·cases hi
  have hcell : ∀ (r0 : List PV) (j : Nat) (x : PV),(cR r0)[j]? = some x → ∃ y,r0[j]? = some y ∧ x = y.er := by
   intro r0 j x hj
   rw [eR] at hj
   cases hq : r0[j]? with
   | none => simp [hq] at hj
   | some y => simp [hq] at hj; exact ⟨y,rfl,hj.symm⟩
  have := Rep.sl (w := w) (bad := bad) (lo := lo) (dk len rows) b off rows.length cs t (0,0) sz f (by rw [hl]; exact hcap) hb hbad hlo (fun _ => rfl)
   (fun i row hi => by obtain ⟨r0,h1,rfl⟩ := hget i row hi; rw [iP]; exact hlen i r0 h1)
   (fun i row j x hi hj => by
    obtain ⟨r0,h1,rfl⟩ := hget i row hi
    obtain ⟨y,h2,rfl⟩ := hcell r0 j x hj
    exact hc i r0 j y h1 h2)
   (fun i row j x hi hj => by
    obtain ⟨r0,h1,rfl⟩ := hget i row hi
    obtain ⟨y,h2,rfl⟩ := hcell r0 j x hj
    exact ih i r0 j y h1 h2)
  rw [hl] at this
  exact this
 | lsNil => exact .lsNil
 | un x hx => exact .un x hx
 | ls row rows b o cs t fz f hb hbad hlo hc hr ih => exact .ls row rows b o cs t fz f hb hbad hlo hc hr
 | mpNil a => exact .mpNil a
 | mp a rows b es clock f hb hbad hlo hc hr ih => exact .mp a rows b es clock f hb hbad hlo hc hr
theorem WR.er {P : Program} {ck : CK} {x : PV} (h : WR P ck x) : WT P ck x.er := by
 induction h with
 | int k n h1 h2 => exact .int k n h1 h2
 | bool x => exact .bool x
 | str x h => exact .str x h
 | rm e len rows h hm hr hl hw ih =>
  simp only [PV.er]
  have hget : ∀ row ∈ dk len rows, ∃ r0 ∈ rows,row = cR r0 := by
   intro row hrow
   obtain ⟨i,hi⟩ := List.getElem?_of_mem hrow
   rw [kL] at hi
   split at hi
   ·cases hq : rows[i]? with
    | none => simp [hq] at hi
    | some r0 => simp [hq] at hi; exact ⟨r0,List.mem_of_getElem? hq,hi.symm⟩
   ·cases hi
  refine .sl e _ (by rw [qH]; have := rl e; unfold b7 at hm; omega) ?_ ?_
  ·intro row hrow
   obtain ⟨r0,h0,rfl⟩ := hget row hrow
   rw [iP]; exact hl r0 h0
  ·intro row hrow j ck x hc hx
   obtain ⟨r0,h0,rfl⟩ := hget row hrow
   rw [eR] at hx
   cases hq : r0[j]? with
   | none => simp [hq] at hx
   | some y => simp [hq] at hx; subst hx; exact ih r0 h0 j ck y hc hq
theorem TyR.er {P : Program} {t : TypeId} {row : List PV} (h : TyR P t row) : Ty P t (cR row) := by
 unfold TyR at h; unfold Ty
 rw [dp] at h; rw [aY]
 refine ⟨by rw [iP]; exact h.1,?_⟩
 intro j ck x hc hx
 rw [eR] at hx
 cases hq : row[j]? with
 | none => simp [hq] at hx
 | some y => simp [hq] at hx; subst hx; exact (h.2 j ck y hc hq).er
def scalars : List CK → Bool
 | [] => true
 | .int _ :: r => scalars r
 | .bool :: r => scalars r
 | .str :: r => scalars r
 | _ => false
theorem fq : ∀ {cs : List CK},scalars cs = true → ∀ c ∈ cs,(∃ k,c = .int k) ∨ c = .bool ∨ c = .str
 | [],_,c,hc => by simp at hc
 | .int k :: r,h,c,hc => by
  rcases List.mem_cons.1 hc with rfl | hc
  ·exact .inl ⟨k,rfl⟩
  ·exact fq (cs := r) (by simpa [scalars] using h) c hc
 | .bool :: r,h,c,hc => by
  rcases List.mem_cons.1 hc with rfl | hc
  ·exact .inr (.inl rfl)
  ·exact fq (cs := r) (by simpa [scalars] using h) c hc
 | .str :: r,h,c,hc => by
  rcases List.mem_cons.1 hc with rfl | hc
  ·exact .inr (.inr rfl)
  ·exact fq (cs := r) (by simpa [scalars] using h) c hc
 | .sl _ :: _,h,_,_ => by simp [scalars] at h
 | .other :: _,h,_,_ => by simp [scalars] at h
 | .sst :: _,h,_,_ => by simp [scalars] at h
 | .any :: _,h,_,_ => by simp [scalars] at h
theorem rq {P : Program} {c : CK} {x : PV} (hs : (∃ k,c = .int k) ∨ c = .bool ∨ c = .str) (h : WT P c x) : (∃ v,x = .v v) ∧ WR P c x := by
 cases h with
 | int k n h1 h2 => exact ⟨⟨_,rfl⟩,.int k n h1 h2⟩
 | bool x => exact ⟨⟨_,rfl⟩,.bool x⟩
 | str x h => exact ⟨⟨_,rfl⟩,.str x h⟩
 | sst x h => rcases hs with ⟨k,e⟩ | e | e <;> cases e
 | any => rcases hs with ⟨k,e⟩ | e | e <;> cases e
 | sl e rows => rcases hs with ⟨k,e⟩ | e | e <;> cases e
theorem Ty.room {P : Program} {t : TypeId} {row : List PV} (hs : scalars (cks P t) = true) (h : Ty P t row) : TyR P t row := by
 unfold Ty at h; unfold TyR
 rw [aY] at h; rw [dp]
 exact ⟨h.1,fun j ck x hc hx => (rq (fq hs ck (List.mem_of_getElem? hc)) (h.2 j ck x hc hx)).2⟩
def Ac : SV → Bool
 | .p (.v x) _ => dW x
 | _ => false
def St.xO (k j K : Nat) (e : TypeId) (sz : Nat) (σ : St) : Option St :=
 match lk σ.tab k with
 | some (.box t cells) => match cells[j]? with
  | some c => match Ac c with
   | true => some ⟨σ.ab,(K,.vec e sz [] true) :: (k,.box t (cells.set j (.vec K))) :: rm σ.tab k⟩
   | false => none
  | none => none
 | _ => none
theorem vI {w : World} {E : Env} {lo K : Nat} (hK : E.val K = some (.slice none 0 0)) : ∀ (xs : List SV) (vs : List Value) (j : Nat) (c : SV),VRs w E lo xs vs → xs[j]? = some c → Ac c = true → VRs w E lo (xs.set j (.vec K)) vs
 | [],_,j,c,_,hj,_ => by simp at hj
 | x :: xs,[],j,c,h,_,_ => by simp [VRs] at h
 | x :: xs,v :: vs,0,c,h,hj,hc => by
  simp at hj; subst hj
  have h1 := (ay.1 h).1
  refine bC ?_ (ay.1 h).2
  unfold Ac at hc
  split at hc
  ·rename_i y fr
   have := kD hc; subst this
   have := cf h1; subst this
   simp only [VR]
   exact ⟨hK,_,_,_,rfl⟩
  ·cases hc
 | x :: xs,v :: vs,j + 1,c,h,hj,hc => bC (ay.1 h).1 (vI hK xs vs j c (ay.1 h).2 (by simpa using hj) hc)
theorem Dq {P : Program} {n : Nat} {σ σ' : St} (k j K : Nat) (e : TypeId) (sz : Nat) (hf : (lk σ.tab K).isSome = false) (hi : Nat.ble (K + 1) n = true) (hz : Nat.ble 1 sz = true) (h : σ.xO k j K e sz = some σ') : Imp P n σ σ' := by
 unfold St.xO at h
 split at h
 ·rename_i t cells hk
  split at h
  ·rename_i c hc
   split at h
   ·rename_i hn
    simp only [Option.some.injEq] at h; subst h
    rintro lo w0 E0 a w ⟨E,h⟩
    have hK : K < n := Nat.le_of_ble_eq_true hi
    have hf' : lk σ.tab K = none := by simpa using hf
    have hkK : k ≠ K := fun e => by subst e; rw [hf'] at hk; cases hk
    let E' : Env := ⟨fun k => if k = K then some (.slice none 0 0) else E.val k,E.own,E.ext⟩
    have hkp : cP w E w E' := ⟨fun _ _ h => ⟨rfl,h⟩,rfl⟩
    have hv : ∀ k x,E.val k = some x → E'.val k = some x := by
     intro k x hx
     have : k ≠ K := fun e => by subst e; rw [h.tab.dead k hf'] at hx; cases hx
     simp [E',this,hx]
    refine ⟨E',h.size,h.defers,fun t' s hl => VR.mono hkp hv s _ (h.ab t' s hl),⟨?_,?_,?_,h.tab.ext⟩,⟨h.fr.os,h.fr.tape,h.fr.output,h.fr.size,h.fr.keep,h.fr.ext⟩,h.lo,h.ids,?_⟩
    ·intro i ov hl
     by_cases he : i = K
     ·subst he
      rw [ar] at hl; cases hl
      exact ⟨.slice none 0 0,[],by simp [E'],Nat.le_of_ble_eq_true hz,World.ownsRow_nil w 0 e sz,by simp [Value.ownBlock],fun _ _ => undef,by simp,by simp,by simp⟩
     ·rw [aq _ _ _ _ he] at hl
      by_cases hek : i = k
      ·subst hek
       rw [ar] at hl; cases hl
       obtain ⟨b,vs,h1,h2,h3,h4⟩ := h.tab.obj i _ hk
       exact ⟨b,vs,hv _ _ h1,h2,h3,vI (by simp [E']) cells vs j c (VRs.mono hkp hv cells vs h4) hc hn⟩
      ·rw [aq _ _ _ _ hek,bP _ _ _ hek] at hl
       exact OR.mono hkp hv (fun _ => Iff.rfl) (fun _ _ => rfl) (h.tab.obj i ov hl)
    ·intro i hl
     have he : i ≠ K := fun e => by subst e; rw [ar] at hl; cases hl
     rw [aq _ _ _ _ he] at hl
     have hek : i ≠ k := fun e => by subst e; rw [ar] at hl; cases hl
     rw [aq _ _ _ _ hek,bP _ _ _ hek] at hl
     simp [E',he,h.tab.dead i hl]
    ·intro b i ho
     have := h.tab.own b i ho
     refine ⟨this.1,this.2.1,?_⟩
     by_cases he : i = K
     ·subst he; rw [ar]; simp
     ·rw [aq _ _ _ _ he]
      by_cases hek : i = k
      ·subst hek; rw [ar]; simp
      ·rw [aq _ _ _ _ hek,bP _ _ _ hek]; exact this.2.2
    ·intro i x hj
     have hid : n ≤ i := h.ids i (by rw [hj]; simp)
     have : i ≠ K := by omega
     simpa [E',this] using h.gZ i x hj
   ·cases h
  ·cases h
 ·cases h
end Go.TL
