/- Calls. -/
import Derived.Test.YtajkchpnbnbmfaaGreatDoorW04
import Derived.StillTail
import Derived.Calls
namespace Go.TL
mutual
def SV.inB (T : Tab) : SV → Bool
 | .vec j => (lk T j).isSome
 | .ptr j _ => (lk T j).isSome
 | .vptr j _ _ _ => (lk T j).isSome
 | .ref j => (lk T j).isSome
 | .agg xs => gC T xs
 | .tup xs => gC T xs
 | .fn _ first caps => match gC T first with | true => gC T caps | false => false
 | .ifc _ x => SV.inB T x
 | .u => true
 | .p _ _ => true
 | .pd _ _ _ => true
 | .pc _ _ => true
def gC (T : Tab) : List SV → Bool
 | [] => true
 | x :: xs => match SV.inB T x with | true => gC T xs | false => false
end
def Env.sub (E : Env) (T0 : Tab) : Env :=
 ⟨fun k => if (lk T0 k).isSome then E.val k else none,fun b => match E.own b with | some k => if (lk T0 k).isSome then some k else none | none => none,
  fun b => E.ext b ∨ ∃ k,E.own b = some k ∧ (lk T0 k).isSome = false⟩
theorem oU.sub {P : Program} {lo : Nat} {w : World} {E : Env} (h : oU P lo w E) (T0 : Tab) : oU P lo w (E.sub T0) := ⟨h.le,h.laid,fun b hb => by simp only [Env.sub,h.own b hb]⟩
theorem nF (E : Env) (T0 : Tab) : (E.sub T0).bad = E.bad := by
 funext b
 apply propext
 unfold Env.bad Env.sub
 simp only
 cases hb : E.own b with
 | none => simp
 | some k =>
  cases hk : (lk T0 k).isSome with
  | true => simp [hk]
  | false =>
   simp only [hk,Bool.false_eq_true,if_false,ne_eq,not_true_eq_false,false_or,reduceCtorEq,not_false_eq_true,true_or,iff_true]
   exact .inr ⟨k,rfl,hk⟩
mutual
theorem VR.sub {w : World} {E : Env} {lo : Nat} {T0 : Tab} : ∀ (sv : SV) (v : Value),sv.inB T0 = true → VR w E lo sv v → VR w (E.sub T0) lo sv v
 | .u,_,_,_ => by simp [VR]
 | .p x fr,v,_,h => by simp only [VR] at h ⊢; rw [nF]; exact h
 | .ptr k off,v,hb,h => by simp only [VR,SV.inB] at h hb ⊢; obtain ⟨b,h1,h2⟩ := h; exact ⟨b,by simp [Env.sub,hb,h1],h2⟩
 | .vec k,v,hb,h => by simp only [VR,SV.inB] at h hb ⊢; exact ⟨by simp [Env.sub,hb,h.1],h.2⟩
 | .vptr k sz i off,v,hb,h => by simp only [VR,SV.inB] at h hb ⊢; obtain ⟨b,n,c,h1,h2⟩ := h; exact ⟨b,n,c,by simp [Env.sub,hb,h1],h2⟩
 | .pd row off fr,v,_,h => by simp only [VR] at h ⊢; rw [nF]; exact h
 | .pc rows fr,v,_,h => by simp only [VR] at h ⊢; rw [nF]; exact h
 | .agg xs,v,hb,h => by simp only [VR,SV.inB] at h hb ⊢; obtain ⟨vs,h1,h2⟩ := h; exact ⟨vs,h1,VRs.sub xs vs hb h2⟩
 | .tup xs,v,hb,h => by simp only [VR,SV.inB] at h hb ⊢; obtain ⟨vs,h1,h2⟩ := h; exact ⟨vs,h1,VRs.sub xs vs hb h2⟩
 | .ref k,v,hb,h => by simp only [VR,SV.inB] at h hb ⊢; exact ⟨by simp [Env.sub,hb,h.1],h.2⟩
 | .fn f first caps,v,hb,h => by
  simp only [VR,SV.inB] at h hb ⊢
  obtain ⟨vs,ws,h1,h2,h3⟩ := h
  cases hf : gC T0 first with
  | false => simp [hf] at hb
  | true => simp only [hf] at hb; exact ⟨vs,ws,h1,VRs.sub first vs hf h2,VRs.sub caps ws hb h3⟩
 | .ifc t x,v,hb,h => by simp only [VR,SV.inB] at h hb ⊢; obtain ⟨y,h1,h2⟩ := h; exact ⟨y,h1,VR.sub x y hb h2⟩
theorem VRs.sub {w : World} {E : Env} {lo : Nat} {T0 : Tab} : ∀ (xs : List SV) (vs : List Value),gC T0 xs = true → VRs w E lo xs vs → VRs w (E.sub T0) lo xs vs
 | [],[],_,_ => by simp [VRs]
 | x :: xs,v :: vs,hb,h => by
  simp only [gC] at hb
  cases hx : x.inB T0 with
  | false => simp [hx] at hb
  | true =>
   simp only [hx] at hb
   exact bC (VR.sub x v hx (ay.1 h).1) (VRs.sub xs vs hb (ay.1 h).2)
 | [],_ :: _,_,h => by simp [VRs] at h
 | _ :: _,[],_,h => by simp [VRs] at h
end
def fD (T0 : Tab) : Tab → Bool
 | [] => true
 | (_,.box _ cells) :: r => match gC T0 cells with | true => fD T0 r | false => false
 | _ :: r => fD T0 r
theorem D2 {T0 : Tab} : ∀ {r : Tab},fD T0 r = true → ∀ k t cells,lk r k = some (.box t cells) → gC T0 cells = true
 | [],_,k,t,cells,h => by simp [lk] at h
 | (j,ov) :: r,hb,k,t,cells,h => by
  simp only [lk] at h
  cases hj : Nat.beq j k with
  | true =>
   simp only [hj,Option.some.injEq] at h; subst h
   simp only [fD] at hb
   cases hi : gC T0 cells with
   | true => rfl
   | false => simp [hi] at hb
  | false =>
   simp only [hj] at h
   have : fD T0 r = true := by
    cases ov with
    | box t' cs =>
     simp only [fD] at hb
     cases hi : gC T0 cs with
     | true => simpa only [hi] using hb
     | false => simp [hi] at hb
    | vec => simpa only [fD] using hb
    | mp => simpa only [fD] using hb
   exact D2 this k t cells h
theorem a8.sub {w : World} {E : Env} {lo : Nat} {T T0 : Tab} (h : a8 w E lo T) (hs : ∀ k ov,lk T0 k = some ov → lk T k = some ov) (hb : fD T0 T0 = true) : a8 w (E.sub T0) lo T0 := by
 refine ⟨?_,?_,?_,?_⟩
 ·intro k ov hl
  have hor := h.obj k ov (hs k ov hl)
  have hsm : (lk T0 k).isSome = true := by rw [hl]; rfl
  have hown : ∀ b,(E.sub T0).own b = some k ↔ E.own b = some k := by
   intro b
   simp only [Env.sub]
   cases hb : E.own b with
   | none => simp
   | some j =>
    simp only
    cases hj : (lk T0 j).isSome with
    | true => simp
    | false =>
     simp only [Bool.false_eq_true,if_false,reduceCtorEq,false_iff]
     intro e; simp at e; subst e; rw [hsm] at hj; cases hj
  have hval : (E.sub T0).val k = E.val k := by simp [Env.sub,hsm]
  cases ov with
  | box t cells =>
   obtain ⟨b,vs,h1,h2,h3,h4⟩ := hor
   exact ⟨b,vs,by rw [hval]; exact h1,(hown b).2 h2,h3,VRs.sub cells vs (D2 hb k t cells hl) h4⟩
  | vec t sz rows fr =>
   obtain ⟨v,xs,h1,h2,h3,h4,h5⟩ := hor
   exact ⟨v,xs,by rw [hval]; exact h1,h2,h3,fun g hg => (hown g).2 (h4 g hg),by rw [nF]; exact h5⟩
  | mp a rows fr =>
   obtain ⟨b,es,cl,h1,h2,h3,h4⟩ := hor
   exact ⟨b,es,cl,by rw [hval]; exact h1,(hown b).2 h2,h3,by rw [nF]; exact h4⟩
 ·intro k hl
  simp [Env.sub,hl]
 ·intro b k ho
  simp only [Env.sub] at ho
  cases hb : E.own b with
  | none => simp [hb] at ho
  | some j =>
   simp only [hb] at ho
   cases hj : (lk T0 j).isSome with
   | false => simp [hj] at ho
   | true =>
    simp [hj] at ho; subst ho
    have := h.own b j hb
    exact ⟨this.1,this.2.1,by intro e; rw [e] at hj; cases hj⟩
 ·intro b hx
  rcases hx with hx | ⟨k,hk,hkn⟩
  ·have := h.ext b hx
   exact ⟨this.1,by simp [Env.sub,this.2]⟩
  ·exact ⟨(h.own b k hk).1,by simp [Env.sub,hk,hkn]⟩
def Env.jG (E : Env) (k : Nat) : Env := ⟨fun j => if j = k then none else E.val j,E.own,E.ext⟩
def Env.jV (E : Env) : List Nat → Env
 | [] => E
 | k :: ks => (E.jG k).jV ks
def fM : List Nat → List (Nat × SV) → List (Nat × SV)
 | [],l => l
 | k :: ks,l => fM ks (dU k .u (fun _ => .u) l)
def gE : List Nat → Tab → Tab
 | [],T => T
 | k :: ks,T => gE ks (iK k .u (fun _ => .u) T)
def rmK {α : Type} : List Nat → List (Nat × α) → List (Nat × α)
 | [],T => T
 | k :: ks,T => rmK ks (rm T k)
theorem kI (E : Env) : ∀ ks : List Nat,(E.jV ks).own = E.own ∧ (E.jV ks).ext = E.ext
 | [] => ⟨rfl,rfl⟩
 | k :: ks => kI (E.jG k) ks
theorem vB : ∀ (ks : List Nat) (E : Env) (j : Nat) (x : Value),(E.jV ks).val j = some x → E.val j = some x ∧ j ∉ ks
 | [],E,j,x,h => ⟨h,by simp⟩
 | k :: ks,E,j,x,h => by
  have := vB ks (E.jG k) j x h
  simp only [Env.jG] at this
  split at this
  ·cases this.1
  ·rename_i hne; exact ⟨this.1,by simp [hne,this.2]⟩
theorem rh {w : World} {lo : Nat} {tmps : Array Value} : ∀ (ks : List Nat) (E : Env) (l : List (Nat × SV)),(∀ t sv,lk l t = some sv → VR w E lo sv (tmps.getD t undef)) →
  ∀ t sv,lk (fM ks l) t = some sv → VR w (E.jV ks) lo sv (tmps.getD t undef)
 | [],_,_,h => h
 | k :: ks,E,l,h => by
  refine rh ks (E.jG k) _ ?_
  intro t sv hl
  rw [oV] at hl
  cases hq : lk l t with
  | none => simp [hq] at hl
  | some s =>
   simp [hq] at hl; subst hl
   exact VR.fz (E := E) (E' := E.jG k) ⟨fun _ _ h => ⟨rfl,h⟩,rfl⟩ (fun j x hj hx => by simp [Env.jG,hj,hx]) (fun _ _ => by simp [VR]) (fun _ _ _ => by simp [VR]) s _ (h t s hq)
theorem vC {w : World} {lo : Nat} : ∀ (ks : List Nat) (E : Env) (T : Tab),(∀ k ov,lk T k = some ov → k ∉ ks ∧ OR w E lo k ov) →
  ∀ k ov,lk (gE ks T) k = some ov → OR w (E.jV ks) lo k ov
 | [],_,_,h => fun k ov hl => (h k ov hl).2
 | k :: ks,E,T,h => by
  refine vC ks (E.jG k) _ ?_
  intro j ov hl
  rw [eV] at hl
  cases hq : lk T j with
  | none => simp [hq] at hl
  | some o =>
   simp [hq] at hl; subst hl
   have := h j o hq
   refine ⟨fun e => this.1 (by simp [e]),?_⟩
   exact OR.fz (E := E) (E' := E.jG k) (fun e => this.1 (by simp [e])) ⟨fun _ _ h => ⟨rfl,h⟩,rfl⟩ (fun j x hj hx => by simp [Env.jG,hj,hx]) (fun _ _ => by simp [VR]) (fun _ _ _ => by simp [VR]) (fun _ => Iff.rfl) (fun _ _ => rfl) this.2
theorem eY : ∀ (ks : List Nat) (T : Tab) (k : Nat),(lk (gE ks T) k).isSome = (lk T k).isSome
 | [],_,_ => rfl
 | j :: ks,T,k => by rw [gE,eY ks,eV]; simp
theorem vD {α : Type} : ∀ (ks : List Nat) (T : List (Nat × α)) (k : Nat) (x : α),lk (rmK ks T) k = some x → lk T k = some x ∧ k ∉ ks
 | [],_,_,_,h => ⟨h,by simp⟩
 | j :: ks,T,k,x,h => by
  have := vD ks (rm T j) k x h
  by_cases he : k = j
  ·subst he; rw [gk] at this; cases this.1
  ·rw [bP _ _ _ he] at this; exact ⟨this.1,by simp [he,this.2]⟩
theorem pj {α : Type} : ∀ (ks : List Nat) (T : List (Nat × α)) (k : Nat),k ∉ ks → lk (rmK ks T) k = lk T k
 | [],_,_,_ => rfl
 | j :: ks,T,k,h => by
  simp only [List.mem_cons,not_or] at h
  rw [rmK,pj ks _ k h.2,bP _ _ _ h.1]
def keys {α : Type} : List (Nat × α) → List Nat
 | [] => []
 | (k,_) :: r => k :: keys r
theorem mem_keys {α : Type} : ∀ (T : List (Nat × α)) (k : Nat),k ∈ keys T ↔ (lk T k).isSome = true
 | [],k => by simp [keys,lk]
 | (j,x) :: r,k => by
  simp only [keys,lk,List.mem_cons]
  cases hb : Nat.beq j k with
  | true => have := Nat.eq_of_beq_eq_true hb; simp [this]
  | false => have := beq_false hb; rw [mem_keys r k]; simp [Ne.symm this]
def app {α : Type} : List (Nat × α) → List (Nat × α) → List (Nat × α)
 | [],b => b
 | x :: a,b => x :: app a b
theorem jW {α : Type} : ∀ (a b : List (Nat × α)) (k : Nat),lk (app a b) k = match lk a k with | some x => some x | none => lk b k
 | [],b,k => rfl
 | (j,x) :: a,b,k => by
  simp only [app,lk]
  cases Nat.beq j k with
  | true => rfl
  | false => exact jW a b k
def gone (T' : Tab) : List Nat → List Nat
 | [] => []
 | k :: ks => match (lk T' k).isSome with | true => gone T' ks | false => k :: gone T' ks
theorem pn (T' : Tab) : ∀ (ks : List Nat) (k : Nat),k ∈ gone T' ks ↔ k ∈ ks ∧ (lk T' k).isSome = false
 | [],k => by simp [gone]
 | j :: ks,k => by
  simp only [gone]
  cases hj : (lk T' j).isSome with
  | true =>
   rw [pn T' ks k]
   constructor
   ·rintro ⟨h1,h2⟩; exact ⟨by simp [h1],h2⟩
   ·rintro ⟨h1,h2⟩
    rcases List.mem_cons.1 h1 with rfl | h1
    ·rw [hj] at h2; cases h2
    ·exact ⟨h1,h2⟩
  | false =>
   rw [List.mem_cons,pn T' ks k]
   constructor
   ·rintro (rfl | ⟨h1,h2⟩)
    ·exact ⟨by simp,hj⟩
    ·exact ⟨by simp [h1],h2⟩
   ·rintro ⟨h1,h2⟩
    rcases List.mem_cons.1 h1 with rfl | h1
    ·exact .inl rfl
    ·exact .inr ⟨h1,h2⟩
def St.after (σ : St) (T0 T' : Tab) : St :=
 ⟨fM (gone T' (keys T0)) σ.ab,app T' (gE (gone T' (keys T0)) (rmK (keys T0) σ.tab))⟩
def fN (n : Nat) (T0 T : Tab) : Tab → Bool
 | [] => true
 | (k,_) :: r => match (lk T0 k).isSome,(lk T k).isSome,Nat.ble (k + 1) n with
  | true,_,_ => fN n T0 T r
  | false,false,true => fN n T0 T r
  | _,_,_ => false
theorem nG {n : Nat} {T0 T : Tab} : ∀ {r : Tab},fN n T0 T r = true → ∀ k,(lk r k).isSome = true → (lk T0 k).isSome = true ∨ ((lk T k).isSome = false ∧ k < n)
 | [],_,k,h => by simp [lk] at h
 | (j,x) :: r,hb,k,h => by
  simp only [fN] at hb
  simp only [lk] at h
  split at hb
  ·rename_i h0
   cases hj : Nat.beq j k with
   | true => have := Nat.eq_of_beq_eq_true hj; subst this; exact .inl h0
   | false => simp only [hj] at h; exact nG hb k h
  ·rename_i h0 h1 h2
   cases hj : Nat.beq j k with
   | true => have := Nat.eq_of_beq_eq_true hj; subst this; exact .inr ⟨h1,Nat.le_of_ble_eq_true h2⟩
   | false => simp only [hj] at h; exact nG hb k h
  ·cases hb
theorem Dm {C : Ctx} {E E' : Env} {σ : St} {a : Act} {w w' : World} {T0 T' : Tab} {r : SV} {v : Value} {dst : Option Nat} (h : au C E σ a w) (hs : ∀ k ov,lk T0 k = some ov → lk σ.tab k = some ov)
  (hfr : Fr w (E.sub T0) w' E') (ht : a8 w' E' C.lo T') (hr : VR w' E' C.lo r v) (hp : ∀ k x,(E.sub T0).val k = some x → E'.val k = some x ∨ E'.val k = none)
  (hnew : fN C.n T0 σ.tab T' = true) (hd : ∀ d,dst = some d → d < C.n) : Holds C ((σ.after T0 T').put dst r) (a.put dst v) w' := by
 let F : Env := ⟨fun j => if (lk T' j).isSome then E'.val j else if (lk T0 j).isSome then none else E.val j,
  fun b => match E'.own b with | some j => some j | none => match E.own b with | some j => if (lk T0 j).isSome then none else some j | none => none,E.ext⟩
 have hsubown : ∀ b j,E.own b = some j → (lk T0 j).isSome = false → (E.sub T0).own b = none ∧ (E.sub T0).ext b := by
  intro b j hb hj
  exact ⟨by simp [Env.sub,hb,hj],.inr ⟨j,hb,hj⟩⟩
 have hkeepE : ∀ b,b < w.heap.size → E.own b = none → w'.heap[b]? = w.heap[b]? ∧ F.own b = none := by
  intro b hb hn
  have := hfr.keep b hb (by simp [Env.sub,hn])
  refine ⟨this.1,?_⟩
  simp only [F,this.2,hn]
 have hFbad : F.bad = E'.bad := by
  funext b
  apply propext
  simp only [Env.bad,F]
  rw [hfr.ext]
  simp only [Env.sub]
  cases hb : E'.own b with
  | some j => simp
  | none =>
   simp only [ne_eq,not_true_eq_false,false_or]
   cases hb2 : E.own b with
   | none => simp
   | some j =>
    cases hj : (lk T0 j).isSome with
    | true =>
     simp only [hj,if_true,not_true_eq_false,false_or]
     constructor
     ·intro hx; exact .inl hx
     ·rintro (hx | ⟨k,hk,hkn⟩)
      ·exact hx
      ·simp at hk; subst hk; rw [hj] at hkn; cases hkn
    | false =>
     simp only [hj,Bool.false_eq_true,if_false,reduceCtorEq,not_false_eq_true,true_or,true_iff]
     exact .inr ⟨j,rfl,hj⟩
 have hK : cP w (E.jV (gone T' (keys T0))) w' F := by
  refine ⟨?_,?_⟩
  ·intro b hb hn
   rw [(kI E _).1] at hn
   exact hkeepE b hb hn
  ·rw [(kI E _).2]
 have hV : ∀ k x,(E.jV (gone T' (keys T0))).val k = some x → F.val k = some x := by
  intro k x hk
  obtain ⟨h1,h2⟩ := vB _ _ _ _ hk
  simp only [F]
  cases hT' : (lk T' k).isSome with
  | true =>
   simp only [if_true]
   have hk0 : (lk T0 k).isSome = true := by
    rcases nG hnew k hT' with h3 | ⟨h3,_⟩
    ·exact h3
    ·have := h.tab.dead k (by simpa using h3)
     rw [this] at h1; cases h1
   rcases hp k x (by simp [Env.sub,hk0,h1]) with h4 | h4
   ·exact h4
   ·-- the object is there: it has a place
    cases hq : lk T' k with
    | none => rw [hq] at hT'; cases hT'
    | some ov =>
     have hor := ht.obj k ov hq
     exfalso
     cases ov with
     | box t cells => obtain ⟨b,vs,e,_⟩ := hor; rw [h4] at e; cases e
     | vec t sz rows fr => obtain ⟨v,xs,e,_⟩ := hor; rw [h4] at e; cases e
     | mp a rows fr => obtain ⟨b,es,cl,e,_⟩ := hor; rw [h4] at e; cases e
  | false =>
   simp only [Bool.false_eq_true,if_false]
   cases hT0 : (lk T0 k).isSome with
   | true => exact absurd ((pn T' (keys T0) k).2 ⟨(mem_keys T0 k).2 hT0,hT'⟩) h2
   | false => simpa using h1
 have hval' : ∀ k x,E'.val k = some x → F.val k = some x := by
  intro k x hk
  have : (lk T' k).isSome = true := by
   cases hq : lk T' k with
   | none => rw [ht.dead k hq] at hk; cases hk
   | some _ => rfl
  simp only [F,this,if_true]; exact hk
 have hR' : z8 w' E' w' F := fun b o hb hbad => ⟨hb,by rw [hFbad]; exact hbad⟩
 have hpres : ∀ k x,C.E0.val k = some x → F.val k = some x ∨ F.val k = none := by
  intro k x hk
  have hid := h.ids k (by rw [hk]; simp)
  simp only [F]
  cases hT' : (lk T' k).isSome with
  | true =>
   simp only [if_true]
   rcases nG hnew k hT' with h3 | ⟨_,h3⟩
   ·rcases h.gZ k x hk with h4 | h4
    ·exact hp k x (by simp [Env.sub,h3,h4])
    ·exfalso
     cases hq : lk T0 k with
     | none => rw [hq] at h3; cases h3
     | some ov =>
      have hor := h.tab.obj k ov (hs k ov hq)
      cases ov with
      | box t cells => obtain ⟨b,vs,e,_⟩ := hor; rw [h4] at e; cases e
      | vec t sz rows fr => obtain ⟨v,xs,e,_⟩ := hor; rw [h4] at e; cases e
      | mp a rows fr => obtain ⟨b,es,cl,e,_⟩ := hor; rw [h4] at e; cases e
   ·omega
  | false =>
   cases hT0 : (lk T0 k).isSome with
   | true => exact .inr (by simp)
   | false => simpa using h.gZ k x hk
 refine ⟨F,?_⟩
 have hslots : ∀ t s,lk (fM (gone T' (keys T0)) σ.ab) t = some s → VR w' F C.lo s (a.tmps.getD t undef) := fun t s hl =>
  VR.mono hK hV s _ (rh _ E _ h.ab t s hl)
 have htab : a8 w' F C.lo (σ.after T0 T').tab := by
  refine ⟨?_,?_,?_,?_⟩
  ·intro k ov hl
   simp only [St.after] at hl
   rw [jW] at hl
   split at hl
   ·rename_i x hx
    simp only [Option.some.injEq] at hl; subst hl
    have hor := ht.obj k x hx
    have hsm : (lk T' k).isSome = true := by rw [hx]; rfl
    refine OR.eU hR' hval' (fun b => ?_) (fun _ _ => rfl) hor
    simp only [F]
    cases hb : E'.own b with
    | some j => simp
    | none =>
     simp only [reduceCtorEq,iff_false]
     cases hb2 : E.own b with
     | none => simp
     | some j =>
      simp only
      cases hj : (lk T0 j).isSome with
      | true => simp
      | false =>
       simp only [Bool.false_eq_true,if_false,Option.some.injEq]
       intro e; subst e
       rcases nG hnew j hsm with h3 | ⟨h3,_⟩
       ·rw [hj] at h3; cases h3
       ·exact (h.tab.own b j hb2).2.2 (by simpa using h3)
   ·rename_i hx
    have hin : k ∉ keys T0 ∧ ∃ o,lk σ.tab k = some o := by
     have h1 : (lk (rmK (keys T0) σ.tab) k).isSome = true := by rw [← eY,hl]; rfl
     cases hq : lk (rmK (keys T0) σ.tab) k with
     | none => rw [hq] at h1; cases h1
     | some o => have := vD _ _ _ _ hq; exact ⟨this.2,o,this.1⟩
    have hkT0 : (lk T0 k).isSome = false := by
     cases hq : (lk T0 k).isSome with
     | false => rfl
     | true => exact absurd ((mem_keys T0 k).2 hq) hin.1
    have hor := vC (gone T' (keys T0)) E (rmK (keys T0) σ.tab) (fun j o hj => by
     have := vD _ _ _ _ hj
     exact ⟨fun hg => this.2 ((pn _ _ _).1 hg).1,h.tab.obj j o this.1⟩) k ov hl
    have hde := (kI E (gone T' (keys T0))).1
    refine OR.mono hK hV (fun b => ?_) (fun b hb => ?_) hor
    ·rw [hde]
     simp only [F]
     cases hb : E'.own b with
     | some j =>
      simp only [Option.some.injEq]
      have hj := (ht.own b j hb).2.2
      constructor
      ·intro e; subst e; exact absurd hx hj
      ·intro e
       exfalso
       have h1 := hsubown b k e hkT0
       have h2 := (hfr.keep b (h.tab.own b k e).1 h1.1).2
       rw [hb] at h2; cases h2
     | none =>
      simp only
      cases hb2 : E.own b with
      | none => simp
      | some j =>
       simp only
       cases hj : (lk T0 j).isSome with
       | true =>
        simp only [if_true,reduceCtorEq,Option.some.injEq,false_iff]
        intro e; subst e; rw [hkT0] at hj; cases hj
       | false => simp
    ·rw [hde] at hb
     exact (hfr.keep b (h.tab.own b k hb).1 (hsubown b k hb hkT0).1).1
  ·intro k hl
   simp only [St.after] at hl
   rw [jW] at hl
   split at hl
   ·cases hl
   ·rename_i hx
    have hn : (lk (rmK (keys T0) σ.tab) k).isSome = false := by rw [← eY,hl]; rfl
    simp only [F,hx,Option.isSome_none,Bool.false_eq_true,if_false]
    cases hT0 : (lk T0 k).isSome with
    | true => simp
    | false =>
     simp only [Bool.false_eq_true,if_false]
     have : k ∉ keys T0 := fun hm => by rw [(mem_keys T0 k).1 hm] at hT0; cases hT0
     rw [pj _ _ _ this] at hn
     exact h.tab.dead k (by simpa using hn)
  ·intro b k ho
   simp only [F] at ho
   cases hb : E'.own b with
   | some j =>
    simp only [hb,Option.some.injEq] at ho; subst ho
    have := ht.own b j hb
    refine ⟨this.1,this.2.1,?_⟩
    simp only [St.after]; rw [jW]
    cases hq : lk T' j with
    | none => exact absurd hq this.2.2
    | some x => simp
   | none =>
    simp only [hb] at ho
    cases hb2 : E.own b with
    | none => simp [hb2] at ho
    | some j =>
     simp only [hb2] at ho
     cases hj : (lk T0 j).isSome with
     | true => simp [hj] at ho
     | false =>
      simp [hj] at ho; subst ho
      have h1 := h.tab.own b j hb2
      refine ⟨Nat.lt_of_lt_of_le h1.1 hfr.size,h1.2.1,?_⟩
      simp only [St.after]; rw [jW]
      cases hq : lk T' j with
      | some x => simp
      | none =>
       have hnk : j ∉ keys T0 := fun hm => by rw [(mem_keys T0 j).1 hm] at hj; cases hj
       have : (lk (gE (gone T' (keys T0)) (rmK (keys T0) σ.tab)) j).isSome = true := by
        rw [eY,pj _ _ _ hnk]
        cases hq2 : lk σ.tab j with
        | none => exact absurd hq2 h1.2.2
        | some _ => rfl
       intro e; simp only at e; rw [e] at this; cases this
  ·intro b hx
   have h1 := h.tab.ext b hx
   exact ⟨Nat.lt_of_lt_of_le h1.1 hfr.size,(hkeepE b h1.1 h1.2).2⟩
 have hfrF : Fr w E w' F := ⟨hfr.os,hfr.tape,hfr.output,hfr.size,hkeepE,rfl⟩
 have hrF := VR.eU hR' hval' r v hr
 cases dst with
 | none => exact ⟨h.size,h.defers,hslots,htab,h.fr.trans hfrF,h.lo,h.ids,hpres⟩
 | some d =>
  refine ⟨by simp [Act.put,h.size],h.defers,?_,htab,h.fr.trans hfrF,h.lo,h.ids,hpres⟩
  intro t s hl
  simp only [St.put] at hl
  by_cases he : t = d
  ·subst he
   rw [ar] at hl; cases hl
   have : t < a.tmps.size := by rw [h.size]; exact hd t rfl
   simp only [Act.put,Array.getD_eq_getD_getElem?,Array.getElem?_setIfInBounds,if_true,this]
   exact hrF
  ·rw [aq _ _ _ _ he] at hl
   simpa [Act.put,Array.getElem?_setIfInBounds,Ne.symm he] using hslots t s hl
def aE (P : Program) (g : FuncId) : Bool :=
 match P.funcs[g]? with
 | some fn => match fn.body with
  | some _ => !(fn.name == "runtime.NumGoroutine")
  | none => false
 | none => false
theorem fO {P : Program} {w : World} {g : FuncId} {args : Array Value} (h : aE P g = true) : (callFunc g args).run P w = .ok (.enter g args) w := by
 unfold aE at h
 split at h
 ·rename_i fn hf
  split at h
  ·rename_i c hb
   have hn : ¬ fn.name = "runtime.NumGoroutine" := by simpa using h
   simp [callFunc,hf,hn,hb]
  ·cases h
 ·cases h
def apps {α : Type} : List α → List α → List α
 | [],b => b
 | x :: a,b => x :: apps a b
theorem xK {α : Type} : ∀ (a b : List α),apps a b = a ++ b
 | [],b => rfl
 | x :: a,b => by simp [apps,xK a b]
def methodOf (P : Program) (t : TypeId) (name : String) : Option FuncId :=
 match P.info? t with
 | some i => match i.methods.find? (·.name == name) with
  | some m => match m.path.toList,m.func,P.underlying t with
   | [],some (f,false),some (.struct _) => some f
   | _,_,_ => none
  | none => none
 | none => none
def lJ (P : Program) (σ : St) (o : Oper) : Option (FuncId × List SV) :=
 match o.op with
 | .call c => match c.callee with
  | .value f => match ev σ f with
   | .fn (.func g) first caps => some (g,apps first (apps (evs σ c.args.toList) caps))
   | _ => none
  | .invoke r m => match ev σ r with
   | .ifc t x => match methodOf P t m with
    | some g => some (g,x :: evs σ c.args.toList)
    | none => none
   | _ => none
  | _ => none
 | _ => none
theorem Fm {P : Program} {t : TypeId} {name : String} {g : FuncId} (h : methodOf P t name = some g) (v : Value) (n : Nat) (w : World) : (method (n + 1) t v name).run P w = .ok (g,v) w := by
 unfold methodOf at h
 split at h
 ·rename_i i hi
  split at h
  ·rename_i m hm
   split at h
   ·rename_i f fs hp hf hu
    simp only [Option.some.injEq] at h; subst h
    simp [method,typeInfo,hi,hm,hp,hf,follow,receiverAt,run_underlying hu,Place.get]
   ·cases h
  ·cases h
 ·cases h
theorem Fo {C : Ctx} {E : Env} {σ : St} {a : Act} {w : World} {o : Oper} {g : FuncId} {svs : List SV} (h : au C E σ a w) (hc : lJ C.P σ o = some (g,svs)) (hok : aE C.P g = true) :
  ∃ vals,VRs w E C.lo svs vals ∧ (execOp a.eval o).run C.P w = .ok (.enter g vals.toArray) w := by
 unfold lJ at hc
 split at hc
 ·rename_i c hop
  have hargs := sI h c.args.toList
  split at hc
  ·rename_i f hcv
   split at hc
   ·rename_i g' first caps hf
    simp only [Option.some.injEq,Prod.mk.injEq] at hc; obtain ⟨rfl,rfl⟩ := hc
    have hev := a7 h f
    rw [hf] at hev; simp only [VR] at hev
    obtain ⟨vs,ws,hfv,hvs,hws⟩ := hev
    have hall := gm hvs (gm hargs hws)
    rw [xK,xK]
    refine ⟨_,hall,?_⟩
    unfold execOp
    simp only [hop,resolve,hcv,hfv,Deferred.ofValue,pure_bind,invoke]
    have e : (vs.toArray ++ Array.map a.eval c.args) ++ ws.toArray = (vs ++ (c.args.toList.map a.eval ++ ws)).toArray := by
     apply Array.ext'; simp
    rw [e]
    exact fO hok
   ·cases hc
  ·rename_i r m hcv
   split at hc
   ·rename_i t x hf
    split at hc
    ·rename_i g' hm
     simp only [Option.some.injEq,Prod.mk.injEq] at hc; obtain ⟨rfl,rfl⟩ := hc
     have hev := a7 h r
     rw [hf] at hev; simp only [VR] at hev
     obtain ⟨y,hfv,hy⟩ := hev
     refine ⟨y :: c.args.toList.map a.eval,⟨hy,hargs⟩,?_⟩
     unfold execOp
     simp only [hop,resolve,hcv,hfv,pure_bind,invoke]
     have e : (#[Value.iface t y] ++ Array.map a.eval c.args).extract 1 (#[Value.iface t y] ++ Array.map a.eval c.args).size = Array.map a.eval c.args := by
      apply Array.ext'; simp [List.take_of_length_le]
     have e2 : (#[y] ++ Array.map a.eval c.args) = (y :: c.args.toList.map a.eval).toArray := by
      apply Array.ext'; simp
     have e4 : (#[Value.iface t y] ++ Array.map a.eval c.args) = (Value.iface t y :: c.args.toList.map a.eval).toArray := by
      apply Array.ext'; simp
     have e3 : (#[Value.iface t y] ++ Array.map a.eval c.args)[0]? = some (.iface t y) := by rw [e4]; rfl
     simp only [e3,e,callMethod]
     have hmr := Fm hm y (C.P.types.size + Made.depth - 1) w
     have hd : C.P.types.size + Made.depth - 1 + 1 = C.P.types.size + Made.depth := by unfold Made.depth; omega
     rw [hd] at hmr
     simp only [Sem.run_bind,run_program,Result.andThen_ok,hmr]
     rw [e2]
     exact fO hok
    ·cases hc
   ·cases hc
  ·cases hc
 ·cases hc
theorem FnS.mono {P : Program} {f : FuncId} {args : List SV} {T : Tab} {R R' : SV → Tab → Prop} (h : FnS P f args T R) (hr : ∀ r T',R r T' → R' r T') : FnS P f args T R' := by
 intro lo w E vals hlo ht hv
 refine (h lo w E vals hlo ht hv).mono ?_
 rintro e w' ⟨r,v,T',E',rfl,hR,rest⟩
 exact ⟨r,v,T',E',rfl,hr r T' hR,rest⟩
end Go.TL
namespace Go.TL.H
open Go
def RA (o : Oper) : TypeId := match o.op with
 | .call ⟨.builtin _,_,_⟩ => o.type
 | .go _ => o.type
 | .defer _ => o.type
 | _ => 0
def stOp (o : Op) : Op := match o with
 | .call ⟨.value f,args,_⟩ => .call ⟨.value f,args, #[]⟩
 | o => o
def st (k : Bool) (o : Oper) : Oper := ⟨o.dst,stOp o.op,RA o, "",match k with | true => o.after | false => #[],o.guard⟩
def norm : Code → Code
 | .region _ ops d => .region 0 (ops.toList.map (st d)).toArray d
 | .seq a b => .seq (norm a) (norm b)
 | .cond c a b => .cond c (norm a) (norm b)
 | .block id c => .block id (norm c)
 | .loop c => .loop (norm c)
 | .scope c => .scope (norm c)
 | .skip => .skip
 | .exit id => .exit id
 | .ret => .ret
 | .label l => .label l
 | .goto l => .goto l
 | .refuse w => .refuse w
 | .rangeFunc f p a b => .rangeFunc f p a b
theorem xL (k : Bool) (ρ : Operand → Value) (o : Oper) : execOp ρ (st k o) = execOp ρ o := by
 obtain ⟨dst,op,ty,pos,af,g⟩ := o
 cases op
 case call c =>
  obtain ⟨cal,args,ts⟩ := c
  cases cal <;> rfl
 all_goals rfl
theorem MP {P : Program} (k : Bool) (o : Oper) (a : Act) (K : Act → World → Prop) (Q : Exit → Act → World → Prop) : (st k o).upon P a K Q = o.upon P a K Q := rfl
theorem Mf {P : Program} (k : Bool) (o : Oper) (a : Act) (w : World) (K : Act → World → Prop) (Q : Exit → Act → World → Prop) : (st k o).wp P a w K Q = o.wp P a w K Q := by
 unfold Oper.wp; rw [xL,MP]
theorem D3 {P : Program} (k : Bool) (o : Oper) (a : Act) (w : World) : (st k o).asks P a w = o.asks P a w := by
 unfold Oper.asks; rw [xL]
theorem vE {k : Bool} {ops : Array Oper} (j : Nat) : ((ops.toList.map (st k)).toArray)[j]? = (ops[j]?).map (st k) := by simp
theorem kJ (k : Bool) (ops : Array Oper) (tmps : Array Value) : yielded (ops.toList.map (st k)).toArray tmps = yielded ops tmps := by
 funext j
 unfold yielded
 rw [vE]
 cases ops[j]? with
 | none => rfl
 | some o => rfl
theorem mH (k : Bool) (o : Oper) (y : Nat → Option Bool) : Region.wanted (st k o) y = Region.wanted o y := rfl
theorem ri {P : Program} {k : Bool} {ops : Array Oper} {Q : Exit → Act → World → Prop} : ∀ (l : List Oper) (a : Act) (w : World),
  wpList P (ops.toList.map (st k)).toArray Q (l.map (st k)) a w → wpList P ops Q l a w
 | [],a,w,h => h
 | o :: l,a,w,h => by
  simp only [List.map_cons,wpList,mH,kJ,Mf,D3] at h ⊢
  split
  ·rename_i hw
   rw [if_pos hw] at h
   rcases h with h | h
   ·exact .inl (Oper.wp_mono (fun a w h => ri l a w h) h)
   ·exact .inr h
  ·rename_i hw
   rw [if_neg hw] at h
   exact ri l _ _ h
theorem pq (ops : Array Oper) (md : Region.Mode) (listed : Array Bool) : Region.ready md (ops.toList.map (st true)).toArray listed = Region.ready md ops listed := by
 unfold Region.ready
 have e : (ops.toList.map (st true)).toArray.size = ops.size := by simp
 rw [e]
 congr 1
 funext i
 rw [vE]
 cases ops[i]? with
 | none => rfl
 | some o => rfl
theorem lK {P : Program} {ops : Array Oper} {md : Region.Mode} {Q : Exit → Act → World → Prop} : ∀ (fuel : Nat) (listed : Array Bool) (a : Act) (w : World),
  wpAny P md (ops.toList.map (st true)).toArray Q fuel listed a w → wpAny P md ops Q fuel listed a w
 | 0,listed,a,w,h => by
  unfold wpAny at h ⊢; rw [pq] at h; exact h
 | fuel + 1,listed,a,w,h => by
  unfold wpAny at h ⊢
  rw [pq] at h
  refine ⟨h.1,fun i hi => ?_⟩
  have := h.2 i hi
  unfold wpOp at this ⊢
  rw [vE] at this
  cases ho : ops[i]? with
  | none => simp only [ho,Option.map_none] at this ⊢; exact lK fuel _ _ _ this
  | some o =>
   simp only [ho,Option.map_some,mH,kJ,Mf,D3] at this ⊢
   split
   ·rename_i hw
    rw [if_pos hw] at this
    rcases this with h | h
    ·exact .inl (Oper.wp_mono (fun a w h => lK fuel _ a w h) h)
    ·exact .inr h
   ·rename_i hw
    rw [if_neg hw] at this
    exact lK fuel _ _ _ this
def NW (P : Program) (c' : Code) (Q : Exit → Act → World → Prop) (a : Act) (w : World) : Prop := ∀ c,norm c = c' → c.wp P Q a w
section
variable {P : Program} {Q : Exit → Act → World → Prop} {a : Act} {w : World}
theorem NW.mono {c : Code} {Q' : Exit → Act → World → Prop} (h : NW P c Q a w) (hq : ∀ e a w,Q e a w → Q' e a w) : NW P c Q' a w := fun c0 hc => wp_mono (h c0 hc) hq
theorem bA (h : Q .normal a w) : NW P .skip Q a w := by
 intro c hc; cases c <;> simp only [norm,reduceCtorEq] at hc; exact wp_skip h
theorem cW (h : Q .ret a w) : NW P .ret Q a w := by
 intro c hc; cases c <;> simp only [norm,reduceCtorEq] at hc; exact wp_ret h
theorem dX {id : Nat} (h : Q (.exit id) a w) : NW P (.exit id) Q a w := by
 intro c hc; cases c <;> simp only [norm,reduceCtorEq,Code.exit.injEq] at hc; subst hc; exact wp_exit h
theorem ae {x y : Code} (h : NW P x (fun e a w => match e with | .normal => NW P y Q a w | e => Q e a w) a w) : NW P (.seq x y) Q a w := by
 intro c hc
 cases c <;> simp only [norm,reduceCtorEq,Code.seq.injEq] at hc
 obtain ⟨h1,h2⟩ := hc
 refine wp_seq (wp_mono (h _ h1) ?_)
 intro e a w hq
 cases e <;> first | exact hq | exact hq _ h2
theorem br {c : Operand} {x y : Code} {t : Bool} (hc : a.eval c = .bool t) (h1 : t = true → NW P x Q a w) (h2 : t = false → NW P y Q a w) : NW P (.cond c x y) Q a w := by
 intro c0 h0
 cases c0 <;> simp only [norm,reduceCtorEq,Code.cond.injEq] at h0
 obtain ⟨rfl,e1,e2⟩ := h0
 exact wp_cond_split hc (fun e => h1 e _ e1) (fun e => h2 e _ e2)
theorem bD {id : Nat} {x : Code} (h : NW P x (fun e a w => match e with | .exit id' => (match Nat.beq id' id with | true => Q .normal a w | false => Q (.exit id') a w) | e => Q e a w) a w) : NW P (.block id x) Q a w := by
 intro c hc
 cases c <;> simp only [norm,reduceCtorEq,Code.block.injEq] at hc
 obtain ⟨rfl,h1⟩ := hc
 refine wp_block (wp_mono (h _ h1) ?_)
 intro e a w hq
 cases e with
 | exit id' =>
  simp only [Exit.inBlock]
  simp only at hq
  cases hb : Nat.beq id' _ with
  | true => rw [if_pos (Nat.eq_of_beq_eq_true hb)]; simp only [hb] at hq; exact hq
  | false => rw [if_neg (beq_false hb)]; simp only [hb] at hq; exact hq
 | _ => exact hq
theorem dY {x : Code} (I : Nat → Act → World → Prop) (m : Nat) (h0 : I m a w)
  (h : ∀ m a w,I m a w → NW P x (fun e a' w' => match e with | .normal => ∃ m',m' < m ∧ I m' a' w' | e => Q e a' w') a w) : NW P (.loop x) Q a w := by
 intro c hc
 cases c <;> simp only [norm,reduceCtorEq,Code.loop.injEq] at hc
 rename_i c
 intro b k cs
 have key : ∀ m a w,I m a w → ∃ e a' w',Q e a' w' ∧ Arrives P (lone (b.at a (.code c :: .inLoop c :: k)) cs w) b k cs e a' w' := by
  intro m
  induction m using Nat.strongRecOn with
  | _ m ih =>
   intro a w hI
   obtain ⟨e,a₁,w₁,hq,harr⟩ := h m a w hI _ hc b (.inLoop c :: k) cs
   cases e with
   | normal =>
    obtain ⟨m',hlt,hI'⟩ := hq
    obtain ⟨e₂,a₂,w₂,hq₂,harr₂⟩ := ih m' hlt a₁ w₁ hI'
    exact ⟨e₂,a₂,w₂,hq₂,.of_steps (Steps.trans harr (.one step_inLoop)) harr₂⟩
   | exit id => exact ⟨_,a₁,w₁,hq,.pass (x := .inLoop c) rfl (fun _ _ => .inl (by simp)) harr⟩
   | goto l => exact ⟨_,a₁,w₁,hq,.pass (x := .inLoop c) rfl (fun _ _ => .inl (by simp)) harr⟩
   | ret => exact ⟨_,a₁,w₁,hq,.pass (x := .inLoop c) rfl (fun _ _ => .inl (by simp)) harr⟩
   | panic ch => exact ⟨_,a₁,w₁,hq,.pass (x := .inLoop c) rfl (fun _ _ => .inl (by simp)) harr⟩
   | outgrown => exact ⟨_,a₁,w₁,hq,.pass (x := .inLoop c) rfl (fun _ _ => .inl (by simp)) harr⟩
 obtain ⟨e,a',w',hq,harr⟩ := key m a w h0
 exact ⟨e,a',w',hq,.of_steps (.one step_loop) harr⟩
theorem aa {l : List Oper} (h : wpList P l.toArray Q l a w) : NW P (.region 0 l.toArray false) Q a w := by
 intro c hc
 cases c <;> simp only [norm,reduceCtorEq,Code.region.injEq] at hc
 rename_i id ops d
 obtain ⟨_,h1,rfl⟩ := hc
 have h1' : ops.toList.map (st false) = l := by
  have := congrArg Array.toList h1
  simpa using this
 subst h1'
 exact wp_region_list (ri _ _ _ h)
theorem uu {l : List Oper} (k : Nat) (hk : l.length = k) (hm : P.follows .mixedOrders = true) (h : wpAny P .any l.toArray Q k (Array.replicate k false) a { w with drawn := w.drawn + 1 }) : NW P (.region 0 l.toArray true) Q a w := by
 subst hk
 intro c hc
 cases c <;> simp only [norm,reduceCtorEq,Code.region.injEq] at hc
 rename_i id ops d
 obtain ⟨_,h1,rfl⟩ := hc
 have h1' : ops.toList.map (st true) = l := by
  have := congrArg Array.toList h1
  simpa using this
 subst h1'
 refine wp_region_any hm (lK _ _ _ _ ?_)
 simpa using h
theorem D4 {l : List Oper} (hm : P.follows .mixedOrders = true) (h : wpAny P .any l.toArray Q l.length (Array.replicate l.length false) a { w with drawn := w.drawn + 1 }) : NW P (.region 0 l.toArray true) Q a w := by
 intro c hc
 cases c <;> simp only [norm,reduceCtorEq,Code.region.injEq] at hc
 rename_i id ops d
 obtain ⟨_,h1,rfl⟩ := hc
 have h1' : ops.toList.map (st true) = l := by
  have := congrArg Array.toList h1
  simpa using this
 subst h1'
 refine wp_region_any hm (lK _ _ _ _ ?_)
 simpa using h
theorem xM {l : List Oper} (n : Nat) (hm : P.follows .mixedOrders = true) (hB : Region.lexTailB .any l.toArray n = true)
  (h : wpStill P l.toArray { w with drawn := w.drawn + 1 } (fun a' => wpList P l.toArray Q (l.drop n) a' { w with drawn := w.drawn + 1 }) (l.take n) a) : NW P (.region 0 l.toArray true) Q a w := by
 refine D4 hm ?_
 simp only [Region.lexTailB,Bool.and_eq_true,decide_eq_true_eq] at hB
 obtain ⟨⟨⟨⟨hsel,hn⟩,hs⟩,hc⟩,hlex⟩ := hB
 have hn' : n < l.length := by simpa using hn
 have htl : (l.take n).length = n := by simp; omega
 have hdl : (l.drop n).length = l.toArray.size - n := by simp
 have inv0 : HeadInv .any l.toArray n (Array.replicate l.toArray.size false) :=
  ⟨by simp,fun j oj _ hl => (by rw [getD_replicate_false] at hl; cases hl),fun t _ ht => getD_in (by simpa using ht) (getD_replicate_false _ _)⟩
 have H := wpAnyL_lex (md := .any) (g := l.toArray.size - n) hsel hs hc hn (l.take n) 0 _ a (fun j hj => by
  have hj' : j < n := by rw [htl] at hj; exact hj
  simp [hj']) (by simpa using htl) inv0 (by rw [htl]; exact hlex) h
 have := wpAny_of_head (Q' := Q) (g := l.toArray.size - n) (fun listed a' hL => by
  have := wpAny_of_seq (md := .any) (Q' := Q) (l.drop n) n listed a' { w with drawn := w.drawn + 1 } (fun j => by simp [List.getElem?_drop]) (by rw [hdl]; exact hL.1) hL.2
  rwa [hdl] at this) _ _ _ H
 rw [htl,show n + (l.toArray.size - n) = l.toArray.size by omega] at this
 simpa using this
theorem AW {l : List Oper} (hm : P.follows .mixedOrders = true) (hB : Region.lexB .any l.toArray = true)
  (h : wpStill P l.toArray { w with drawn := w.drawn + 1 } (fun a' => Q .normal a' { w with drawn := w.drawn + 1 }) l a) : NW P (.region 0 l.toArray true) Q a w := by
 refine D4 hm ?_
 simp only [Region.lexB,Bool.and_eq_true] at hB
 have h2 := wpAnyS_lex (md := .any) (ops := l.toArray) hB.1 l 0 (Array.replicate l.toArray.size false) a (by simp) (by simpa using hB.2) h
 have := wpAny_of_still (Q' := Q) (fun a h => h) _ _ _ h2
 simpa using this
end
structure Body (P : Program) (f : FuncId) (n : Nat) (res : List ResultVar) (c' : Code) : Prop where
 ok : aE P f = true
 is : ∃ fn c,P.funcs[f]? = some fn ∧ fn.body = some c ∧ norm c = c' ∧ fn.ntmps = n ∧ fn.results.toList = res
def RV (P : Program) (res : List ResultVar) (tmps : Array Value) (w : World) (v : Value) : Prop :=
 ∃ vs,(res.mapM (fg tmps)).run P w = .ok vs w ∧ v = (match vs with | [x] => x | xs => .tuple xs.toArray)
def fin (P : Program) (res : List ResultVar) (R : Value → World → Prop) : Exit → Act → World → Prop
 | .normal,a,w => a.defers = [] ∧ ∃ v,RV P res a.tmps w v ∧ R v w
 | .ret,a,w => a.defers = [] ∧ ∃ v,RV P res a.tmps w v ∧ R v w
 | _,_,_ => False
def Ret (P : Program) (f : FuncId) (args : List Value) (w : World) (R : Value → World → Prop) : Prop :=
 Calls P f args.toArray w fun e w' => ∃ v,e = .returned v ∧ R v w'
theorem Ret.mono {P : Program} {f : FuncId} {args : List Value} {w : World} {R R' : Value → World → Prop} (h : Ret P f args w R) (hr : ∀ v w',R v w' → R' v w') : Ret P f args w R' :=
 Calls.mono h fun _ _ ⟨v,he,hR⟩ => ⟨v,he,hr _ _ hR⟩
theorem pw {P : Program} {fn : Func} {tmps : Array Value} {w : World} {v : Value} (h : RV P fn.results.toList tmps w v) : (results fn tmps).run P w = .ok v w := by
 obtain ⟨vs,h1,rfl⟩ := h
 have hres : results fn tmps = (fn.results.mapM (fg tmps) >>= fun vs => pure (if h : vs.size = 1 then vs[0] else .tuple vs)) := by
  unfold results
  congr 1
 rw [hres,Array.mapM_eq_mapM_toList]
 match vs,h1 with
 | [],h1 => simp [h1]
 | [x],h1 => simp [h1]
 | x :: y :: r,h1 => simp [h1]
theorem bW {P : Program} {f : FuncId} {n : Nat} {res : List ResultVar} {c' : Code} {args : List Value} {w : World} {R : Value → World → Prop} (hB : Body P f n res c')
  (h : NW P c' (fin P res R) { tmps := args.toArray ++ Array.replicate (n - args.length) undef,defers := [] } w) : Ret P f args w R := by
 obtain ⟨fn,c,hf,hb,hc,rfl,rfl⟩ := hB.is
 refine calls_of_wp hf hb ?_
 have := h c hc
 refine wp_mono (by simpa using this) ?_
 intro e a w hq
 cases e with
 | normal => obtain ⟨hd,v,hr,hR⟩ := hq; exact ⟨hd,v,pw hr,v,rfl,hR⟩
 | ret => obtain ⟨hd,v,hr,hR⟩ := hq; exact ⟨hd,v,pw hr,v,rfl,hR⟩
 | _ => exact hq.elim
end Go.TL.H
namespace Go.TL
def others (LT : List Nat) : Tab → List Nat
 | [] => []
 | (k,_) :: r => match LT.any (Nat.beq k) with | true => others LT r | false => k :: others LT r
def pick {α : Type} (l : List (Nat × α)) : List Nat → List (Nat × α)
 | [] => []
 | k :: ks => match lk l k with | some x => (k,x) :: pick l ks | none => pick l ks
theorem eJ {α : Type} (l : List (Nat × α)) : ∀ (ks : List Nat) (t : Nat) (x : α),lk (pick l ks) t = some x → lk l t = some x
 | [],t,x,h => by simp [pick,lk] at h
 | k :: ks,t,x,h => by
  simp only [pick] at h
  cases hk : lk l k with
  | none => simp only [hk] at h; exact eJ l ks t x h
  | some y =>
   simp only [hk,lk] at h
   cases hb : Nat.beq k t with
   | true => have := Nat.eq_of_beq_eq_true hb; subst this; simp only [hb,Option.some.injEq] at h; subst h; exact hk
   | false => simp only [hb] at h; exact eJ l ks t x h
theorem jH {α : Type} (l : List (Nat × α)) : ∀ (ks : List Nat) (t : Nat),t ∈ ks → lk (pick l ks) t = lk l t
 | [],t,h => by simp at h
 | k :: ks,t,h => by
  simp only [pick]
  by_cases he : k = t
  ·subst he
   cases hk : lk l k with
   | none =>
    simp only
    cases hq : lk (pick l ks) k with
    | none => rfl
    | some y => rw [eJ l ks k y hq] at hk; cases hk
   | some y => simp [lk,Nat.beq_refl]
  ·have ht : t ∈ ks := by rcases List.mem_cons.1 h with rfl | h; exact absurd rfl he; exact h
   cases hk : lk l k with
   | none => exact jH l ks t ht
   | some y => simp only; rw [aq _ _ _ _ (Ne.symm he)]; exact jH l ks t ht
def St.keep (L LT : List Nat) (σ : St) : St :=
 let σ1 := σ.cQ (others LT σ.tab)
 ⟨pick σ1.ab L,pick σ1.tab LT⟩
theorem rj : ∀ (ks : List Nat) (σ : St) (k : Nat),lk (σ.cQ ks).tab k ≠ none → lk σ.tab k ≠ none ∧ k ∉ ks
 | [],_,_,h => ⟨h,by simp⟩
 | j :: ks,σ,k,h => by
  have := rj ks (σ.kill j) k h
  simp only [St.kill,St.fz,eV] at this
  by_cases he : k = j
  ·subst he; rw [gk] at this; simp at this
  ·rw [bP _ _ _ he] at this
   exact ⟨by simpa using this.1,by simp [he,this.2]⟩
theorem px (LT : List Nat) : ∀ (T : Tab) (k : Nat),lk T k ≠ none → k ∉ LT → k ∈ others LT T
 | [],k,h,_ => by simp [lk] at h
 | (j,x) :: r,k,h,hn => by
  simp only [others]
  simp only [lk] at h
  cases hb : Nat.beq j k with
  | true =>
   have := Nat.eq_of_beq_eq_true hb; subst this
   have : LT.any (Nat.beq j) = false := by
    cases hq : LT.any (Nat.beq j) with
    | false => rfl
    | true =>
     obtain ⟨y,hy,he⟩ := List.any_eq_true.1 hq
     have := Nat.eq_of_beq_eq_true he; subst this
     exact absurd hy hn
   simp [this]
  | false =>
   simp only [hb] at h
   have := px LT r k h hn
   split <;> simp [this]
theorem Fp {C : Ctx} {σ : St} {a : Act} {w : World} (L LT : List Nat) (h : Holds C σ a w) : Holds C (σ.keep L LT) a w := by
 obtain ⟨E,h1⟩ := tP (others LT σ.tab) σ h
 refine ⟨E,h1.size,h1.defers,fun t sv hl => h1.ab t sv (eJ _ _ _ _ hl),⟨fun k ov hl => h1.tab.obj k ov (eJ _ _ _ _ hl),?_,?_,h1.tab.ext⟩,h1.fr,h1.lo,h1.ids,h1.gZ⟩
 ·intro k hl
  cases hq : lk (σ.cQ (others LT σ.tab)).tab k with
  | none => exact h1.tab.dead k hq
  | some ov =>
   exfalso
   have hm := rj _ _ k (by rw [hq]; simp)
   by_cases hk : k ∈ LT
   ·have := jH (σ.cQ (others LT σ.tab)).tab LT k hk
    simp only [St.keep] at hl
    rw [this,hq] at hl; cases hl
   ·exact hm.2 (px LT _ k hm.1 hk)
 ·intro b k ho
  have := h1.tab.own b k ho
  refine ⟨this.1,this.2.1,?_⟩
  have hm := rj _ _ k this.2.2
  have hk : k ∈ LT := by
   by_cases hk : k ∈ LT
   ·exact hk
   ·exact absurd (px LT _ k hm.1 hk) hm.2
  simp only [St.keep]
  rw [jH _ LT k hk]; exact this.2.2
theorem Jw {P : Program} {n : Nat} {σ σ' : St} (L LT : List Nat) (h : σ.keep L LT = σ') : Imp P n σ σ' := fun _ _ _ _ _ hh => h ▸ Fp L LT hh
theorem py {P : Program} {n : Nat} {σ σ' : St} (ks : List Nat) (h : σ.freeze ks = some σ') : Imp P n σ σ' := fun _ _ _ _ _ hh => qL ks σ σ' hh h
theorem Imp.refl {P : Program} {n : Nat} {σ : St} : Imp P n σ σ := fun _ _ _ _ _ h => h
theorem Imp.trans {P : Program} {n : Nat} {σ σ1 σ2 : St} (h : Imp P n σ σ1) (k : Imp P n σ1 σ2) : Imp P n σ σ2 := fun lo w0 E0 a w hh => k lo w0 E0 a w (h lo w0 E0 a w hh)
abbrev I (n : Int) : SV := .p (.v (.int .i64 n)) true
abbrev B (b : Bool) : SV := .p (.v (.bool b)) true
abbrev S (s : ByteArray) : SV := .p (.v (.string s)) true
abbrev L (rows : List (List PV)) (fr : Bool) : SV := .p (.sl rows) fr
abbrev i (n : Int) : PV := .v (.int .i64 n)
abbrev b (b : Bool) : PV := .v (.bool b)
abbrev s (s : ByteArray) : PV := .v (.string s)
end Go.TL
namespace Go.TL
inductive CK where
 | int (k : IntKind)
 | bool
 | str
 | sst
 | any
 | sl (e : TypeId)
 | other
 deriving DecidableEq
def b7 : Nat := 2097152
def bz : Nat := 1073741824
def nH : Nat := 64
def fh (e : TypeId) : Nat := match Nat.ble 1000000 e with | true => 1073741824 | false => 2097152
theorem rl (e : TypeId) : 2097152 ≤ fh e := by unfold fh; split <;> decide
theorem yR (e : TypeId) : fh e ≤ 1073741824 := by unfold fh; split <;> decide
theorem Dn {e : TypeId} (h : 1000000 ≤ e) : fh e = 1073741824 := by unfold fh; rw [Nat.ble_eq_true_of_le h]
theorem nj {e : TypeId} (h : Nat.ble 1000000 e = false) : fh e = 2097152 := by unfold fh; rw [h]
def flat (f : TypeId → List CK) : List Field → List CK
 | [] => []
 | x :: xs => f x.type ++ flat f xs
def dQ (P : Program) : Nat → TypeId → List CK
 | 0,_ => [.other]
 | n + 1,t => match P.underlying t with
  | some (.int k) => [.int k]
  | some .bool => [.bool]
  | some .string => [.str]
  | some (.slice e) => [.sl e]
  | some (.struct fs) => flat (dQ P n) fs.toList
  | _ => [.other]
def kn : List CK → List CK
 | .other :: _ => []
 | c :: r => c :: kn r
 | [] => []
def Jx : List CK → List CK
 | .other :: r => .any :: Jx r
 | c :: r => c :: Jx r
 | [] => []
def cks (P : Program) (t : TypeId) : List CK :=
 match P.underlying t,Nat.ble 2000000 t with
 | some _,_ => dQ P 8 t
 | none,false => .str :: (match dQ P 8 (t - 1000000) with | [.str] => [.sst] | cs => Jx cs)
 | none,true => kn (dQ P 8 (t - 2000000)).dropLast
inductive WT (P : Program) : CK → PV → Prop
 | int (k : IntKind) (n : Int) (h1 : k.min ≤ n) (h2 : n ≤ k.max) : WT P (.int k) (.v (.int k n))
 | bool (x : Bool) : WT P .bool (.v (.bool x))
 | str (x : ByteArray) (h : x.size ≤ bz) : WT P .str (.v (.string x))
 | sst (x : ByteArray) (h : x.size ≤ nH) : WT P .sst (.v (.string x))
 | any : WT P .any .un
 | sl (e : TypeId) (rows : List (List PV)) (h : rows.length ≤ fh e) (hl : ∀ row ∈ rows,row.length = (cks P e).length)
   (hw : ∀ (row : List PV),row ∈ rows → ∀ (j : Nat) (ck : CK) (x : PV),(cks P e)[j]? = some ck → row[j]? = some x → WT P ck x) : WT P (.sl e) (.sl rows)
def WTs (P : Program) : List CK → List PV → Prop
 | [],[] => True
 | c :: cs,x :: xs => WT P c x ∧ WTs P cs xs
 | _,_ => False
theorem aY {P : Program} : ∀ (cs : List CK) (xs : List PV),WTs P cs xs ↔ xs.length = cs.length ∧ ∀ (j : Nat) (ck : CK) (x : PV),cs[j]? = some ck → xs[j]? = some x → WT P ck x
 | [],[] => by simp [WTs]
 | c :: cs,x :: xs => by
  simp only [WTs]
  rw [aY cs xs]
  constructor
  ·rintro ⟨h1,h2,h3⟩
   refine ⟨by simp [h2],?_⟩
   intro j ck y hc hy
   cases j with
   | zero => simp at hc hy; subst hc; subst hy; exact h1
   | succ j => exact h3 j ck y (by simpa using hc) (by simpa using hy)
  ·rintro ⟨h1,h2⟩
   exact ⟨h2 0 c x rfl rfl,by simpa using h1,fun j ck y hc hy => h2 (j + 1) ck y (by simpa using hc) (by simpa using hy)⟩
 | [],_ :: _ => by simp [WTs]
 | _ :: _,[] => by simp [WTs]
def Ty (P : Program) (t : TypeId) (row : List PV) : Prop := WTs P (cks P t) row
def bL (P : Program) (e : TypeId) (rows : List (List PV)) : Prop := ∀ row ∈ rows,Ty P e row
def aU (P : Program) (e : TypeId) (rows : List (List PV)) : Prop := rows.length ≤ fh e ∧ bL P e rows
theorem Fq {P : Program} {e : TypeId} {x : PV} (h : WT P (.sl e) x) : ∃ rows,x = .sl rows ∧ aU P e rows := by
 cases h with
 | sl _ rows h hl hw => exact ⟨rows,rfl,h,fun row hr => (aY _ _).2 ⟨hl row hr,fun j ck x hc hx => hw row hr j ck x hc hx⟩⟩
theorem aU.wt {P : Program} {e : TypeId} {rows : List (List PV)} (h : aU P e rows) : WT P (.sl e) (.sl rows) :=
 .sl e rows h.1 (fun row hr => ((aY _ _).1 (h.2 row hr)).1) (fun row hr j ck x hc hx => ((aY _ _).1 (h.2 row hr)).2 j ck x hc hx)
theorem HA {P : Program} {k : IntKind} {x : PV} (h : WT P (.int k) x) : ∃ n,x = .v (.int k n) ∧ k.min ≤ n ∧ n ≤ k.max := by
 cases h with | int _ n h1 h2 => exact ⟨n,rfl,h1,h2⟩
theorem OC {P : Program} {x : PV} (h : WT P .any x) : x = .un := by cases h; rfl
theorem HB {P : Program} {x : PV} (h : WT P .sst x) : ∃ n,x = .v (.string n) ∧ n.size ≤ nH := by cases h with | sst n h => exact ⟨n,rfl,h⟩
theorem HC {P : Program} {x : PV} (h : WT P .str x) : ∃ n,x = .v (.string n) ∧ n.size ≤ bz := by
 cases h with | str n h => exact ⟨n,rfl,h⟩
theorem D5 {P : Program} {x : PV} (h : WT P .bool x) : ∃ n,x = .v (.bool n) := by
 cases h with | bool n => exact ⟨n,rfl⟩
theorem fP {P : Program} {c : CK} {cs : List CK} {row : List PV} (h : WTs P (c :: cs) row) : ∃ x xs,row = x :: xs ∧ WT P c x ∧ WTs P cs xs := by
 cases row with
 | nil => simp [WTs] at h
 | cons x xs => exact ⟨x,xs,rfl,h.1,h.2⟩
theorem lh {P : Program} {row : List PV} (h : WTs P [] row) : row = [] := by
 cases row with
 | nil => rfl
 | cons x xs => simp [WTs] at h
theorem HD {P : Program} {cs : List CK} {row : List PV} (h : WTs P (.int .i64 :: cs) row) : ∃ (n : Int) (xs : List PV),row = i n :: xs ∧ -9223372036854775808 ≤ n ∧ n ≤ 9223372036854775807 ∧ WTs P cs xs := by
 obtain ⟨x,xs,rfl,hx,hxs⟩ := fP h
 obtain ⟨n,rfl,h1,h2⟩ := HA hx
 exact ⟨n,xs,rfl,h1,h2,hxs⟩
theorem nI {P : Program} {cs : List CK} {row : List PV} (h : WTs P (.str :: cs) row) : ∃ (n : ByteArray) (xs : List PV),row = s n :: xs ∧ n.size ≤ bz ∧ WTs P cs xs := by
 obtain ⟨x,xs,rfl,hx,hxs⟩ := fP h
 obtain ⟨n,rfl,h1⟩ := HC hx
 exact ⟨n,xs,rfl,h1,hxs⟩
theorem MQ {P : Program} {cs : List CK} {row : List PV} (h : WTs P (.bool :: cs) row) : ∃ (n : Bool) (xs : List PV),row = b n :: xs ∧ WTs P cs xs := by
 obtain ⟨x,xs,rfl,hx,hxs⟩ := fP h
 obtain ⟨n,rfl⟩ := D5 hx
 exact ⟨n,xs,rfl,hxs⟩
theorem AX {P : Program} : WTs P [] [] := trivial
theorem OD {P : Program} {cs : List CK} {n : Int} {xs : List PV} (h : -9223372036854775808 ≤ n ∧ n ≤ 9223372036854775807) (k : WTs P cs xs) : WTs P (.int .i64 :: cs) (i n :: xs) := ⟨.int _ _ h.1 h.2,k⟩
theorem vF {P : Program} {cs : List CK} {n : ByteArray} {xs : List PV} (h : n.size ≤ bz) (k : WTs P cs xs) : WTs P (.str :: cs) (s n :: xs) := ⟨.str _ h,k⟩
theorem MR {P : Program} {cs : List CK} {n : Bool} {xs : List PV} (k : WTs P cs xs) : WTs P (.bool :: cs) (b n :: xs) := ⟨.bool _,k⟩
theorem QN {P : Program} {e : TypeId} {cs : List CK} {n : List (List PV)} {xs : List PV} (h : aU P e n) (k : WTs P cs xs) : WTs P (.sl e :: cs) (.sl n :: xs) := ⟨h.wt,k⟩
theorem Ty.of {P : Program} {t : TypeId} {cs : List CK} {row : List PV} (hc : cks P t = cs) (h : WTs P cs row) : Ty P t row := by unfold Ty; rw [hc]; exact h
theorem Ty.to {P : Program} {t : TypeId} {cs : List CK} {row : List PV} (hc : cks P t = cs) (h : Ty P t row) : WTs P cs row := by unfold Ty at h; rw [hc] at h; exact h
theorem bL.nil {P : Program} {e : TypeId} : bL P e [] := by intro r h; simp at h
theorem bL.one {P : Program} {e : TypeId} {row : List PV} (h : Ty P e row) : bL P e [row] := by intro r hr; simp at hr; subst hr; exact h
theorem bL.cons {P : Program} {e : TypeId} {row : List PV} {rows : List (List PV)} (h : Ty P e row) (k : bL P e rows) : bL P e (row :: rows) := by
 intro r hr; rcases List.mem_cons.1 hr with rfl | hr; exact h; exact k r hr
theorem bL.append {P : Program} {e : TypeId} {a b : List (List PV)} (h : bL P e a) (k : bL P e b) : bL P e (a ++ b) := by
 intro r hr; rcases List.mem_append.1 hr with hr | hr; exact h r hr; exact k r hr
theorem bL.take {P : Program} {e : TypeId} {a : List (List PV)} (h : bL P e a) (n : Nat) : bL P e (a.take n) := fun r hr => h r (List.mem_of_mem_take hr)
theorem bL.drop {P : Program} {e : TypeId} {a : List (List PV)} (h : bL P e a) (n : Nat) : bL P e (a.drop n) := fun r hr => h r (List.mem_of_mem_drop hr)
theorem aU.nil {P : Program} {e : TypeId} : aU P e [] := ⟨Nat.zero_le _,.nil⟩
theorem bL.len {P : Program} {e : TypeId} {rows : List (List PV)} {n : Nat} (h : bL P e rows) (hn : (cks P e).length = n) : ∀ row ∈ rows,row.length = n := fun row hr => by rw [← hn]; exact ((aY _ _).1 (h row hr)).1
theorem aU.of {P : Program} {e : TypeId} {rows : List (List PV)} (h : rows.length ≤ 2097152) (k : bL P e rows) : aU P e rows := ⟨Nat.le_trans h (rl e),k⟩
theorem aU.ofC {P : Program} {e : TypeId} {rows : List (List PV)} (he : 1000000 ≤ e) (h : rows.length ≤ 1073741824) (k : bL P e rows) : aU P e rows := ⟨by rw [Dn he]; exact h,k⟩
theorem aU.real {P : Program} {e : TypeId} {rows : List (List PV)} (h : aU P e rows) (he : Nat.ble 1000000 e = false) : rows.length ≤ b7 := by have := h.1; rwa [nj he] at this
theorem aU.len {P : Program} {e : TypeId} {rows : List (List PV)} (h : aU P e rows) : rows.length ≤ 1073741824 := Nat.le_trans h.1 (yR e)
mutual
def pz : PV → Nat
 | .v (.string x) => 1 + x.size
 | .v _ => 1
 | .sl rows => 1 + rsz rows
 | .rm _ rows => 1 + rsz rows
 | .ls rows => 1 + rsz rows
 | .un => 1
 | .mp _a rows => 1 + rsz rows
def rz : List PV → Nat
 | [] => 0
 | x :: xs => pz x + rz xs
def rsz : List (List PV) → Nat
 | [] => 0
 | r :: rs => 1 + rz r + rsz rs
end
theorem QO (rows : List (List PV)) : pz (.sl rows) = 1 + rsz rows := by simp [pz]
theorem fi : rz [] = 0 := by simp [rz]
theorem dc (x : PV) (xs : List PV) : rz (x :: xs) = pz x + rz xs := by simp [rz]
theorem jh : rsz [] = 0 := by simp [rsz]
theorem dM (r : List PV) (rs : List (List PV)) : rsz (r :: rs) = 1 + rz r + rsz rs := by simp [rsz]
theorem vG (a c : List (List PV)) : rsz (a ++ c) = rsz a + rsz c := by
 induction a with
 | nil => simp [jh]
 | cons x a ih => simp only [List.cons_append,dM,ih]; omega
theorem AY {rows : List (List PV)} {row : List PV} (h : row ∈ rows) : rz row < rsz rows := by
 induction rows with
 | nil => simp at h
 | cons x xs ih =>
  rw [dM]
  rcases List.mem_cons.1 h with rfl | h
  ·omega
  ·have := ih h; omega
theorem qG (rows : List (List PV)) : rows.length ≤ rsz rows := by
 induction rows with
 | nil => simp
 | cons x xs ih => rw [dM,List.length_cons]; omega
theorem Dp (rows : List (List PV)) (n : Nat) : rsz (rows.drop n) ≤ rsz rows := by
 induction rows generalizing n with
 | nil => simp
 | cons x xs ih =>
  cases n with
  | zero => simp
  | succ n => simp only [List.drop_succ_cons,dM]; have := ih n; omega
theorem dZ {n : Int} (h1 : -9223372036854775808 ≤ n) (h2 : n ≤ 9223372036854775807) : IntKind.wrap .i64 n = n := by
 unfold IntKind.wrap; simp [IntKind.bits,IntKind.signed]; omega
theorem aU.sub {P : Program} {e : TypeId} {rows : List (List PV)} (h : aU P e rows) (m k : Nat) : aU P e ((rows.take m).drop k) :=
 ⟨Nat.le_trans (by simp; omega) h.1,(h.2.take m).drop k⟩
theorem Fs (x : ByteArray) (a c : Nat) : (x.extract a c).size ≤ x.size := by
 simp [ByteArray.size_extract]; omega
theorem vH (n : Int) : -9223372036854775808 ≤ IntKind.wrap .i64 n ∧ IntKind.wrap .i64 n ≤ 9223372036854775807 := by
 unfold IntKind.wrap; simp [IntKind.bits,IntKind.signed]; omega
end Go.TL
