/- Functions: what is told of them is so. -/
import Derived.Test.YtaaimmmofkldbaaWl22
import Derived.Test.YtaaimmmofkldbaaWl13
namespace Go.TL
def bigN : Nat := 1000000
theorem VR_mk {w : World} {E : Env} {lo : Nat} : ∀ {xs : List SV} {vs : List Value}, VRs w E lo xs vs → VR w E lo (mk xs) (if h : vs.toArray.size = 1 then vs.toArray[0] else .tuple vs.toArray)
  | [], vs, h => by
    have := VRs_length h
    cases vs with
    | nil => simp only [mk, VR]; exact ⟨[], rfl, h⟩
    | cons v vs => simp at this
  | [x], vs, h => by
    have := VRs_length h
    match vs, this, h with
    | [v], _, h => simpa [mk] using (VRs_cons_iff.1 h).1
  | x :: y :: r, vs, h => by
    have hl := VRs_length h
    have hs : ¬ vs.toArray.size = 1 := by simp at hl ⊢; omega
    rw [dif_neg hs]
    simp only [mk, VR]; exact ⟨vs, rfl, h⟩
theorem results_run {P : Program} {fn : Func} {tmps : Array Value} {w : World} {vs : List Value} (h : (fn.results.toList.mapM (runRes tmps)).run P w = .ok vs w) :
    (results fn tmps).run P w = .ok (if h : vs.toArray.size = 1 then vs.toArray[0] else .tuple vs.toArray) w := by
  have hres : results fn tmps = (fn.results.mapM (runRes tmps) >>= fun vs => pure (if h : vs.size = 1 then vs[0] else .tuple vs)) := by
    unfold results
    congr 1
  rw [hres]
  simp [Array.mapM_eq_mapM_toList, h]
def Ret2 (P : Program) (fn : Func) (R : SV → Tab → Prop) (σ : St) : Prop :=
  ∃ rs, resList P σ fn.results.toList = some rs ∧ rs.length ≤ bigN ∧ ∃ σ2 xs, Imp P bigN ⟨slotsFrom 0 rs, σ.tab⟩ σ2 ∧ xs.length = rs.length ∧ (∀ i x, xs[i]? = some x → lk σ2.slots i = some x) ∧ R (mk xs) σ2.tab
def ret2Q (P : Program) (fn : Func) (R : SV → Tab → Prop) : Exit → St → Prop := fun e σ =>
  match e with
  | .normal => ∃ σ1, Imp P fn.ntmps σ σ1 ∧ Ret2 P fn R σ1
  | .ret => ∃ σ1, Imp P fn.ntmps σ σ1 ∧ Ret2 P fn R σ1
  | _ => False
theorem VRs_of_get {w : World} {E : Env} {lo : Nat} : ∀ {xs : List SV} {vs : List Value}, xs.length = vs.length → (∀ (i : Nat) (x : SV) (v : Value), xs[i]? = some x → vs[i]? = some v → VR w E lo x v) → VRs w E lo xs vs
  | [], [], _, _ => by simp [VRs]
  | x :: xs, v :: vs, hl, h => VRs_cons (h 0 x v rfl rfl) (VRs_of_get (by simpa using hl) fun i y u hy hu => h (i + 1) y u (by simpa using hy) (by simpa using hu))
  | [], _ :: _, hl, _ => by simp at hl
  | _ :: _, [], hl, _ => by simp at hl
theorem fn_of_awp2 {P : Program} {f : FuncId} {fn : Func} {c : Code} {args : List SV} {T : Tab} {R : SV → Tab → Prop} (hf : P.funcs[f]? = some fn) (hb : fn.body = some c) (hn : Nat.ble args.length fn.ntmps = true)
    (hnb : Nat.ble fn.ntmps bigN = true) (hids : idsB bigN T = true) (h : AWP P fn.ntmps c ⟨slotsFrom 0 args, T⟩ (ret2Q P fn R)) : FnS P f args T R := by
  intro lo w E vals hlo ht hv
  have hlen := VRs_length hv
  have hn' := Nat.le_of_ble_eq_true hn
  have hnb' := Nat.le_of_ble_eq_true hnb
  refine calls_of_wp hf hb ?_
  have hold : Holds (mkC P fn.ntmps lo w E) ⟨slotsFrom 0 args, T⟩ { tmps := vals.toArray ++ Array.replicate (fn.ntmps - vals.toArray.size) undef, defers := [] } w := by
    refine ⟨E, by simp [mkC]; omega, rfl, ?_, ht, Fr.refl w E, hlo, ?_, fun k x hk => .inl hk⟩
    · intro t sv hl
      rw [lk_slotsFrom] at hl
      simp at hl
      obtain ⟨v, hv1, hv2⟩ := VRs_get hv hl
      have hlt : t < vals.length := (List.getElem?_eq_some_iff.1 hv1).1
      have : (vals.toArray ++ Array.replicate (fn.ntmps - vals.toArray.size) undef).getD t undef = v := by
        simp only [Array.getD_eq_getD_getElem?, Array.getElem?_append, List.size_toArray, hlt, if_true, List.getElem?_toArray, hv1, Option.getD_some]
      simp only [this]
      exact hv2
    · intro k hk
      exact Nat.le_trans hnb' (idsB_ok hids k fun e => hk (ht.dead k e))
  refine wp_mono (h lo w E _ w hold) ?_
  rintro e a' w' ⟨σ, hq, hs⟩
  have fin : (∃ σ1, Imp P fn.ntmps σ σ1 ∧ Ret2 P fn R σ1) → a'.defers = [] ∧ ∃ v, (results fn a'.tmps).run P w' = .ok v w' ∧ ∃ r v_1 T' E', Ending.returned v = .returned v_1 ∧ R r T' ∧ Fr w E w' E' ∧ TabOK w' E' lo T' ∧ VR w' E' lo r v_1 ∧ ∀ k x, E.val k = some x → E'.val k = some x ∨ E'.val k = none := by
    rintro ⟨σ, himp, rs, hr, hrl, σ2, xs, himp2, hxl, hl, hR⟩
    obtain ⟨E', hs⟩ := himp lo w E a' w' hs
    obtain ⟨vs, h1, h2⟩ := resList_run hs _ _ hr
    have hvl := VRs_length h2
    have hold2 : Holds (mkC P bigN lo w E) ⟨slotsFrom 0 rs, σ.tab⟩ { tmps := vs.toArray ++ Array.replicate (bigN - vs.toArray.size) undef, defers := [] } w' := by
      refine ⟨E', by simp [mkC]; omega, rfl, ?_, hs.tab, hs.fr, hs.lo, fun k hk => idsB_ok hids k fun e => hk (ht.dead k e), hs.pres⟩
      intro t sv hl
      rw [lk_slotsFrom] at hl
      simp at hl
      obtain ⟨v, hv1, hv2⟩ := VRs_get h2 hl
      have hlt : t < vs.length := (List.getElem?_eq_some_iff.1 hv1).1
      have : (vs.toArray ++ Array.replicate (bigN - vs.toArray.size) undef).getD t undef = v := by
        simp only [Array.getD_eq_getD_getElem?, Array.getElem?_append, List.size_toArray, hlt, if_true, List.getElem?_toArray, hv1, Option.getD_some]
      simp only [this]
      exact hv2
    obtain ⟨E2, hs2⟩ := himp2 lo w E _ w' hold2
    have hxs : VRs w' E2 lo xs vs := by
      refine VRs_of_get (by omega) ?_
      intro i x v hx hv
      have := hs2.slots i x (hl i x hx)
      have hlt : i < vs.length := (List.getElem?_eq_some_iff.1 hv).1
      have e : (vs.toArray ++ Array.replicate (bigN - vs.toArray.size) undef).getD i undef = v := by
        simp only [Array.getD_eq_getD_getElem?, Array.getElem?_append, List.size_toArray, hlt, if_true, List.getElem?_toArray, hv, Option.getD_some]
      simp only [e] at this
      exact this
    exact ⟨hs.defers, _, results_run h1, mk xs, _, σ2.tab, E2, rfl, hR, hs2.fr, hs2.tab, VR_mk hxs, hs2.pres⟩
  cases e with
  | normal => exact fin hq
  | ret => exact fin hq
  | _ => exact hq.elim
def dresOf (P : Program) (σ : DSt) : ResultVar → Option DV
  | .tmp t => some (σ.get t)
  | .cell x t => match σ.get x with
    | .ptr k off => match lk σ.tab k with
      | some (.box _ cells) => dloadOut P t off cells
      | _ => none
    | _ => none
def dresList (P : Program) (σ : DSt) : List ResultVar → Option (List DV)
  | [] => some []
  | r :: rs => match dresOf P σ r, dresList P σ rs with
    | some x, some xs => some (x :: xs)
    | _, _ => none
theorem dresOf_v {P : Program} {J : Ex} {ρ : Ro} {σ : DSt} {r : ResultVar} {x : DV} (h : dresOf P σ r = some x) : resOf P (σ.v J ρ) r = some (x.v ρ) := by
  cases r with
  | tmp t => simp only [dresOf, Option.some.injEq] at h; subst h; simp only [resOf, dget_v]
  | cell x t =>
    simp only [dresOf] at h
    split at h
    · rename_i k off he
      split at h
      · rename_i bt cells hl
        simp only [resOf, dget_v, he, DV.v, dtab_v hl, DO.v, dloadOut_v, h, Option.map_some]
      · cases h
    · cases h
theorem dresList_v {P : Program} {J : Ex} {ρ : Ro} {σ : DSt} : ∀ {rs : List ResultVar} {xs : List DV}, dresList P σ rs = some xs → resList P (σ.v J ρ) rs = some (dvs ρ xs)
  | [], xs, h => by simp only [dresList, Option.some.injEq] at h; subst h; simp [resList, dvs]
  | r :: rs, xs, h => by
    simp only [dresList] at h
    split at h
    · rename_i x xs' h1 h2
      simp only [Option.some.injEq] at h; subst h
      simp only [resList, dresOf_v (J := J) (ρ := ρ) h1, dresList_v h2, dvs]
    · cases h
def tryPosts (nv : Nat) (σ : DSt) : List Post → Option (List Seq)
  | [] => none
  | p :: r => match intoX bigN nv σ (p.st nv) (fun _ => []) with
    | some [] => some []
    | some q => match tryPosts nv σ r with
      | some [] => some []
      | _ => some q
    | none => tryPosts nv σ r
theorem tryPosts_mem {nv : Nat} {σ : DSt} : ∀ {ps : List Post} {q : List Seq}, tryPosts nv σ ps = some q → ∃ p ∈ ps, intoX bigN nv σ (p.st nv) (fun _ => []) = some q
  | p :: r, q, h => by
    simp only [tryPosts] at h
    split at h
    · rename_i h1; simp only [Option.some.injEq] at h; subst h; exact ⟨p, List.mem_cons_self .., h1⟩
    · rename_i q' hne h1
      split at h
      · rename_i h2
        simp only [Option.some.injEq] at h; subst h
        obtain ⟨p', h3, h4⟩ := tryPosts_mem h2
        exact ⟨p', List.mem_cons_of_mem _ h3, h4⟩
      · simp only [Option.some.injEq] at h; subst h; exact ⟨p, List.mem_cons_self .., h1⟩
    · obtain ⟨p', h3, h4⟩ := tryPosts_mem h; exact ⟨p', List.mem_cons_of_mem _ h3, h4⟩
def retD (P : Program) (rs : List ResultVar) (s : Spec) (σ : DSt) : Option (List Seq) :=
  match dresList P σ rs with
  | some xs => match Nat.ble xs.length 1000 with
    | true => tryPosts s.nv ⟨dslotsFrom 0 xs, σ.tab, σ.tys, σ.lin, σ.prs, σ.nx, σ.hc⟩ s.posts
    | false => none
  | none => none
theorem lk_slotsFrom0 (xs : List SV) (i : Nat) : lk (slotsFrom 0 xs) i = xs[i]? := by rw [lk_slotsFrom]; simp
theorem retD_ok {P : Program} {I : Pr} {J : Ex} {fn : Func} {s : Spec} {σ : DSt} {q : List Seq} (h : retD P fn.results.toList s σ = some q) (hV : Valid P I q) {ρ0 ρ : Ro} (hag : Agree s.nv ρ0 ρ) (hok : σ.ok P I ρ)
    (hlen : ∀ p ∈ s.posts, p.res.length = fn.results.size) : Ret2 P fn (PostR P I J s ρ0) (σ.v J ρ) := by
  unfold retD at h
  split at h
  · rename_i xs hx
    split at h
    · rename_i hb
      obtain ⟨p, hp, hi⟩ := tryPosts_mem h
      obtain ⟨θ, c, _⟩ := intoX_ok (J := J) hi hV ρ ⟨hok.g, hok.tys, hok.lin, hok.prs⟩
      have hl1 : xs.length = fn.results.size := by
        have : ∀ (rs : List ResultVar) (xs : List DV), dresList P σ rs = some xs → xs.length = rs.length := by
          intro rs
          induction rs with
          | nil => intro xs h; simp only [dresList, Option.some.injEq] at h; subst h; rfl
          | cons r rs ih =>
            intro xs h
            simp only [dresList] at h
            split at h
            · rename_i x xs' h1 h2
              simp only [Option.some.injEq] at h; subst h
              simp [ih _ h2]
            · cases h
        simpa using this _ _ hx
      refine ⟨dvs ρ xs, dresList_v hx, ?_, (p.st s.nv).v J (ap ρ θ), dvs (ap ρ θ) p.res, ?_, ?_, ?_, p, hp, ap ρ θ, fun k hk => (c.ag k hk).trans (hag k hk), ⟨c.g, c.tys, c.lin, c.prs⟩, (dmk_v _ _).symm, rfl⟩
      · have := Nat.le_of_ble_eq_true hb
        simp only [dvs_map, List.length_map, bigN]; omega
      · have := c.imp
        simp only [DSt.v, dslotsFrom_v] at this ⊢
        exact this
      · simp only [dvs_map, List.length_map]; rw [hlen p hp, hl1]
      · intro i x hx
        simp only [Post.st, DSt.v, dslotsFrom_v, lk_slotsFrom0]; exact hx
    · cases h
  · cases h
def dids (n : Nat) : DTab → Bool
  | [] => true
  | (k, _) :: r => match Nat.ble n k with | true => dids n r | false => false
theorem dids_v {J : Ex} {ρ : Ro} {n : Nat} : ∀ T : DTab, idsB n (tabV J ρ T) = dids n T
  | [] => rfl
  | (k, x) :: r => by simp only [tabV, idsB, dids, dids_v r]; rfl
def Spec.start (s : Spec) (hc : List Cert) : DSt :=
  { s.pre with hc := hc, lin := (Lin.at (4 * s.nv + 2)).ax (-1) s.meas :: s.meas.ax (-1) (Lin.at (4 * s.nv + 2)) :: s.lin, prs := .pr 0 [s.nv] :: s.prs, nx := s.nv + 1 }
def lensB (n : Nat) : List Post → Bool
  | [] => true
  | p :: r => match Nat.beq p.res.length n with | true => lensB n r | false => false
theorem lensB_mem {n : Nat} : ∀ {l : List Post}, lensB n l = true → ∀ p ∈ l, p.res.length = n
  | p :: r, h, x, hx => by
    simp only [lensB] at h
    split at h
    · rename_i h1
      rcases List.mem_cons.1 hx with rfl | hx
      · exact Nat.eq_of_beq_eq_true h1
      · exact lensB_mem h x hx
    · cases h
def rets (P : Program) (rs : List ResultVar) (s : Spec) : List DSt → Option (List Seq)
  | [] => some []
  | σ :: r => match retD P rs s σ, rets P rs s r with
    | some a, some b => some (a ++ b)
    | _, _ => none
theorem rets_mem {P : Program} {rs : List ResultVar} {s : Spec} : ∀ {l : List DSt} {q : List Seq}, rets P rs s l = some q → ∀ σ ∈ l, ∃ p, retD P rs s σ = some p ∧ ∀ x ∈ p, x ∈ q
  | σ0 :: r, q, h, σ, hσ => by
    simp only [rets] at h
    split at h
    · rename_i a b h1 h2
      simp only [Option.some.injEq] at h; subst h
      rcases List.mem_cons.1 hσ with rfl | hσ
      · exact ⟨a, h1, fun s hs => List.mem_append.2 (.inl hs)⟩
      · obtain ⟨p, e1, e2⟩ := rets_mem h2 σ hσ
        exact ⟨p, e1, fun s hs => List.mem_append.2 (.inr (e2 s hs))⟩
    · cases h
def retsOf : List (Exit × DSt) → Option (List DSt)
  | [] => some []
  | (.ret, σ) :: r => match retsOf r with | some l => some (σ :: l) | none => none
  | _ => none
theorem retsOf_mem : ∀ {l : List (Exit × DSt)} {S : List DSt}, retsOf l = some S → ∀ e σ, (e, σ) ∈ l → e = .ret ∧ σ ∈ S
  | [], S, h, e, σ, hm => by simp at hm
  | (.ret, σ0) :: r, S, h, e, σ, hm => by
    simp only [retsOf] at h
    split at h
    · rename_i l hl
      simp only [Option.some.injEq] at h; subst h
      rcases List.mem_cons.1 hm with hm | hm
      · simp only [Prod.mk.injEq] at hm; rw [hm.1, hm.2]; exact ⟨rfl, List.mem_cons_self ..⟩
      · obtain ⟨h1, h2⟩ := retsOf_mem hl e σ hm; exact ⟨h1, List.mem_cons_of_mem _ h2⟩
    · cases h
  | (.normal, _) :: _, S, h, _, _, _ => by simp [retsOf] at h
  | (.exit _, _) :: _, S, h, _, _, _ => by simp [retsOf] at h
  | (.panic _, _) :: _, S, h, _, _, _ => by simp [retsOf] at h
def verifyC (P : Program) (SS : List (Spec × Option Nat)) (s : Spec) (A : Ann) (n : Nat) (rs : List ResultVar) (c : Code) : Option (List Seq) :=
  match Nat.ble s.args.length n, Nat.ble n bigN, dids bigN s.tab, lensB rs.length s.posts, tmplB 0 (s.start A.hc), tmplB 0 s.pre, scB s.nv s.meas.vars with
  | true, true, true, true, true, true, true => match exec P n (dall P n SS) A c 0 (s.start A.hc) [s.start A.hc] with
    | some R => match retsOf R.oth with
      | some S => match rets P rs s (R.nor ++ S) with
        | some q => some (R.q ++ (q ++ todo { s.pre with hc := A.hc } [.le (Lin.scale (-1) s.meas)]))
        | none => none
      | none => none
    | none => none
  | _, _, _, _, _, _, _ => none
def verify (P : Program) (SS : List (Spec × Option Nat)) (s : Spec) (A : Ann) : Option (List Seq) :=
  match P.funcs[s.fn]? with
  | some fn => match fn.body with
    | some c => verifyC P SS s A fn.ntmps fn.results.toList c
    | none => none
  | none => none
def listOf (k : Nat) : List (List PV) := match k with | 0 => [] | k + 1 => [List.replicate k (.v (.bool true))]
theorem rz_rep (k : Nat) : rz (List.replicate k (.v (.bool true))) = k := by
  induction k with
  | zero => simp [rz]
  | succ k ih => rw [List.replicate_succ, rz_cons, ih]; simp [pz]; omega
theorem rsz_listOf (k : Nat) : rsz (listOf k) = k := by
  cases k with
  | zero => simp [listOf, rsz]
  | succ k => simp only [listOf, rsz_cons, rsz_nil, rz_rep]; omega
theorem len_listOf (k : Nat) : (listOf k).length ≤ mostLen := by cases k <;> simp [listOf, mostLen]
theorem verify_ok {P : Program} {T : FuncId → Ds} {ms : Int → ByteArray} {I : Pr} {J : Ex} (hI : StdI P T ms I) (hJ : J = stdJ) {SS : List (Spec × Option Nat)} {s : Spec} {A : Ann} {q : List Seq} (h : verify P SS s A = some q) (hS : ∀ p ∈ SS, SpecIn P I J p.1 p.2) (hV : Valid P I q) {N : Nat}
    (hN : ∀ va : Va, rsz va.l ≤ N → I 0 [va]) : SpecOkN P I J (N + 1) s := by
  unfold verify at h
  split at h
  · rename_i fn hf
    split at h
    · rename_i c hb
      unfold verifyC at h
      split at h
      · rename_i e1 e2 e3 e4 e5 e6 e7
        split at h
        · rename_i R hR
          split at h
          · rename_i S hSr
            split at h
            · rename_i q' hq
              simp only [Option.some.injEq] at h; subst h
              have V1 : Valid P I R.q := fun s hs => hV s (List.mem_append.2 (.inl hs))
              have V2 : Valid P I q' := fun s hs => hV s (List.mem_append.2 (.inr (List.mem_append.2 (.inl hs))))
              have V3 : Valid P I (todo { s.pre with hc := A.hc } [.le (Lin.scale (-1) s.meas)]) := fun s hs => hV s (List.mem_append.2 (.inr (List.mem_append.2 (.inr hs))))
              intro ρ hok hm
              have hge := (todo_v (σ := { s.pre with hc := A.hc }) (ρ := ρ) ⟨hok.g, hok.tys, hok.lin, hok.prs⟩ V3).1
              simp only [G.v, Lin.scale_v] at hge
              have hsc := (tmplB_ok e5).2
              have hpsc := (tmplB_ok e6).2
              let va : Va := { (default : Va) with l := listOf (s.meas.v ρ).toNat }
              have hva : rsz va.l = (s.meas.v ρ).toNat := rsz_listOf _
              let ρ1 : Ro := fun k => if k = s.nv then va else ρ k
              have hag : Agree s.nv ρ ρ1 := fun k hk => by simp only [ρ1]; rw [if_neg (by omega)]
              have hvok : VaOk va := vaL_ok (len_listOf _)
              have hg1 : Gok ρ1 := by
                have key : ∀ k, VaOk (ρ1 k) := by
                  intro k
                  simp only [ρ1]
                  split
                  · exact hvok
                  · exact ⟨hok.g.lo k, hok.g.hi k, hok.g.st k, hok.g.ln k, hok.g.on k⟩
                exact ⟨fun k => (key k).lo, fun k => (key k).hi, fun k => (key k).st, fun k => (key k).ln, fun k => (key k).on⟩
              have hpre1 : s.pre.ok P I ρ1 := hok.ag hpsc hag hg1
              have hm1 : s.meas.v ρ1 = s.meas.v ρ := Lin.ag hag (scB_sc e7)
              have hat : (Lin.at (4 * s.nv + 2)).v ρ1 = s.meas.v ρ := by
                rw [Lin.at_v]
                unfold atomV
                have q1 : (4 * s.nv + 2) % 4 = 2 := by omega
                have q2 : (4 * s.nv + 2) / 4 = s.nv := by omega
                simp only [q1, q2, ρ1, if_true, hva]
                omega
              have hst : (s.start A.hc).ok P I ρ1 := by
                refine ⟨hg1, hpre1.tys, ⟨?_, ?_, hpre1.lin⟩, ⟨?_, hpre1.prs⟩⟩
                · rw [Lin.ax_v, hat, hm1]; omega
                · rw [Lin.ax_v, hat, hm1]; omega
                · simp only [PF.v, List.map_cons, List.map_nil, ρ1, if_true]
                  refine hN va ?_
                  rw [hva]; omega
              have x := exec_ok (J := J) (dall_good hI hJ hS) A c 0 (s.start A.hc) [s.start A.hc] R hR V1 hsc (by simpa using hsc)
              have hargs : dvs ρ1 s.args = dvs ρ s.args ∧ tabV J ρ1 s.tab = tabV J ρ s.tab := by
                have h6 := e6
                unfold tmplB at h6
                split at h6
                · have hs := scB_sc h6
                  simp only [Sc.app] at hs
                  refine ⟨dvs_ag hag ?_, tabV_ag hag hs.2.1⟩
                  have : ∀ (k : Nat) (l : List DV), slotsVars (dslotsFrom k l) = dvsVars l := by
                    intro k l
                    induction l generalizing k with
                    | nil => simp [dslotsFrom, slotsVars, dvsVars]
                    | cons x xs ih => simp only [dslotsFrom, slotsVars, dvsVars, ih]
                  have h7 := hs.1
                  simp only [Spec.pre, this] at h7
                  exact h7
                · cases h6
              have hrun := x.run (s.start A.hc) (by simp) ρ1 hst hst (ret2Q P fn (PostR P I J s ρ)) (fun _ _ h => h) ?_ ?_
              · refine fn_of_awp2 hf hb ?_ e2 ?_ ?_
                · simp only [dvs_map, List.length_map]; exact e1
                · rw [dids_v]; exact e3
                · rw [← hargs.1, ← hargs.2, ← dslotsFrom_v]
                  exact hrun
              · intro σ' hσ' ρ' ha hok' _ st im
                obtain ⟨p, h1, h2⟩ := rets_mem hq σ' (List.mem_append.2 (.inl hσ'))
                exact ⟨_, im, retD_ok h1 (fun s hs => V2 s (h2 s hs)) (fun k hk => (ha k (Nat.lt_succ_of_lt hk)).trans (hag k hk)) hok' (by simpa using lensB_mem e4)⟩
              · intro e σ' hσ' ρ' ha hok' st im
                obtain ⟨rfl, h0⟩ := retsOf_mem hSr e σ' hσ'
                obtain ⟨p, h1, h2⟩ := rets_mem hq σ' (List.mem_append.2 (.inr h0))
                exact ⟨_, im, retD_ok h1 (fun s hs => V2 s (h2 s hs)) (fun k hk => (ha k (Nat.lt_succ_of_lt hk)).trans (hag k hk)) hok' (by simpa using lensB_mem e4)⟩
            · cases h
          · cases h
        · cases h
      · cases h
    · cases h
  · cases h
def inN (B : Pr) (N : Nat) : Pr := fun id args => match id with | 0 => ∀ va ∈ args, rsz va.l ≤ N | k + 1 => B (k + 1) args
def nzB : List PF → Bool
  | [] => true
  | .pr 0 _ :: _ => false
  | _ :: r => nzB r
theorem nzB_v {B B' : Pr} {ρ : Ro} (hB : ∀ k, B (k + 1) = B' (k + 1)) : ∀ {l : List PF}, nzB l = true → prsV B ρ l → prsV B' ρ l
  | [], _, _ => trivial
  | .row _ _ _ :: r, h, v => ⟨v.1, nzB_v hB (l := r) h v.2⟩
  | .app _ _ _ :: r, h, v => ⟨v.1, nzB_v hB (l := r) h v.2⟩
  | .lit _ _ :: r, h, v => ⟨v.1, nzB_v hB (l := r) h v.2⟩
  | .sub _ _ _ _ :: r, h, v => ⟨v.1, nzB_v hB (l := r) h v.2⟩
  | .set _ _ _ _ :: r, h, v => ⟨v.1, nzB_v hB (l := r) h v.2⟩
  | .tru _ :: r, h, v => ⟨v.1, nzB_v hB (l := r) h v.2⟩
  | .cat _ _ _ :: r, h, v => ⟨v.1, nzB_v hB (l := r) h v.2⟩
  | .pr (k + 1) args :: r, h, v => ⟨by have := v.1; simp only [PF.v] at this ⊢; rw [← hB k]; exact this, nzB_v hB (l := r) h v.2⟩
  | .pr 0 _ :: _, h, _ => by simp [nzB] at h
def nzPosts : List Post → Bool
  | [] => true
  | p :: r => match nzB p.prs with | true => nzPosts r | false => false
theorem nzPosts_mem : ∀ {l : List Post}, nzPosts l = true → ∀ p ∈ l, nzB p.prs = true
  | p :: r, h, x, hx => by
    simp only [nzPosts] at h
    split at h
    · rename_i h1
      rcases List.mem_cons.1 hx with rfl | hx
      · exact h1
      · exact nzPosts_mem h x hx
    · cases h
def Spec.nz (s : Spec) : Bool := match nzB s.prs with | true => nzPosts s.posts | false => false
theorem SpecOkN.sub {P : Program} {B B' : Pr} {J : Ex} {N : Nat} {s : Spec} (hz : s.nz = true) (hB : ∀ k, B (k + 1) = B' (k + 1)) (h : SpecOkN P B J N s) : SpecOkN P B' J N s := by
  unfold Spec.nz at hz
  split at hz
  · rename_i h1
    intro ρ hok hm
    have := h ρ ⟨hok.g, hok.tys, hok.lin, nzB_v (fun k => (hB k).symm) h1 hok.prs⟩ hm
    refine this.mono ?_
    rintro r T' ⟨p, hp, ρ', h2, h3, h4, h5⟩
    exact ⟨p, hp, ρ', h2, ⟨h3.g, h3.tys, h3.lin, nzB_v hB (nzPosts_mem hz p hp) h3.prs⟩, h4, h5⟩
  · cases hz
structure Known (P : Program) (B : Pr) (J : Ex) (s : Spec) : Prop where
  nz : s.nz = true
  ok : ∀ N, SpecOkN P B J N s
def frees : List Spec → List (Spec × Option Nat)
  | [] => []
  | s :: r => (s, none) :: frees r
def meass (m : Nat) : List Spec → List (Spec × Option Nat)
  | [] => []
  | s :: r => (s, some m) :: meass m r
theorem frees_mem {p : Spec × Option Nat} : ∀ {l : List Spec}, p ∈ frees l → p.1 ∈ l ∧ p.2 = none
  | s :: r, h => by
    simp only [frees, List.mem_cons] at h
    rcases h with rfl | h
    · exact ⟨List.mem_cons_self .., rfl⟩
    · obtain ⟨a, b⟩ := frees_mem h; exact ⟨List.mem_cons_of_mem _ a, b⟩
theorem meass_mem {m : Nat} {p : Spec × Option Nat} : ∀ {l : List Spec}, p ∈ meass m l → p.1 ∈ l ∧ p.2 = some m
  | s :: r, h => by
    simp only [meass, List.mem_cons] at h
    rcases h with rfl | h
    · exact ⟨List.mem_cons_self .., rfl⟩
    · obtain ⟨a, b⟩ := meass_mem h; exact ⟨List.mem_cons_of_mem _ a, b⟩
def checkS (P : Program) (D G : List Spec) (s : Spec) (A : Ann) : Option (List Seq) :=
  match s.nz with
  | true => verify P (meass s.nv G ++ frees D) s A
  | false => none
theorem inN_std {P : Program} {T : FuncId → Ds} {ms : Int → ByteArray} (N : Nat) : StdI P T ms (inN (stdB P T ms) N) := ⟨fun id vs h => by cases id with | zero => exact absurd rfl h | succ k => rfl⟩
theorem group_ok {P : Program} {T : FuncId → Ds} {ms : Int → ByteArray} {B : Pr} (hBe : B = stdB P T ms) {J : Ex} (hJ : J = stdJ) {D G : List Spec} (hD : ∀ s ∈ D, Known P B J s) (hG : ∀ s ∈ G, ∃ A q, checkS P D G s A = some q ∧ ∀ N, Valid P (inN B N) q) : ∀ s ∈ G, Known P B J s := by
  have hB : ∀ N k, inN B N (k + 1) = B (k + 1) := fun N k => rfl
  have hnz : ∀ s ∈ G, s.nz = true := by
    intro s hs
    obtain ⟨A, q, h, _⟩ := hG s hs
    unfold checkS at h
    split at h
    · assumption
    · cases h
  have key : ∀ N, ∀ s ∈ G, SpecOkN P B J N s := by
    intro N
    induction N with
    | zero =>
      intro s hs ρ hok hm
      omega
    | succ N ih =>
      intro s hs
      obtain ⟨A, q, h, hv⟩ := hG s hs
      unfold checkS at h
      rw [hnz s hs] at h
      refine SpecOkN.sub (B := inN B N) (hnz s hs) (hB N) (verify_ok (hBe ▸ inN_std N) hJ h ?_ (hv N) (N := N) ?_)
      · intro p hp
        rcases List.mem_append.1 hp with hp | hp
        · obtain ⟨h1, h2⟩ := meass_mem hp
          rw [h2]
          exact ⟨N, fun va h => h va (by simp), SpecOkN.sub (hnz _ h1) (fun k => (hB N k).symm) (ih _ h1)⟩
        · obtain ⟨h1, h2⟩ := frees_mem hp
          rw [h2]
          intro ρ hok
          exact SpecOkN.sub (hD _ h1).nz (fun k => (hB N k).symm) ((hD _ h1).ok ((p.1.meas.v ρ).toNat + 1)) ρ hok (by omega)
      · intro va hva x hx
        simp only [List.mem_singleton] at hx; subst hx; exact hva
  exact fun s hs => ⟨hnz s hs, fun N => key N s hs⟩
end Go.TL
namespace Go.TL
inductive Mo where
  | g (fr : Bool)
  | v (K e sz : Nat) (fr : Bool)
  | d
structure LA where
  bid : Nat
  live : List Nat
  gen : List (Nat × Mo)
  ob : List (Nat × Mo)
  facts : List Lin
  sufs : List (Nat × Nat)
  meas : Lin
  prs : List PF
structure GS where
  nx : Nat
  tys : List (Nat × TypeId)
def gLv (S : List (Nat × TypeId)) (l : LV) (g : GS) : LV × GS :=
  match l with
  | some k => match lk S k with
    | some e => (some g.nx, ⟨g.nx + 1, (g.nx, e) :: g.tys⟩)
    | none => (some g.nx, ⟨g.nx + 1, g.tys⟩)
  | none => (none, g)
def gDP (S : List (Nat × TypeId)) : DP → GS → DP × GS
  | .int k _, g => (.int k (Lin.at (4 * g.nx)), ⟨g.nx + 1, g.tys⟩)
  | .bl _, g => (.bl (.var g.nx), ⟨g.nx + 1, g.tys⟩)
  | .st _, g => (.st (.var g.nx), ⟨g.nx + 1, g.tys⟩)
  | .sl l, g => match gLv S l g with | (l, g) => (.sl l, g)
  | x, g => (x, g)
def gRow (S : List (Nat × TypeId)) : List DP → GS → List DP × GS
  | [], g => ([], g)
  | x :: xs, g => match gDP S x g with
    | (x, g) => match gRow S xs g with | (xs, g) => (x :: xs, g)
mutual
def gDV (S : List (Nat × TypeId)) (ff : Bool) : DV → GS → DV × GS
  | .p x fr, g => match gDP S x g with | (x, g) => (.p x (fr && ff), g)
  | .vptr k sz _ off, g => (.vptr k sz (Lin.at (4 * g.nx)) off, ⟨g.nx + 1, g.tys⟩)
  | .pd r off fr, g => match gRow S r g with | (r, g) => (.pd r off (fr && ff), g)
  | .pc l fr, g => match gLv S l g with | (l, g) => (.p (.sl l) (fr && ff), g)
  | .agg xs, g => match gDVs S ff xs g with | (xs, g) => (.agg xs, g)
  | .tup xs, g => match gDVs S ff xs g with | (xs, g) => (.tup xs, g)
  | .ifc t x, g => match gDV S ff x g with | (x, g) => (.ifc t x, g)
  | .fn f a b, g => (.fn f a b, g)
  | .u, g => (.u, g)
  | .ptr k off, g => (.ptr k off, g)
  | .vec k, g => (.vec k, g)
  | .ref k, g => (.ref k, g)
  | .rp k off, g => (.rp k off, g)
def gDVs (S : List (Nat × TypeId)) (ff : Bool) : List DV → GS → List DV × GS
  | [], g => ([], g)
  | x :: xs, g => match gDV S ff x g with
    | (x, g) => match gDVs S ff xs g with | (xs, g) => (x :: xs, g)
end
def gVec (e : TypeId) (sz : Nat) (fr : Bool) (g : GS) : DO × GS := (.vec e sz (some g.nx) fr, ⟨g.nx + 1, (g.nx, e) :: g.tys⟩)
def gDO (S : List (Nat × TypeId)) (ff : Bool) : DO → GS → DO × GS
  | .box t xs, g => match gDVs S ff xs g with | (xs, g) => (.box t xs, g)
  | .vec e sz _ fr, g => gVec e sz (fr && ff) g
  | .ex id a, g => (.ex id a, g)
def genSlots (σ : DSt) (gen : List (Nat × Mo)) : List Nat → DTab → GS → DSlots × DTab × GS
  | [], T, g => ([], T, g)
  | t :: r, T, g => match lk σ.slots t with
    | none => genSlots σ gen r T g
    | some x => match lk gen t with
      | none => match genSlots σ gen r T g with | (s, q) => ((t, x) :: s, q)
      | some .d => genSlots σ gen r T g
      | some (.g ff) => match gDV σ.tys ff x g with
        | (x, g) => match genSlots σ gen r T g with | (s, q) => ((t, x) :: s, q)
      | some (.v K e sz fr) => match (lk T K).isSome with
        | true => match genSlots σ gen r T g with | (s, q) => ((t, .vec K) :: s, q)
        | false => match gVec e sz fr g with
          | (o, g) => match genSlots σ gen r ((K, o) :: T) g with | (s, q) => ((t, .vec K) :: s, q)
def genCells (k : Nat) (S : List (Nat × TypeId)) (ff : Bool) (ob : List (Nat × Mo)) : Nat → List DV → DTab → GS → List DV × DTab × GS
  | _, [], T, g => ([], T, g)
  | j, x :: xs, T, g => match lk ob ((j + 1) * 100000000 + k) with
    | some (.v K e sz fr) => match gVec e sz fr g with
      | (o, g) => match genCells k S ff ob (j + 1) xs ((K, o) :: T) g with | (ys, q) => (.vec K :: ys, q)
    | some .d => match genCells k S ff ob (j + 1) xs T g with | (ys, q) => (x :: ys, q)
    | _ => match gDV S ff x g with
      | (x, g) => match genCells k S ff ob (j + 1) xs T g with | (ys, q) => (x :: ys, q)
def genTab (σ : DSt) (ob : List (Nat × Mo)) : DTab → DTab → GS → DTab × GS
  | [], T, g => (T, g)
  | (k, x) :: r, T, g => match lk ob k with
    | none => genTab σ ob r ((k, x) :: T) g
    | some .d => genTab σ ob r T g
    | some (.g ff) => match x with
      | .box t xs => match genCells k σ.tys ff ob 0 xs T g with | (ys, T, g) => genTab σ ob r ((k, .box t ys) :: T) g
      | x => match gDO σ.tys ff x g with | (x, g) => genTab σ ob r ((k, x) :: T) g
    | some _ => genTab σ ob r ((k, x) :: T) g
def genSufs (S : DSlots) (tys : List (Nat × TypeId)) : List (Nat × Nat) → GS → List PF × GS
  | [], g => ([], g)
  | (l, ti) :: r, g => match lk S ti with
    | some (.p (.int _ e) _) => match lk tys l with
      | some ty => match genSufs S tys r ⟨g.nx + 1, (g.nx, ty) :: g.tys⟩ with
        | (ps, g') => (.sub g.nx l e (Lin.at (4 * l + 1)) :: ps, g')
      | none => genSufs S tys r g
    | _ => genSufs S tys r g
def openL : List (Nat × Nat) → List Nat
  | [] => []
  | (l, _) :: r => l :: openL r
def genLoop (σ : DSt) (a : LA) : DSt :=
  match genTab σ a.ob σ.tab [] ⟨σ.nx, []⟩ with
  | (T, g) => match genSlots σ a.gen a.live T g with
    | (s, T, g) => match genSufs s (g.tys ++ σ.tys) a.sufs g with
      | (ps, g) => ⟨s, T, g.tys, a.facts, a.prs ++ ps, g.nx, []⟩
def oldB (n : Nat) (l : List Nat) : Bool := scB n l
structure JS where
  nx : Nat
  tys : List (Nat × TypeId)
  nm : List (Nat × Nat × Nat)
  kd : List (Nat × Nat)
def JS.fresh (g : JS) (kind : Nat) : JS := { g with nx := g.nx + 1, kd := (g.nx, kind) :: g.kd }
def JS.list (g : JS) (e : TypeId) : JS := { g with nx := g.nx + 1, kd := (g.nx, 1) :: g.kd, tys := (g.nx, e) :: g.tys }
def tyOf2 (S1 S2 : List (Nat × TypeId)) (a b : LV) : Option TypeId :=
  match a with
  | some k => lk S1 k
  | none => match b with | some k => lk S2 k | none => none
def jDP (n0 : Nat) (S1 S2 : List (Nat × TypeId)) (x y : DP) (g : JS) : Option (DP × JS) :=
  match x.beq y, oldB n0 x.vars with
  | true, true => some (x, g)
  | _, _ => match x, y with
    | .int k _, .int k' _ => match kindEq k k' with | true => some (.int k (Lin.at (4 * g.nx)), g.fresh 0) | false => none
    | .bl _, .bl _ => some (.bl (.var g.nx), g.fresh 2)
    | .st _, .st _ => some (.st (.var g.nx), g.fresh 3)
    | .sl a, .sl b => match tyOf2 S1 S2 a b with | some e => some (.sl (some g.nx), g.list e) | none => none
    | .sl a, .nl => match tyOf2 S1 S2 a none with | some e => some (.sl (some g.nx), g.list e) | none => some (.sl none, g)
    | .nl, .sl b => match tyOf2 S1 S2 none b with | some e => some (.sl (some g.nx), g.list e) | none => some (.sl none, g)
    | .nl, .nl => some (.nl, g)
    | _, _ => none
def jRow (n0 : Nat) (S1 S2 : List (Nat × TypeId)) : List DP → List DP → JS → Option (List DP × JS)
  | [], [], g => some ([], g)
  | x :: xs, y :: ys, g => match jDP n0 S1 S2 x y g with
    | some (z, g) => match jRow n0 S1 S2 xs ys g with
      | some (zs, g) => some (z :: zs, g)
      | none => none
    | none => none
  | _, _, _ => none
def findNm (k1 k2 : Nat) : List (Nat × Nat × Nat) → Option Nat
  | [] => none
  | (K, a, b) :: r => match Nat.beq a k1, Nat.beq b k2 with | true, true => some K | _, _ => findNm k1 k2 r
def nameO (T1 T2 : DTab) (k1 k2 : Nat) (g : JS) : Option (Nat × JS) :=
  match findNm k1 k2 g.nm with
  | some K => some (K, g)
  | none => match Nat.beq k1 k2 with
    | true => some (k1, { g with nm := (k1, k1, k2) :: g.nm })
    | false => match (lk T2 k1).isSome, (lk T1 k2).isSome with
      | false, _ => some (k1, { g with nm := (k1, k1, k2) :: g.nm })
      | _, false => some (k2, { g with nm := (k2, k1, k2) :: g.nm })
      | _, _ => none
def noId : Nat := 99999999
def vecElem (T : DTab) (k : Nat) : Option TypeId := match lk T k with | some (.vec e _ _ _) => some e | _ => none
mutual
def jDV (n0 : Nat) (A B : DSt) : DV → DV → JS → DV × JS
  | .p x fr, y, g => match y with
    | .p y fr' => match jDP n0 A.tys B.tys x y g with | some (z, g) => (.p z (fr && fr'), g) | none => (.u, g)
    | .vec k => match x with
      | .nl => match (lk A.tab k).isSome with
        | true => (.u, g)
        | false => (.vec k, { g with nm := (k, noId, k) :: g.nm })
      | .sl _ => match vecElem B.tab k with | some e => (.p (.sl (some g.nx)) false, g.list e) | none => (.u, g)
      | _ => (.u, g)
    | _ => (.u, g)
  | .vec k, y, g => match y with
    | .vec k' => match nameO A.tab B.tab k k' g with | some (K, g) => (.vec K, g) | none => (.u, g)
    | .p .nl _ => match (lk B.tab k).isSome with
      | true => (.u, g)
      | false => (.vec k, { g with nm := (k, k, noId) :: g.nm })
    | .p (.sl _) _ => match vecElem A.tab k with | some e => (.p (.sl (some g.nx)) false, g.list e) | none => (.u, g)
    | _ => (.u, g)
  | .ptr k off, y, g => match y with
    | .ptr k' off' => match Nat.beq off off' with
      | true => match nameO A.tab B.tab k k' g with | some (K, g) => (.ptr K off, g) | none => (.u, g)
      | false => (.u, g)
    | _ => (.u, g)
  | .vptr k sz i off, y, g => match y with
    | .vptr k' sz' i' off' => match leDV (.vptr k sz i off) (.vptr k' sz' i' off'), oldB n0 i.vars with
      | true, true => (.vptr k sz i off, { g with nm := (k, k, k) :: g.nm })
      | _, _ => match Nat.beq k k', Nat.beq off off' with
        | true, true => (.vptr k sz (Lin.at (4 * g.nx)) off, { g.fresh 0 with nm := (k, k, k) :: g.nm })
        | _, _ => (.u, g)
    | _ => (.u, g)
  | .pd r off fr, y, g => match y with
    | .pd r' off' fr' => match Nat.beq off off' with
      | true => match jRow n0 A.tys B.tys r r' g with | some (z, g) => (.pd z off (fr && fr'), g) | none => (.u, g)
      | false => (.u, g)
    | _ => (.u, g)
  | .pc l fr, y, g => match y with
    | .pc l' fr' => match lvEq l l', oldB n0 (lvVars l) with
      | true, true => (.pc l (fr && fr'), g)
      | _, _ => match jDP n0 A.tys B.tys (.sl l) (.sl l') g with | some (z, g) => (.p z (fr && fr'), g) | none => (.u, g)
    | .p (.sl l') fr' => match jDP n0 A.tys B.tys (.sl l) (.sl l') g with | some (z, g) => (.p z (fr && fr'), g) | none => (.u, g)
    | _ => (.u, g)
  | .agg xs, y, g => match y with
    | .agg ys => match jDVs n0 A B xs ys g with | (zs, g) => (.agg zs, g)
    | _ => (.u, g)
  | .tup xs, y, g => match y with
    | .tup ys => match jDVs n0 A B xs ys g with | (zs, g) => (.tup zs, g)
    | _ => (.u, g)
  | .ref k, y, g => match y with
    | .ref k' => match nameO A.tab B.tab k k' g with | some (K, g) => (.ref K, g) | none => (.u, g)
    | _ => (.u, g)
  | .fn f a b, y, g => match y with
    | .fn f' a' b' => match fnEq f f' with
      | true => match jDVs n0 A B a a' g with
        | (x, g) => match jDVs n0 A B b b' g with | (z, g) => (.fn f x z, g)
      | false => (.u, g)
    | _ => (.u, g)
  | .ifc t x, y, g => match y with
    | .ifc t' y => match Nat.beq t t' with
      | true => match jDV n0 A B x y g with | (z, g) => (.ifc t z, g)
      | false => (.u, g)
    | _ => (.u, g)
  | .rp k off, y, g => match y with
    | .rp k' off' => match Nat.beq k k', Nat.beq off off', Nat.ble (k + 1) n0 with
      | true, true, true => (.rp k off, g)
      | _, _, _ => (.u, g)
    | _ => (.u, g)
  | .u, _, g => (.u, g)
def jDVs (n0 : Nat) (A B : DSt) : List DV → List DV → JS → List DV × JS
  | x :: xs, ys, g => match ys with
    | y :: ys => match jDV n0 A B x y g with
      | (z, g) => match jDVs n0 A B xs ys g with | (zs, g) => (z :: zs, g)
    | [] => ([], g)
  | [], _, g => ([], g)
end
def jSlots (n0 : Nat) (A B : DSt) : DSlots → List Nat → JS → DSlots × JS
  | [], _, g => ([], g)
  | (t, x) :: r, seen, g => match seen.any (Nat.beq t) with
    | true => jSlots n0 A B r seen g
    | false => match lk B.slots t with
      | some y => match jDV n0 A B x y g with
        | (z, g) => match jSlots n0 A B r (t :: seen) g with
          | (zs, g) => match z with | .u => (zs, g) | z => ((t, z) :: zs, g)
      | none => jSlots n0 A B r (t :: seen) g
def jBoth (T2 : DTab) : DTab → JS → JS
  | [], g => g
  | (k, _) :: r, g => match (lk T2 k).isSome with
    | true => match findNm k k g.nm with
      | some _ => jBoth T2 r g
      | none => jBoth T2 r (match g.nm.any (fun p => Nat.beq p.1 k) with | true => g | false => { g with nm := (k, k, k) :: g.nm })
    | false => jBoth T2 r g
def jObjs (n0 : Nat) (A B : DSt) : Nat → List Nat → DTab → JS → DTab × JS
  | 0, _, T, g => (T, g)
  | fuel + 1, done, T, g => match g.nm.find? (fun p => !(done.any (Nat.beq p.1))) with
    | none => (T, g)
    | some (K, k1, k2) => match lk A.tab k1, lk B.tab k2 with
      | some (.vec e sz l fr), some (.vec _ _ l' fr') => match lvEq l l', oldB n0 (lvVars l) with
        | true, true => jObjs n0 A B fuel (K :: done) ((K, .vec e sz l (fr && fr')) :: T) g
        | _, _ => jObjs n0 A B fuel (K :: done) ((K, .vec e sz (some g.nx) (fr && fr')) :: T) (g.list e)
      | some (.vec e sz _ fr), none => jObjs n0 A B fuel (K :: done) ((K, .vec e sz (some g.nx) fr) :: T) (g.list e)
      | none, some (.vec e sz _ fr) => jObjs n0 A B fuel (K :: done) ((K, .vec e sz (some g.nx) fr) :: T) (g.list e)
      | some (.box t xs), some (.box _ ys) => match jDVs n0 A B xs ys g with
        | (zs, g) => jObjs n0 A B fuel (K :: done) ((K, .box t zs) :: T) g
      | some (.ex id a), some (.ex _ b) => match leDO.natsEq a b, oldB n0 a with
        | true, true => jObjs n0 A B fuel (K :: done) ((K, .ex id a) :: T) g
        | _, _ => jObjs n0 A B fuel (K :: done) T g
      | _, _ => jObjs n0 A B fuel (K :: done) T g
def joinTwo (n0 : Nat) (A B : DSt) (nx : Nat) : DSt × List (Nat × Nat) :=
  match jSlots n0 A B A.slots [] ⟨nx, [], [], []⟩ with
  | (s, g) => match jObjs n0 A B 100 [] [] (jBoth B.tab A.tab g) with
    | (T, g) => (⟨s, T, g.tys, [], [], g.nx, []⟩, g.kd)
def joinFold (n0 : Nat) (base : List (Nat × TypeId)) : DSt → List (Nat × Nat) → List DSt → DSt × List (Nat × Nat)
  | A, kd, [] => (A, kd)
  | A, _, [B] => joinTwo n0 A B n0
  | A, _, B :: r => match joinTwo n0 A B n0 with
    | (T, kd) => joinFold n0 base { T with tys := T.tys ++ base } kd r
structure An where
  n : Nat
  lim : Nat
  keeps : List (Nat × List Nat)
  loops : List LA
  joins : List (Nat × List Lin)
  unr : List (Nat × Nat)
  hc : List Cert
def findLA (bid : Nat) : List LA → Option LA
  | [] => none
  | a :: r => match Nat.beq a.bid bid with | true => some a | false => findLA bid r
def An.ann (a : An) : Ann where
  hc := a.hc
  unroll i := lk a.unr i
  keep id := lk a.keeps id
  loop bid σ := match findLA bid a.loops with
    | some l => some (genLoop σ l, l.meas)
    | none => none
  opens bid _ := match findLA bid a.loops with
    | some l => openL l.sufs
    | none => []
  join must i σ0 S := match must, Nat.ble S.length a.lim with
    | false, true => none
    | _, _ => match S with
      | [] => none
      | A :: r => match joinFold σ0.nx σ0.tys A [] r with
        | (T, _) => some { T with lin := match lk a.joins i with | some l => l | none => [] }
end Go.TL
namespace Go.TL
inductive Kd where
  | i
  | ik (k : IntKind)
  | b
  | s
  | l (e : TypeId) (fr : Bool)
  | row (t : TypeId) (fr : Bool)
  | val (t : TypeId) (fr : Bool)
  | v (k : Nat) (e : TypeId) (fr : Bool)
  | vl (k : Nat) (e : TypeId) (fr : Bool)
  | box (k : Nat) (t : TypeId) (cells : List Kd)
  | agg (xs : List Kd)
  | ifc (t : TypeId) (x : Kd)
  | pcl (e : TypeId) (fr : Bool)
  | x (d : DV)
structure KS where
  nx : Nat
  tys : List (Nat × TypeId)
  lin : List Lin
  tab : DTab
def KS.one (g : KS) : KS := { g with nx := g.nx + 1 }
def prowOf (xs : List DP) (fr : Bool) : List DV := match xs with | [] => [] | x :: xs => .p x fr :: prowOf xs fr
mutual
def Kd.mk (P : Program) : Kd → KS → DV × KS
  | .i, g => (.p (.int .i64 (Lin.at (4 * g.nx))) true, g.one)
  | .ik k, g => (.p (.int k (Lin.at (4 * g.nx))) true, { g.one with lin := (Lin.at (4 * g.nx)).addc (-k.max) :: (Lin.scale (-1) (Lin.at (4 * g.nx))).addc k.min :: g.lin })
  | .b, g => (.p (.bl (.var g.nx)) true, g.one)
  | .s, g => (.p (.st (.var g.nx)) true, g.one)
  | .l e fr, g => (.p (.sl (some g.nx)) fr, { g.one with tys := (g.nx, e) :: g.tys })
  | .row t fr, g => match drow (cks P t) g.nx with
    | some R => (.pd R.cells 0 fr, { g with nx := R.nx, tys := R.tys ++ g.tys, lin := R.lin ++ g.lin })
    | none => (.u, g)
  | .val t fr, g => match drow (cks P t) g.nx with
    | some R => (.agg (prowOf R.cells fr), { g with nx := R.nx, tys := R.tys ++ g.tys, lin := R.lin ++ g.lin })
    | none => (.u, g)
  | .v k e fr, g => (.vec k, { g.one with tys := (g.nx, e) :: g.tys, tab := (k, .vec e (match P.info? e with | some i => i.size | none => 0) (some g.nx) fr) :: g.tab })
  | .vl k e fr, g => (.vec k, { g.one with tab := (k, .vec e (match P.info? e with | some i => i.size | none => 0) (some g.nx) fr) :: g.tab })
  | .box k t cells, g => match mkKs P cells g with | (xs, g) => (.ptr k 0, { g with tab := (k, .box t xs) :: g.tab })
  | .agg xs, g => match mkKs P xs g with | (xs, g) => (.agg xs, g)
  | .pcl e fr, g => (.pc (some g.nx) fr, { g.one with tys := (g.nx, e) :: g.tys })
  | .ifc t x, g => match Kd.mk P x g with | (d, g) => (.ifc t d, g)
  | .x d, g => (d, g)
def mkKs (P : Program) : List Kd → KS → List DV × KS
  | [], g => ([], g)
  | x :: xs, g => match Kd.mk P x g with
    | (x, g) => match mkKs P xs g with | (xs, g) => (x :: xs, g)
end
structure PostK where
  res : List Kd
  objs : List Kd := []
  facts : List DV → DTab → List DV → DTab → List Lin := fun _ _ _ _ => []
  prs : List DV → List DV → List PF := fun _ _ => []
end Go.TL
namespace Go.TL.H
open Go
def E00 : Env := ⟨fun _ => none, fun _ => none, fun _ => False⟩
theorem e00_bad (b : Nat) : ¬ E00.bad b := by simp [E00, Env.bad]
theorem Rep.nb {w : World} {bad : Nat → Prop} {lo : Nat} {x : PV} {v : Value} (h : Rep w bad lo x v) : Rep w NB lo x v := h.mono (Nat.le_refl _) fun _ _ h _ => ⟨h, fun h => h⟩
theorem Rep.e00 {w : World} {lo : Nat} {x : PV} {v : Value} (h : Rep w NB lo x v) : Rep w E00.bad lo x v := h.mono (Nat.le_refl _) fun b _ h _ => ⟨h, e00_bad b⟩
theorem fn_ret {P : Program} {B : Pr} {J : Ex} {s : Spec} (hK : Known P B J s) {ρ : Ro} (hpre : s.pre.ok P B ρ) (htab : s.tab = []) {w : World} {vals : List Value} (hv : VRs w E00 w.heap.size (dvs ρ s.args) vals) :
    Ret P s.fn vals w fun v w' => Ch (fun _ => False) w w' ∧ ∃ p ∈ s.posts, ∃ ρ' E', (p.st s.nv).ok P B ρ' ∧ VR w' E' w.heap.size ((dmk p.res).v ρ') v := by
  have h := hK.ok ((s.meas.v ρ).toNat + 1) ρ hpre (by omega) w.heap.size w E00 vals (Nat.le_refl _)
    ⟨fun k ov hk => by simp [htab, tabV, lk] at hk, fun _ _ => rfl, fun b k hb => by simp [E00] at hb, fun b hb => by simp [E00] at hb⟩ hv
  refine Calls.mono h ?_
  rintro e w' ⟨r, v, T', E', rfl, ⟨p, hp, ρ', h1, h2, rfl, rfl⟩, hfr, _, hvr, _⟩
  exact ⟨v, rfl, ⟨hfr.os, hfr.tape, hfr.output, hfr.size, fun b hb _ => (hfr.keep b hb rfl).1⟩, p, hp, ρ', E', h2, hvr⟩
def chunkD : List (Option Nat) → List DP → List DV
  | [], _ => []
  | none :: r, x :: xs => dmkp false x :: chunkD r xs
  | some n :: r, xs => .agg (prowOf (xs.take n) false) :: chunkD r (xs.drop n)
  | none :: r, [] => .u :: chunkD r []
def chunkV : List (Option Nat) → List Value → List Value
  | [], _ => []
  | none :: r, x :: xs => x :: chunkV r xs
  | some n :: r, xs => .agg (xs.take n).toArray :: chunkV r (xs.drop n)
  | none :: r, [] => .nilFunc :: chunkV r []
theorem Cw.drop {w : World} {lo n : Nat} {row : List PV} {vs : List Value} (h : Cw w lo row vs) : Cw w lo (row.drop n) (vs.drop n) :=
  ⟨by simp [h.len], fun j x hj => by rw [List.getElem?_drop] at hj ⊢; exact h.rep _ x hj⟩
theorem Cw.take {w : World} {lo n : Nat} {row : List PV} {vs : List Value} (h : Cw w lo row vs) : Cw w lo (row.take n) (vs.take n) :=
  ⟨by simp [h.len], fun j x hj => by
    rw [List.getElem?_take] at hj ⊢
    split at hj
    · rw [if_pos (by assumption)]; exact h.rep _ x hj
    · cases hj⟩
theorem Cw.cons {w : World} {lo : Nat} {x : PV} {xs : List PV} {v : Value} {vs : List Value} (h : Cw w lo (x :: xs) (v :: vs)) : Rep w NB lo x v ∧ Cw w lo xs vs := by
  refine ⟨?_, by have := h.drop (n := 1); simpa using this⟩
  obtain ⟨u, h1, h2⟩ := h.rep 0 x rfl
  simp at h1; subst h1; exact h2
theorem rowV_take (ρ : Ro) : ∀ (n : Nat) (xs : List DP), rowV ρ (xs.take n) = (rowV ρ xs).take n
  | 0, xs => by simp [rowV]
  | n + 1, [] => by simp [rowV]
  | n + 1, x :: xs => by simp [rowV, rowV_take ρ n xs]
theorem rowV_drop (ρ : Ro) : ∀ (n : Nat) (xs : List DP), rowV ρ (xs.drop n) = (rowV ρ xs).drop n
  | 0, xs => by simp
  | n + 1, [] => by simp [rowV]
  | n + 1, x :: xs => by simp [rowV, rowV_drop ρ n xs]
theorem prow_vr {w : World} {ρ : Ro} {lo : Nat} : ∀ (xs : List DP) (vs : List Value), Cw w 0 (rowV ρ xs) vs → VRs w E00 lo (dvs ρ (prowOf xs false)) vs
  | [], vs, h => by
    have : vs = [] := List.length_eq_zero_iff.1 (by simpa [rowV] using h.len)
    subst this; simp [prowOf, dvs, VRs]
  | x :: xs, vs, h => by
    cases vs with
    | nil => have := h.len; simp [rowV] at this
    | cons v vs =>
      obtain ⟨h1, h2⟩ := h.cons
      simp only [prowOf, dvs, VRs, DV.v, VR, flo]
      exact ⟨Rep.e00 h1, prow_vr xs vs h2⟩
theorem rep_any {w : World} {bad : Nat → Prop} {lo lo' : Nat} {x : Value} {v : Value} (h : Rep w bad lo (.v x) v) : Rep w bad lo' (.v x) v := by
  cases h with
  | v _ hx => exact .v _ hx
theorem dmkp_vr {w : World} {ρ : Ro} {lo : Nat} (x : DP) (v : Value) (h : Rep w NB 0 (x.v ρ) v) : VR w E00 lo ((dmkp false x).v ρ) v := by
  cases x <;> simp only [dmkp, DV.v, DP.v, VR, flo] at h ⊢ <;> first | exact rep_any (Rep.e00 h) | exact Rep.e00 h
theorem chunk_vr {w : World} {ρ : Ro} {lo : Nat} : ∀ (parts : List (Option Nat)) (xs : List DP) (vs : List Value), Cw w 0 (rowV ρ xs) vs → VRs w E00 lo (dvs ρ (chunkD parts xs)) (chunkV parts vs)
  | [], _, _, _ => by simp [chunkD, chunkV, dvs, VRs]
  | some n :: r, xs, vs, h => by
    simp only [chunkD, chunkV, dvs, VRs, DV.v, VR]
    exact ⟨⟨_, rfl, prow_vr _ _ (by rw [rowV_take]; exact h.take)⟩, chunk_vr r _ _ (by rw [rowV_drop]; exact h.drop)⟩
  | none :: r, [], vs, h => by
    have : vs = [] := List.length_eq_zero_iff.1 (by simpa [rowV] using h.len)
    subst this
    simp only [chunkD, chunkV, dvs, VRs, DV.v, VR, true_and]
    exact chunk_vr r [] [] h
  | none :: r, x :: xs, vs, h => by
    cases vs with
    | nil => have := h.len; simp [rowV] at this
    | cons v vs =>
      obtain ⟨h1, h2⟩ := h.cons
      simp only [chunkD, chunkV, dvs, VRs]
      exact ⟨dmkp_vr x v h1, chunk_vr r xs vs h2⟩
def tySub (b : List (Nat × TypeId)) : List (Nat × TypeId) → Bool
  | [] => true
  | (k, e) :: r => match lk b k with
    | some e' => match Nat.beq e' e with | true => tySub b r | false => false
    | none => false
theorem tySub_v {P : Program} {ρ : Ro} {b : List (Nat × TypeId)} (hb : tysV P ρ b) : ∀ {a : List (Nat × TypeId)}, tySub b a = true → tysV P ρ a
  | [], _ => trivial
  | (k, e) :: r, h => by
    simp only [tySub] at h
    split at h
    · rename_i e' hl
      split at h
      · rename_i hb'
        have := Nat.eq_of_beq_eq_true hb'; subst this
        exact ⟨tysV_lk hb hl, tySub_v hb h⟩
      · cases h
    · cases h
theorem gok_def : Gok (fun _ => default) := by
  constructor <;> intro k <;> simp [default, mostStr, ByteArray.size, Value.oneCell']
abbrev RK := Option (Bool × List CK)
def linHas (l : List Lin) (e : Lin) : Bool := match l with | [] => false | x :: r => match x.beq e with | true => true | false => linHas r e
def lin64 (e : Lin) : Bool := match e.t with
  | [(a, _)] => match Nat.beq (a % 4) 0 with
    | true => match e.beq ((Lin.at a).addc (-9223372036854775807)) with | true => true | false => e.beq ((Lin.scale (-1) (Lin.at a)).addc (-9223372036854775808))
    | false => false
  | _ => false
def gChk (l : List Lin) : List G → Bool
  | [] => true
  | .le e :: r => match (match lin64 e with | true => true | false => linHas l e) with | true => gChk l r | false => false
  | .pf _ :: _ => false
theorem linHas_v {ρ : Ro} {e : Lin} : ∀ {l : List Lin}, linsV ρ l → linHas l e = true → e.v ρ ≤ 0
  | [], _, h => by cases h
  | x :: r, hl, h => by
    simp only [linHas] at h
    split at h
    · rename_i hb; rw [← Lin.beq_eq hb]; exact hl.1
    · exact linHas_v hl.2 h
theorem lin64_v {ρ : Ro} (hg : Gok ρ) {e : Lin} (h : lin64 e = true) : e.v ρ ≤ 0 := by
  unfold lin64 at h
  split at h
  · rename_i a c he
    split at h
    · rename_i hm
      have hm := Nat.eq_of_beq_eq_true hm
      have hv : (Lin.at a).v ρ = (ρ (a / 4)).n := by simp [Lin.at_v, atomV, hm]
      have h1 := hg.lo (a / 4)
      have h2 := hg.hi (a / 4)
      split at h
      · rename_i hb; rw [Lin.beq_eq hb, Lin.addc_v, hv]; omega
      · rw [Lin.beq_eq h, Lin.addc_v, Lin.scale_v, hv]; omega
    · cases h
  · cases h
theorem gChk_v {I : Pr} {ρ : Ro} (hg : Gok ρ) {l : List Lin} (hl : linsV ρ l) : ∀ {gs : List G}, gChk l gs = true → gsV I ρ gs
  | [], _ => trivial
  | .le e :: r, h => by
    simp only [gChk] at h
    split at h
    · rename_i hc
      refine ⟨?_, gChk_v hg hl h⟩
      split at hc
      · rename_i h6; exact lin64_v hg h6
      · exact linHas_v hl hc
    · cases h
  | .pf _ :: _, h => by cases h
def unP : List DV → Option (List DP)
  | [] => some []
  | .p x true :: r => match unP r with | some xs => some (x :: xs) | none => none
  | _ :: _ => none
def rowOfD (ag : Bool) (x : DV) : Option (List DP) := match ag, x with
  | true, .agg xs => unP xs
  | false, .p x true => some [x]
  | _, _ => none
def kChk (p : TL.Post) : List RK → List DV → Bool
  | [], [] => true
  | none :: r, _ :: xs => kChk p r xs
  | some (ag, ks) :: r, x :: xs => match rowOfD ag x with
    | some cells => match dty p.tys ks cells with
      | some gs => match gChk p.lin gs with | true => kChk p r xs | false => false
      | none => false
    | none => false
  | _, _ => false
def psChk (kinds : List RK) : List TL.Post → Bool
  | [] => true
  | p :: r => match kChk p kinds p.res with | true => psChk kinds r | false => false
def RowRes (P : Program) (w : World) (lo : Nat) (ag : Bool) (ks : List CK) (v : Value) : Prop := ∃ row us, v = pk ag us ∧ Cw w lo row us ∧ WTs P ks row
def OneRes (P : Program) (w : World) (lo : Nat) : List RK → List Value → Prop
  | [], [] => True
  | none :: r, _ :: vs => OneRes P w lo r vs
  | some (ag, ks) :: r, v :: vs => RowRes P w lo ag ks v ∧ OneRes P w lo r vs
  | _, _ => False
def mkv : List Value → Value
  | [x] => x
  | xs => .tuple xs.toArray
theorem unP_vr {w : World} {ρ : Ro} {E : Env} {lo : Nat} : ∀ (xs : List DV) (cells : List DP) (vs : List Value), unP xs = some cells → VRs w E lo (dvs ρ xs) vs → Cw w lo (rowV ρ cells) vs
  | [], cells, vs, h, hv => by
    simp only [unP, Option.some.injEq] at h; subst h
    cases vs with
    | nil => exact ⟨rfl, fun j x hj => by simp [rowV] at hj⟩
    | cons v vs => simp [dvs, VRs] at hv
  | x :: xs, cells, vs, h, hv => by
    unfold unP at h
    split at h
    · rename_i heq; cases heq
    · rename_i y r heq
      cases heq
      split at h
      · rename_i ys hys
        simp only [Option.some.injEq] at h; subst h
        cases vs with
        | nil => simp [dvs, VRs] at hv
        | cons v vs =>
          simp only [dvs, VRs, DV.v, VR, flo] at hv
          have ih := unP_vr xs ys vs hys hv.2
          refine ⟨by simp [rowV, ih.len], fun j z hj => ?_⟩
          cases j with
          | zero => simp [rowV] at hj; subst hj; exact ⟨v, rfl, Rep.nb hv.1⟩
          | succ j => simp [rowV] at hj; exact ih.rep j z hj
      · cases h
    · cases h
theorem kChk_vr {P : Program} {I : Pr} {w : World} {ρ : Ro} {E : Env} {lo : Nat} {p : TL.Post} (hg : Gok ρ) (ht : tysV P ρ p.tys) (hl : linsV ρ p.lin) : ∀ (kinds : List RK) (xs : List DV) (vs : List Value), kChk p kinds xs = true → VRs w E lo (dvs ρ xs) vs → OneRes P w lo kinds vs
  | [], [], vs, _, hv => by
    cases vs with
    | nil => trivial
    | cons v vs => simp [dvs, VRs] at hv
  | [], _ :: _, _, h, _ => by cases h
  | none :: r, [], _, h, _ => by cases h
  | some _ :: r, [], _, h, _ => by cases h
  | none :: r, x :: xs, vs, h, hv => by
    cases vs with
    | nil => simp [dvs, VRs] at hv
    | cons v vs => exact kChk_vr (I := I) hg ht hl r xs vs h (by simp only [dvs, VRs] at hv; exact hv.2)
  | some (ag, ks) :: r, x :: xs, vs, h, hv => by
    cases vs with
    | nil => simp [dvs, VRs] at hv
    | cons v vs =>
      simp only [dvs, VRs] at hv
      simp only [kChk] at h
      split at h
      · rename_i cells hc
        split at h
        · rename_i gs hd
          split at h
          · rename_i hgc
            refine ⟨?_, kChk_vr (I := I) hg ht hl r xs vs h hv.2⟩
            have hw := dty_ok (I := I) hg ht ks cells gs hd (gChk_v hg hl hgc)
            unfold rowOfD at hc
            split at hc
            · rename_i ys
              have hv1 := hv.1
              simp only [DV.v, VR] at hv1
              obtain ⟨us, rfl, hus⟩ := hv1
              exact ⟨_, us, rfl, unP_vr ys cells us hc hus, hw⟩
            · rename_i y
              simp only [Option.some.injEq] at hc; subst hc
              refine ⟨_, [v], rfl, unP_vr (E := E) [.p y true] [y] [v] rfl ?_, hw⟩
              simp only [dvs, VRs]; exact ⟨hv.1, trivial⟩
            · cases hc
          · cases h
        · cases h
      · cases h
theorem res_of {P : Program} {I : Pr} {w : World} {ρ : Ro} {E : Env} {lo : Nat} {p : TL.Post} (hg : Gok ρ) (ht : tysV P ρ p.tys) (hl : linsV ρ p.lin) {kinds : List RK} {v : Value} (h : kChk p kinds p.res = true) (hv : VR w E lo ((dmk p.res).v ρ) v) :
    ∃ vs, v = mkv vs ∧ OneRes P w lo kinds vs := by
  have key : ∀ xs : List DV, VR w E lo ((dmk xs).v ρ) v → ∃ vs, v = mkv vs ∧ VRs w E lo (dvs ρ xs) vs := by
    intro xs hv
    match xs with
    | [] =>
      simp only [dmk, DV.v, VR] at hv
      obtain ⟨vs, rfl, h⟩ := hv
      have : vs = [] := by cases vs with | nil => rfl | cons v vs => simp [dvs, VRs] at h
      subst this
      exact ⟨[], rfl, h⟩
    | [x] => exact ⟨[v], rfl, by simp only [dvs, VRs]; exact ⟨hv, trivial⟩⟩
    | x :: y :: r =>
      simp only [dmk, DV.v, VR] at hv
      obtain ⟨vs, rfl, h⟩ := hv
      refine ⟨vs, ?_, h⟩
      match vs, h with
      | [], h => simp [dvs, VRs] at h
      | [u], h => simp [dvs, VRs] at h
      | u :: u' :: us, h => rfl
  obtain ⟨vs, rfl, h2⟩ := key p.res hv
  exact ⟨vs, rfl, kChk_vr (I := I) hg ht hl kinds p.res vs h h2⟩
theorem psChk_mem {kinds : List RK} : ∀ {ps : List TL.Post}, psChk kinds ps = true → ∀ p ∈ ps, kChk p kinds p.res = true
  | [], _, p, hp => by simp at hp
  | q :: r, h, p, hp => by
    simp only [psChk] at h
    split at h
    · rename_i hq
      rcases List.mem_cons.1 hp with rfl | hp
      · exact hq
      · exact psChk_mem h p hp
    · cases h
theorem true_ret {P : Program} {B : Pr} {J : Ex} {s : Spec} (hK : Known P B J s) {f n : Nat} {m : Lin} (hs : s = ⟨f, n, [], [], [], [], [], m, [⟨1, [], [], [.tru (.var n)], [], [.p (.bl (.var n)) true]⟩]⟩) (w : World) :
    Ret P f [] w fun v w' => v = .bool true ∧ Ch (fun _ => False) w w' := by
  subst hs
  have h := fn_ret hK (ρ := fun _ => default) ⟨gok_def, trivial, trivial, trivial⟩ rfl (w := w) (vals := []) (by simp [dvs, VRs])
  refine h.mono ?_
  rintro v w' ⟨hch, p, hp, ρ', E', hok, hv⟩
  simp only [List.mem_cons, List.mem_nil_iff, or_false] at hp; subst hp
  have hb : (ρ' n).b = true := by have := hok.prs.1; simpa [PF.v, BF.v] using this
  simp only [dmk, DV.v, DP.v, BF.v, VR, flo, hb] at hv
  cases hv
  exact ⟨rfl, hch⟩
end Go.TL.H
