/- Operations at places of a zone. -/
import Derived.Test.YtaaimmmofkldbaaWo21
import Derived.Laws.Small
namespace Go.TL

theorem WFat.ld {P : Program} {r : Bool} {g c : Cont} {t : TypeId} {p : Nat × Nat} (h : WFat P r g t p) (hk : KEq g c) {j : Nat} {ck : CK} (hj : (cks P t)[j]? = some ck) :
    ∃ v d, ldC c (p.1, p.2 + j) = some v ∧ WF P r g d ck v ∧ ∃ cs tt, c p.1 = some (.cells cs tt (0, 0)) ∧ cs[p.2 + j]? = some v := by
  obtain ⟨cs, tt, h1, h2⟩ := h
  obtain ⟨v0, d, h3, h4⟩ := h2 j ck hj
  obtain ⟨cs', k1, k2, k3⟩ := hk.2 p.1 cs tt (0, 0) h1
  obtain ⟨v, e1, e2⟩ := k3 _ v0 h3
  exact ⟨v, d, by unfold ldC; simp only [k1]; exact e1, h4.keqV e2, cs', tt, k1, e1⟩

/-- what is known of a place: its zone's g, whether with room -/
def findWf (p t : Nat) : List PF → Option (Nat × Nat)
  | [] => none
  | .pr id [g, p'] :: r => match Nat.beq p p', Nat.beq (id % 16) 1, Nat.beq (id / 32) t with
    | true, true, true => some (g, id)
    | _, _, _ => findWf p t r
  | _ :: r => findWf p t r
theorem findWf_v {I : Pr} {ρ : Ro} {p t g id : Nat} : ∀ {l : List PF}, findWf p t l = some (g, id) → prsV I ρ l → I id [ρ g, ρ p] ∧ id % 16 = 1 ∧ id / 32 = t ∧ PF.pr id [g, p] ∈ l
  | [], h, _ => by simp [findWf] at h
  | f :: r, h, hv => by
    have rest : findWf p t r = some (g, id) → I id [ρ g, ρ p] ∧ id % 16 = 1 ∧ id / 32 = t ∧ PF.pr id [g, p] ∈ f :: r := fun h => by
      obtain ⟨a, b, c, d⟩ := findWf_v h hv.2
      exact ⟨a, b, c, List.mem_cons_of_mem _ d⟩
    unfold findWf at h
    split at h
    · simp at *
    · rename_i id' g' p' r' heq
      simp only [List.cons.injEq] at heq
      obtain ⟨rfl, rfl⟩ := heq
      split at h
      · rename_i h1 h2 h3
        simp only [Option.some.injEq, Prod.mk.injEq] at h; obtain ⟨rfl, rfl⟩ := h
        have e1 := Nat.eq_of_beq_eq_true h1; subst e1
        exact ⟨by have := hv.1; simpa [PF.v] using this, Nat.eq_of_beq_eq_true h2, Nat.eq_of_beq_eq_true h3, List.mem_cons_self ..⟩
      · exact rest h
    · rename_i heq
      simp only [List.cons.injEq] at heq
      obtain ⟨rfl, rfl⟩ := heq
      exact rest h

def roomN (id : Nat) : Nat := (id / 16) % 2
theorem wfId {t id : Nat} (h1 : id % 16 = 1) (h2 : id / 32 = t) : id = 32 * t + 16 * roomN id + 1 := by unfold roomN; omega

/-- the kinds of a part -/
def partB (P : Program) (s n ft : Nat) : Bool := decide ((((cks P s).drop n).take (cks P ft).length) = cks P ft)
theorem WFat.part {P : Program} {r : Bool} {g : Cont} {s n ft : Nat} {p : Nat × Nat} (h : WFat P r g s p) (hp : partB P s n ft = true) : WFat P r g ft (p.1, p.2 + n) := by
  have hp := of_decide_eq_true hp
  obtain ⟨cs, tt, h1, h2⟩ := h
  refine ⟨cs, tt, h1, ?_⟩
  intro j ck hj
  have hlt : j < (cks P ft).length := (List.getElem?_eq_some_iff.1 hj).1
  have : (cks P s)[n + j]? = some ck := by
    have h5 := congrArg (fun l => l[j]?) hp
    simp only [List.getElem?_take, List.getElem?_drop, hlt, if_true] at h5
    rw [h5]; exact hj
  obtain ⟨v, d, h3, h4⟩ := h2 _ ck this
  exact ⟨v, d, by rw [← h3]; congr 1; omega, h4⟩

def dzField (P : Program) (σ : DSt) (o : Oper) (s : TypeId) (x : Operand) (f : Nat) : DR :=
  match dev σ x, fieldOff P s f, fieldOff0 P s f with
  | .rp p 0, some (n, _), some (_, ft) => match findWf p s σ.prs, partB P s n ft with
    | some (g, id), true => some ((σ.grow 1 [] [] [.pr (16 * n + 2) [p, σ.nx], .pr (32 * ft + 16 * roomN id + 1) [g, σ.nx]]).put o.dst (.rp σ.nx 0), [])
    | _, _ => none
  | _, _, _ => none

/-- what is taken for granted of the predicates and of the objects -/
structure StdI (P : Program) (D : FuncId → Ds) (ms : Int → ByteArray) (I : Pr) : Prop where
  eq : ∀ id vs, id ≠ 0 → I id vs = stdB P D ms id vs

theorem std_wf {P : Program} {D : FuncId → Ds} {ms : Int → ByteArray} {id : Nat} {g p : Va} (h1 : id % 16 = 1) : stdB P D ms id [g, p] = WFat P (roomB (id / 16)) g.c (id / 32) p.p := by
  unfold stdB; simp only [h1]
theorem roomN_b (id t : Nat) : roomB ((32 * t + 16 * roomN id + 1) / 16) = roomB (id / 16) := by
  unfold roomB roomN
  have : (32 * t + 16 * ((id / 16) % 2) + 1) / 16 % 2 = id / 16 % 2 := by omega
  rw [this]
theorem mkwf (P : Program) (D : FuncId → Ds) (ms : Int → ByteArray) (id t : Nat) (g p : Va) : stdB P D ms (32 * t + 16 * roomN id + 1) [g, p] = WFat P (roomB (id / 16)) g.c t p.p := by
  rw [std_wf (by unfold roomN; omega), roomN_b]
  have : (32 * t + 16 * roomN id + 1) / 32 = t := by unfold roomN; omega
  rw [this]

theorem dzField_good {P : Program} {D : FuncId → Ds} {ms : Int → ByteArray} {I : Pr} {J : Ex} (hI : StdI P D ms I) {σ σ' : DSt} {o : Oper} {s : TypeId} {x : Operand} {f : Nat} {gs : List G} (ho : o.op = .fieldAddr s x f)
    (h : dzField P σ o s x f = some (σ', gs)) : Good P I J σ o σ' gs := by
  unfold dzField at h
  split at h
  · rename_i p n m fo ft hx hf hf0
    split at h
    · rename_i g id hw hp
      simp only [Option.some.injEq, Prod.mk.injEq] at h; obtain ⟨rfl, rfl⟩ := h
      have hsp : σ.sc → p < σ.nx := fun hs => by have := hs.dev x; rw [hx] at this; simp only [DV.vars, Sc.cons] at this; exact this.1
      have hmem : PF.pr id [g, p] ∈ σ.prs := by
        have : ∀ l : List PF, findWf p s l = some (g, id) → PF.pr id [g, p] ∈ l := by
          intro l
          induction l with
          | nil => intro h; simp [findWf] at h
          | cons a r ih =>
            intro h
            unfold findWf at h
            split at h
            · simp at *
            · rename_i id' g' p' r' heq
              simp only [List.cons.injEq] at heq
              obtain ⟨rfl, rfl⟩ := heq
              split at h
              · rename_i h1 h2 h3
                simp only [Option.some.injEq, Prod.mk.injEq] at h; obtain ⟨rfl, rfl⟩ := h
                rw [Nat.eq_of_beq_eq_true h1]; exact List.mem_cons_self ..
              · exact List.mem_cons_of_mem _ (ih h)
            · rename_i heq
              simp only [List.cons.injEq] at heq
              obtain ⟨rfl, rfl⟩ := heq
              exact List.mem_cons_of_mem _ (ih h)
        exact this _ hw
      have hsg : σ.sc → g < σ.nx := fun hs => by have := hs.prs _ hmem; simp only [PF.vars, Sc.cons] at this; exact this.1
      refine good_new (fun hs => by simp only [DV.vars, Sc.cons]; exact ⟨Nat.lt_succ_self _, Sc.nil⟩) (fun hs => ⟨by simp, by simp, ?_⟩) ?_
      · intro q hq
        have h1 := hsp hs
        have h2 := hsg hs
        simp only [List.mem_cons, List.mem_nil_iff, or_false] at hq
        rcases hq with rfl | rfl
        · simp only [PF.vars, Sc.cons]; exact ⟨by omega, by omega, Sc.nil⟩
        · simp only [PF.vars, Sc.cons]; exact ⟨by omega, by omega, Sc.nil⟩
      · intro ρ hs hok _
        obtain ⟨w1, w2, w3, _⟩ := findWf_v hw hok.prs
        have hid : id ≠ 0 := by omega
        rw [hI.eq _ _ hid, std_wf w2, w3] at w1
        have ha := up_ag ρ σ.nx σ.nx (vaP ((ρ p).p.1, (ρ p).p.2 + n)) (Nat.le_refl _)
        have hnew : up ρ σ.nx (vaP ((ρ p).p.1, (ρ p).p.2 + n)) σ.nx = vaP ((ρ p).p.1, (ρ p).p.2 + n) := up_same _ _ _
        have e1 := ha p (hsp hs)
        have e2 := ha g (hsg hs)
        refine ⟨_, ha, hok.g.up _ (vaP_ok _), trivial, trivial, ⟨?_, ?_, trivial⟩, ⟨[], []⟩, [], ?_, trivial⟩
        · simp only [PF.v, List.map_cons, List.map_nil, hnew, e1]
          rw [hI.eq _ _ (by omega)]
          unfold stdB
          have q1 : (16 * n + 2) % 16 = 2 := by omega
          have q2 : (16 * n + 2) / 16 = n := by omega
          simp only [q1, q2]; rfl
        · simp only [PF.v, List.map_cons, List.map_nil, hnew, e2]
          rw [hI.eq _ _ (by omega), mkwf]
          exact w1.part hp
        · unfold aop
          simp only [ho, opRawField, hf, dev_v, hx, DV.v, rawP, tr, hnew, Nat.add_zero]
          rfl
    · cases h
  · cases h


/-- the zone of g -/
def findZone (g : Nat) : DTab → Option (Nat × Nat)
  | [] => none
  | (k, .ex 1 [g', c]) :: r => match Nat.beq g g' with | true => some (k, c) | false => findZone g r
  | _ :: r => findZone g r
/-- the zone of g, where the object is the first of its name -/
def zoneOf (g : Nat) (T : DTab) : Option (Nat × Nat) :=
  match findZone g T with
  | some (k, c) => match lk T k with
    | some (.ex 1 [g', c']) => match Nat.beq g g', Nat.beq c c' with | true, true => some (k, c) | _, _ => none
    | _ => none
  | none => none
theorem zoneOf_lk {g k c : Nat} {T : DTab} (h : zoneOf g T = some (k, c)) : lk T k = some (.ex 1 [g, c]) := by
  unfold zoneOf at h
  split at h
  · split at h
    · rename_i hl
      split at h
      · rename_i h1 h2
        simp only [Option.some.injEq, Prod.mk.injEq] at h; obtain ⟨rfl, rfl⟩ := h
        rw [hl, ← Nat.eq_of_beq_eq_true h1, ← Nat.eq_of_beq_eq_true h2]
      · cases h
    · cases h
  · cases h
def singleB (P : Program) (t : TypeId) : Bool := match aggT P t, P.info? t with | some false, some i => Nat.beq i.size 1 | _, _ => false
theorem singleB_out {P : Program} {t : TypeId} (h : singleB P t = true) (x : SV) : loadOut P t 0 [x] = some x := by
  unfold singleB at h
  unfold loadOut
  split at h
  · rename_i i ha hi
    simp only [ha, hi, h, List.drop_zero]
  · cases h

theorem load_zone {P : Program} {D : FuncId → Ds} {ms : Int → ByteArray} {I : Pr} {J : Ex} (_hI : StdI P D ms I) (hJ : J = stdJ) {σ : DSt} {o : Oper} {t : TypeId} {x : Operand} {q k g c d : Nat} {mk : DV} {lin : List Lin} {prs : List PF} (ho : o.op = .load t x) (hd : o.dst = some d)
    (hx : dev σ x = .rp q 0) (hz : zoneOf g σ.tab = some (k, c)) (hs1 : singleB P t = true) (hmk : Sc (σ.nx + 1) mk.vars) (hlin : ∀ e ∈ lin, Sc (σ.nx + 1) e.vars) (hprs : σ.sc → ∀ f ∈ prs, Sc (σ.nx + 1) f.vars)
    (h : ∀ ρ, σ.sc → σ.ok P I ρ → KEq (ρ g).c (ρ c).c → ∃ (va : Va) (y : Value), VaOk va ∧ y.oneCell' = true ∧ (∃ cs tt fz, (ρ c).c (ρ q).p.1 = some (.cells cs tt fz) ∧ cs[(ρ q).p.2]? = some y) ∧
      (∀ ρ', ρ' = up ρ σ.nx va → Agree σ.nx ρ ρ' → ρ' σ.nx = va → linsV ρ' lin ∧ prsV I ρ' prs ∧ mk.v ρ' = .p (.v y) true)) :
    ∀ gs : List G, (∀ ρ, σ.ok P I ρ → gsV I ρ gs → KEq (ρ g).c (ρ c).c) → Good P I J σ o ((σ.grow 1 [] lin prs).put o.dst mk) gs := by
  intro gs hkeq
  refine good_new (fun _ => hmk) (fun hs => ⟨by simp, hlin, hprs hs⟩) ?_
  intro ρ hs hok hg
  obtain ⟨va, y, hva, hy, hcell, hr⟩ := h ρ hs hok (hkeq ρ hok hg)
  have ha := up_ag ρ σ.nx σ.nx va (Nat.le_refl _)
  obtain ⟨h1, h2, h3⟩ := hr _ rfl ha (up_same _ _ _)
  refine ⟨_, ha, hok.g.up _ hva, trivial, h1, h2, ⟨[(d, [.v y, .v (.int .i64 (.ofNat k))])], []⟩, [y.oneCell' = true ∧ ∀ w x B, (J 1 [ρ g, ρ c]) w x B → ∃ cs t fz, w.heap[(ρ q).p.1]? = some (.cells cs t fz) ∧ cs[(ρ q).p.2 + 0]? = some y], ?_, ⟨⟨hy, ?_⟩, trivial⟩⟩
  · have hext : extAt (σ.v J ρ).tab k = some (J 1 [ρ g, ρ c]) := by
      unfold extAt
      simp only [DSt.v, lk_tabV, zoneOf_lk hz, Option.map_some, DO.v, List.map_cons, List.map_nil]
    have hload : opLoadArr P ⟨[(d, [.v y, .v (.int .i64 (.ofNat k))])], []⟩ (σ.v J ρ) o t x = none := loadArr_none noArr
    unfold aop
    simp only [ho, hload, opRawLoad, dev_v, hx, DV.v, rawP, hd, lk, Nat.beq_refl, hext, singleB_out hs1, nt, h3]
  · intro w x' B hw
    rw [hJ] at hw
    obtain ⟨cs, tt, fz, q1, q2⟩ := hcell
    exact ⟨cs, tt, fz, hw.1.2 _ _ q1, q2⟩


theorem std_keq {P : Program} {D : FuncId → Ds} {ms : Int → ByteArray} {g c : Va} : stdB P D ms 63 [g, c] = KEq g.c c.c := rfl

theorem slId (e id : Nat) : (32 * e + 16 * roomN id + 10) % 16 = 10 ∧ (32 * e + 16 * roomN id + 10) / 32 = e ∧ roomB ((32 * e + 16 * roomN id + 10) / 16) = roomB (id / 16) := by
  refine ⟨by unfold roomN; omega, by unfold roomN; omega, ?_⟩
  unfold roomB roomN
  have : (32 * e + 16 * ((id / 16) % 2) + 10) / 16 % 2 = id / 16 % 2 := by omega
  rw [this]
/-- a load at a place of a zone, by the kind of the cell -/
def dzLoad (P : Program) (σ : DSt) (o : Oper) (t : TypeId) (x : Operand) : DR :=
  match dev σ x, o.dst with
  | .rp q 0, some _ => match findWf q t σ.prs with
    | some (g, id) => match zoneOf g σ.tab, singleB P t with
      | some (_, c), true => match pfMem (.pr 63 [g, c]) σ.prs with
        | true => match cks P t with
          | [.int kd] => match isU64 kd with
            | false => some ((σ.grow 1 [] (kLin kd σ.nx) [.pr (16 * kNum kd + 3) [c, q, σ.nx]]).put o.dst (.p (.int kd (Lin.at (4 * σ.nx))) true), [])
            | true => none
          | [.bool] => some ((σ.grow 1 [] [] [.pr 4 [c, q, σ.nx]]).put o.dst (.p (.bl (.var σ.nx)) true), [])
          | [.str] => some ((σ.grow 1 [] [] [.pr 5 [c, q, σ.nx]]).put o.dst (.p (.st (.var σ.nx)) true), [])
          | [.sl e] => some ((σ.grow 1 [] [] [.pr 6 [c, q, σ.nx], .pr (32 * e + 16 * roomN id + 10) [g, σ.nx]]).put o.dst (.p (.raw σ.nx) true), [])
          | _ => none
        | false => none
      | _, _ => none
    | none => none
  | _, _ => none

theorem dzLoad_good {P : Program} {D : FuncId → Ds} {ms : Int → ByteArray} {I : Pr} {J : Ex} (hI : StdI P D ms I) (hJ : J = stdJ) {σ σ' : DSt} {o : Oper} {t : TypeId} {x : Operand} {gs : List G} (ho : o.op = .load t x)
    (h : dzLoad P σ o t x = some (σ', gs)) : Good P I J σ o σ' gs := by
  unfold dzLoad at h
  split at h
  · rename_i q d hx hd
    split at h
    · rename_i g id hw
      split at h
      · rename_i k c hz hs1
        split at h
        · rename_i hm
          have hkeq : ∀ ρ, σ.ok P I ρ → KEq (ρ g).c (ρ c).c := by
            intro ρ hok
            have := pfMem_v hm hok.prs
            simp only [PF.v, List.map_cons, List.map_nil] at this
            rw [hI.eq _ _ (by decide), std_keq] at this; exact this
          have hsq : σ.sc → q < σ.nx := fun hs => by have := hs.dev x; rw [hx] at this; simp only [DV.vars, Sc.cons] at this; exact this.1
          have htab : σ.sc → g < σ.nx ∧ c < σ.nx := fun hs => by
            have := hs.tab k _ (zoneOf_lk hz); simp only [DO.vars, Sc.cons] at this; exact ⟨this.1, this.2.1⟩
          have p3 : σ.sc → ∀ i, Sc (σ.nx + 1) (PF.pr i [c, q, σ.nx]).vars := fun hs i => by
            have := hsq hs; have := htab hs
            simp only [PF.vars, Sc.cons]; exact ⟨by omega, by omega, by omega, Sc.nil⟩
          have wf : ∀ ρ, σ.ok P I ρ → ∀ ck, cks P t = [ck] → ∃ v dd, WF P (roomB (id / 16)) (ρ g).c dd ck v ∧ ldC (ρ c).c (ρ q).p = some v ∧ ∃ cs tt fz, (ρ c).c (ρ q).p.1 = some (.cells cs tt fz) ∧ cs[(ρ q).p.2]? = some v := by
            intro ρ hok ck hck
            obtain ⟨w1, w2, w3, _⟩ := findWf_v hw hok.prs
            rw [hI.eq _ _ (by omega), std_wf w2, w3] at w1
            obtain ⟨v, dd, e1, e2, cs, tt, e3, e4⟩ := w1.ld (hkeq ρ hok) (j := 0) (ck := ck) (by rw [hck]; rfl)
            exact ⟨v, dd, e2, e1, cs, tt, (0, 0), e3, e4⟩
          split at h
          · rename_i kd hck
            split at h
            · rename_i hu
              simp only [Option.some.injEq, Prod.mk.injEq] at h; obtain ⟨rfl, rfl⟩ := h
              refine load_zone hI hJ ho hd hx hz hs1 (by simp only [DV.vars, DP.vars]; exact at4_sc (Nat.lt_succ_self _)) kLin_sc (fun hs f hf => by simp only [List.mem_singleton] at hf; subst hf; exact p3 hs _) ?_ [] (fun ρ hok _ => hkeq ρ hok)
              intro ρ hs hok _
              obtain ⟨v, dd, e1, e2, e3⟩ := wf ρ hok _ hck
              cases e1 with
              | int _ _ n h1 h2 =>
                refine ⟨vaN n, .int kd n, vaN_ok (by have := kmin_ge (k := kd); omega) (by have := kmax_le hu; omega), rfl, e3, ?_⟩
                intro ρ' _ ha hn
                have hnn : (ρ' σ.nx).n = n := by rw [hn]; rfl
                refine ⟨kLin_v (by rw [hnn]; exact h1) (by rw [hnn]; exact h2), ⟨?_, trivial⟩, by simp only [DV.v, DP.v, Lin.at_v, atomV0, hnn]⟩
                simp only [PF.v, List.map_cons, List.map_nil]
                rw [hI.eq _ _ (by omega), ha c (htab hs).2, ha q (hsq hs)]
                unfold stdB
                have q1 : (16 * kNum kd + 3) % 16 = 3 := by omega
                have q2 : (16 * kNum kd + 3) / 16 = kNum kd := by omega
                simp only [q1, q2, hnn]
                exact ⟨kd, rfl, e2⟩
            · cases h
          · rename_i hck
            simp only [Option.some.injEq, Prod.mk.injEq] at h; obtain ⟨rfl, rfl⟩ := h
            refine load_zone hI hJ ho hd hx hz hs1 (by simp only [DV.vars, DP.vars, BF.vars, Sc.cons]; exact ⟨Nat.lt_succ_self _, Sc.nil⟩) (by simp) (fun hs f hf => by simp only [List.mem_singleton] at hf; subst hf; exact p3 hs _) ?_ [] (fun ρ hok _ => hkeq ρ hok)
            intro ρ hs hok _
            obtain ⟨v, dd, e1, e2, e3⟩ := wf ρ hok _ hck
            cases e1 with
            | bool _ b =>
              refine ⟨vaB b, .bool b, vaB_ok b, rfl, e3, ?_⟩
              intro ρ' _ ha hn
              have hnn : (ρ' σ.nx).b = b := by rw [hn]; rfl
              refine ⟨trivial, ⟨?_, trivial⟩, by simp only [DV.v, DP.v, BF.v, hnn]⟩
              simp only [PF.v, List.map_cons, List.map_nil]
              rw [hI.eq _ _ (by decide), ha c (htab hs).2, ha q (hsq hs)]
              show ldC (ρ c).c (ρ q).p = some (.bool (ρ' σ.nx).b)
              rw [hnn]; exact e2
          · rename_i hck
            simp only [Option.some.injEq, Prod.mk.injEq] at h; obtain ⟨rfl, rfl⟩ := h
            refine load_zone hI hJ ho hd hx hz hs1 (by simp only [DV.vars, DP.vars, SE.vars, Sc.cons]; exact ⟨Nat.lt_succ_self _, Sc.nil⟩) (by simp) (fun hs f hf => by simp only [List.mem_singleton] at hf; subst hf; exact p3 hs _) ?_ [] (fun ρ hok _ => hkeq ρ hok)
            intro ρ hs hok _
            obtain ⟨v, dd, e1, e2, e3⟩ := wf ρ hok _ hck
            cases e1 with
            | str _ b hb =>
              refine ⟨vaS b, .string b, vaS_ok hb, rfl, e3, ?_⟩
              intro ρ' _ ha hn
              have hnn : (ρ' σ.nx).s = b := by rw [hn]; rfl
              refine ⟨trivial, ⟨?_, trivial⟩, by simp only [DV.v, DP.v, SE.v, hnn]⟩
              simp only [PF.v, List.map_cons, List.map_nil]
              rw [hI.eq _ _ (by decide), ha c (htab hs).2, ha q (hsq hs)]
              show ldC (ρ c).c (ρ q).p = some (.string (ρ' σ.nx).s)
              rw [hnn]; exact e2
          · rename_i e hck
            simp only [Option.some.injEq, Prod.mk.injEq] at h; obtain ⟨rfl, rfl⟩ := h
            refine load_zone hI hJ ho hd hx hz hs1 (by simp only [DV.vars, DP.vars, Sc.cons]; exact ⟨Nat.lt_succ_self _, Sc.nil⟩) (by simp) (fun hs f hf => ?_) ?_ [] (fun ρ hok _ => hkeq ρ hok)
            · simp only [List.mem_cons, List.mem_nil_iff, or_false] at hf
              rcases hf with rfl | rfl
              · exact p3 hs _
              · have := htab hs
                simp only [PF.vars, Sc.cons]; exact ⟨by omega, by omega, Sc.nil⟩
            intro ρ hs hok _
            obtain ⟨v, dd, e1, e2, e3⟩ := wf ρ hok _ hck
            have hone : v.oneCell' = true := by cases e1 <;> rfl
            refine ⟨vaX v, v, vaX_ok hone, hone, e3, ?_⟩
            intro ρ' _ ha hn
            have hnn : (ρ' σ.nx).x = v := by rw [hn]; rfl
            refine ⟨trivial, ⟨?_, ?_, trivial⟩, by simp only [DV.v, DP.v, hnn]⟩
            · simp only [PF.v, List.map_cons, List.map_nil]
              rw [hI.eq _ _ (by decide), ha c (htab hs).2, ha q (hsq hs)]
              show ldC (ρ c).c (ρ q).p = some (ρ' σ.nx).x
              rw [hnn]; exact e2
            · simp only [PF.v, List.map_cons, List.map_nil]
              rw [hI.eq _ _ (by omega), ha g (htab hs).1]
              unfold stdB
              obtain ⟨q1, q2, q3⟩ := slId e id
              simp only [q1, q2, q3, hnn]
              exact ⟨dd, e1⟩
          · cases h
        · cases h
      · cases h
    · cases h
  · cases h

end Go.TL
/- Stores at places of a zone. -/
namespace Go.TL

theorem spl_set {α : Type} (cs : Array α) (o : Nat) (z : α) (h : o < cs.size) : (spl cs.toList o [z]).toArray = cs.setIfInBounds o z := by
  apply Array.ext
  · simp [spl]; omega
  · intro i h1 h2
    simp only [Array.size_setIfInBounds] at h2
    have e1 : (spl cs.toList o [z])[i]? = (cs.setIfInBounds o z)[i]? := by
      simp only [spl, Array.getElem?_setIfInBounds]
      rw [List.getElem?_append]
      simp only [List.length_take, Array.length_toList]
      by_cases hi : i < o
      · rw [if_pos (by omega), List.getElem?_take, if_pos hi, if_neg (by omega)]; simp
      · rw [if_neg (by omega)]
        by_cases he : o = i
        · subst he
          have : o - min o cs.size = 0 := by omega
          rw [this, if_pos rfl, if_pos h]; rfl
        · rw [if_neg he]
          have : i - min o cs.size = (i - o - 1) + 1 := by omega
          rw [this]
          simp only [List.singleton_append, List.getElem?_cons_succ, List.getElem?_drop, List.length_singleton]
          have : o + 1 + (i - o - 1) = i := by omega
          rw [this]; simp
    have h1' : i < (spl cs.toList o [z]).length := by simpa using h1
    rw [List.getElem?_eq_getElem h1', Array.getElem?_eq_getElem (by simpa using h2)] at e1
    simpa using e1

theorem zone_set {c : Cont} {b o : Nat} {z : Value} {w' : World} {x : Value} {B : Nat → Prop} (hc : ∃ cs t fz, c b = some (.cells cs t fz) ∧ o < cs.size) (h : setExt (zone c) b o z w' x B) : zone (stC c (b, o) z) w' x B := by
  obtain ⟨w, ⟨h1, h2⟩, hB, h3, cs, t, h4, h5⟩ := h
  obtain ⟨cs0, t0, fz0, e0, hlt⟩ := hc
  have e1 := h2 b _ e0
  rw [h4] at e1
  simp only [Option.some.injEq, Obj.cells.injEq] at e1
  obtain ⟨rfl, rfl, rfl⟩ := e1
  refine ⟨?_, ?_⟩
  · intro d
    rw [h1 d]
    unfold stC
    by_cases hd : d = b
    · subst hd; simp [e0]
    · simp [hd]
  · intro d ob hd
    unfold stC at hd
    by_cases hdb : d = b
    · subst hdb
      simp only [if_true, e0, Option.some.injEq] at hd
      subst hd
      rw [h5, spl_set _ _ _ hlt]
    · simp only [hdb, if_false] at hd
      have hBd : B d := (h1 d).2 (by rw [hd]; simp)
      rw [h3 d hBd hdb]; exact h2 d ob hd

/-- a scalar for another of its kind -/
theorem KEq_st {c : Cont} {p : Nat × Nat} {v0 v : Value} (hl : ldC c p = some v0) (hk : KEqV v0 v) : KEq c (stC c p v) := by
  refine ⟨?_, ?_⟩
  · intro b
    unfold stC
    by_cases hb : b = p.1
    · subst hb
      simp only [if_true]
      cases hc : c p.1 with
      | none => simp
      | some ob => cases ob <;> simp
    · simp [hb]
  · intro b cs t fz hb
    by_cases hbp : b = p.1
    · subst hbp
      refine ⟨cs.setIfInBounds p.2 v, by unfold stC; simp [hb], by simp, ?_⟩
      intro j w0 hj
      unfold ldC at hl
      simp only [hb] at hl
      rw [Array.getElem?_setIfInBounds]
      by_cases he : p.2 = j
      · subst he
        have hlt := (Array.getElem?_eq_some_iff.1 hj).1
        rw [if_pos rfl, if_pos hlt]
        rw [hj] at hl; simp only [Option.some.injEq] at hl; subst hl
        exact ⟨v, rfl, hk⟩
      · rw [if_neg he]; exact ⟨w0, hj, .inl rfl⟩
    · refine ⟨cs, by unfold stC; simp [hbp, hb], rfl, fun j w0 hj => ⟨w0, hj, .inl rfl⟩⟩


/-- an operation behind which less is said than comes -/
def GoodI (P : Program) (I : Pr) (J : Ex) (n : Nat) (σ : DSt) (o : Oper) (σ' : DSt) (gs : List G) : Prop :=
  σ.sc → σ'.sc ∧ σ.nx ≤ σ'.nx ∧ ∀ ρ, σ.ok P I ρ → gsV I ρ gs → ∃ ρ', Agree σ.nx ρ ρ' ∧ σ'.ok P I ρ' ∧
    ∃ (H : Hint) (s : St) (ps : List Prop), aop P H (σ.v J ρ) o = some (s, ps) ∧ allP ps ∧ Imp P n s (σ'.v J ρ')
theorem goodI_step {P : Program} {I : Pr} {J : Ex} {n : Nat} {σ σ' : DSt} {o : Oper} {gs : List G} (h : GoodI P I J n σ o σ' gs) (hV : Valid P I (todo σ gs)) : StepGood P I J n o σ [σ'] := by
  intro hs
  obtain ⟨h1, h2, h3⟩ := h hs
  refine ⟨by simp [h1, h2], ?_⟩
  intro ρ hok K Q lo w0 E0 hK a w hh hd
  obtain ⟨ρ', ha, hok', H, s, ps, e1, e2, e3⟩ := h3 ρ hok (todo_v hok hV)
  obtain ⟨v, w', hrun, hs'⟩ := aop_sound (C := mkC P n lo w0 E0) e1 e2 hh hd
  unfold Oper.wp
  rcases hrun with hrun | ⟨hrun, rfl⟩
  · change Sem.run P _ _ = _ at hrun
    rw [hrun]; exact hK σ' (by simp) ρ' ha hok' _ _ (e3 lo w0 E0 _ _ hs')
  · change Sem.run P _ _ = _ at hrun
    rw [hrun]; exact hK σ' (by simp) ρ' ha hok' _ _ (e3 lo w0 E0 _ _ hs')

/-- the zone's contents are others -/
def DSt.zset (σ : DSt) (k g c' : Nat) : DSt := { σ with tab := (k, .ex 1 [g, c']) :: rm σ.tab k }
theorem zset_sc {σ : DSt} (hs : σ.sc) {k g c' : Nat} (hg : g < σ.nx) (hc : c' < σ.nx) : (σ.zset k g c').sc := by
  refine ⟨hs.slots, ?_, hs.tys, hs.lin, hs.prs⟩
  intro t v hl
  simp only [DSt.zset, lk_cons] at hl
  split at hl
  · simp only [Option.some.injEq] at hl; subst hl; simp only [DO.vars, Sc.cons]; exact ⟨hg, hc, Sc.nil⟩
  · rw [lk_rm] at hl
    split at hl
    · cases hl
    · exact hs.tab t v hl

/-- a store at a place of a zone: the value that is stored by a term of its kind, w the variable that tells it -/
theorem store_zone {P : Program} {D : FuncId → Ds} {ms : Int → ByteArray} {I : Pr} {J : Ex} {n : Nat} (_hI : StdI P D ms I) (hJ : J = stdJ) {σ : DSt} {o : Oper} {t : TypeId} {x y : Operand} {q k g c m : Nat} {i : TypeInfo} {dp : DP} {fr : Bool} {lin : List Lin} {prs : List PF} {gs : List G}
    (ho : o.op = .store t x y) (hx : dev σ x = .rp q 0) (hy : dev σ y = .p dp fr) (hi : P.info? t = some i) (hi1 : Nat.beq i.size 1 = true) (hz : zoneOf g σ.tab = some (k, c)) (hsc : σ.sc → GrowSc (σ.nx + (m + 1)) [] lin prs)
    (h : ∀ ρ, σ.sc → σ.ok P I ρ → gsV I ρ gs → ∃ z : Value, dp.v ρ = .v z ∧ (∃ cs tt, (ρ c).c (ρ q).p.1 = some (.cells cs tt (0, 0)) ∧ (ρ q).p.2 < cs.size) ∧
      ∃ ρ', Agree σ.nx ρ ρ' ∧ Gok ρ' ∧ (ρ' (σ.nx + m)).c = stC (ρ c).c (ρ q).p z ∧ linsV ρ' lin ∧ prsV I ρ' prs) : GoodI P I J n σ o (((σ.grow (m + 1) [] lin prs).zset k g (σ.nx + m)).put o.dst .u) gs := by
  intro hs
  have hgr := hs.grow (hsc hs)
  have htab : g < σ.nx ∧ c < σ.nx := by
    have := hs.tab k _ (zoneOf_lk hz); simp only [DO.vars, Sc.cons] at this; exact ⟨this.1, this.2.1⟩
  have hnx : (σ.grow (m + 1) [] lin prs).nx = σ.nx + (m + 1) := rfl
  refine ⟨(zset_sc hgr (by rw [hnx]; omega) (by rw [hnx]; omega)).put o.dst (by simp [DV.vars, Sc.nil]), by rw [dput_nx]; exact Nat.le_add_right _ _, ?_⟩
  intro ρ hok hg
  obtain ⟨z, hz1, ⟨cs, tt, hc1, hc2⟩, ρ', ha, hgk, hc', hl, hp⟩ := h ρ hs hok hg
  have hok' := hok.grow (n := m + 1) (tys := []) hs ha hgk trivial hl hp
  refine ⟨ρ', ha, DSt.ok.put (σ := (σ.grow (m + 1) [] lin prs).zset k g (σ.nx + m)) ⟨hok'.g, hok'.tys, hok'.lin, hok'.prs⟩ _ _, ⟨[], [(k, [])]⟩, (⟨slotsV ρ σ.slots, (k, .ext (setExt (J 1 [ρ g, ρ c]) (ρ q).p.1 ((ρ q).p.2 + 0) z)) :: rm (tabV J ρ σ.tab) k⟩ : St).put o.dst .u,
    [∀ w x B, (J 1 [ρ g, ρ c]) w x B → B (ρ q).p.1 ∧ ∃ cs t, w.heap[(ρ q).p.1]? = some (.cells cs t (0, 0)) ∧ (ρ q).p.2 + 0 < cs.size], ?_, ⟨?_, trivial⟩, ?_⟩
  · have hext : extAt (σ.v J ρ).tab k = some (J 1 [ρ g, ρ c]) := by
      unfold extAt
      simp only [DSt.v, lk_tabV, zoneOf_lk hz, Option.map_some, DO.v, List.map_cons, List.map_nil]
    unfold aop
    simp only [ho, storeArr_none noArr, opRawStore, dev_v, hx, hy, DV.v, hz1, rawP, cellsOf, hi, hi1, hext, nt]
    rfl
  · intro w x' B hw
    rw [hJ] at hw
    have h1 := hw.1.2 _ _ hc1
    exact ⟨(hw.1.1 _).2 (by rw [hc1]; simp), cs, tt, h1, hc2⟩
  · have hsame := DSt.same_ag (J := J) hs ha
    have hψ : ∀ w x B, setExt (J 1 [ρ g, ρ c]) (ρ q).p.1 ((ρ q).p.2 + 0) z w x B → (J 1 [ρ' g, ρ' (σ.nx + m)]) w x B ∧ ∀ w' : World, (∀ b, B b → w'.heap[b]? = w.heap[b]?) → (J 1 [ρ' g, ρ' (σ.nx + m)]) w' x B := by
      intro w x B hw
      rw [hJ] at hw ⊢
      have hw2 : setExt (zone (ρ c).c) (ρ q).p.1 (ρ q).p.2 z w x B := by
        obtain ⟨w0, h1, h2⟩ := hw
        exact ⟨w0, h1.1, h2⟩
      have h3 := zone_set ⟨cs, tt, (0, 0), hc1, hc2⟩ hw2
      have h4 : zone (ρ' (σ.nx + m)).c w x B := by rw [hc']; exact h3
      exact ⟨⟨h4, rfl⟩, fun w' hw' => ⟨zone_closed h4 w' hw', rfl⟩⟩
    have hput : ∀ (S : List (Nat × SV)) (T : Tab), ((⟨S, T⟩ : St).put o.dst .u).tab = T := fun S T => by cases o.dst <;> rfl
    have i1 := imp_ext (P := P) (n := n) (σ := (⟨slotsV ρ σ.slots, (k, .ext (setExt (J 1 [ρ g, ρ c]) (ρ q).p.1 ((ρ q).p.2 + 0) z)) :: rm (tabV J ρ σ.tab) k⟩ : St).put o.dst .u) k (J 1 [ρ' g, ρ' (σ.nx + m)]) (by rw [hput, lk_cons_same]) hψ rfl
    refine Imp.trans i1 fun lo w0 E0 a w hh => Same.holds ⟨?_, ?_⟩ hh
    · intro t'
      rw [dput_v]
      have hS : ∀ t', lk (slotsV ρ σ.slots) t' = lk (slotsV ρ' σ.slots) t' := hsame.slots
      cases o.dst with
      | none => exact hS t'
      | some d => simp only [St.put, DSt.v, DSt.zset, DSt.grow, lk_cons, hS t', DV.v]
    · intro t'
      rw [dput_v]
      have hT : ∀ t', lk (tabV J ρ σ.tab) t' = lk (tabV J ρ' σ.tab) t' := hsame.tab
      have hput2 : ∀ (s : St) (x : SV), (s.put o.dst x).tab = s.tab := fun s x => by cases o.dst <;> rfl
      simp only [hput2, DSt.v, DSt.zset, DSt.grow, tabV, DO.v, List.map_cons, List.map_nil, ← rm_tabV, lk_cons, lk_rm]
      split
      · rfl
      · rw [hT t']


def iffB (k : Nat) (f : BF) : BF := .or (.and (.var k) f) (.and (.not (.var k)) (.not f))
/-- a store at a place of a zone, by the kind of the cell -/
def dzStore (P : Program) (σ : DSt) (o : Oper) (t : TypeId) (x y : Operand) : DR :=
  match dev σ x, dev σ y, P.info? t with
  | .rp q 0, .p dp _, some i => match findWf q t σ.prs with
    | some (g, _) => match zoneOf g σ.tab, Nat.beq i.size 1 with
      | some (k, c), true => match pfMem (.pr 63 [g, c]) σ.prs with
        | true => match cks P t, dp with
          | [.int kd], .int kd' e => match kindEq kd kd', isU64 kd with
            | true, false => some (((σ.grow (1 + 1) [] [(Lin.at (4 * σ.nx)).ax (-1) e, e.ax (-1) (Lin.at (4 * σ.nx))] [.pr (16 * kNum kd + 7) [c, q, σ.nx, σ.nx + 1], .pr 63 [g, σ.nx + 1]]).zset k g (σ.nx + 1)).put o.dst .u,
                [.le (e.addc (-kd.max)), .le ((Lin.scale (-1) e).addc kd.min)])
            | _, _ => none
          | [.bool], .bl f => some (((σ.grow (1 + 1) [] [] [.pr 8 [c, q, σ.nx, σ.nx + 1], .pr 63 [g, σ.nx + 1], .tru (iffB σ.nx f)]).zset k g (σ.nx + 1)).put o.dst .u, [])
          | [.str], .st (.var s) => some (((σ.grow (0 + 1) [] [] [.pr 9 [c, q, s, σ.nx], .pr 63 [g, σ.nx]]).zset k g (σ.nx + 0)).put o.dst .u, [])
          | [.str], .st (.lit b) => match Nat.ble b.length 1073741824 with
            | true => some (((σ.grow (1 + 1) [] [] [.pr 9 [c, q, σ.nx, σ.nx + 1], .pr 63 [g, σ.nx + 1], .cat σ.nx (.lit b) (.lit [])]).zset k g (σ.nx + 1)).put o.dst .u, [])
            | false => none
          | _, _ => none
        | false => none
      | _, _ => none
    | none => none
  | _, _, _ => none

theorem dzStore_good {P : Program} {D : FuncId → Ds} {ms : Int → ByteArray} {I : Pr} {J : Ex} {n : Nat} (hI : StdI P D ms I) (hJ : J = stdJ) {σ σ' : DSt} {o : Oper} {t : TypeId} {x y : Operand} {gs : List G} (ho : o.op = .store t x y)
    (h : dzStore P σ o t x y = some (σ', gs)) : GoodI P I J n σ o σ' gs := by
  unfold dzStore at h
  split at h
  · rename_i q dp fr i hx hy hi
    split at h
    · rename_i g id hw
      split at h
      · rename_i k c hz hi1
        split at h
        · rename_i hm
          have hkeq : ∀ ρ, σ.ok P I ρ → KEq (ρ g).c (ρ c).c := by
            intro ρ hok
            have := pfMem_v hm hok.prs
            simp only [PF.v, List.map_cons, List.map_nil] at this
            rw [hI.eq _ _ (by decide), std_keq] at this; exact this
          have hsq : σ.sc → q < σ.nx := fun hs => by have := hs.dev x; rw [hx] at this; simp only [DV.vars, Sc.cons] at this; exact this.1
          have htab : σ.sc → g < σ.nx ∧ c < σ.nx := fun hs => by
            have := hs.tab k _ (zoneOf_lk hz); simp only [DO.vars, Sc.cons] at this; exact ⟨this.1, this.2.1⟩
          have hysc : σ.sc → Sc σ.nx dp.vars := fun hs => by have := hs.dev y; rw [hy] at this; simpa only [DV.vars] using this
          have wf : ∀ ρ, σ.ok P I ρ → ∀ ck, cks P t = [ck] → ∃ v dd, WF P (roomB (id / 16)) (ρ g).c dd ck v ∧ ldC (ρ c).c (ρ q).p = some v ∧ ∃ cs tt, (ρ c).c (ρ q).p.1 = some (.cells cs tt (0, 0)) ∧ (ρ q).p.2 < cs.size := by
            intro ρ hok ck hck
            obtain ⟨w1, w2, w3, _⟩ := findWf_v hw hok.prs
            rw [hI.eq _ _ (by omega), std_wf w2, w3] at w1
            obtain ⟨v, dd, e1, e2, cs, tt, e3, e4⟩ := w1.ld (hkeq ρ hok) (j := 0) (ck := ck) (by rw [hck]; rfl)
            exact ⟨v, dd, e2, e1, cs, tt, e3, (Array.getElem?_eq_some_iff.1 e4).1⟩
          split at h
          · rename_i kd kd' e hck
            split at h
            · rename_i hke hu
              have hke' : kd = kd' := of_decide_eq_true hke
              subst hke'
              simp only [Option.some.injEq, Prod.mk.injEq] at h; obtain ⟨rfl, rfl⟩ := h
              refine store_zone hI hJ ho hx hy hi hi1 hz (fun hs => ⟨by simp, ?_, ?_⟩) ?_
              · have h1 : Sc σ.nx e.vars := by simpa only [DP.vars] using hysc hs
                intro f hf
                simp only [List.mem_cons, List.mem_nil_iff, or_false] at hf
                rcases hf with rfl | rfl
                · exact Lin.ax_sc (at4_sc (by omega)) (h1.mono (by omega))
                · exact Lin.ax_sc (h1.mono (by omega)) (at4_sc (by omega))
              · have h1 := hsq hs
                have h2 := htab hs
                intro f hf
                simp only [List.mem_cons, List.mem_nil_iff, or_false] at hf
                rcases hf with rfl | rfl <;> simp only [PF.vars, Sc.cons]
                · exact ⟨by omega, by omega, by omega, by omega, Sc.nil⟩
                · exact ⟨by omega, by omega, Sc.nil⟩
              · intro ρ hs hok hg
                simp only [gsV, G.v, Lin.addc_v, Lin.scale_v, and_true] at hg
                obtain ⟨v, dd, e1, e2, e3⟩ := wf ρ hok _ hck
                refine ⟨.int kd (e.v ρ), rfl, e3, up (up ρ σ.nx (vaN (e.v ρ))) (σ.nx + 1) (vaC (stC (ρ c).c (ρ q).p (.int kd (e.v ρ)))), ?_, ?_, by rw [up_same]; rfl, ?_, ?_⟩
                · exact (up_ag ρ σ.nx σ.nx _ (Nat.le_refl _)).trans (up_ag _ (σ.nx + 1) σ.nx _ (by omega)) (Nat.le_refl _)
                · exact (hok.g.up _ (vaN_ok (by have := kmin_ge (k := kd); omega) (by have := kmax_le hu; omega))).up _ (vaC_ok _)
                · have h1 : Sc σ.nx e.vars := by simpa only [DP.vars] using hysc hs
                  have ha := (up_ag ρ σ.nx σ.nx (vaN (e.v ρ)) (Nat.le_refl _)).trans (up_ag (up ρ σ.nx (vaN (e.v ρ))) (σ.nx + 1) σ.nx (vaC (stC (ρ c).c (ρ q).p (.int kd (e.v ρ)))) (by omega)) (Nat.le_refl _)
                  have hn : (up (up ρ σ.nx (vaN (e.v ρ))) (σ.nx + 1) (vaC (stC (ρ c).c (ρ q).p (.int kd (e.v ρ)))) σ.nx).n = e.v ρ := by rw [up_ne _ _ (by omega), up_same]; rfl
                  refine ⟨?_, ?_, trivial⟩ <;> rw [Lin.ax_v, Lin.at_v, atomV0, hn, Lin.ag ha h1] <;> omega
                · have ha := (up_ag ρ σ.nx σ.nx (vaN (e.v ρ)) (Nat.le_refl _)).trans (up_ag (up ρ σ.nx (vaN (e.v ρ))) (σ.nx + 1) σ.nx (vaC (stC (ρ c).c (ρ q).p (.int kd (e.v ρ)))) (by omega)) (Nat.le_refl _)
                  have hn : (up (up ρ σ.nx (vaN (e.v ρ))) (σ.nx + 1) (vaC (stC (ρ c).c (ρ q).p (.int kd (e.v ρ)))) σ.nx).n = e.v ρ := by rw [up_ne _ _ (by omega), up_same]; rfl
                  refine ⟨?_, ?_, trivial⟩
                  · simp only [PF.v, List.map_cons, List.map_nil]
                    rw [hI.eq _ _ (by omega), ha c (htab hs).2, ha q (hsq hs), up_same]
                    unfold stdB
                    have q1 : (16 * kNum kd + 7) % 16 = 7 := by omega
                    have q2 : (16 * kNum kd + 7) / 16 = kNum kd := by omega
                    simp only [q1, q2, hn]
                    exact ⟨kd, rfl, rfl⟩
                  · simp only [PF.v, List.map_cons, List.map_nil]
                    rw [hI.eq _ _ (by decide), std_keq, ha g (htab hs).1, up_same]
                    cases e1 with
                    | int _ _ n0 h1 h2 => exact (hkeq ρ hok).trans (KEq_st e2 (.inr (.inl ⟨kd, n0, e.v ρ, rfl, rfl, by omega, by omega⟩)))
            · cases h
          · rename_i f hck
            simp only [Option.some.injEq, Prod.mk.injEq] at h; obtain ⟨rfl, rfl⟩ := h
            refine store_zone hI hJ ho hx hy hi hi1 hz (fun hs => ⟨by simp, by simp, ?_⟩) ?_
            · have h1 := hsq hs
              have h2 := htab hs
              have h3 : Sc σ.nx f.vars := by simpa only [DP.vars] using hysc hs
              intro f' hf
              simp only [List.mem_cons, List.mem_nil_iff, or_false] at hf
              rcases hf with rfl | rfl | rfl
              · simp only [PF.vars, Sc.cons]; exact ⟨by omega, by omega, by omega, by omega, Sc.nil⟩
              · simp only [PF.vars, Sc.cons]; exact ⟨by omega, by omega, Sc.nil⟩
              · simp only [PF.vars, iffB, BF.vars, Sc.app, Sc.cons]
                exact ⟨⟨⟨by omega, Sc.nil⟩, h3.mono (by omega)⟩, ⟨by omega, Sc.nil⟩, h3.mono (by omega)⟩
            · intro ρ hs hok hg
              obtain ⟨v, dd, e1, e2, e3⟩ := wf ρ hok _ hck
              have h3 : Sc σ.nx f.vars := by simpa only [DP.vars] using hysc hs
              have ha := (up_ag ρ σ.nx σ.nx (vaB (f.v ρ)) (Nat.le_refl _)).trans (up_ag (up ρ σ.nx (vaB (f.v ρ))) (σ.nx + 1) σ.nx (vaC (stC (ρ c).c (ρ q).p (.bool (f.v ρ)))) (by omega)) (Nat.le_refl _)
              have hn : (up (up ρ σ.nx (vaB (f.v ρ))) (σ.nx + 1) (vaC (stC (ρ c).c (ρ q).p (.bool (f.v ρ)))) σ.nx).b = f.v ρ := by rw [up_ne _ _ (by omega), up_same]; rfl
              refine ⟨.bool (f.v ρ), rfl, e3, _, ha, (hok.g.up _ (vaB_ok _)).up _ (vaC_ok _), by rw [up_same]; rfl, trivial, ?_, ?_, ?_, trivial⟩
              · simp only [PF.v, List.map_cons, List.map_nil]
                rw [hI.eq _ _ (by decide), ha c (htab hs).2, ha q (hsq hs), up_same]
                show (stC (ρ c).c (ρ q).p (.bool (f.v ρ))) = stC (ρ c).c (ρ q).p (.bool (up (up ρ σ.nx (vaB (f.v ρ))) (σ.nx + 1) (vaC (stC (ρ c).c (ρ q).p (.bool (f.v ρ)))) σ.nx).b)
                rw [hn]
              · simp only [PF.v, List.map_cons, List.map_nil]
                rw [hI.eq _ _ (by decide), std_keq, ha g (htab hs).1, up_same]
                cases e1 with
                | bool _ b0 => exact (hkeq ρ hok).trans (KEq_st e2 (.inr (.inr (.inl ⟨b0, f.v ρ, rfl, rfl⟩))))
              · simp only [PF.v, iffB, BF.v, hn, BF.ag ha h3]
                cases f.v ρ <;> rfl
          · rename_i s hck
            simp only [Option.some.injEq, Prod.mk.injEq] at h; obtain ⟨rfl, rfl⟩ := h
            refine store_zone hI hJ ho hx hy hi hi1 hz (fun hs => ⟨by simp, by simp, ?_⟩) ?_
            · have h1 := hsq hs
              have h2 := htab hs
              have h3 : s < σ.nx := by have := hysc hs; simp only [DP.vars, SE.vars, Sc.cons] at this; exact this.1
              intro f' hf
              simp only [List.mem_cons, List.mem_nil_iff, or_false] at hf
              rcases hf with rfl | rfl <;> simp only [PF.vars, Sc.cons]
              · exact ⟨by omega, by omega, by omega, by omega, Sc.nil⟩
              · exact ⟨by omega, by omega, Sc.nil⟩
            · intro ρ hs hok hg
              obtain ⟨v, dd, e1, e2, e3⟩ := wf ρ hok _ hck
              have h3 : s < σ.nx := by have := hysc hs; simp only [DP.vars, SE.vars, Sc.cons] at this; exact this.1
              have ha := up_ag ρ σ.nx σ.nx (vaC (stC (ρ c).c (ρ q).p (.string (ρ s).s))) (Nat.le_refl _)
              refine ⟨.string (ρ s).s, rfl, e3, _, ha, hok.g.up _ (vaC_ok _), by rw [Nat.add_zero, up_same]; rfl, trivial, ?_, ?_, trivial⟩
              · simp only [PF.v, List.map_cons, List.map_nil]
                rw [hI.eq _ _ (by decide), ha c (htab hs).2, ha q (hsq hs), ha s h3, up_same]
                rfl
              · simp only [PF.v, List.map_cons, List.map_nil]
                rw [hI.eq _ _ (by decide), std_keq, ha g (htab hs).1, up_same]
                cases e1 with
                | str _ b0 hb => exact (hkeq ρ hok).trans (KEq_st e2 (.inr (.inr (.inr ⟨b0, (ρ s).s, rfl, rfl, hok.g.st s⟩))))
          · rename_i b hck
            split at h
            · rename_i hbl
              simp only [Option.some.injEq, Prod.mk.injEq] at h; obtain ⟨rfl, rfl⟩ := h
              refine store_zone hI hJ ho hx hy hi hi1 hz (fun hs => ⟨by simp, by simp, ?_⟩) ?_
              · have h1 := hsq hs
                have h2 := htab hs
                intro f' hf
                simp only [List.mem_cons, List.mem_nil_iff, or_false] at hf
                rcases hf with rfl | rfl | rfl
                · simp only [PF.vars, Sc.cons]; exact ⟨by omega, by omega, by omega, by omega, Sc.nil⟩
                · simp only [PF.vars, Sc.cons]; exact ⟨by omega, by omega, Sc.nil⟩
                · simp only [PF.vars, SE.vars, Sc.cons, Sc.app]; exact ⟨by omega, Sc.nil, Sc.nil⟩
              · intro ρ hs hok hg
                obtain ⟨v, dd, e1, e2, e3⟩ := wf ρ hok _ hck
                have hsz : (⟨b.toArray⟩ : ByteArray).size ≤ mostStr := by have := Nat.le_of_ble_eq_true hbl; simpa [ByteArray.size, mostStr] using this
                have ha := (up_ag ρ σ.nx σ.nx (vaS ⟨b.toArray⟩) (Nat.le_refl _)).trans (up_ag (up ρ σ.nx (vaS ⟨b.toArray⟩)) (σ.nx + 1) σ.nx (vaC (stC (ρ c).c (ρ q).p (.string ⟨b.toArray⟩))) (by omega)) (Nat.le_refl _)
                have hn : (up (up ρ σ.nx (vaS ⟨b.toArray⟩)) (σ.nx + 1) (vaC (stC (ρ c).c (ρ q).p (.string ⟨b.toArray⟩))) σ.nx).s = ⟨b.toArray⟩ := by rw [up_ne _ _ (by omega), up_same]; rfl
                refine ⟨.string ⟨b.toArray⟩, rfl, e3, _, ha, (hok.g.up _ (vaS_ok hsz)).up _ (vaC_ok _), by rw [up_same]; rfl, trivial, ?_, ?_, ?_, trivial⟩
                · simp only [PF.v, List.map_cons, List.map_nil]
                  rw [hI.eq _ _ (by decide), ha c (htab hs).2, ha q (hsq hs), up_same]
                  show (stC (ρ c).c (ρ q).p (.string ⟨b.toArray⟩)) = stC (ρ c).c (ρ q).p (.string (up (up ρ σ.nx (vaS ⟨b.toArray⟩)) (σ.nx + 1) (vaC (stC (ρ c).c (ρ q).p (.string ⟨b.toArray⟩))) σ.nx).s)
                  rw [hn]
                · simp only [PF.v, List.map_cons, List.map_nil]
                  rw [hI.eq _ _ (by decide), std_keq, ha g (htab hs).1, up_same]
                  cases e1 with
                  | str _ b0 hb => exact (hkeq ρ hok).trans (KEq_st e2 (.inr (.inr (.inr ⟨b0, ⟨b.toArray⟩, rfl, rfl, hsz⟩))))
                · simp only [PF.v, SE.v, hn]
                  apply ByteArray.ext
                  simp
            · cases h
          · cases h
        · cases h
      · cases h
    · cases h
  · cases h

end Go.TL
/- Lists of a zone. -/
namespace Go.TL

/-- what is known of a list's head -/
def findSl (h : Nat) : List PF → Option (Nat × Nat)
  | [] => none
  | .pr id [g, h'] :: r => match Nat.beq h h', Nat.beq (id % 16) 10 with
    | true, true => some (g, id)
    | _, _ => findSl h r
  | _ :: r => findSl h r
theorem findSl_v {I : Pr} {ρ : Ro} {h g id : Nat} : ∀ {l : List PF}, findSl h l = some (g, id) → prsV I ρ l → I id [ρ g, ρ h] ∧ id % 16 = 10
  | [], hf, _ => by simp [findSl] at hf
  | f :: r, hf, hv => by
    unfold findSl at hf
    split at hf
    · simp at *
    · rename_i id' g' p' r' heq
      simp only [List.cons.injEq] at heq
      obtain ⟨rfl, rfl⟩ := heq
      split at hf
      · rename_i h1 h2
        simp only [Option.some.injEq, Prod.mk.injEq] at hf; obtain ⟨rfl, rfl⟩ := hf
        have e1 := Nat.eq_of_beq_eq_true h1; subst e1
        exact ⟨by have := hv.1; simpa [PF.v] using this, Nat.eq_of_beq_eq_true h2⟩
      · exact findSl_v hf hv.2
    · rename_i heq
      simp only [List.cons.injEq] at heq
      obtain ⟨rfl, rfl⟩ := heq
      exact findSl_v hf hv.2
theorem std_sl {P : Program} {D : FuncId → Ds} {ms : Int → ByteArray} {id : Nat} {g h : Va} (h1 : id % 16 = 10) : stdB P D ms id [g, h] = ∃ d, WF P (roomB (id / 16)) g.c d (.sl (id / 32)) h.x := by
  unfold stdB; simp only [h1]

/-- a place, looked at -/
def dzNil (σ : DSt) (o : Oper) (x : Operand) : DR :=
  match dev σ x with
  | .rp q off => some (σ.put o.dst (.rp q off), [])
  | _ => none
theorem dzNil_good {P : Program} {I : Pr} {J : Ex} {σ σ' : DSt} {o : Oper} {x : Operand} {gs : List G} (ho : o.op = .nilCheck x) (h : dzNil σ o x = some (σ', gs)) : Good P I J σ o σ' gs := by
  unfold dzNil at h
  split at h
  · rename_i q off hx
    simp only [Option.some.injEq, Prod.mk.injEq] at h; obtain ⟨rfl, rfl⟩ := h
    refine good_put (fun hs => by have := hs.dev x; rw [hx] at this; exact this) fun ρ hs hok _ => ⟨⟨[], []⟩, [], ?_, trivial⟩
    unfold aop
    simp only [ho, opRawNil, dev_v, hx, DV.v, rawP, tr]
  · cases h

/-- a list's length -/
def dzLen (P : Program) (σ : DSt) (o : Oper) (x : Operand) (t : TypeId) : DR :=
  match dev σ x, P.underlying t with
  | .p (.raw h) _, some (.slice _) => match findSl h σ.prs with
    | some _ => some ((σ.grow 1 [] [Lin.scale (-1) (Lin.at (4 * σ.nx)), (Lin.at (4 * σ.nx)).addc (-2097152)] [.pr 11 [h, σ.nx]]).put o.dst (.p (.int .i64 (Lin.at (4 * σ.nx))) true), [])
    | none => none
  | _, _ => none
theorem dzLen_good {P : Program} {D : FuncId → Ds} {ms : Int → ByteArray} {I : Pr} {J : Ex} (hI : StdI P D ms I) {σ σ' : DSt} {o : Oper} {x : Operand} {t : TypeId} {gs : List G} (ho : o.op = .call { callee := .builtin .len, args := #[x], argTypes := #[t] })
    (hd : dzLen P σ o x t = some (σ', gs)) : Good P I J σ o σ' gs := by
  unfold dzLen at hd
  split at hd
  · rename_i h fr e hx hu
    split at hd
    · rename_i p hf
      obtain ⟨g, id⟩ := p
      simp only [Option.some.injEq, Prod.mk.injEq] at hd; obtain ⟨rfl, rfl⟩ := hd
      have hsh : σ.sc → h < σ.nx := fun hs => by have := hs.dev x; rw [hx] at this; simp only [DV.vars, DP.vars, Sc.cons] at this; exact this.1
      refine good_new (fun hs => by simp only [DV.vars, DP.vars]; exact at4_sc (Nat.lt_succ_self _)) (fun hs => ⟨by simp, ?_, ?_⟩) ?_
      · intro f hf
        simp only [List.mem_cons, List.mem_nil_iff, or_false] at hf
        rcases hf with rfl | rfl
        · exact Lin.scale_sc (at4_sc (Nat.lt_succ_self _))
        · exact Lin.addc_sc (at4_sc (Nat.lt_succ_self _))
      · intro f hf
        have := hsh hs
        simp only [List.mem_singleton] at hf; subst hf
        simp only [PF.vars, Sc.cons]; exact ⟨by omega, by omega, Sc.nil⟩
      · intro ρ hs hok _
        obtain ⟨w1, w2⟩ := findSl_v hf hok.prs
        rw [hI.eq _ _ (by omega), std_sl w2] at w1
        obtain ⟨d, w1⟩ := w1
        have main : ∃ (a : Option (Nat × Nat)) (n m : Nat), (ρ h).x = .slice (baseA a) n m ∧ n ≤ 2097152 ∧ rawS (.p (.v (ρ h).x) fr) = some (a, n, m) ∧ ∀ k, lenOf P (σ.v J ρ).tab t (.p (.v (ρ h).x) fr) = some k → k = n := by
          generalize (ρ h).x = v at w1 ⊢
          cases w1 with
          | nil => exact ⟨none, 0, 0, rfl, by omega, rfl, fun k hk => by simp only [lenOf, hu] at hk; simpa using hk.symm⟩
          | sl _ _ b o' len cap cs tt gg hb hle hl hm hc hw => exact ⟨some (b, o'), len, cap, rfl, hl, rfl, fun k hk => by simp [lenOf, hu] at hk⟩
        obtain ⟨a, n, m, e1, e2, e3, e4⟩ := main
        have ha := up_ag ρ σ.nx σ.nx (vaN n) (Nat.le_refl _)
        have hn : (up ρ σ.nx (vaN n) σ.nx).n = n := by rw [up_same]; rfl
        refine ⟨_, ha, hok.g.up _ (vaN_ok (by omega) (by omega)), trivial, ⟨?_, ?_, trivial⟩, ⟨?_, trivial⟩, ⟨[], []⟩, [], ?_, trivial⟩
        · rw [Lin.scale_v, Lin.at_v, atomV0, hn]; omega
        · rw [Lin.addc_v, Lin.at_v, atomV0, hn]; omega
        · simp only [PF.v, List.map_cons, List.map_nil]
          rw [hI.eq _ _ (by decide), ha h (hsh hs)]
          show ∃ a m, (ρ h).x = .slice a (up ρ σ.nx (vaN n) σ.nx).n.toNat m ∧ 0 ≤ (up ρ σ.nx (vaN n) σ.nx).n
          rw [hn]
          exact ⟨baseA a, m, by rw [e1]; simp, by omega⟩
        · have hev : ev (σ.v J ρ) x = .p (.v (ρ h).x) fr := by rw [dev_v, hx]; rfl
          unfold aop
          simp only [ho, lenArr_none noArr, opLen, opRawLen, hev, hu, e3, DV.v, DP.v, Lin.at_v, atomV0, hn]
          cases hl : lenOf P (σ.v J ρ).tab t (.p (.v (ρ h).x) fr) with
          | none => rfl
          | some k => have := e4 k hl; subst this; rfl
    · cases hd
  · cases hd


/-- the variable that tells a list's length -/
def findLen (h : Nat) : List PF → Option Nat
  | [] => none
  | .pr id [h', n] :: r => match Nat.beq h h', Nat.beq id 11 with
    | true, true => some n
    | _, _ => findLen h r
  | _ :: r => findLen h r
theorem findLen_v {I : Pr} {ρ : Ro} {h n : Nat} : ∀ {l : List PF}, findLen h l = some n → prsV I ρ l → I 11 [ρ h, ρ n]
  | [], hf, _ => by simp [findLen] at hf
  | f :: r, hf, hv => by
    unfold findLen at hf
    split at hf
    · simp at *
    · rename_i id' h' n' r' heq
      simp only [List.cons.injEq] at heq
      obtain ⟨rfl, rfl⟩ := heq
      split at hf
      · rename_i h1 h2
        simp only [Option.some.injEq] at hf; subst hf
        have e1 := Nat.eq_of_beq_eq_true h1; subst e1
        have e2 := Nat.eq_of_beq_eq_true h2; subst e2
        have := hv.1; simpa [PF.v] using this
      · exact findLen_v hf hv.2
    · rename_i heq
      simp only [List.cons.injEq] at heq
      obtain ⟨rfl, rfl⟩ := heq
      exact findLen_v hf hv.2
theorem findSl_mem {h g id : Nat} : ∀ {l : List PF}, findSl h l = some (g, id) → PF.pr id [g, h] ∈ l
  | [], hf => by simp [findSl] at hf
  | f :: r, hf => by
    unfold findSl at hf
    split at hf
    · simp at *
    · rename_i id' g' p' r' heq
      simp only [List.cons.injEq] at heq
      obtain ⟨rfl, rfl⟩ := heq
      split at hf
      · rename_i h1 h2
        simp only [Option.some.injEq, Prod.mk.injEq] at hf; obtain ⟨rfl, rfl⟩ := hf
        rw [Nat.eq_of_beq_eq_true h1]; exact List.mem_cons_self ..
      · exact List.mem_cons_of_mem _ (findSl_mem hf)
    · rename_i heq
      simp only [List.cons.injEq] at heq
      obtain ⟨rfl, rfl⟩ := heq
      exact List.mem_cons_of_mem _ (findSl_mem hf)

/-- an element's place -/
def dzIndex (P : Program) (σ : DSt) (o : Oper) (t : TypeId) (x ix : Operand) : DR :=
  match dev σ x, dInt (dev σ ix), P.underlying t with
  | .p (.raw h) _, some (_, n), some (.slice e) => match findSl h σ.prs, findLen h σ.prs, P.info? e with
    | some (g, id), some ln, some inf => match Nat.beq (id / 32) e, Nat.beq inf.size (cks P e).length with
      | true, true => some ((σ.grow 2 [] [(Lin.at (4 * σ.nx)).ax (-1) n, n.ax (-1) (Lin.at (4 * σ.nx))] [.pr (16 * inf.size + 13) [h, σ.nx, σ.nx + 1], .pr (32 * e + 16 * roomN id + 1) [g, σ.nx + 1]]).put o.dst (.rp (σ.nx + 1) 0),
          [nonneg n, .le ((n.ax (-1) (Lin.at (4 * ln))).addc 1)])
      | _, _ => none
    | _, _, _ => none
  | _, _, _ => none

theorem dzIndex_good {P : Program} {D : FuncId → Ds} {ms : Int → ByteArray} {I : Pr} {J : Ex} (hI : StdI P D ms I) {σ σ' : DSt} {o : Oper} {t : TypeId} {x ix : Operand} {gs : List G} (ho : o.op = .indexAddr t x ix)
    (hd : dzIndex P σ o t x ix = some (σ', gs)) : Good P I J σ o σ' gs := by
  unfold dzIndex at hd
  split at hd
  · rename_i h fr kk n e hx hn hu
    split at hd
    · rename_i g id ln inf hf hfl hi
      split at hd
      · rename_i h1 h2
        simp only [Option.some.injEq, Prod.mk.injEq] at hd; obtain ⟨rfl, rfl⟩ := hd
        have h1' := Nat.eq_of_beq_eq_true h1
        have h2' := Nat.eq_of_beq_eq_true h2
        have hsh : σ.sc → h < σ.nx := fun hs => by have := hs.dev x; rw [hx] at this; simp only [DV.vars, DP.vars, Sc.cons] at this; exact this.1
        have hsg : σ.sc → g < σ.nx := fun hs => by have := hs.prs _ (findSl_mem hf); simp only [PF.vars, Sc.cons] at this; exact this.1
        have hsn : σ.sc → Sc σ.nx n.vars := fun hs => dInt_sc hn (hs.dev ix)
        refine good_new (fun hs => by simp only [DV.vars, Sc.cons]; exact ⟨by omega, Sc.nil⟩) (fun hs => ⟨by simp, ?_, ?_⟩) ?_
        · intro f hf
          have := hsn hs
          simp only [List.mem_cons, List.mem_nil_iff, or_false] at hf
          rcases hf with rfl | rfl
          · exact Lin.ax_sc (at4_sc (by omega)) (this.mono (by omega))
          · exact Lin.ax_sc (this.mono (by omega)) (at4_sc (by omega))
        · intro f hf
          have := hsh hs
          have := hsg hs
          simp only [List.mem_cons, List.mem_nil_iff, or_false] at hf
          rcases hf with rfl | rfl <;> simp only [PF.vars, Sc.cons]
          · exact ⟨by omega, by omega, by omega, Sc.nil⟩
          · exact ⟨by omega, by omega, Sc.nil⟩
        · intro ρ hs hok hg
          simp only [gsV, nonneg, G.v, Lin.addc_v, Lin.ax_v, Lin.scale_v, Lin.at_v, atomV0, and_true] at hg
          obtain ⟨w1, w2⟩ := findSl_v hf hok.prs
          rw [hI.eq _ _ (by omega), std_sl w2, h1'] at w1
          obtain ⟨d, w1⟩ := w1
          have w3 := findLen_v hfl hok.prs
          rw [hI.eq _ _ (by decide)] at w3
          have w3 : ∃ a m, (ρ h).x = .slice a (ρ ln).n.toNat m ∧ 0 ≤ (ρ ln).n := w3
          obtain ⟨a0, m0, w3, w4⟩ := w3
          have main : ∃ (b o' len cap : Nat), (ρ h).x = .slice (some ⟨b, o', none⟩) len cap ∧ (n.v ρ) < (len : Int) ∧ len ≤ 2097152 ∧ WFat P (roomB (id / 16)) (ρ g).c e (b, o' + (n.v ρ).toNat * inf.size) := by
            generalize (ρ h).x = v at w1 w3 ⊢
            cases w1 with
            | nil =>
              simp only [Value.slice.injEq] at w3
              have := w3.2.1
              omega
            | sl dd _ b o' len cap cs tt gg hb hle hl hm hc hw =>
              simp only [Value.slice.injEq] at w3
              have hlen := w3.2.1
              refine ⟨b, o', len, cap, rfl, by omega, hl, cs, tt, hb, ?_⟩
              intro j ck hj
              have hlt : (n.v ρ).toNat < (if roomB (id / 16) then cap else len) := by split <;> omega
              refine ⟨gg (n.v ρ).toNat j, dd, ?_, hw _ hlt j ck hj⟩
              have := hc _ hlt j ck hj
              rw [h2']; exact this
          obtain ⟨b, o', len, cap, e1, e2, e3, e4⟩ := main
          have ha1 := up_ag ρ σ.nx σ.nx (vaN (n.v ρ)) (Nat.le_refl _)
          have ha := ha1.trans (up_ag (up ρ σ.nx (vaN (n.v ρ))) (σ.nx + 1) σ.nx (vaP (b, o' + (n.v ρ).toNat * inf.size)) (by omega)) (Nat.le_refl _)
          have hn1 : (up (up ρ σ.nx (vaN (n.v ρ))) (σ.nx + 1) (vaP (b, o' + (n.v ρ).toNat * inf.size)) σ.nx).n = n.v ρ := by rw [up_ne _ _ (by omega), up_same]; rfl
          have hp1 : (up (up ρ σ.nx (vaN (n.v ρ))) (σ.nx + 1) (vaP (b, o' + (n.v ρ).toNat * inf.size)) (σ.nx + 1)) = vaP (b, o' + (n.v ρ).toNat * inf.size) := up_same _ _ _
          refine ⟨_, ha, (hok.g.up _ (vaN_ok (by omega) (by omega))).up _ (vaP_ok _), trivial, ⟨?_, ?_, trivial⟩, ⟨?_, ?_, trivial⟩, ⟨[], []⟩, [0 ≤ n.v ρ ∧ n.v ρ < (len : Int)], ?_, ⟨⟨by omega, e2⟩, trivial⟩⟩
          · rw [Lin.ax_v, Lin.at_v, atomV0, hn1, Lin.ag ha (hsn hs)]; omega
          · rw [Lin.ax_v, Lin.at_v, atomV0, hn1, Lin.ag ha (hsn hs)]; omega
          · simp only [PF.v, List.map_cons, List.map_nil]
            rw [hI.eq _ _ (by omega), ha h (hsh hs), hp1]
            unfold stdB
            have q1 : (16 * inf.size + 13) % 16 = 13 := by omega
            have q2 : (16 * inf.size + 13) / 16 = inf.size := by omega
            simp only [q1, q2, hn1]
            exact ⟨b, o', len, cap, e1, rfl, by omega⟩
          · simp only [PF.v, List.map_cons, List.map_nil]
            rw [hI.eq _ _ (by omega), mkwf, ha g (hsg hs), hp1]
            exact e4
          · have hev : ev (σ.v J ρ) x = .p (.v (.slice (some ⟨b, o', none⟩) len cap)) fr := by rw [dev_v, hx]; simp only [DV.v, DP.v, e1]
            have hiv : intOf (ev (σ.v J ρ) ix) = some (n.v ρ) := by rw [dev_v]; exact (dInt_v hn).2
            have hiarr : opIndexArr P (σ.v J ρ) o t x ix = none := indexArr_none noArr
            unfold aop
            simp only [ho, hiarr, opRawIndex, hev, hiv, hu, rawS, hi, nt, DV.v, hp1]
            rfl
      · cases hd
    · cases hd
  · cases hd


def outD (σ : DSt) : DR → Outs
  | some (σ', gs) => some ([σ'], todo σ gs)
  | none => none
theorem outD_good {P : Program} {I : Pr} {J : Ex} {n : Nat} {σ : DSt} {o : Oper} {r : DR} {outs : List DSt} {q : List Seq} (h : outD σ r = some (outs, q)) (hV : Valid P I q) (hr : ∀ σ' gs, r = some (σ', gs) → GoodI P I J n σ o σ' gs) : StepGood P I J n o σ outs := by
  unfold outD at h
  split at h
  · rename_i σ' gs
    simp only [Option.some.injEq, Prod.mk.injEq] at h; obtain ⟨rfl, rfl⟩ := h
    exact goodI_step (hr σ' gs rfl) hV
  · cases h
theorem Good.toI {P : Program} {I : Pr} {J : Ex} {n : Nat} {σ σ' : DSt} {o : Oper} {gs : List G} (h : Good P I J σ o σ' gs) : GoodI P I J n σ o σ' gs := by
  intro hs
  obtain ⟨h1, h2, h3⟩ := h hs
  refine ⟨h1, h2, fun ρ hok hg => ?_⟩
  obtain ⟨ρ', ha, hok', H, s, ps, e1, e2, e3⟩ := h3 ρ hok hg
  exact ⟨ρ', ha, hok', H, s, ps, e1, e2, fun lo w0 E0 a w hh => e3.holds hh⟩

/-- operations at places of zones -/
def dzone (P : Program) (σ : DSt) (o : Oper) : Outs :=
  match o.op with
  | .fieldAddr s x f => outD σ (dzField P σ o s x f)
  | .load t x => outD σ (dzLoad P σ o t x)
  | .store t x y => outD σ (dzStore P σ o t x y)
  | .nilCheck x => outD σ (dzNil σ o x)
  | .indexAddr t x ix => outD σ (dzIndex P σ o t x ix)
  | .call ⟨.builtin .len, ⟨[x]⟩, ⟨[t]⟩⟩ => outD σ (dzLen P σ o x t)
  | _ => none
theorem dzone_good {P : Program} {D : FuncId → Ds} {ms : Int → ByteArray} {I : Pr} {J : Ex} {n : Nat} (hI : StdI P D ms I) (hJ : J = stdJ) : Handler P I J n (dzone P) := by
  intro σ o outs q h hV
  unfold dzone at h
  split at h
  · rename_i s x f ho; exact outD_good h hV fun σ' gs hr => (dzField_good hI ho hr).toI
  · rename_i t x ho; exact outD_good h hV fun σ' gs hr => (dzLoad_good hI hJ ho hr).toI
  · rename_i t x y ho; exact outD_good h hV fun σ' gs hr => dzStore_good hI hJ ho hr
  · rename_i x ho; exact outD_good h hV fun σ' gs hr => (dzNil_good ho hr).toI
  · rename_i t x ix ho; exact outD_good h hV fun σ' gs hr => (dzIndex_good hI ho hr).toI
  · rename_i x t ho; exact outD_good h hV fun σ' gs hr => (dzLen_good hI ho hr).toI
  · cases h

end Go.TL
/- Long lists of one's own: not typed. -/
namespace Go.TL

def dAppendL (P : Program) (σ : DSt) (o : Oper) (s x : Operand) (t : TypeId) : DR :=
  match o.dst, sliceElem P t with
  | some d, some (e, i) => match dbase σ d (dev σ s), dsrc σ (dev σ x), i.zero with
    | some (a, fr, k, ts), some (b, fr2), some z => match lk (rm σ.tab k) d, Nat.beq z.cells.size i.size, Nat.beq i.size 0, tsOk σ d e i ts, okElem P σ e i b && Nat.ble (1099511627776 * max i.bytes 1) 140737488355328 with
      | none, true, false, true, true => some ((σ.grow 1 [] (appLin σ.nx a b) [.app σ.nx a b]).re k d (.vec e i.size (some σ.nx) (fr && fr2)), [.le (((lvLen a).ax 1 (lvLen b)).addc (-1099511627776))])
      | _, _, _, _, _ => none
    | _, _, _ => none
  | _, _ => none

theorem dAppendL_good {P : Program} {I : Pr} {J : Ex} {σ σ' : DSt} {o : Oper} {s x : Operand} {t : TypeId} {gs : List G} (ho : o.op = .call { callee := .builtin .append, args := #[s, x], argTypes := #[t, t] })
    (h : dAppendL P σ o s x t = some (σ', gs)) : Good P I J σ o σ' gs := by
  unfold dAppendL at h
  split at h
  · rename_i d e i hd hse
    split at h
    · rename_i a fr k ts b fr2 z hb hsr hz
      split at h
      · rename_i hfree hzs hsz hts hall
        simp only [Bool.and_eq_true] at hall
        obtain ⟨hob, hroom⟩ := hall
        simp only [Option.some.injEq, Prod.mk.injEq] at h; obtain ⟨rfl, rfl⟩ := h
        have asc : σ.sc → Sc σ.nx (lvVars a) := fun hs => dbase_sc hs hb
        have bsc : σ.sc → Sc σ.nx (lvVars b) := fun hs => dsrc_sc hs (hs.dev x) hsr
        refine good_re (fun hs => by simp only [DO.vars, lvVars, Sc.cons]; exact ⟨Nat.lt_succ_self _, Sc.nil⟩) (fun hs => ⟨by simp, fun q hq => ?_, fun f hf => ?_⟩) ?_
        · have a1 := (lvLen_sc (asc hs)).mono (Nat.le_succ σ.nx)
          have a2 := (lvLen_sc (bsc hs)).mono (Nat.le_succ σ.nx)
          have a3 := (lvRsz_sc (asc hs)).mono (Nat.le_succ σ.nx)
          have a4 := (lvRsz_sc (bsc hs)).mono (Nat.le_succ σ.nx)
          have n1 : Sc (σ.nx + 1) (Lin.at (4 * σ.nx + 1)).vars := Lin.at_sc (by omega)
          have n2 : Sc (σ.nx + 1) (Lin.at (4 * σ.nx + 2)).vars := Lin.at_sc (by omega)
          simp only [appLin, List.mem_cons, List.mem_nil_iff, or_false] at hq
          rcases hq with rfl | rfl | rfl | rfl
          · exact Lin.ax_sc (Lin.ax_sc n1 a1) a2
          · exact Lin.ax_sc (Lin.ax_sc a1 a2) n1
          · exact Lin.ax_sc (Lin.ax_sc n2 a3) a4
          · exact Lin.ax_sc (Lin.ax_sc a3 a4) n2
        · simp only [List.mem_singleton] at hf; subst hf
          simp only [PF.vars, Sc.cons, Sc.app]
          exact ⟨Nat.lt_succ_self _, (asc hs).mono (Nat.le_succ _), (bsc hs).mono (Nat.le_succ _)⟩
        · intro ρ hs hok hg
          simp only [gsV, G.v, Lin.addc_v, Lin.ax_v, lvLen_v, and_true] at hg
          obtain ⟨tb, lb⟩ := okElem_v hok hob
          have hlen : (lvV ρ a ++ lvV ρ b).length ≤ mostVar := by rw [List.length_append]; unfold mostVar; omega
          have hroom' := Nat.le_of_ble_eq_true hroom
          refine ⟨up ρ σ.nx (vaL (lvV ρ a ++ lvV ρ b)), up_ag _ _ _ _ (Nat.le_refl _), hok.g.up _ (vaV_ok hlen), trivial, ?_, ?_, ⟨[], []⟩, [(∀ row ∈ lvV ρ b, row.length = i.size) ∧ ((lvV ρ a).length + (lvV ρ b).length) * max i.bytes 1 ≤ 140737488355328], ?_, ⟨⟨lb, ?_⟩, trivial⟩⟩
          · have ha := up_ag ρ σ.nx σ.nx (vaL (lvV ρ a ++ lvV ρ b)) (Nat.le_refl _)
            have hn : ((up ρ σ.nx (vaL (lvV ρ a ++ lvV ρ b))) σ.nx).l = lvV ρ a ++ lvV ρ b := by rw [up_same]; rfl
            have e1 := lv_ag ha (asc hs)
            have e2 := lv_ag ha (bsc hs)
            refine ⟨?_, ?_, ?_, ?_, trivial⟩ <;> simp only [Lin.ax_v, Lin.at_v, atomV1, atomV2, hn, lvLen_v, lvRsz_v, e1, e2, List.length_append, rsz_append] <;> omega
          · have ha := up_ag ρ σ.nx σ.nx (vaL (lvV ρ a ++ lvV ρ b)) (Nat.le_refl _)
            have hn : ((up ρ σ.nx (vaL (lvV ρ a ++ lvV ρ b))) σ.nx).l = lvV ρ a ++ lvV ρ b := by rw [up_same]; rfl
            refine ⟨?_, trivial⟩
            simp only [PF.v, hn, lv_ag ha (asc hs), lv_ag ha (bsc hs)]
          · have hn : ((up ρ σ.nx (vaL (lvV ρ a ++ lvV ρ b))) σ.nx).l = lvV ρ a ++ lvV ρ b := by rw [up_same]; rfl
            have hn' : lvV (up ρ σ.nx (vaL (lvV ρ a ++ lvV ρ b))) (some σ.nx) = lvV ρ a ++ lvV ρ b := hn
            have h1 := dbase_v (J := J) ρ hb
            have h2 := dsrc_v (J := J) ρ hsr
            unfold aop
            simp only [ho, Nat.beq_refl, appendArr_none noArr, opAppend, hd, hse, dev_v, h1, h2, hz, rm_none hfree, hzs, hsz]
            cases ts with
            | some p => simp only [tsOk] at hts; simp only [hts, nt, DO.v, hn']
            | none =>
              have hts' : (lk (σ.v J ρ).tab d).isNone = true := by
                simp only [tsOk] at hts; simp only [DSt.v, lk_tabV]; cases hq : lk σ.tab d with
                | none => rfl
                | some _ => simp [hq] at hts
              simp only [hts', nt, DO.v, hn']
          · refine Nat.le_trans (Nat.mul_le_mul_right _ ?_) hroom'
            omega
      · cases h
    · cases h
  · cases h

end Go.TL
/- Truths compared. -/
namespace Go.TL

theorem bool_neq {C : Ctx} {E : Env} {σ : St} {a : Act} {w : World} {o : Oper} {tx ty : TypeId} {x y : Operand} {b c : Bool} (ho : o.op = .binOp .neq tx x y ty) (hu : C.P.underlying tx = some .bool) (ex : a.eval x = .bool b) (ey : a.eval y = .bool c) (h : HoldsE C E σ a w) (hd : DstOk C o) :
    OpOut C o (σ.put o.dst (.p (.v (.bool (b != c))) true)) a w := by
  refine out_pure h hd (v := .bool (b != c)) ?_ (VR_v true rfl)
  refine exec_bin ho (by rw [ex]; simp [eqGuard]) ?_
  rw [ex, ey]
  simp only [binOp, Sem.run_bind, run_equal_bool w tx b c hu, Result.andThen_ok, Sem.run_pure]
  cases b <;> cases c <;> rfl
theorem bool_eql {C : Ctx} {E : Env} {σ : St} {a : Act} {w : World} {o : Oper} {tx ty : TypeId} {x y : Operand} {b c : Bool} (ho : o.op = .binOp .eql tx x y ty) (hu : C.P.underlying tx = some .bool) (ex : a.eval x = .bool b) (ey : a.eval y = .bool c) (h : HoldsE C E σ a w) (hd : DstOk C o) :
    OpOut C o (σ.put o.dst (.p (.v (.bool (b == c))) true)) a w := by
  refine out_pure h hd (v := .bool (b == c)) ?_ (VR_v true rfl)
  refine exec_bin ho (by rw [ex]; simp [eqGuard]) ?_
  rw [ex, ey]
  simp only [binOp, Sem.run_bind, run_equal_bool w tx b c hu, Result.andThen_ok, Sem.run_pure]

def sameB (f g : BF) : BF := .or (.and f g) (.and (.not f) (.not g))
theorem sameB_v (ρ : Ro) (f g : BF) : (sameB f g).v ρ = (f.v ρ == g.v ρ) := by simp only [sameB, BF.v]; cases f.v ρ <;> cases g.v ρ <;> rfl
def isBoolT (P : Program) (t : TypeId) : Bool := match P.underlying t with | some .bool => true | _ => false
theorem isBoolT_eq {P : Program} {t : TypeId} (h : isBoolT P t = true) : P.underlying t = some .bool := by
  unfold isBoolT at h; split at h
  · assumption
  · cases h
def dcmpB (P : Program) (σ : DSt) (o : Oper) : Outs :=
  match o.op with
  | .binOp op tx x y _ => match isBoolT P tx, dbool σ x, dbool σ y with
    | true, some f, some g => match op with
      | .eql => some ([σ.put o.dst (.p (.bl (sameB f g)) true)], [])
      | .neq => some ([σ.put o.dst (.p (.bl (.not (sameB f g))) true)], [])
      | _ => none
    | _, _, _ => none
  | _ => none
theorem dcmpB_good {P : Program} {I : Pr} {J : Ex} {n : Nat} : Handler P I J n (dcmpB P) := by
  intro σ o outs q h hV hs
  unfold dcmpB at h
  split at h
  · rename_i op tx x y ty ho
    split at h
    · rename_i f g hb hf hg
      have hu := isBoolT_eq hb
      have sf := dbool_sc hs hf
      have sg := dbool_sc hs hg
      have ssc : Sc σ.nx (sameB f g).vars := by simp only [sameB, BF.vars, Sc.app]; exact ⟨⟨sf, sg⟩, sf, sg⟩
      have step : ∀ (r : BF) (hr : Sc σ.nx r.vars), (∀ ρ, ∀ C : Ctx, C.P = P → ∀ E a w, HoldsE C E (σ.v J ρ) a w → DstOk C o → OpOut C o ((σ.v J ρ).put o.dst (.p (.v (.bool (r.v ρ))) true)) a w) →
          (∀ σ' ∈ [σ.put o.dst (.p (.bl r) true)], σ'.sc ∧ σ.nx ≤ σ'.nx) ∧ ∀ ρ, σ.ok P I ρ → ∀ (K : Act → World → Prop) (Q : Exit → Act → World → Prop) (lo : Nat) (w0 : World) (E0 : Env),
            (∀ σ' ∈ [σ.put o.dst (.p (.bl r) true)], ∀ ρ', Agree σ.nx ρ ρ' → σ'.ok P I ρ' → ∀ a' w', Holds (mkC P n lo w0 E0) (σ'.v J ρ') a' w' → K a' w') →
            ∀ a w, Holds (mkC P n lo w0 E0) (σ.v J ρ) a w → (∀ d, o.dst = some d → d < n) → o.wp P a w K Q := by
        intro r hr hrun
        refine ⟨?_, ?_⟩
        · intro σ' hσ'
          simp only [List.mem_singleton] at hσ'; subst hσ'
          exact ⟨hs.put o.dst (by simpa [DV.vars, DP.vars] using hr), by rw [dput_nx]; exact Nat.le_refl _⟩
        · intro ρ hok K Q lo w0 E0 hK a w ⟨E, hh⟩ hd
          obtain ⟨v, w', hx, hH⟩ := hrun ρ (mkC P n lo w0 E0) rfl E a w hh hd
          unfold Oper.wp
          have hH' : Holds (mkC P n lo w0 E0) ((σ.put o.dst (.p (.bl r) true)).v J ρ) (a.put o.dst v) w' := by rw [dput_v]; exact hH
          rcases hx with hx | ⟨hx, rfl⟩
          · change Sem.run P _ _ = _ at hx
            rw [hx]; exact hK _ (by simp) ρ (Agree.refl _ _) (hok.put _ _) _ _ hH'
          · change Sem.run P _ _ = _ at hx
            rw [hx]; exact hK _ (by simp) ρ (Agree.refl _ _) (hok.put _ _) _ _ hH'
      split at h
      · simp only [Option.some.injEq, Prod.mk.injEq] at h; obtain ⟨rfl, rfl⟩ := h
        refine step _ ssc fun ρ C hC E a w hh hd => ?_
        have := bool_eql ho (by rw [hC]; exact hu) (boolOp_ev ⟨E, hh⟩ (dbool_v ρ hf)) (boolOp_ev ⟨E, hh⟩ (dbool_v ρ hg)) hh hd
        rw [sameB_v]; exact this
      · simp only [Option.some.injEq, Prod.mk.injEq] at h; obtain ⟨rfl, rfl⟩ := h
        refine step _ ssc fun ρ C hC E a w hh hd => ?_
        have := bool_neq ho (by rw [hC]; exact hu) (boolOp_ev ⟨E, hh⟩ (dbool_v ρ hf)) (boolOp_ev ⟨E, hh⟩ (dbool_v ρ hg)) hh hd
        simp only [BF.v, sameB_v]; exact this
      · cases h
    · cases h
  · cases h

end Go.TL
