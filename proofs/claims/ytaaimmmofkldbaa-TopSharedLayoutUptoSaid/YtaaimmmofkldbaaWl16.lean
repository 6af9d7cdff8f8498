/- Operations on numbers, truths, strings. -/
import Derived.Test.YtaaimmmofkldbaaWl15
import Derived.Laws.Strings
namespace Go.TL
def fuel : Nat := 8
def budget : Nat := 10
def provesQ (fs : List Lin) (e : Lin) : Bool :=
  match direct e fs with
  | true => true
  | false => (proveL fs fuel 1 budget e).1
def provesLe (σ : DSt) (e : Lin) : Bool :=
  match provesQ σ.lin e with
  | true => true
  | false => certAny σ.tys σ.lin e σ.hc
theorem provesLe_v {P : Program} {I : Pr} {σ : DSt} {ρ : Ro} {e : Lin} (hok : σ.ok P I ρ) (h : provesLe σ e = true) : e.v ρ ≤ 0 := by
  have hf : ∀ f ∈ σ.lin, f.v ρ ≤ 0 := fun _ hf => linsV_mem hok.lin hf
  unfold provesLe at h
  split at h
  · rename_i hq
    unfold provesQ at hq
    split at hq
    · rename_i hd; exact direct_le hf hd
    · exact proveL_le hok.g σ.lin hf fuel 1 budget e hq
  · exact certAny_le hok.tys hok.g hf h
def fitsK (σ : DSt) (k : IntKind) (e : Lin) : Bool :=
  match provesLe σ (e.addc (-k.max)) with
  | true => provesLe σ ((Lin.scale (-1) e).addc k.min)
  | false => false
theorem wrap_fits {k : IntKind} {n : Int} (h1 : k.min ≤ n) (h2 : n ≤ k.max) : k.wrap n = n := by
  cases k <;> simp [IntKind.min, IntKind.max, IntKind.bits, IntKind.signed] at h1 h2 <;> simp [IntKind.wrap, IntKind.bits, IntKind.signed] <;> omega
theorem wrap_rng (k : IntKind) (n : Int) : k.min ≤ k.wrap n ∧ k.wrap n ≤ k.max := by
  cases k <;> simp [IntKind.min, IntKind.max, IntKind.wrap, IntKind.bits, IntKind.signed] <;> omega
theorem fitsK_v {P : Program} {I : Pr} {σ : DSt} {ρ : Ro} {k : IntKind} {e : Lin} (hok : σ.ok P I ρ) (h : fitsK σ k e = true) : k.wrap (e.v ρ) = e.v ρ := by
  unfold fitsK at h
  split at h
  · rename_i h1
    have a := provesLe_v hok h1
    have b := provesLe_v hok h
    rw [Lin.addc_v] at a
    rw [Lin.addc_v, Lin.scale_v] at b
    exact wrap_fits (by omega) (by omega)
  · cases h
def kLin (k : IntKind) (n : Nat) : List Lin :=
  match is64 k with
  | true => []
  | false => [(Lin.at (4 * n)).addc (-k.max), (Lin.scale (-1) (Lin.at (4 * n))).addc k.min]
theorem at4_sc {m n : Nat} (h : n < m) : Sc m (Lin.at (4 * n)).vars := Lin.at_sc (by omega)
theorem kLin_sc {k : IntKind} {n : Nat} : ∀ e ∈ kLin k n, Sc (n + 1) e.vars := by
  intro e he
  unfold kLin at he
  split at he
  · simp at he
  · simp only [List.mem_cons, List.mem_nil_iff, or_false] at he
    rcases he with rfl | rfl
    · exact Lin.addc_sc (at4_sc (Nat.lt_succ_self n))
    · exact Lin.addc_sc (Lin.scale_sc (at4_sc (Nat.lt_succ_self n)))
theorem kLin_v {ρ : Ro} {k : IntKind} {n : Nat} (h1 : k.min ≤ (ρ n).n) (h2 : (ρ n).n ≤ k.max) : linsV ρ (kLin k n) := by
  unfold kLin
  split
  · trivial
  · refine ⟨?_, ?_, trivial⟩
    · rw [Lin.addc_v, Lin.at_v, atomV0]; omega
    · rw [Lin.addc_v, Lin.scale_v, Lin.at_v, atomV0]; omega
theorem growN_sc {σ : DSt} {lin : List Lin} {prs : List PF} (h1 : ∀ e ∈ lin, Sc (σ.nx + 1) e.vars) (h2 : ∀ f ∈ prs, Sc (σ.nx + 1) f.vars) : GrowSc (σ.nx + 1) [] lin prs := ⟨by simp, h1, h2⟩
theorem good_int {P : Program} {I : Pr} {J : Ex} {σ : DSt} {o : Oper} {k : IntKind} {gs : List G} {lin : List Lin} (hk : isU64 k = false) (hl : σ.sc → ∀ e ∈ lin, Sc (σ.nx + 1) e.vars)
    (h : ∀ ρ, σ.sc → σ.ok P I ρ → gsV I ρ gs → ∃ z : Int, k.min ≤ z ∧ z ≤ k.max ∧ (∀ ρ', ρ' = up ρ σ.nx (vaN z) → linsV ρ' lin) ∧
      ∃ (H : Hint) (ps : List Prop), aop P H (σ.v J ρ) o = some ((σ.v J ρ).put o.dst (.p (.v (.int k z)) true), ps) ∧ allP ps) :
    Good P I J σ o ((σ.grow 1 [] (kLin k σ.nx ++ lin) []).put o.dst (.p (.int k (Lin.at (4 * σ.nx))) true)) gs := by
  refine good_new (fun hs => by simp only [DV.vars, DP.vars]; exact at4_sc (Nat.lt_succ_self _)) (fun hs => growN_sc (fun e he => ?_) (by simp)) ?_
  · rcases List.mem_append.1 he with he | he
    · exact kLin_sc e he
    · exact hl hs e he
  · intro ρ hs hok hg
    obtain ⟨z, h1, h2, h3, H, ps, h4, h5⟩ := h ρ hs hok hg
    have hv : VaOk (vaN z) := vaN_ok (Int.le_trans kmin_ge h1) (Int.le_trans h2 (kmax_le hk))
    have hn : (up ρ σ.nx (vaN z) σ.nx).n = z := by rw [up_same]; rfl
    refine ⟨up ρ σ.nx (vaN z), up_ag _ _ _ _ (Nat.le_refl _), hok.g.up _ hv, trivial, linsV_append (kLin_v (by rw [hn]; exact h1) (by rw [hn]; exact h2)) (h3 _ rfl), trivial, H, ps, ?_, h5⟩
    rw [h4]
    simp [DV.v, DP.v, Lin.at_v, atomV0, hn]
theorem good_bool {P : Program} {I : Pr} {J : Ex} {σ : DSt} {o : Oper} {gs : List G}
    (h : ∀ ρ, σ.sc → σ.ok P I ρ → gsV I ρ gs → ∃ z : Bool, ∃ (H : Hint) (ps : List Prop), aop P H (σ.v J ρ) o = some ((σ.v J ρ).put o.dst (.p (.v (.bool z)) true), ps) ∧ allP ps) :
    Good P I J σ o ((σ.grow 1 [] [] []).put o.dst (.p (.bl (.var σ.nx)) true)) gs := by
  refine good_new (fun hs => by simp only [DV.vars, DP.vars, BF.vars, Sc.cons]; exact ⟨Nat.lt_succ_self _, Sc.nil⟩) (fun hs => growN_sc (by simp) (by simp)) ?_
  intro ρ hs hok hg
  obtain ⟨z, H, ps, h4, h5⟩ := h ρ hs hok hg
  have hn : (up ρ σ.nx (vaB z) σ.nx).b = z := by rw [up_same]; rfl
  refine ⟨up ρ σ.nx (vaB z), up_ag _ _ _ _ (Nat.le_refl _), hok.g.up _ (vaB_ok z), trivial, trivial, trivial, H, ps, ?_, h5⟩
  rw [h4]
  simp [DV.v, DP.v, BF.v, hn]
theorem good_str {P : Program} {I : Pr} {J : Ex} {σ : DSt} {o : Oper} {gs : List G} {lin : List Lin} {prs : List PF} (hl : σ.sc → ∀ e ∈ lin, Sc (σ.nx + 1) e.vars) (hp : σ.sc → ∀ f ∈ prs, Sc (σ.nx + 1) f.vars)
    (h : ∀ ρ, σ.sc → σ.ok P I ρ → gsV I ρ gs → ∃ z : ByteArray, z.size ≤ mostStr ∧ (∀ ρ', ρ' = up ρ σ.nx (vaS z) → linsV ρ' lin ∧ prsV I ρ' prs) ∧
      ∃ (H : Hint) (ps : List Prop), aop P H (σ.v J ρ) o = some ((σ.v J ρ).put o.dst (.p (.v (.string z)) true), ps) ∧ allP ps) :
    Good P I J σ o ((σ.grow 1 [] lin prs).put o.dst (.p (.st (.var σ.nx)) true)) gs := by
  refine good_new (fun hs => by simp only [DV.vars, DP.vars, SE.vars, Sc.cons]; exact ⟨Nat.lt_succ_self _, Sc.nil⟩) (fun hs => growN_sc (hl hs) (hp hs)) ?_
  intro ρ hs hok hg
  obtain ⟨z, h1, h3, H, ps, h4, h5⟩ := h ρ hs hok hg
  have hn : (up ρ σ.nx (vaS z) σ.nx).s = z := by rw [up_same]; rfl
  obtain ⟨q1, q2⟩ := h3 _ rfl
  refine ⟨up ρ σ.nx (vaS z), up_ag _ _ _ _ (Nat.le_refl _), hok.g.up _ (vaS_ok h1), trivial, q1, q2, H, ps, ?_, h5⟩
  rw [h4]
  simp [DV.v, DP.v, SE.v, hn]
def linLit (e : Lin) : Option Int := match e.t with | [] => some e.c | _ => none
theorem linLit_v {ρ : Ro} {e : Lin} {z : Int} (h : linLit e = some z) : e.v ρ = z := by
  unfold linLit at h
  split at h
  · rename_i ht; simp only [Option.some.injEq] at h; subst h; unfold Lin.v; rw [ht]; simp [sumV]
  · cases h
def darith (op : BinOp) (a b : Lin) : Option Lin :=
  match op with
  | .add => some (a.ax 1 b)
  | .sub => some (a.ax (-1) b)
  | .mul => match linLit a, linLit b with
    | some z, _ => some (Lin.scale z b)
    | _, some z => some (Lin.scale z a)
    | _, _ => none
  | _ => none
theorem darith_v {ρ : Ro} {op : BinOp} {a b e : Lin} (h : darith op a b = some e) : arith op (a.v ρ) (b.v ρ) = some (e.v ρ) := by
  cases op <;> simp only [darith, Option.some.injEq, reduceCtorEq] at h
  · subst h; simp [arith, Lin.ax_v]
  · subst h; simp only [arith, Lin.ax_v]; congr 1; omega
  · split at h
    · rename_i z hz; simp only [Option.some.injEq] at h; subst h; simp [arith, Lin.scale_v, linLit_v hz]
    · rename_i z hz _; simp only [Option.some.injEq] at h; subst h; simp only [arith, Lin.scale_v, linLit_v hz, Int.mul_comm]
    · cases h
theorem darith_sc {n : Nat} {op : BinOp} {a b e : Lin} (h : darith op a b = some e) (ha : Sc n a.vars) (hb : Sc n b.vars) : Sc n e.vars := by
  cases op <;> simp only [darith, Option.some.injEq, reduceCtorEq] at h
  · subst h; exact Lin.ax_sc ha hb
  · subst h; exact Lin.ax_sc ha hb
  · split at h
    · simp only [Option.some.injEq] at h; subst h; exact Lin.scale_sc hb
    · simp only [Option.some.injEq] at h; subst h; exact Lin.scale_sc ha
    · cases h
def dicmp (op : BinOp) (a b : Lin) : Option BF :=
  match op with
  | .eql => some (.eq (a.ax (-1) b))
  | .neq => some (.not (.eq (a.ax (-1) b)))
  | .lss => some (.le ((a.ax (-1) b).addc 1))
  | .leq => some (.le (a.ax (-1) b))
  | .gtr => some (.le ((b.ax (-1) a).addc 1))
  | .geq => some (.le (b.ax (-1) a))
  | _ => none
theorem dicmp_v {ρ : Ro} {op : BinOp} {a b : Lin} {f : BF} (h : dicmp op a b = some f) : icmp op (a.v ρ) (b.v ρ) = some (f.v ρ) := by
  cases op <;> simp only [dicmp, Option.some.injEq, reduceCtorEq] at h <;> subst h <;> simp only [icmp, BF.v, Lin.ax_v, Lin.addc_v, Option.some.injEq] <;> rw [Bool.eq_iff_iff] <;> simp <;> omega
theorem dicmp_sc {n : Nat} {op : BinOp} {a b : Lin} {f : BF} (h : dicmp op a b = some f) (ha : Sc n a.vars) (hb : Sc n b.vars) : Sc n f.vars := by
  cases op <;> simp only [dicmp, Option.some.injEq, reduceCtorEq] at h <;> subst h <;> simp only [BF.vars]
  · exact Lin.ax_sc ha hb
  · exact Lin.ax_sc ha hb
  · exact Lin.addc_sc (Lin.ax_sc ha hb)
  · exact Lin.ax_sc ha hb
  · exact Lin.addc_sc (Lin.ax_sc hb ha)
  · exact Lin.ax_sc hb ha
def simpB (f : BF) : BF :=
  match f with
  | .le e => match e.t with | [] => .lit (leZ e.c) | _ => f
  | .eq e => match e.t with | [] => .lit (isZ e.c) | _ => f
  | .not (.eq e) => match e.t with | [] => .lit (!isZ e.c) | _ => f
  | f => f
theorem leZ_iff (z : Int) : leZ z = decide (z ≤ 0) := by
  cases z with
  | ofNat n => simp only [leZ]; rw [Bool.eq_iff_iff]; simp [Nat.beq_eq]
  | negSucc n => simp [leZ]; omega
theorem isZ_iff (z : Int) : isZ z = decide (z = 0) := by
  cases z with
  | ofNat n => simp only [isZ]; rw [Bool.eq_iff_iff]; simp [Nat.beq_eq]
  | negSucc n => simp [isZ]
theorem simpB_v (ρ : Ro) (f : BF) : (simpB f).v ρ = f.v ρ := by
  unfold simpB
  split
  · rename_i e; split
    · rename_i h; simp [BF.v, Lin.v, h, sumV, leZ_iff]
    · rfl
  · rename_i e; split
    · rename_i h; simp [BF.v, Lin.v, h, sumV, isZ_iff]
    · rfl
  · rename_i e; split
    · rename_i h; simp [BF.v, Lin.v, h, sumV, isZ_iff]
    · rfl
  · rfl
theorem simpB_sc {n : Nat} {f : BF} (h : Sc n f.vars) : Sc n (simpB f).vars := by
  unfold simpB
  split
  · split
    · exact Sc.nil
    · exact h
  · split
    · exact Sc.nil
    · exact h
  · split
    · exact Sc.nil
    · exact h
  · exact h
def dStr : DV → Option SE
  | .p (.st e) _ => some e
  | _ => none
theorem dStr_v {ρ : Ro} {x : DV} {e : SE} (h : dStr x = some e) : isStr (x.v ρ) = some (e.v ρ) ∧ isInt (x.v ρ) = none := by
  unfold dStr at h
  split at h
  · simp only [Option.some.injEq] at h; subst h; simp [DV.v, DP.v, isStr, isInt]
  · cases h
theorem dStr_sc {n : Nat} {x : DV} {e : SE} (h : dStr x = some e) (hx : Sc n x.vars) : Sc n e.vars := by
  unfold dStr at h
  split at h
  · simp only [Option.some.injEq] at h; subst h; simpa [DV.vars, DP.vars] using hx
  · cases h
def seSize : SE → Lin
  | .lit b => Lin.lit (b.length : Int)
  | .var k => Lin.at (4 * k + 3)
theorem seSize_v (ρ : Ro) (e : SE) : (seSize e).v ρ = ((e.v ρ).size : Int) := by
  cases e with
  | lit b => simp [seSize, Lin.lit_v, SE.v, ByteArray.size]
  | var k => simp [seSize, Lin.at_v, atomV3, SE.v]
theorem seSize_sc {n : Nat} {e : SE} (h : Sc n e.vars) : Sc n (seSize e).vars := by
  cases e with
  | lit b => exact Lin.lit_sc
  | var k => simp only [SE.vars, Sc.cons] at h; exact Lin.at_sc (by omega)
def bytesEq : List UInt8 → List UInt8 → Bool
  | [], [] => true
  | a :: r, b :: s => match Nat.beq a.toNat b.toNat with | true => bytesEq r s | false => false
  | _, _ => false
def dArith (σ : DSt) (o : Oper) (op : BinOp) (k : IntKind) (a b : Lin) : DR :=
  match darith op a b with
  | some e => match fitsK σ k e with
    | true => some (σ.put o.dst (.p (.int k e) true), [])
    | false => match isU64 k with
      | false => some ((σ.grow 1 [] (kLin k σ.nx ++ []) []).put o.dst (.p (.int k (Lin.at (4 * σ.nx))) true), [])
      | true => none
  | none => match op, isU64 k with
    | .mul, false => some ((σ.grow 1 [] (kLin k σ.nx ++ []) []).put o.dst (.p (.int k (Lin.at (4 * σ.nx))) true), [])
    | _, _ => none
theorem arith_is {op : BinOp} {a b n : Int} (h : arith op a b = some n) : arithOp op = true := by cases op <;> simp [arith] at h <;> rfl
theorem aop_arith {P : Program} {H : Hint} {s : St} {o : Oper} {op : BinOp} {t t' : TypeId} {x y : Operand} {k : IntKind} {a b n : Int} (ho : o.op = .binOp op t x y t') (hx : isInt (ev s x) = some (k, a)) (hy : isInt (ev s y) = some (k, b))
    (hn : arith op a b = some n) (d : Nat) (hd : o.dst = some d) (z : Int) (hH : H = ⟨[(d, [.v (.int k z)])], []⟩) : aop P H s o = some (s.put o.dst (.p (.v (.int k z)) true), [k.wrap n = z]) := by
  unfold aop
  subst hH
  simp only [ho, arith_is hn, opBinW, hd, lk, Nat.beq_refl, hx, hy, and_self, decide_true, hn, nt]
theorem dArith_good {P : Program} {I : Pr} {J : Ex} {σ σ' : DSt} {o : Oper} {op : BinOp} {t t' : TypeId} {x y : Operand} {k : IntKind} {a b : Lin} {gs : List G} (d : Nat) (hd : o.dst = some d) (ho : o.op = .binOp op t x y t')
    (hx : dInt (dev σ x) = some (k, a)) (hy : dInt (dev σ y) = some (k, b)) (h : dArith σ o op k a b = some (σ', gs)) : Good P I J σ o σ' gs := by
  have ex : ∀ ρ, isInt (ev (σ.v J ρ) x) = some (k, a.v ρ) := fun ρ => by rw [dev_v]; exact (dInt_v hx).1
  have ey : ∀ ρ, isInt (ev (σ.v J ρ) y) = some (k, b.v ρ) := fun ρ => by rw [dev_v]; exact (dInt_v hy).1
  have newOne : ∀ (hk : isU64 k = false), (∀ ρ, ∃ n, arith op (a.v ρ) (b.v ρ) = some n) →
      Good P I J σ o ((σ.grow 1 [] (kLin k σ.nx ++ []) []).put o.dst (.p (.int k (Lin.at (4 * σ.nx))) true)) [] := by
    intro hk hn
    refine good_int hk (by simp) fun ρ hs hok _ => ?_
    obtain ⟨n, hn⟩ := hn ρ
    refine ⟨k.wrap n, (wrap_rng k n).1, (wrap_rng k n).2, fun _ _ => trivial, ⟨[(d, [.v (.int k (k.wrap n))])], []⟩, [k.wrap n = k.wrap n], ?_, ⟨rfl, trivial⟩⟩
    exact aop_arith ho (ex ρ) (ey ρ) hn d hd _ rfl
  unfold dArith at h
  split at h
  · rename_i e he
    split at h
    · rename_i hf
      simp only [Option.some.injEq, Prod.mk.injEq] at h; obtain ⟨rfl, rfl⟩ := h
      refine good_put (fun hs => by simp only [DV.vars, DP.vars]; exact darith_sc he (dInt_sc hx (hs.dev x)) (dInt_sc hy (hs.dev y))) fun ρ hs hok _ => ?_
      refine ⟨⟨[(d, [.v (.int k (e.v ρ))])], []⟩, [k.wrap (e.v ρ) = e.v ρ], ?_, ⟨fitsK_v hok hf, trivial⟩⟩
      rw [aop_arith ho (ex ρ) (ey ρ) (darith_v he) d hd _ rfl]; simp [DV.v, DP.v]
    · split at h
      · rename_i hk
        simp only [Option.some.injEq, Prod.mk.injEq] at h; obtain ⟨rfl, rfl⟩ := h
        exact newOne hk fun ρ => ⟨_, darith_v he⟩
      · cases h
  · split at h
    · rename_i hk _
      simp only [Option.some.injEq, Prod.mk.injEq] at h; obtain ⟨rfl, rfl⟩ := h
      exact newOne hk fun ρ => ⟨_, rfl⟩
    · cases h
def dDiv (σ : DSt) (o : Oper) (op : BinOp) (k : IntKind) (a b : Lin) : DR :=
  match linLit b, isU64 k with
  | some (.ofNat (m + 1)), false => match provesLe σ (Lin.scale (-1) a) with
    | true => match op with
      | .rem => some ((σ.grow 1 [] (kLin k σ.nx ++ [Lin.scale (-1) (Lin.at (4 * σ.nx)), (Lin.at (4 * σ.nx)).addc (-(m : Int)), (Lin.at (4 * σ.nx)).ax (-1) a]) []).put o.dst (.p (.int k (Lin.at (4 * σ.nx))) true), [.le (a.addc (-k.max))])
      | .quo => some ((σ.grow 1 [] (kLin k σ.nx ++ [Lin.scale (-1) (Lin.at (4 * σ.nx)), (Lin.scale ((m : Int) + 1) (Lin.at (4 * σ.nx))).ax (-1) a, (a.ax (-1) (Lin.scale ((m : Int) + 1) (Lin.at (4 * σ.nx)))).addc (-(m : Int)), (Lin.at (4 * σ.nx)).ax (-1) a]) []).put o.dst (.p (.int k (Lin.at (4 * σ.nx))) true), [.le (a.addc (-k.max))])
      | _ => none
    | false => none
  | _, _ => none
theorem kmin_np (k : IntKind) : k.min ≤ 0 := by cases k <;> decide
theorem dDiv_good {P : Program} {I : Pr} {J : Ex} {σ σ' : DSt} {o : Oper} {op : BinOp} {t t' : TypeId} {x y : Operand} {k : IntKind} {a b : Lin} {gs : List G} (d : Nat) (hd : o.dst = some d) (ho : o.op = .binOp op t x y t')
    (hx : dInt (dev σ x) = some (k, a)) (hy : dInt (dev σ y) = some (k, b)) (h : dDiv σ o op k a b = some (σ', gs)) : Good P I J σ o σ' gs := by
  have ex : ∀ ρ, isInt (ev (σ.v J ρ) x) = some (k, a.v ρ) := fun ρ => by rw [dev_v]; exact (dInt_v hx).1
  have ey : ∀ ρ, isInt (ev (σ.v J ρ) y) = some (k, b.v ρ) := fun ρ => by rw [dev_v]; exact (dInt_v hy).1
  have asc : σ.sc → Sc (σ.nx + 1) a.vars := fun hs => (dInt_sc hx (hs.dev x)).mono (Nat.le_succ _)
  have vsc : Sc (σ.nx + 1) (Lin.at (4 * σ.nx)).vars := at4_sc (Nat.lt_succ_self _)
  unfold dDiv at h
  split at h
  · rename_i m hb hk
    have hbv : ∀ ρ, b.v ρ = (m : Int) + 1 := fun ρ => by rw [linLit_v hb]; rfl
    split at h
    · rename_i ha
      split at h
      · simp only [Option.some.injEq, Prod.mk.injEq] at h; obtain ⟨rfl, rfl⟩ := h
        refine good_int hk (fun hs e he => ?_) fun ρ hs hok hg => ?_
        · simp only [List.mem_cons, List.mem_nil_iff, or_false] at he
          rcases he with rfl | rfl | rfl
          · exact Lin.scale_sc vsc
          · exact Lin.addc_sc vsc
          · exact Lin.ax_sc vsc (asc hs)
        · have h0 := provesLe_v hok ha
          rw [Lin.scale_v] at h0
          simp only [gsV, G.v, Lin.addc_v, and_true] at hg
          have e1 : (a.v ρ).tmod ((m : Int) + 1) = (a.v ρ) % ((m : Int) + 1) := Int.tmod_eq_emod_of_nonneg (by omega)
          have e2 := Int.emod_nonneg (a.v ρ) (b := (m : Int) + 1) (by omega)
          have e3 := Int.emod_lt_of_pos (a.v ρ) (b := (m : Int) + 1) (by omega)
          have e4 : (a.v ρ) % ((m : Int) + 1) ≤ a.v ρ := by
            have q1 := Int.emod_add_mul_ediv (a.v ρ) ((m : Int) + 1)
            have q2 := Int.ediv_nonneg (a := a.v ρ) (b := (m : Int) + 1) (by omega) (by omega)
            have q3 : 0 ≤ ((m : Int) + 1) * (a.v ρ / ((m : Int) + 1)) := Int.mul_nonneg (by omega) q2
            omega
          have := kmin_np k
          refine ⟨(a.v ρ) % ((m : Int) + 1), by omega, by omega, ?_, ⟨[], []⟩, [(m : Int) + 1 ≠ 0], ?_, ⟨by omega, trivial⟩⟩
          · rintro ρ' rfl
            have hn : ((up ρ σ.nx (vaN ((a.v ρ) % ((m : Int) + 1)))) σ.nx).n = (a.v ρ) % ((m : Int) + 1) := by rw [up_same]; rfl
            have hav := Lin.ag (up_ag ρ σ.nx σ.nx (vaN ((a.v ρ) % ((m : Int) + 1))) (Nat.le_refl _)) (dInt_sc hx (hs.dev x))
            refine ⟨?_, ?_, ?_, trivial⟩ <;> simp only [Lin.scale_v, Lin.addc_v, Lin.ax_v, Lin.at_v, atomV0, hn, hav] <;> omega
          · unfold aop
            simp only [ho, arithOp, opBinW, hd, lk, opBin, ex, ey, hbv, decide_true, arith, icmp, e1, nt]
      · simp only [Option.some.injEq, Prod.mk.injEq] at h; obtain ⟨rfl, rfl⟩ := h
        refine good_int hk (fun hs e he => ?_) fun ρ hs hok hg => ?_
        · simp only [List.mem_cons, List.mem_nil_iff, or_false] at he
          rcases he with rfl | rfl | rfl | rfl
          · exact Lin.scale_sc vsc
          · exact Lin.ax_sc (Lin.scale_sc vsc) (asc hs)
          · exact Lin.addc_sc (Lin.ax_sc (asc hs) (Lin.scale_sc vsc))
          · exact Lin.ax_sc vsc (asc hs)
        · have h0 := provesLe_v hok ha
          rw [Lin.scale_v] at h0
          simp only [gsV, G.v, Lin.addc_v, and_true] at hg
          have e1 : (a.v ρ).tdiv ((m : Int) + 1) = (a.v ρ) / ((m : Int) + 1) := Int.tdiv_eq_ediv_of_nonneg (by omega)
          have e2 := Int.ediv_nonneg (a := a.v ρ) (b := (m : Int) + 1) (by omega) (by omega)
          have e3 : (a.v ρ) / ((m : Int) + 1) ≤ a.v ρ := Int.ediv_le_self _ (by omega)
          have e4 := Int.mul_ediv_add_emod (a.v ρ) ((m : Int) + 1)
          have e5 := Int.emod_nonneg (a.v ρ) (b := (m : Int) + 1) (by omega)
          have e6 := Int.emod_lt_of_pos (a.v ρ) (b := (m : Int) + 1) (by omega)
          have := kmin_np k
          refine ⟨(a.v ρ) / ((m : Int) + 1), by omega, by omega, ?_, ⟨[], []⟩, [(m : Int) + 1 ≠ 0 ∧ k.wrap ((a.v ρ) / ((m : Int) + 1)) = (a.v ρ) / ((m : Int) + 1)], ?_, ⟨⟨by omega, wrap_fits (by omega) (by omega)⟩, trivial⟩⟩
          · rintro ρ' rfl
            have hn : ((up ρ σ.nx (vaN ((a.v ρ) / ((m : Int) + 1)))) σ.nx).n = (a.v ρ) / ((m : Int) + 1) := by rw [up_same]; rfl
            have hav := Lin.ag (up_ag ρ σ.nx σ.nx (vaN ((a.v ρ) / ((m : Int) + 1))) (Nat.le_refl _)) (dInt_sc hx (hs.dev x))
            refine ⟨?_, ?_, ?_, ?_, trivial⟩ <;> simp only [Lin.scale_v, Lin.addc_v, Lin.ax_v, Lin.at_v, atomV0, hn, hav] <;> omega
          · unfold aop
            simp only [ho, arithOp, opBinW, hd, lk, opBin, ex, ey, hbv, decide_true, arith, icmp, e1, nt]
      · cases h
    · cases h
  · cases h
end Go.TL
namespace Go.TL
def dnilP : DV → Option Bool
  | .ptr _ _ => some false
  | .pd _ _ _ => some false
  | .vptr _ _ _ _ => some false
  | .p (.cst (.pointer none)) _ => some true
  | _ => none
def dnilF : DV → Option Bool
  | .fn _ _ _ => some false
  | .p (.cst .nilFunc) _ => some true
  | _ => none
theorem dnilP_v {ρ : Ro} {x : DV} {b : Bool} (h : dnilP x = some b) : nilP (x.v ρ) = some b ∧ isInt (x.v ρ) = none ∧ isStr (x.v ρ) = none := by
  unfold dnilP at h
  split at h <;> first | (simp only [Option.some.injEq] at h; subst h; simp [DV.v, DP.v, nilP, isInt, isStr]) | cases h
theorem dnilF_v {ρ : Ro} {x : DV} {b : Bool} (h : dnilF x = some b) : nilF (x.v ρ) = some b ∧ isInt (x.v ρ) = none ∧ isStr (x.v ρ) = none := by
  unfold dnilF at h
  split at h <;> first | (simp only [Option.some.injEq] at h; subst h; simp [DV.v, DP.v, nilF, isInt, isStr]) | cases h
def dnilEq (P : Program) (σ : DSt) (t : TypeId) (x y : Operand) : Option Bool :=
  match P.underlying t with
  | some (.pointer _) => match dnilP (dev σ x), dnilP (dev σ y) with
    | some p, some true => some p
    | some true, some q => some q
    | _, _ => none
  | some (.func _ _ _) => match dnilF (dev σ x), dnilF (dev σ y) with
    | some p, some true => some p
    | some true, some q => some q
    | _, _ => none
  | _ => none
theorem dnilEq_v {P : Program} {J : Ex} {σ : DSt} {ρ : Ro} {t : TypeId} {x y : Operand} {b : Bool} (h : dnilEq P σ t x y = some b) :
    nilEq P (σ.v J ρ) t x y = some b ∧ isInt (ev (σ.v J ρ) x) = none ∧ isStr (ev (σ.v J ρ) x) = none := by
  unfold dnilEq at h
  simp only [dev_v]
  split at h
  · rename_i e hu
    split at h
    · rename_i p hx hy
      simp only [Option.some.injEq] at h; subst h
      obtain ⟨a1, a2, a3⟩ := dnilP_v (ρ := ρ) hx
      obtain ⟨b1, _, _⟩ := dnilP_v (ρ := ρ) hy
      exact ⟨by simp only [nilEq, hu, dev_v, a1, b1], a2, a3⟩
    · rename_i q hn hx hy
      simp only [Option.some.injEq] at h; subst h
      obtain ⟨a1, a2, a3⟩ := dnilP_v (ρ := ρ) hx
      obtain ⟨b1, _, _⟩ := dnilP_v (ρ := ρ) hy
      refine ⟨?_, a2, a3⟩
      simp only [nilEq, hu, dev_v, a1, b1]
    · cases h
  · rename_i hu
    split at h
    · rename_i p hx hy
      simp only [Option.some.injEq] at h; subst h
      obtain ⟨a1, a2, a3⟩ := dnilF_v (ρ := ρ) hx
      obtain ⟨b1, _, _⟩ := dnilF_v (ρ := ρ) hy
      exact ⟨by simp only [nilEq, hu, dev_v, a1, b1], a2, a3⟩
    · rename_i q hn hx hy
      simp only [Option.some.injEq] at h; subst h
      obtain ⟨a1, a2, a3⟩ := dnilF_v (ρ := ρ) hx
      obtain ⟨b1, _, _⟩ := dnilF_v (ρ := ρ) hy
      refine ⟨?_, a2, a3⟩
      simp only [nilEq, hu, dev_v, a1, b1]
    · cases h
  · cases h
def catLin (s r : SE) (n : Nat) : List Lin := [((Lin.at (4 * n + 3)).ax (-1) (seSize s)).ax (-1) (seSize r), ((seSize s).ax 1 (seSize r)).ax (-1) (Lin.at (4 * n + 3))]
def dStrOp (σ : DSt) (o : Oper) (op : BinOp) (s r : SE) : DR :=
  match op with
  | .add => some ((σ.grow 1 [] (catLin s r σ.nx) [.cat σ.nx s r]).put o.dst (.p (.st (.var σ.nx)) true), [.le (((seSize s).ax 1 (seSize r)).addc (-1073741824))])
  | .eql => match s, r with
    | .lit a, .lit b => some (σ.put o.dst (.p (.bl (.lit (bytesEq a b))) true), [])
    | _, _ => some ((σ.grow 1 [] [] []).put o.dst (.p (.bl (.var σ.nx)) true), [])
  | .neq => match s, r with
    | .lit a, .lit b => some (σ.put o.dst (.p (.bl (.lit (!bytesEq a b))) true), [])
    | _, _ => some ((σ.grow 1 [] [] []).put o.dst (.p (.bl (.var σ.nx)) true), [])
  | .lss | .leq | .gtr | .geq => some ((σ.grow 1 [] [] []).put o.dst (.p (.bl (.var σ.nx)) true), [])
  | _ => none
theorem bytesEq_eq : ∀ a b : List UInt8, bytesEq a b = (a == b)
  | [], [] => rfl
  | a :: r, b :: s => by
    simp only [bytesEq]
    cases hb : Nat.beq a.toNat b.toNat with
    | true =>
      have : a = b := UInt8.toNat_inj.1 (Nat.eq_of_beq_eq_true hb)
      subst this
      simp [bytesEq_eq r s]
    | false =>
      have : a ≠ b := fun e => by subst e; simp at hb
      simp [this]
  | [], _ :: _ => rfl
  | _ :: _, [] => rfl
theorem toList_mk (b : List UInt8) : (⟨b.toArray⟩ : ByteArray).toList = b := by
  exact ByteArray.toList_mk b
theorem aop_str {P : Program} {H : Hint} {s : St} {o : Oper} {op : BinOp} {t t' : TypeId} {x y : Operand} {a b : ByteArray} (ho : o.op = .binOp op t x y t') (hx : isStr (ev s x) = some a) (hy : isStr (ev s y) = some b) (hi : isInt (ev s x) = none)
    (c : Bool) (hc : scmp op a b = some c) : aop P H s o = some (s.put o.dst (.p (.v (.bool c)) true), []) := by
  have har : arithOp op = false := by cases op <;> simp [scmp] at hc <;> rfl
  unfold aop
  simp only [ho, har, opBin, hi, hx, hy, hc, tr]
theorem dStrOp_good {P : Program} {I : Pr} {J : Ex} {σ σ' : DSt} {o : Oper} {op : BinOp} {t t' : TypeId} {x y : Operand} {s r : SE} {gs : List G} (ho : o.op = .binOp op t x y t')
    (hx : dStr (dev σ x) = some s) (hy : dStr (dev σ y) = some r) (h : dStrOp σ o op s r = some (σ', gs)) : Good P I J σ o σ' gs := by
  have ex : ∀ ρ, isStr (ev (σ.v J ρ) x) = some (s.v ρ) := fun ρ => by rw [dev_v]; exact (dStr_v hx).1
  have ei : ∀ ρ, isInt (ev (σ.v J ρ) x) = none := fun ρ => by rw [dev_v]; exact (dStr_v hx).2
  have ey : ∀ ρ, isStr (ev (σ.v J ρ) y) = some (r.v ρ) := fun ρ => by rw [dev_v]; exact (dStr_v hy).1
  have newB : (∀ a b, ∃ c, scmp op a b = some c) → Good P I J σ o ((σ.grow 1 [] [] []).put o.dst (.p (.bl (.var σ.nx)) true)) [] := by
    intro hc
    refine good_bool fun ρ hs hok _ => ?_
    obtain ⟨c, hc⟩ := hc (s.v ρ) (r.v ρ)
    exact ⟨c, ⟨[], []⟩, [], aop_str ho (ex ρ) (ey ρ) (ei ρ) c hc, trivial⟩
  have litB : ∀ (c : Bool), (∀ ρ, scmp op (s.v ρ) (r.v ρ) = some c) → Good P I J σ o (σ.put o.dst (.p (.bl (.lit c)) true)) [] := by
    intro c hc
    refine good_put (fun hs => by simp [DV.vars, DP.vars, BF.vars, Sc.nil]) fun ρ hs hok _ => ⟨⟨[], []⟩, [], ?_, trivial⟩
    rw [aop_str ho (ex ρ) (ey ρ) (ei ρ) c (hc ρ)]
    simp [DV.v, DP.v, BF.v]
  unfold dStrOp at h
  split at h
  · simp only [Option.some.injEq, Prod.mk.injEq] at h; obtain ⟨rfl, rfl⟩ := h
    have ssc : σ.sc → Sc σ.nx s.vars := fun hs => dStr_sc hx (hs.dev x)
    have rsc : σ.sc → Sc σ.nx r.vars := fun hs => dStr_sc hy (hs.dev y)
    have nsc : Sc (σ.nx + 1) (Lin.at (4 * σ.nx + 3)).vars := Lin.at_sc (by omega)
    refine good_str (fun hs e he => ?_) (fun hs f hf => ?_) fun ρ hs hok hg => ?_
    · simp only [catLin, List.mem_cons, List.mem_nil_iff, or_false] at he
      have a1 := (seSize_sc (ssc hs)).mono (Nat.le_succ σ.nx)
      have a2 := (seSize_sc (rsc hs)).mono (Nat.le_succ σ.nx)
      rcases he with rfl | rfl
      · exact Lin.ax_sc (Lin.ax_sc nsc a1) a2
      · exact Lin.ax_sc (Lin.ax_sc a1 a2) nsc
    · simp only [List.mem_singleton] at hf; subst hf
      simp only [PF.vars, Sc.cons, Sc.app]
      exact ⟨Nat.lt_succ_self _, (ssc hs).mono (Nat.le_succ _), (rsc hs).mono (Nat.le_succ _)⟩
    · simp only [gsV, G.v, Lin.addc_v, Lin.ax_v, seSize_v, and_true] at hg
      have hsz : (s.v ρ ++ r.v ρ).size = (s.v ρ).size + (r.v ρ).size := ByteArray.size_append
      refine ⟨s.v ρ ++ r.v ρ, by rw [hsz]; unfold mostStr; omega, ?_, ⟨[], []⟩, [(s.v ρ).size + (r.v ρ).size ≤ 4611686018427387904], ?_, ⟨by omega, trivial⟩⟩
      · rintro ρ' rfl
        have ha := up_ag ρ σ.nx σ.nx (vaS (s.v ρ ++ r.v ρ)) (Nat.le_refl _)
        have hn : ((up ρ σ.nx (vaS (s.v ρ ++ r.v ρ))) σ.nx).s = s.v ρ ++ r.v ρ := by rw [up_same]; rfl
        have e1 := SE.ag ha (ssc hs)
        have e2 := SE.ag ha (rsc hs)
        refine ⟨⟨?_, ?_, trivial⟩, ⟨?_, trivial⟩⟩
        · simp only [Lin.ax_v, Lin.at_v, atomV3, seSize_v, hn, e1, e2, hsz]; omega
        · simp only [Lin.ax_v, Lin.at_v, atomV3, seSize_v, hn, e1, e2, hsz]; omega
        · simp only [PF.v, hn, e1, e2]
      · unfold aop
        simp only [ho, arithOp, opBinW, opBin, ei, ex, ey, scmp]
        cases o.dst with
        | none => rfl
        | some d => simp [lk, nt]
  · split at h
    · rename_i a b
      simp only [Option.some.injEq, Prod.mk.injEq] at h; obtain ⟨rfl, rfl⟩ := h
      exact litB _ fun ρ => by simp [scmp, SE.v, toList_mk, bytesEq_eq]
    · simp only [Option.some.injEq, Prod.mk.injEq] at h; obtain ⟨rfl, rfl⟩ := h
      exact newB fun a b => ⟨_, rfl⟩
  · split at h
    · rename_i a b
      simp only [Option.some.injEq, Prod.mk.injEq] at h; obtain ⟨rfl, rfl⟩ := h
      exact litB _ fun ρ => by simp [scmp, SE.v, toList_mk, bytesEq_eq]
    · simp only [Option.some.injEq, Prod.mk.injEq] at h; obtain ⟨rfl, rfl⟩ := h
      exact newB fun a b => ⟨_, rfl⟩
  · simp only [Option.some.injEq, Prod.mk.injEq] at h; obtain ⟨rfl, rfl⟩ := h
    exact newB fun a b => ⟨_, rfl⟩
  · simp only [Option.some.injEq, Prod.mk.injEq] at h; obtain ⟨rfl, rfl⟩ := h
    exact newB fun a b => ⟨_, rfl⟩
  · simp only [Option.some.injEq, Prod.mk.injEq] at h; obtain ⟨rfl, rfl⟩ := h
    exact newB fun a b => ⟨_, rfl⟩
  · simp only [Option.some.injEq, Prod.mk.injEq] at h; obtain ⟨rfl, rfl⟩ := h
    exact newB fun a b => ⟨_, rfl⟩
  · cases h
def dBin (P : Program) (σ : DSt) (o : Oper) (op : BinOp) (t : TypeId) (x y : Operand) : DR :=
  match dInt (dev σ x), dInt (dev σ y), o.dst with
  | some (k, a), some (k', b), some _ => match decide (k = k') with
    | true => match dicmp op a b with
      | some f => some (σ.put o.dst (.p (.bl (simpB f)) true), [])
      | none => match op with
        | .rem => dDiv σ o .rem k a b
        | .quo => dDiv σ o .quo k a b
        | op => dArith σ o op k a b
    | false => none
  | _, _, _ => match dStr (dev σ x), dStr (dev σ y) with
    | some s, some r => dStrOp σ o op s r
    | _, _ => match dnilEq P σ t x y, op with
      | some b, .eql => some (σ.put o.dst (.p (.bl (.lit b)) true), [])
      | some b, .neq => some (σ.put o.dst (.p (.bl (.lit (!b))) true), [])
      | _, _ => none
theorem dBin_good {P : Program} {I : Pr} {J : Ex} {σ σ' : DSt} {o : Oper} {op : BinOp} {t t' : TypeId} {x y : Operand} {gs : List G} (ho : o.op = .binOp op t x y t') (h : dBin P σ o op t x y = some (σ', gs)) : Good P I J σ o σ' gs := by
  unfold dBin at h
  split at h
  · rename_i k a k' b d hx hy hd
    split at h
    · rename_i hk
      have := of_decide_eq_true hk; subst this
      split at h
      · rename_i f hf
        simp only [Option.some.injEq, Prod.mk.injEq] at h; obtain ⟨rfl, rfl⟩ := h
        refine good_put (fun hs => by simp only [DV.vars, DP.vars]; exact simpB_sc (dicmp_sc hf (dInt_sc hx (hs.dev x)) (dInt_sc hy (hs.dev y)))) fun ρ hs hok _ => ⟨⟨[], []⟩, [], ?_, trivial⟩
        have ex : isInt (ev (σ.v J ρ) x) = some (k, a.v ρ) := by rw [dev_v]; exact (dInt_v hx).1
        have ey : isInt (ev (σ.v J ρ) y) = some (k, b.v ρ) := by rw [dev_v]; exact (dInt_v hy).1
        have har : arithOp op = false ∧ arith op (a.v ρ) (b.v ρ) = none := by cases op <;> simp [dicmp] at hf <;> exact ⟨rfl, rfl⟩
        unfold aop
        simp only [ho, har.1, opBin, ex, ey, decide_true, har.2, dicmp_v hf, tr]
        simp [DV.v, DP.v, simpB_v]
      · split at h
        · exact dDiv_good d hd ho hx hy h
        · exact dDiv_good d hd ho hx hy h
        · exact dArith_good d hd ho hx hy h
    · cases h
  · split at h
    · rename_i s r hs hr; exact dStrOp_good ho hs hr h
    · split at h
      · rename_i b hb
        simp only [Option.some.injEq, Prod.mk.injEq] at h; obtain ⟨rfl, rfl⟩ := h
        refine good_put (fun hs => by simp [DV.vars, DP.vars, BF.vars, Sc.nil]) fun ρ hs hok _ => ⟨⟨[], []⟩, [], ?_, trivial⟩
        obtain ⟨h1, h2, h3⟩ := dnilEq_v (J := J) (ρ := ρ) hb
        unfold aop
        simp only [ho, arithOp, opBin, h2, h3, opNil, h1, tr]
        simp [DV.v, DP.v, BF.v]
      · rename_i b hb
        simp only [Option.some.injEq, Prod.mk.injEq] at h; obtain ⟨rfl, rfl⟩ := h
        refine good_put (fun hs => by simp [DV.vars, DP.vars, BF.vars, Sc.nil]) fun ρ hs hok _ => ⟨⟨[], []⟩, [], ?_, trivial⟩
        obtain ⟨h1, h2, h3⟩ := dnilEq_v (J := J) (ρ := ρ) hb
        unfold aop
        simp only [ho, arithOp, opBin, h2, h3, opNil, h1, tr]
        simp [DV.v, DP.v, BF.v]
      · cases h
def dUn (σ : DSt) (o : Oper) (op : UnOp) (x : Operand) : DR :=
  match op, dev σ x with
  | .not, .p (.bl (.lit b)) _ => some (σ.put o.dst (.p (.bl (.lit (!b))) true), [])
  | .not, .p (.bl f) _ => some (σ.put o.dst (.p (.bl (.not f)) true), [])
  | .neg, .p (.int k e) _ => match fitsK σ k (Lin.scale (-1) e) with
    | true => some (σ.put o.dst (.p (.int k (Lin.scale (-1) e)) true), [])
    | false => none
  | _, _ => none
theorem dUn_good {P : Program} {I : Pr} {J : Ex} {σ σ' : DSt} {o : Oper} {op : UnOp} {t : TypeId} {x : Operand} {gs : List G} (ho : o.op = .unOp op t x) (h : dUn σ o op x = some (σ', gs)) : Good P I J σ o σ' gs := by
  unfold dUn at h
  split at h
  · rename_i b fr he
    simp only [Option.some.injEq, Prod.mk.injEq] at h; obtain ⟨rfl, rfl⟩ := h
    refine good_put (fun hs => by simp [DV.vars, DP.vars, BF.vars, Sc.nil]) fun ρ hs hok _ => ⟨⟨[], []⟩, [], ?_, trivial⟩
    simp [aop, ho, opUn, dev_v, he, DV.v, DP.v, BF.v, tr]
  · rename_i f fr _ he
    simp only [Option.some.injEq, Prod.mk.injEq] at h; obtain ⟨rfl, rfl⟩ := h
    refine good_put (fun hs => by have := hs.dev x; rw [he] at this; simpa [DV.vars, DP.vars, BF.vars] using this) fun ρ hs hok _ => ⟨⟨[], []⟩, [], ?_, trivial⟩
    simp [aop, ho, opUn, dev_v, he, DV.v, DP.v, BF.v, tr]
  · rename_i k e fr he
    split at h
    · rename_i hf
      simp only [Option.some.injEq, Prod.mk.injEq] at h; obtain ⟨rfl, rfl⟩ := h
      refine good_put (fun hs => by have := hs.dev x; rw [he] at this; simp only [DV.vars, DP.vars] at this ⊢; exact Lin.scale_sc this) fun ρ hs hok _ => ?_
      have h1 := fitsK_v hok hf
      have e2 : (Lin.scale (-1) e).v ρ = 0 - e.v ρ := by rw [Lin.scale_v]; omega
      rw [e2] at h1
      refine ⟨⟨[], []⟩, [k.wrap (0 - e.v ρ) = 0 - e.v ρ], ?_, ⟨h1, trivial⟩⟩
      simp only [aop, ho, opUn, dev_v, he, DV.v, DP.v, nt, e2]
    · cases h
  · cases h
def dConv (P : Program) (σ : DSt) (o : Oper) (src dst : TypeId) (x : Operand) : DR :=
  match dev σ x, P.underlying src, P.underlying dst with
  | .p (.int _ e) _, some _, some (.int k) => match fitsK σ k e with
    | true => some (σ.put o.dst (.p (.int k e) true), [])
    | false => none
  | .p (.st s) _, some _, some .string => some (σ.put o.dst (.p (.st s) true), [])
  | _, _, _ => none
theorem dConv_good {P : Program} {I : Pr} {J : Ex} {σ σ' : DSt} {o : Oper} {src dst : TypeId} {x : Operand} {gs : List G} (ho : o.op = .convert src dst x) (h : dConv P σ o src dst x = some (σ', gs)) : Good P I J σ o σ' gs := by
  unfold dConv at h
  split at h
  · rename_i k' e fr d k he hs1 hd
    split at h
    · rename_i hf
      simp only [Option.some.injEq, Prod.mk.injEq] at h; obtain ⟨rfl, rfl⟩ := h
      refine good_put (fun hs => by have := hs.dev x; rw [he] at this; simpa [DV.vars, DP.vars] using this) fun ρ hs hok _ => ?_
      refine ⟨⟨[], []⟩, [k.wrap (e.v ρ) = e.v ρ], ?_, ⟨fitsK_v hok hf, trivial⟩⟩
      simp [aop, ho, opConv, dev_v, he, DV.v, DP.v, hs1, hd, nt]
    · cases h
  · rename_i s fr d he hs1 hd
    simp only [Option.some.injEq, Prod.mk.injEq] at h; obtain ⟨rfl, rfl⟩ := h
    refine good_put (fun hs => by have := hs.dev x; rw [he] at this; simpa [DV.vars, DP.vars] using this) fun ρ hs hok _ => ⟨⟨[], []⟩, [True], ?_, ⟨trivial, trivial⟩⟩
    simp [aop, ho, opConv, dev_v, he, DV.v, DP.v, hs1, hd, nt]
  · cases h
end Go.TL
namespace Go.TL
theorem good_list {P : Program} {I : Pr} {J : Ex} {σ : DSt} {o : Oper} {gs : List G} {e : TypeId} {lin : List Lin} {prs : List PF} {mk : LV → DV} (hmk : ∀ n l, Sc n (lvVars l) → Sc n (mk l).vars)
    (hl : σ.sc → ∀ e ∈ lin, Sc (σ.nx + 1) e.vars) (hp : σ.sc → ∀ f ∈ prs, Sc (σ.nx + 1) f.vars)
    (h : ∀ ρ, σ.sc → σ.ok P I ρ → gsV I ρ gs → ∃ z : List (List PV), TyRows P e z ∧ (∀ ρ', ρ' = up ρ σ.nx (vaL z) → Agree σ.nx ρ ρ' → (ρ' σ.nx).l = z → linsV ρ' lin ∧ prsV I ρ' prs ∧
      ∃ (H : Hint) (ps : List Prop), aop P H (σ.v J ρ) o = some ((σ.v J ρ).put o.dst ((mk (some σ.nx)).v ρ'), ps) ∧ allP ps)) :
    Good P I J σ o ((σ.grow 1 [(σ.nx, e)] lin prs).put o.dst (mk (some σ.nx))) gs := by
  refine good_new (fun hs => hmk _ _ (by simp only [lvVars, Sc.cons]; exact ⟨Nat.lt_succ_self _, Sc.nil⟩)) (fun hs => ⟨by simp, hl hs, hp hs⟩) ?_
  intro ρ hs hok hg
  obtain ⟨z, h1, h3⟩ := h ρ hs hok hg
  have hn : (up ρ σ.nx (vaL z) σ.nx).l = z := by rw [up_same]; rfl
  obtain ⟨q1, q2, H, ps, h4, h5⟩ := h3 _ rfl (up_ag _ _ _ _ (Nat.le_refl _)) hn
  exact ⟨up ρ σ.nx (vaL z), up_ag _ _ _ _ (Nat.le_refl _), hok.g.up _ (vaL_ok h1.1), ⟨by rw [hn]; exact h1, trivial⟩, q1, q2, H, ps, h4, h5⟩
def lvLen : LV → Lin
  | none => Lin.lit 0
  | some l => Lin.at (4 * l + 1)
def lvRsz : LV → Lin
  | none => Lin.lit 0
  | some l => Lin.at (4 * l + 2)
theorem lvLen_v (ρ : Ro) (l : LV) : (lvLen l).v ρ = ((lvV ρ l).length : Int) := by
  cases l with
  | none => simp [lvLen, Lin.lit_v, lvV]
  | some k => simp [lvLen, Lin.at_v, atomV1, lvV]
theorem lvRsz_v (ρ : Ro) (l : LV) : (lvRsz l).v ρ = (rsz (lvV ρ l) : Int) := by
  cases l with
  | none => simp [lvRsz, Lin.lit_v, lvV, rsz]
  | some k => simp [lvRsz, Lin.at_v, atomV2, lvV]
theorem lvLen_sc {n : Nat} {l : LV} (h : Sc n (lvVars l)) : Sc n (lvLen l).vars := by
  cases l with
  | none => exact Lin.lit_sc
  | some k => simp only [lvVars, Sc.cons] at h; exact Lin.at_sc (by omega)
theorem lvRsz_sc {n : Nat} {l : LV} (h : Sc n (lvVars l)) : Sc n (lvRsz l).vars := by
  cases l with
  | none => exact Lin.lit_sc
  | some k => simp only [lvVars, Sc.cons] at h; exact Lin.at_sc (by omega)
def isSlice (P : Program) (t : TypeId) : Bool := match P.underlying t with | some (.slice _) => true | _ => false
def isString (P : Program) (t : TypeId) : Bool := match P.underlying t with | some .string => true | _ => false
theorem isSlice_eq {P : Program} {t : TypeId} (h : isSlice P t = true) : ∃ e, P.underlying t = some (.slice e) := by
  unfold isSlice at h; split at h
  · rename_i e hu; exact ⟨e, hu⟩
  · cases h
theorem isString_eq {P : Program} {t : TypeId} (h : isString P t = true) : P.underlying t = some .string := by
  unfold isString at h; split at h
  · assumption
  · cases h
def dlen (P : Program) (σ : DSt) (t : TypeId) : DV → Option Lin
  | .vec k => match lk σ.tab k, isSlice P t with
    | some (.vec _ _ l _), true => some (lvLen l)
    | _, _ => none
  | .p (.sl l) _ => match isSlice P t with | true => some (lvLen l) | false => none
  | .pc l _ => match isSlice P t with | true => some (lvLen l) | false => none
  | .p .nl _ => match isSlice P t with | true => some (Lin.lit 0) | false => none
  | .p (.st s) _ => match isString P t with | true => some (seSize s) | false => none
  | _ => none
theorem dlen_v {P : Program} {J : Ex} {σ : DSt} {t : TypeId} {x : DV} {e : Lin} (ρ : Ro) (h : dlen P σ t x = some e) : ∃ n : Nat, lenOf P (σ.v J ρ).tab t (x.v ρ) = some n ∧ e.v ρ = (n : Int) := by
  unfold dlen at h
  split at h
  · rename_i k
    split at h
    · rename_i et sz l fr hk hs
      simp only [Option.some.injEq] at h; subst h
      obtain ⟨e', hu⟩ := isSlice_eq hs
      exact ⟨_, by simp only [DV.v, lenOf, dtab_v hk, DO.v, hu], lvLen_v ρ l⟩
    · cases h
  · rename_i l fr
    split at h
    · rename_i hs
      simp only [Option.some.injEq] at h; subst h
      obtain ⟨e', hu⟩ := isSlice_eq hs
      exact ⟨_, by simp only [DV.v, DP.v, lenOf, hu], lvLen_v ρ l⟩
    · cases h
  · rename_i l fr
    split at h
    · rename_i hs
      simp only [Option.some.injEq] at h; subst h
      obtain ⟨e', hu⟩ := isSlice_eq hs
      exact ⟨_, by simp only [DV.v, lenOf, hu], lvLen_v ρ l⟩
    · cases h
  · split at h
    · rename_i hs
      simp only [Option.some.injEq] at h; subst h
      obtain ⟨e', hu⟩ := isSlice_eq hs
      exact ⟨0, by simp only [DV.v, DP.v, lenOf, hu], by simp [Lin.lit_v]⟩
    · cases h
  · rename_i s fr
    split at h
    · rename_i hs
      simp only [Option.some.injEq] at h; subst h
      exact ⟨_, by simp only [DV.v, DP.v, lenOf, isString_eq hs], seSize_v ρ s⟩
    · cases h
  · cases h
theorem dlen_sc {P : Program} {σ : DSt} (hs : σ.sc) {t : TypeId} {x : DV} {e : Lin} (hx : Sc σ.nx x.vars) (h : dlen P σ t x = some e) : Sc σ.nx e.vars := by
  unfold dlen at h
  split at h
  · split at h
    · rename_i hk _
      simp only [Option.some.injEq] at h; subst h
      exact lvLen_sc (by have := hs.tab _ _ hk; simpa [DO.vars] using this)
    · cases h
  · split at h
    · simp only [Option.some.injEq] at h; subst h; exact lvLen_sc (by simpa [DV.vars, DP.vars] using hx)
    · cases h
  · split at h
    · simp only [Option.some.injEq] at h; subst h; exact lvLen_sc (by simpa [DV.vars] using hx)
    · cases h
  · split at h
    · simp only [Option.some.injEq] at h; subst h; exact Lin.lit_sc
    · cases h
  · split at h
    · simp only [Option.some.injEq] at h; subst h; exact seSize_sc (by simpa [DV.vars, DP.vars] using hx)
    · cases h
  · cases h
def dLen (P : Program) (σ : DSt) (o : Oper) (x : Operand) (t : TypeId) : DR :=
  match dlen P σ t (dev σ x) with
  | some e => some (σ.put o.dst (.p (.int .i64 e) true), [])
  | none => none
theorem dLen_good {P : Program} {I : Pr} {J : Ex} {σ σ' : DSt} {o : Oper} {x : Operand} {t : TypeId} {gs : List G} (ho : o.op = .call { callee := .builtin .len, args := #[x], argTypes := #[t] })
    (h : dLen P σ o x t = some (σ', gs)) : Good P I J σ o σ' gs := by
  unfold dLen at h
  split at h
  · rename_i e he
    simp only [Option.some.injEq, Prod.mk.injEq] at h; obtain ⟨rfl, rfl⟩ := h
    refine good_put (fun hs => by simpa [DV.vars, DP.vars] using dlen_sc hs (hs.dev x) he) fun ρ hs hok _ => ⟨⟨[], []⟩, [], ?_, trivial⟩
    obtain ⟨n, h1, h2⟩ := dlen_v (J := J) ρ he
    simp [aop, ho, lenArr_none noArr, opLen, dev_v, h1, tr, DV.v, DP.v, h2]
  · cases h
def dIndex (P : Program) (σ : DSt) (o : Oper) (t : TypeId) (x ix : Operand) : DR :=
  match dInt (dev σ ix) with
  | some (_, n) => match dev σ x, P.underlying t with
    | .agg xs, some (.array len e) => match n.t, n.c, P.info? e with
      | [], .ofNat m, some i => match Nat.ble (m + 1) len, dloadOut P e (m * i.size) xs with
        | true, some v => some (σ.put o.dst v, [])
        | _, _ => none
      | _, _, _ => none
    | .p (.st s) _, some .string => some ((σ.grow 1 [] (kLin .u8 σ.nx ++ []) []).put o.dst (.p (.int .u8 (Lin.at (4 * σ.nx))) true), [nonneg n, .le ((n.ax (-1) (seSize s)).addc 1)])
    | _, _ => none
  | none => none
theorem dIndex_good {P : Program} {I : Pr} {J : Ex} {σ σ' : DSt} {o : Oper} {t : TypeId} {x ix : Operand} {gs : List G} (ho : o.op = .index t x ix) (h : dIndex P σ o t x ix = some (σ', gs)) : Good P I J σ o σ' gs := by
  unfold dIndex at h
  split at h
  · rename_i kk n hn
    have hiv : ∀ ρ, intOf (ev (σ.v J ρ) ix) = some (n.v ρ) := fun ρ => by rw [dev_v]; exact (dInt_v hn).2
    split at h
    · rename_i xs len e he hu
      have e1 : ∀ ρ, ev (σ.v J ρ) x = .agg (dvs ρ xs) := fun ρ => by rw [dev_v, he]; simp [DV.v]
      split at h
      · rename_i m i ht hc hi
        split at h
        · rename_i v hm hv
          simp only [Option.some.injEq, Prod.mk.injEq] at h; obtain ⟨rfl, rfl⟩ := h
          refine good_put (fun hs => dloadOut_sc (by have := hs.dev x; rw [he] at this; simpa [DV.vars] using this) hv) fun ρ hs hok hg => ⟨⟨[], []⟩, [], ?_, trivial⟩
          have hvv : n.v ρ = Int.ofNat m := by unfold Lin.v; rw [ht, hc]; simp [sumV]
          unfold aop
          simp [ho, e1, opIndex, hiv, hvv, hu, intLit, hi, hm, partOut, dloadOut_v, hv, tr]
        · cases h
      · cases h
    · rename_i s fr he hu
      have e1 : ∀ ρ, ev (σ.v J ρ) x = .p (.v (.string (s.v ρ))) fr := fun ρ => by rw [dev_v, he]; simp [DV.v, DP.v]
      simp only [Option.some.injEq, Prod.mk.injEq] at h; obtain ⟨rfl, rfl⟩ := h
      refine good_int rfl (by simp) fun ρ hs hok hg => ?_
      simp only [nonneg, gsV, G.v, Lin.scale_v, Lin.addc_v, Lin.ax_v, seSize_v, and_true] at hg
      have hb := UInt8.toNat_lt ((s.v ρ).data.toList.getD (n.v ρ).toNat 0)
      refine ⟨(((s.v ρ).data.toList.getD (n.v ρ).toNat 0).toNat : Int), by have e : IntKind.u8.min = 0 := (by decide); rw [e]; omega, by have e : IntKind.u8.max = 255 := (by decide); rw [e]; omega, fun _ _ => trivial, ⟨[], []⟩, [0 ≤ n.v ρ ∧ n.v ρ < ((s.v ρ).size : Int)], ?_, ⟨⟨by omega, by omega⟩, trivial⟩⟩
      unfold aop
      simp [ho, e1, opIndex, hiv, hu, nt]
    · cases h
  · cases h
def dopt (σ : DSt) : Option Operand → Option (Option Lin)
  | none => some none
  | some x => match dInt (dev σ x) with
    | some (_, e) => some (some e)
    | none => none
def dlo : Option Lin → Lin
  | some e => e
  | none => Lin.lit 0
def dhi (len : Lin) : Option Lin → Lin
  | some e => e
  | none => len
def bnds (len : Lin) (l h : Option Lin) : List G := [nonneg (dlo l), .le ((dlo l).ax (-1) (dhi len h)), .le ((dhi len h).ax (-1) len)]
theorem dopt_v {J : Ex} {σ : DSt} {x : Option Operand} {l : Option Lin} (ρ : Ro) (h : dopt σ x = some l) : optInt (σ.v J ρ) x = some (l.map (Lin.v ρ)) := by
  unfold dopt at h
  split at h
  · simp only [Option.some.injEq] at h; subst h; rfl
  · split at h
    · rename_i k e he
      simp only [Option.some.injEq] at h; subst h
      simp [optInt, dev_v, (dInt_v he).2]
    · cases h
theorem dopt_sc {σ : DSt} (hs : σ.sc) {x : Option Operand} {l : Option Lin} (h : dopt σ x = some l) : ∀ e, l = some e → Sc σ.nx e.vars := by
  unfold dopt at h
  split at h
  · simp only [Option.some.injEq] at h; subst h; simp
  · split at h
    · rename_i k e he
      simp only [Option.some.injEq] at h; subst h
      intro e' e2; simp only [Option.some.injEq] at e2; subst e2
      exact dInt_sc he (hs.dev _)
    · cases h
theorem dlo_sc {n : Nat} {l : Option Lin} (h : ∀ e, l = some e → Sc n e.vars) : Sc n (dlo l).vars := by
  cases l with
  | none => exact Lin.lit_sc
  | some e => exact h e rfl
theorem dhi_sc {n : Nat} {len : Lin} {l : Option Lin} (hl : Sc n len.vars) (h : ∀ e, l = some e → Sc n e.vars) : Sc n (dhi len l).vars := by
  cases l with
  | none => exact hl
  | some e => exact h e rfl
theorem bnds_v {I : Pr} {ρ : Ro} {len : Lin} {n : Nat} {l h : Option Lin} (hn : len.v ρ = (n : Int)) (hg : gsV I ρ (bnds len l h)) :
    bndOk n (l.map (Lin.v ρ)) (h.map (Lin.v ρ)) ∧ 0 ≤ (dlo l).v ρ ∧ (dlo l).v ρ ≤ (dhi len h).v ρ ∧ (dhi len h).v ρ ≤ (n : Int) ∧ bndLo (l.map (Lin.v ρ)) = ((dlo l).v ρ).toNat ∧ bndHi n (h.map (Lin.v ρ)) = ((dhi len h).v ρ).toNat := by
  simp only [bnds, nonneg, gsV, G.v, Lin.scale_v, Lin.ax_v, and_true, hn] at hg
  obtain ⟨a1, a2, a3⟩ := hg
  refine ⟨?_, by omega, by omega, by omega, ?_, ?_⟩
  · cases l <;> cases h <;> simp only [dlo, dhi, Lin.lit_v, hn] at a1 a2 a3 <;> simp only [bndOk, Option.map_none, Option.map_some] <;> refine ⟨?_, ?_, ?_⟩ <;> first | trivial | omega | (constructor <;> omega)
  · cases l <;> simp [bndLo, dlo, Lin.lit_v]
  · cases h <;> simp [bndHi, dhi, hn]
def subLin (n : Nat) (lo hi : Lin) (l : LV) : List Lin :=
  [((Lin.at (4 * n + 1)).ax (-1) hi).ax 1 lo, ((hi.ax (-1) lo).ax (-1) (Lin.at (4 * n + 1))), (Lin.at (4 * n + 2)).ax (-1) (lvRsz l)]
theorem rsz_take_le (rows : List (List PV)) (n : Nat) : rsz (rows.take n) ≤ rsz rows := by
  induction rows generalizing n with
  | nil => simp
  | cons x xs ih => cases n with
    | zero => simp [rsz]
    | succ n => simp only [List.take_succ_cons, rsz_cons]; have := ih n; omega
def okElem (P : Program) (σ : DSt) (e : TypeId) (i : TypeInfo) : LV → Bool
  | none => true
  | some l => match lk σ.tys l with
    | some e' => match Nat.beq e e' with | true => Nat.beq (cks P e).length i.size | false => false
    | none => false
theorem okElem_v {P : Program} {I : Pr} {σ : DSt} {ρ : Ro} {e : TypeId} {i : TypeInfo} {l : LV} (hok : σ.ok P I ρ) (h : okElem P σ e i l = true) : TyRows P e (lvV ρ l) ∧ ∀ row ∈ lvV ρ l, row.length = i.size := by
  cases l with
  | none => exact ⟨TyRows.nil, by simp [lvV]⟩
  | some l =>
    simp only [okElem] at h
    split at h
    · rename_i e' hl
      split at h
      · rename_i hb
        have := Nat.eq_of_beq_eq_true hb; subst this
        have ht := tysV_lk hok.tys hl
        exact ⟨ht, ht.2.len (Nat.eq_of_beq_eq_true h)⟩
      · cases h
    · cases h
def dSliceL (P : Program) (σ : DSt) (o : Oper) (e : TypeId) (i : TypeInfo) (l : LV) (fr : Bool) (lo hi : Option Lin) : DR :=
  match okElem P σ e i l, l with
  | true, some k => some ((σ.grow 1 [(σ.nx, e)] (subLin σ.nx (dlo lo) (dhi (lvLen l) hi) l) [.sub σ.nx k (dlo lo) (dhi (lvLen l) hi)]).put o.dst (.p (.sl (some σ.nx)) fr), bnds (lvLen l) lo hi)
  | _, _ => none
def seOk : SE → Bool
  | .lit b => Nat.ble b.length 1073741824
  | .var _ => true
theorem seOk_v {ρ : Ro} (hg : Gok ρ) {s : SE} (h : seOk s = true) : (s.v ρ).size ≤ mostStr := by
  cases s with
  | lit b => have := Nat.le_of_ble_eq_true h; simpa [SE.v, ByteArray.size, mostStr] using this
  | var k => exact hg.st k
def dSlice (P : Program) (σ : DSt) (o : Oper) (t : TypeId) (x : Operand) (lo hi : Option Operand) : DR :=
  match dopt σ lo, dopt σ hi with
  | some l, some h => match dev σ x, P.underlying t with
    | .p (.sl k) fr, some (.slice e) => match P.info? e with
      | some i => dSliceL P σ o e i k fr l h
      | none => none
    | .pc k fr, some (.slice e) => match P.info? e with
      | some i => dSliceL P σ o e i k fr l h
      | none => none
    | .p .nl _, some (.slice e) => match P.info? e with
      | some _ => some (σ.put o.dst (.p .nl true), bnds (Lin.lit 0) l h)
      | none => none
    | .p (.st s) _, some .string => match seOk s with
      | false => none
      | true => some ((σ.grow 1 [] [((Lin.at (4 * σ.nx + 3)).ax (-1) (dhi (seSize s) h)).ax 1 (dlo l), ((dhi (seSize s) h).ax (-1) (dlo l)).ax (-1) (Lin.at (4 * σ.nx + 3))] []).put o.dst (.p (.st (.var σ.nx)) true), bnds (seSize s) l h)
    | _, _ => none
  | _, _ => none
theorem aop_slice {P : Program} {H : Hint} {s : St} {o : Oper} {t : TypeId} {x : Operand} {lo hi : Option Operand} {r : St × Prop} (ho : o.op = .slice t x lo hi none) (hv : ∀ k, ev s x ≠ .vec k) (h : opSlice P s o t x lo hi none = some r) (hp : r.2) :
    ∃ ps, aop P H s o = some (r.1, ps) ∧ allP ps := by
  obtain ⟨s', p⟩ := r
  refine ⟨[p], ?_, ⟨hp, trivial⟩⟩
  unfold aop
  cases lo with
  | none => cases hi with
    | none => simp only [ho, h, nt]
    | some hh =>
      simp only [ho]
      cases he : ev s x with
      | vec k => exact absurd he (hv k)
      | _ => simp only [h, nt]
  | some ll => cases hi <;> simp only [ho, h, nt]
theorem sub_facts {ρ : Ro} {I : Pr} {rows : List (List PV)} {a b : Int} (h0 : 0 ≤ a) (h1 : a ≤ b) (h2 : b ≤ (rows.length : Int)) :
    (((rows.take b.toNat).drop a.toNat).length : Int) = b - a ∧ rsz ((rows.take b.toNat).drop a.toNat) ≤ rsz rows := by
  refine ⟨?_, Nat.le_trans (rsz_drop_le _ _) (rsz_take_le _ _)⟩
  rw [List.length_drop, List.length_take]; omega
theorem dSliceL_good {P : Program} {I : Pr} {J : Ex} {σ σ' : DSt} {o : Oper} {t : TypeId} {x : Operand} {lo hi : Option Operand} {l h : Option Lin} {e : TypeId} {i : TypeInfo} {k : LV} {fr : Bool} {gs : List G} (ho : o.op = .slice t x lo hi none)
    (hlo : dopt σ lo = some l) (hhi : dopt σ hi = some h) (hu : P.underlying t = some (.slice e)) (hi' : P.info? e = some i)
    (hx : dev σ x = .p (.sl k) fr ∨ dev σ x = .pc k fr) (hd : dSliceL P σ o e i k fr l h = some (σ', gs)) : Good P I J σ o σ' gs := by
  unfold dSliceL at hd
  split at hd
  · rename_i k hoke
    simp only [Option.some.injEq, Prod.mk.injEq] at hd; obtain ⟨rfl, rfl⟩ := hd
    have ksc : σ.sc → k < σ.nx := fun hs => by
      have := hs.dev x
      rcases hx with hx | hx <;> rw [hx] at this <;> simp only [DV.vars, DP.vars, lvVars, Sc.cons] at this <;> exact this.1
    have a1 : σ.sc → Sc σ.nx (dlo l).vars := fun hs => dlo_sc (dopt_sc hs hlo)
    have a2 : σ.sc → Sc σ.nx (dhi (lvLen (some k)) h).vars := fun hs => dhi_sc (lvLen_sc (by simp only [lvVars, Sc.cons]; exact ⟨ksc hs, Sc.nil⟩)) (dopt_sc hs hhi)
    refine good_list (mk := fun l => .p (.sl l) fr) (fun n l hl => by simpa [DV.vars, DP.vars] using hl) (fun hs e he => ?_) (fun hs f hf => ?_) fun ρ hs hok hg => ?_
    · have b1 := (a1 hs).mono (Nat.le_succ σ.nx)
      have b2 := (a2 hs).mono (Nat.le_succ σ.nx)
      have := ksc hs
      simp only [subLin, List.mem_cons, List.mem_nil_iff, or_false] at he
      rcases he with rfl | rfl | rfl
      · exact Lin.ax_sc (Lin.ax_sc (Lin.at_sc (by omega)) b2) b1
      · exact Lin.ax_sc (Lin.ax_sc b2 b1) (Lin.at_sc (by omega))
      · exact Lin.ax_sc (Lin.at_sc (by omega)) (lvRsz_sc (by simp only [lvVars, Sc.cons]; exact ⟨by omega, Sc.nil⟩))
    · simp only [List.mem_singleton] at hf; subst hf
      have := ksc hs
      simp only [PF.vars, Sc.cons, Sc.app]
      exact ⟨Nat.lt_succ_self _, by omega, (a1 hs).mono (Nat.le_succ _), (a2 hs).mono (Nat.le_succ _)⟩
    · obtain ⟨ht, hlen⟩ := okElem_v hok hoke
      obtain ⟨q1, q2, q3, q4, q5, q6⟩ := bnds_v (n := (ρ k).l.length) (by rw [lvLen_v]; rfl) hg
      refine ⟨((ρ k).l.take ((dhi (lvLen (some k)) h).v ρ).toNat).drop ((dlo l).v ρ).toNat, ht.sub _ _, ?_⟩
      intro ρ' hρ ha hn
      obtain ⟨r1, r2⟩ := sub_facts (ρ := ρ) (I := I) q2 q3 q4
      have e1 := Lin.ag ha (a1 hs)
      have e2 := Lin.ag ha (a2 hs)
      have e3 : ρ' k = ρ k := ha k (ksc hs)
      refine ⟨⟨?_, ?_, ?_, trivial⟩, ⟨?_, trivial⟩, ?_⟩
      · simp only [Lin.ax_v, Lin.at_v, atomV1, hn, e1, e2]; omega
      · simp only [Lin.ax_v, Lin.at_v, atomV1, hn, e1, e2]; omega
      · simp only [Lin.ax_v, Lin.at_v, atomV2, hn, lvRsz_v, lvV, e3]; omega
      · simp only [PF.v, hn, e1, e2, e3]
      · refine ⟨⟨[], []⟩, ?_⟩
        have hsl : opSlice P (σ.v J ρ) o t x lo hi none = some ((σ.v J ρ).put o.dst (.p (.sl (((ρ k).l.take (bndHi (ρ k).l.length (h.map (Lin.v ρ)))).drop (bndLo (l.map (Lin.v ρ))))) fr), bndOk (ρ k).l.length (l.map (Lin.v ρ)) (h.map (Lin.v ρ)) ∧ ∀ row ∈ (ρ k).l, row.length = i.size) := by
          unfold opSlice
          rw [dopt_v ρ hlo, dopt_v ρ hhi, dev_v, hu]
          rcases hx with hx | hx <;> rw [hx] <;> simp only [DV.v, DP.v, lvV, hi']
        have hv : ∀ j, ev (σ.v J ρ) x ≠ .vec j := fun j => by
          rw [dev_v]
          rcases hx with hx | hx <;> rw [hx] <;> simp [DV.v]
        obtain ⟨ps, h1, h2⟩ := aop_slice (H := ⟨[], []⟩) ho hv hsl ⟨q1, hlen⟩
        refine ⟨ps, ?_, h2⟩
        rw [h1]
        simp only [DV.v, DP.v, lvV, hn, q5, q6]
  · cases hd
theorem dSlice_good {P : Program} {I : Pr} {J : Ex} {σ σ' : DSt} {o : Oper} {t : TypeId} {x : Operand} {lo hi : Option Operand} {gs : List G} (ho : o.op = .slice t x lo hi none) (hd : dSlice P σ o t x lo hi = some (σ', gs)) : Good P I J σ o σ' gs := by
  unfold dSlice at hd
  split at hd
  · rename_i l h hlo hhi
    split at hd
    · rename_i k fr e he hu
      split at hd
      · rename_i i hi'; exact dSliceL_good ho hlo hhi hu hi' (.inl he) hd
      · cases hd
    · rename_i k fr e he hu
      split at hd
      · rename_i i hi'; exact dSliceL_good ho hlo hhi hu hi' (.inr he) hd
      · cases hd
    · rename_i fr e he hu
      split at hd
      · rename_i i hi'
        simp only [Option.some.injEq, Prod.mk.injEq] at hd; obtain ⟨rfl, rfl⟩ := hd
        refine good_put (fun hs => by simp [DV.vars, DP.vars, Sc.nil]) fun ρ hs hok hg => ⟨⟨[], []⟩, ?_⟩
        obtain ⟨q1, _⟩ := bnds_v (n := 0) (by rw [Lin.lit_v]; rfl) hg
        have e1 : ev (σ.v J ρ) x = .p (.v (.slice none 0 0)) fr := by rw [dev_v, he]; simp [DV.v, DP.v]
        have hsl : opSlice P (σ.v J ρ) o t x lo hi none = some ((σ.v J ρ).put o.dst (.p (.v (.slice none 0 0)) true), bndOk 0 (l.map (Lin.v ρ)) (h.map (Lin.v ρ))) := by
          unfold opSlice
          rw [dopt_v ρ hlo, dopt_v ρ hhi, e1, hu]
          simp only [hi']
        obtain ⟨ps, h1, h2⟩ := aop_slice (H := ⟨[], []⟩) ho (by rw [e1]; simp) hsl q1
        exact ⟨ps, by rw [h1]; simp [DV.v, DP.v], h2⟩
      · cases hd
    · rename_i s fr he hu
      split at hd
      · cases hd
      rename_i hsok
      simp only [Option.some.injEq, Prod.mk.injEq] at hd; obtain ⟨rfl, rfl⟩ := hd
      have ssc : σ.sc → Sc σ.nx s.vars := fun hs => by have := hs.dev x; rw [he] at this; simpa [DV.vars, DP.vars] using this
      have a1 : σ.sc → Sc σ.nx (dlo l).vars := fun hs => dlo_sc (dopt_sc hs hlo)
      have a2 : σ.sc → Sc σ.nx (dhi (seSize s) h).vars := fun hs => dhi_sc (seSize_sc (ssc hs)) (dopt_sc hs hhi)
      refine good_str (fun hs e he => ?_) (by simp) fun ρ hs hok hg => ?_
      · have b1 := (a1 hs).mono (Nat.le_succ σ.nx)
        have b2 := (a2 hs).mono (Nat.le_succ σ.nx)
        simp only [List.mem_cons, List.mem_nil_iff, or_false] at he
        rcases he with rfl | rfl
        · exact Lin.ax_sc (Lin.ax_sc (Lin.at_sc (by omega)) b2) b1
        · exact Lin.ax_sc (Lin.ax_sc b2 b1) (Lin.at_sc (by omega))
      · obtain ⟨q1, q2, q3, q4, q5, q6⟩ := bnds_v (n := (s.v ρ).size) (seSize_v ρ s) hg
        have hsz : ((s.v ρ).extract ((dlo l).v ρ).toNat ((dhi (seSize s) h).v ρ).toNat).size = ((dhi (seSize s) h).v ρ).toNat - ((dlo l).v ρ).toNat := by
          rw [ByteArray.size_extract]; omega
        have hst : (s.v ρ).size ≤ mostStr := seOk_v hok.g hsok
        refine ⟨(s.v ρ).extract ((dlo l).v ρ).toNat ((dhi (seSize s) h).v ρ).toNat, Nat.le_trans (extract_le _ _ _) hst, ?_, ⟨[], []⟩, ?_⟩
        · rintro ρ' rfl
          have ha := up_ag ρ σ.nx σ.nx (vaS ((s.v ρ).extract ((dlo l).v ρ).toNat ((dhi (seSize s) h).v ρ).toNat)) (Nat.le_refl _)
          have hn : ((up ρ σ.nx (vaS ((s.v ρ).extract ((dlo l).v ρ).toNat ((dhi (seSize s) h).v ρ).toNat))) σ.nx).s = (s.v ρ).extract ((dlo l).v ρ).toNat ((dhi (seSize s) h).v ρ).toNat := by rw [up_same]; rfl
          have e1 := Lin.ag ha (a1 hs)
          have e2 := Lin.ag ha (a2 hs)
          refine ⟨⟨?_, ?_, trivial⟩, trivial⟩
          · simp only [Lin.ax_v, Lin.at_v, atomV3, hn, e1, e2, hsz]; omega
          · simp only [Lin.ax_v, Lin.at_v, atomV3, hn, e1, e2, hsz]; omega
        · have e1 : ev (σ.v J ρ) x = .p (.v (.string (s.v ρ))) fr := by rw [dev_v, he]; simp [DV.v, DP.v]
          have hsl : opSlice P (σ.v J ρ) o t x lo hi none = some ((σ.v J ρ).put o.dst (.p (.v (.string ((s.v ρ).extract (bndLo (l.map (Lin.v ρ))) (bndHi (s.v ρ).size (h.map (Lin.v ρ)))))) true), bndOk (s.v ρ).size (l.map (Lin.v ρ)) (h.map (Lin.v ρ))) := by
            unfold opSlice
            rw [dopt_v ρ hlo, dopt_v ρ hhi, e1, hu]
          obtain ⟨ps, h1, h2⟩ := aop_slice (H := ⟨[], []⟩) ho (by rw [e1]; simp) hsl q1
          exact ⟨ps, by rw [h1, q5, q6], h2⟩
    · cases hd
  · cases hd
end Go.TL
