/- Operations on numbers, truths, strings. -/
import Derived.Test.YtajkchpnbnbmfaaGreatDoorW13
import Derived.Laws.Strings
namespace Go.TL
def fuel : Nat := 8
def H6 : Nat := 10
def M5 (fs : List Lin) (e : Lin) : Bool := direct e fs
def bN (σ : DSt) (e : Lin) : Bool :=
 match M5 σ.lin e with
 | true => true
 | false => match nS σ.tys σ.lin e σ.hc with
  | true => true
  | false => (iR σ.lin fuel 1 H6 e).1
theorem bw {P : Program} {I : Pr} {σ : DSt} {ρ : Ro} {e : Lin} (hok : σ.ok P I ρ) (h : bN σ e = true) : e.v ρ ≤ 0 := by
 have hf : ∀ f ∈ σ.lin,f.v ρ ≤ 0 := fun _ hf => yZ hok.lin hf
 unfold bN at h
 split at h
 ·rename_i hq; exact mM hf hq
 ·split at h
  ·rename_i hq; exact pI hok.tys hok.g hf hq
  ·exact y8 hok.g σ.lin hf fuel 1 H6 e h
def vZ (σ : DSt) (k : IntKind) (e : Lin) : Bool :=
 match bN σ (e.aD (-k.max)) with
 | true => bN σ ((Lin.scale (-1) e).aD k.min)
 | false => false
theorem zf {k : IntKind} {n : Int} (h1 : k.min ≤ n) (h2 : n ≤ k.max) : k.wrap n = n := by
 cases k <;> simp [IntKind.min,IntKind.max,IntKind.bits,IntKind.signed] at h1 h2 <;> simp [IntKind.wrap,IntKind.bits,IntKind.signed] <;> omega
theorem Bv (k : IntKind) (n : Int) : k.min ≤ k.wrap n ∧ k.wrap n ≤ k.max := by
 cases k <;> simp [IntKind.min,IntKind.max,IntKind.wrap,IntKind.bits,IntKind.signed] <;> omega
theorem xZ {P : Program} {I : Pr} {σ : DSt} {ρ : Ro} {k : IntKind} {e : Lin} (hok : σ.ok P I ρ) (h : vZ σ k e = true) : k.wrap (e.v ρ) = e.v ρ := by
 unfold vZ at h
 split at h
 ·rename_i h1
  have a := bw hok h1
  have b := bw hok h
  rw [Lin.aB] at a
  rw [Lin.aB,Lin.aT] at b
  exact zf (by omega) (by omega)
 ·cases h
def jm (k : IntKind) (n : Nat) : List Lin :=
 match O8 k with
 | true => []
 | false => [(Lin.at (4 * n)).aD (-k.max),(Lin.scale (-1) (Lin.at (4 * n))).aD k.min]
theorem rU {m n : Nat} (h : n < m) : Sc m (Lin.at (4 * n)).vars := Lin.aS (by omega)
theorem M6 {k : IntKind} {n : Nat} : ∀ e ∈ jm k n,Sc (n + 1) e.vars := by
 intro e he
 unfold jm at he
 split at he
 ·simp at he
 ·simp only [List.mem_cons,List.mem_nil_iff,or_false] at he
  rcases he with rfl | rfl
  ·exact Lin.aX (rU (Nat.lt_succ_self n))
  ·exact Lin.aX (Lin.cL (rU (Nat.lt_succ_self n)))
theorem Pb {ρ : Ro} {k : IntKind} {n : Nat} (h1 : k.min ≤ (ρ n).n) (h2 : (ρ n).n ≤ k.max) : aR ρ (jm k n) := by
 unfold jm
 split
 ·trivial
 ·refine ⟨?_,?_,trivial⟩
  ·rw [Lin.aB,Lin.aW,gI]; omega
  ·rw [Lin.aB,Lin.aT,Lin.aW,gI]; omega
theorem uQ {σ : DSt} {lin : List Lin} {prs : List PF} (h1 : ∀ e ∈ lin,Sc (σ.nx + 1) e.vars) (h2 : ∀ f ∈ prs,Sc (σ.nx + 1) f.vars) : fT (σ.nx + 1) [] lin prs := ⟨by simp,h1,h2⟩
theorem jn {P : Program} {I : Pr} {σ : DSt} {o : Oper} {k : IntKind} {gs : List G} {lin : List Lin} (hk : kP k = false) (hl : σ.sc → ∀ e ∈ lin,Sc (σ.nx + 1) e.vars)
  (h : ∀ ρ,σ.sc → σ.ok P I ρ → gsV I ρ gs → ∃ z : Int,k.min ≤ z ∧ z ≤ k.max ∧ (∀ ρ',ρ' = up ρ σ.nx (vaN z) → aR ρ' lin) ∧
   ∃ (H : Hint) (ps : List Prop),aop P H (σ.v ρ) o = some ((σ.v ρ).put o.dst (.p (.v (.int k z)) true),ps) ∧ ia ps) :
  Good P I σ o ((σ.grow 1 [] (jm k σ.nx ++ lin) []).put o.dst (.p (.int k (Lin.at (4 * σ.nx))) true)) gs := by
 refine jl (fun hs => by simp only [DV.vars,DP.vars]; exact rU (Nat.lt_succ_self _)) (fun hs => uQ (fun e he => ?_) (by simp)) ?_
 ·rcases List.mem_append.1 he with he | he
  ·exact M6 e he
  ·exact hl hs e he
 ·intro ρ hs hok hg
  obtain ⟨z,h1,h2,h3,H,ps,h4,h5⟩ := h ρ hs hok hg
  have hv : ig (vaN z) := rJ (Int.le_trans Ef h1) (Int.le_trans h2 (Eg hk))
  have hn : (up ρ σ.nx (vaN z) σ.nx).n = z := by rw [aI]; rfl
  refine ⟨up ρ σ.nx (vaN z),bR _ _ _ _ (Nat.le_refl _),hok.g.up _ hv,trivial,cq (Pb (by rw [hn]; exact h1) (by rw [hn]; exact h2)) (h3 _ rfl),trivial,H,ps,?_,h5⟩
  rw [h4]
  simp [DV.v,DP.v,Lin.aW,gI,hn]
theorem H7 {P : Program} {I : Pr} {σ : DSt} {o : Oper} {gs : List G}
  (h : ∀ ρ,σ.sc → σ.ok P I ρ → gsV I ρ gs → ∃ z : Bool, ∃ (H : Hint) (ps : List Prop),aop P H (σ.v ρ) o = some ((σ.v ρ).put o.dst (.p (.v (.bool z)) true),ps) ∧ ia ps) :
  Good P I σ o ((σ.grow 1 [] [] []).put o.dst (.p (.bl (.var σ.nx)) true)) gs := by
 refine jl (fun hs => by simp only [DV.vars,DP.vars,BF.vars,Sc.cons]; exact ⟨Nat.lt_succ_self _,Sc.nil⟩) (fun hs => uQ (by simp) (by simp)) ?_
 intro ρ hs hok hg
 obtain ⟨z,H,ps,h4,h5⟩ := h ρ hs hok hg
 have hn : (up ρ σ.nx (vaB z) σ.nx).b = z := by rw [aI]; rfl
 refine ⟨up ρ σ.nx (vaB z),bR _ _ _ _ (Nat.le_refl _),hok.g.up _ (nU z),trivial,trivial,trivial,H,ps,?_,h5⟩
 rw [h4]
 simp [DV.v,DP.v,BF.v,hn]
theorem Bw {P : Program} {I : Pr} {σ : DSt} {o : Oper} {gs : List G} {lin : List Lin} {prs : List PF} (hl : σ.sc → ∀ e ∈ lin,Sc (σ.nx + 1) e.vars) (hp : σ.sc → ∀ f ∈ prs,Sc (σ.nx + 1) f.vars)
  (h : ∀ ρ,σ.sc → σ.ok P I ρ → gsV I ρ gs → ∃ z : ByteArray,z.size ≤ bz ∧ (∀ ρ',ρ' = up ρ σ.nx (vaS z) → aR ρ' lin ∧ bQ I ρ' prs) ∧
   ∃ (H : Hint) (ps : List Prop),aop P H (σ.v ρ) o = some ((σ.v ρ).put o.dst (.p (.v (.string z)) true),ps) ∧ ia ps) :
  Good P I σ o ((σ.grow 1 [] lin prs).put o.dst (.p (.st (.var σ.nx)) true)) gs := by
 refine jl (fun hs => by simp only [DV.vars,DP.vars,SE.vars,Sc.cons]; exact ⟨Nat.lt_succ_self _,Sc.nil⟩) (fun hs => uQ (hl hs) (hp hs)) ?_
 intro ρ hs hok hg
 obtain ⟨z,h1,h3,H,ps,h4,h5⟩ := h ρ hs hok hg
 have hn : (up ρ σ.nx (vaS z) σ.nx).s = z := by rw [aI]; rfl
 obtain ⟨q1,q2⟩ := h3 _ rfl
 refine ⟨up ρ σ.nx (vaS z),bR _ _ _ _ (Nat.le_refl _),hok.g.up _ (nV h1),trivial,q1,q2,H,ps,?_,h5⟩
 rw [h4]
 simp [DV.v,DP.v,SE.v,hn]
def n4 (e : Lin) : Option Int := match e.t with | [] => some e.c | _ => none
theorem pP {ρ : Ro} {e : Lin} {z : Int} (h : n4 e = some z) : e.v ρ = z := by
 unfold n4 at h
 split at h
 ·rename_i ht; simp only [Option.some.injEq] at h; subst h; unfold Lin.v; rw [ht]; simp [bO]
 ·cases h
def rV (op : BinOp) (a b : Lin) : Option Lin :=
 match op with
 | .add => some (a.ax 1 b)
 | .sub => some (a.ax (-1) b)
 | .mul => match n4 a,n4 b with
  | some z,_ => some (Lin.scale z b)
  | _,some z => some (Lin.scale z a)
  | _,_ => none
 | _ => none
theorem Bx {ρ : Ro} {op : BinOp} {a b e : Lin} (h : rV op a b = some e) : arith op (a.v ρ) (b.v ρ) = some (e.v ρ) := by
 cases op <;> simp only [rV,Option.some.injEq,reduceCtorEq] at h
 ·subst h; simp [arith,Lin.aZ]
 ·subst h; simp only [arith,Lin.aZ]; congr 1; omega
 ·split at h
  ·rename_i z hz; simp only [Option.some.injEq] at h; subst h; simp [arith,Lin.aT,pP hz]
  ·rename_i z hz _; simp only [Option.some.injEq] at h; subst h; simp only [arith,Lin.aT,pP hz,Int.mul_comm]
  ·cases h
theorem H8 {n : Nat} {op : BinOp} {a b e : Lin} (h : rV op a b = some e) (ha : Sc n a.vars) (hb : Sc n b.vars) : Sc n e.vars := by
 cases op <;> simp only [rV,Option.some.injEq,reduceCtorEq] at h
 ·subst h; exact Lin.aw ha hb
 ·subst h; exact Lin.aw ha hb
 ·split at h
  ·simp only [Option.some.injEq] at h; subst h; exact Lin.cL hb
  ·simp only [Option.some.injEq] at h; subst h; exact Lin.cL ha
  ·cases h
def sV (op : BinOp) (a b : Lin) : Option BF :=
 match op with
 | .eql => some (.eq (a.ax (-1) b))
 | .neq => some (.not (.eq (a.ax (-1) b)))
 | .lss => some (.le ((a.ax (-1) b).aD 1))
 | .leq => some (.le (a.ax (-1) b))
 | .gtr => some (.le ((b.ax (-1) a).aD 1))
 | .geq => some (.le (b.ax (-1) a))
 | _ => none
theorem M7 {ρ : Ro} {op : BinOp} {a b : Lin} {f : BF} (h : sV op a b = some f) : o6 op (a.v ρ) (b.v ρ) = some (f.v ρ) := by
 cases op <;> simp only [sV,Option.some.injEq,reduceCtorEq] at h <;> subst h <;> simp only [o6,BF.v,Lin.aZ,Lin.aB,Option.some.injEq] <;> rw [Bool.eq_iff_iff] <;> simp <;> omega
theorem J5 {n : Nat} {op : BinOp} {a b : Lin} {f : BF} (h : sV op a b = some f) (ha : Sc n a.vars) (hb : Sc n b.vars) : Sc n f.vars := by
 cases op <;> simp only [sV,Option.some.injEq,reduceCtorEq] at h <;> subst h <;> simp only [BF.vars]
 ·exact Lin.aw ha hb
 ·exact Lin.aw ha hb
 ·exact Lin.aX (Lin.aw ha hb)
 ·exact Lin.aw ha hb
 ·exact Lin.aX (Lin.aw hb ha)
 ·exact Lin.aw hb ha
def wc (f : BF) : BF :=
 match f with
 | .le e => match e.t with | [] => .lit (leZ e.c) | _ => f
 | .eq e => match e.t with | [] => .lit (isZ e.c) | _ => f
 | .not (.eq e) => match e.t with | [] => .lit (!isZ e.c) | _ => f
 | f => f
theorem M8 (z : Int) : leZ z = decide (z ≤ 0) := by
 cases z with
 | ofNat n => simp only [leZ]; rw [Bool.eq_iff_iff]; simp [Nat.beq_eq]
 | negSucc n => simp [leZ]; omega
theorem Ei (z : Int) : isZ z = decide (z = 0) := by
 cases z with
 | ofNat n => simp only [isZ]; rw [Bool.eq_iff_iff]; simp [Nat.beq_eq]
 | negSucc n => simp [isZ]
theorem M9 (ρ : Ro) (f : BF) : (wc f).v ρ = f.v ρ := by
 unfold wc
 split
 ·rename_i e; split
  ·rename_i h; simp [BF.v,Lin.v,h,bO,M8]
  ·rfl
 ·rename_i e; split
  ·rename_i h; simp [BF.v,Lin.v,h,bO,Ei]
  ·rfl
 ·rename_i e; split
  ·rename_i h; simp [BF.v,Lin.v,h,bO,Ei]
  ·rfl
 ·rfl
theorem J6 {n : Nat} {f : BF} (h : Sc n f.vars) : Sc n (wc f).vars := by
 unfold wc
 split
 ·split
  ·exact Sc.nil
  ·exact h
 ·split
  ·exact Sc.nil
  ·exact h
 ·split
  ·exact Sc.nil
  ·exact h
 ·exact h
def rW : DV → Option SE
 | .p (.st e) _ => some e
 | _ => none
theorem By {ρ : Ro} {x : DV} {e : SE} (h : rW x = some e) : isStr (x.v ρ) = some (e.v ρ) ∧ isInt (x.v ρ) = none := by
 unfold rW at h
 split at h
 ·simp only [Option.some.injEq] at h; subst h; simp [DV.v,DP.v,isStr,isInt]
 ·cases h
theorem Ej {n : Nat} {x : DV} {e : SE} (h : rW x = some e) (hx : Sc n x.vars) : Sc n e.vars := by
 unfold rW at h
 split at h
 ·simp only [Option.some.injEq] at h; subst h; simpa [DV.vars,DP.vars] using hx
 ·cases h
def cu : SE → Lin
 | .lit b => Lin.lit (b.length : Int)
 | .var k => Lin.at (4 * k + 3)
theorem il (ρ : Ro) (e : SE) : (cu e).v ρ = ((e.v ρ).size : Int) := by
 cases e with
 | lit b => simp [cu,Lin.bI,SE.v,ByteArray.size]
 | var k => simp [cu,Lin.aW,gJ,SE.v]
theorem mP {n : Nat} {e : SE} (h : Sc n e.vars) : Sc n (cu e).vars := by
 cases e with
 | lit b => exact Lin.cI
 | var k => simp only [SE.vars,Sc.cons] at h; exact Lin.aS (by omega)
def lq : List UInt8 → List UInt8 → Bool
 | [],[] => true
 | a :: r,b :: s => match Nat.beq a.toNat b.toNat with | true => lq r s | false => false
 | _,_ => false
def Bz (σ : DSt) (o : Oper) (op : BinOp) (k : IntKind) (a b : Lin) : DR :=
 match rV op a b with
 | some e => match vZ σ k e with
  | true => some (σ.put o.dst (.p (.int k e) true),[])
  | false => match kP k with
   | false => some ((σ.grow 1 [] (jm k σ.nx ++ []) []).put o.dst (.p (.int k (Lin.at (4 * σ.nx))) true),[])
   | true => none
 | none => match op,kP k with
  | .mul,false => some ((σ.grow 1 [] (jm k σ.nx ++ []) []).put o.dst (.p (.int k (Lin.at (4 * σ.nx))) true),[])
  | _,_ => none
theorem J7 {op : BinOp} {a b n : Int} (h : arith op a b = some n) : dG op = true := by cases op <;> simp [arith] at h <;> rfl
theorem zg {P : Program} {H : Hint} {s : St} {o : Oper} {op : BinOp} {t t' : TypeId} {x y : Operand} {k : IntKind} {a b n : Int} (ho : o.op = .binOp op t x y t') (hx : isInt (ev s x) = some (k,a)) (hy : isInt (ev s y) = some (k,b))
  (hn : arith op a b = some n) (d : Nat) (hd : o.dst = some d) (z : Int) (hH : H = ⟨[(d,[.v (.int k z)])],[]⟩) : aop P H s o = some (s.put o.dst (.p (.v (.int k z)) true),[k.wrap n = z]) := by
 unfold aop
 subst hH
 simp only [ho,J7 hn,lH,hd,lk,Nat.beq_refl,hx,hy,and_self,decide_true,hn,nt]
theorem Dx {P : Program} {I : Pr} {σ σ' : DSt} {o : Oper} {op : BinOp} {t t' : TypeId} {x y : Operand} {k : IntKind} {a b : Lin} {gs : List G} (d : Nat) (hd : o.dst = some d) (ho : o.op = .binOp op t x y t')
  (hx : eN (dev σ x) = some (k,a)) (hy : eN (dev σ y) = some (k,b)) (h : Bz σ o op k a b = some (σ',gs)) : Good P I σ o σ' gs := by
 have ex : ∀ ρ,isInt (ev (σ.v ρ) x) = some (k,a.v ρ) := fun ρ => by rw [aA]; exact (dA hx).1
 have ey : ∀ ρ,isInt (ev (σ.v ρ) y) = some (k,b.v ρ) := fun ρ => by rw [aA]; exact (dA hy).1
 have newOne : ∀ (hk : kP k = false),(∀ ρ, ∃ n,arith op (a.v ρ) (b.v ρ) = some n) →
   Good P I σ o ((σ.grow 1 [] (jm k σ.nx ++ []) []).put o.dst (.p (.int k (Lin.at (4 * σ.nx))) true)) [] := by
  intro hk hn
  refine jn hk (by simp) fun ρ hs hok _ => ?_
  obtain ⟨n,hn⟩ := hn ρ
  refine ⟨k.wrap n,(Bv k n).1,(Bv k n).2,fun _ _ => trivial,⟨[(d,[.v (.int k (k.wrap n))])],[]⟩,[k.wrap n = k.wrap n],?_,⟨rfl,trivial⟩⟩
  exact zg ho (ex ρ) (ey ρ) hn d hd _ rfl
 unfold Bz at h
 split at h
 ·rename_i e he
  split at h
  ·rename_i hf
   simp only [Option.some.injEq,Prod.mk.injEq] at h; obtain ⟨rfl,rfl⟩ := h
   refine a6 (fun hs => by simp only [DV.vars,DP.vars]; exact H8 he (dt hx (hs.dev x)) (dt hy (hs.dev y))) fun ρ hs hok _ => ?_
   refine ⟨⟨[(d,[.v (.int k (e.v ρ))])],[]⟩,[k.wrap (e.v ρ) = e.v ρ],?_,⟨xZ hok hf,trivial⟩⟩
   rw [zg ho (ex ρ) (ey ρ) (Bx he) d hd _ rfl]; simp [DV.v,DP.v]
  ·split at h
   ·rename_i hk
    simp only [Option.some.injEq,Prod.mk.injEq] at h; obtain ⟨rfl,rfl⟩ := h
    exact newOne hk fun ρ => ⟨_,Bx he⟩
   ·cases h
 ·split at h
  ·rename_i hk _
   simp only [Option.some.injEq,Prod.mk.injEq] at h; obtain ⟨rfl,rfl⟩ := h
   exact newOne hk fun ρ => ⟨_,rfl⟩
  ·cases h
def FN (σ : DSt) (o : Oper) (op : BinOp) (k : IntKind) (a b : Lin) : DR :=
 match n4 b,kP k with
 | some (.ofNat (m + 1)),false => match bN σ (Lin.scale (-1) a) with
  | true => match op with
   | .rem => some ((σ.grow 1 [] (jm k σ.nx ++ [Lin.scale (-1) (Lin.at (4 * σ.nx)),(Lin.at (4 * σ.nx)).aD (-(m : Int)),(Lin.at (4 * σ.nx)).ax (-1) a]) []).put o.dst (.p (.int k (Lin.at (4 * σ.nx))) true),[.le (a.aD (-k.max))])
   | .quo => some ((σ.grow 1 [] (jm k σ.nx ++ [Lin.scale (-1) (Lin.at (4 * σ.nx)),(Lin.scale ((m : Int) + 1) (Lin.at (4 * σ.nx))).ax (-1) a,(a.ax (-1) (Lin.scale ((m : Int) + 1) (Lin.at (4 * σ.nx)))).aD (-(m : Int)),(Lin.at (4 * σ.nx)).ax (-1) a]) []).put o.dst (.p (.int k (Lin.at (4 * σ.nx))) true),[.le (a.aD (-k.max))])
   | _ => none
  | false => none
 | _,_ => none
theorem Ek (k : IntKind) : k.min ≤ 0 := by cases k <;> decide
theorem zh {P : Program} {I : Pr} {σ σ' : DSt} {o : Oper} {op : BinOp} {t t' : TypeId} {x y : Operand} {k : IntKind} {a b : Lin} {gs : List G} (d : Nat) (hd : o.dst = some d) (ho : o.op = .binOp op t x y t')
  (hx : eN (dev σ x) = some (k,a)) (hy : eN (dev σ y) = some (k,b)) (h : FN σ o op k a b = some (σ',gs)) : Good P I σ o σ' gs := by
 have ex : ∀ ρ,isInt (ev (σ.v ρ) x) = some (k,a.v ρ) := fun ρ => by rw [aA]; exact (dA hx).1
 have ey : ∀ ρ,isInt (ev (σ.v ρ) y) = some (k,b.v ρ) := fun ρ => by rw [aA]; exact (dA hy).1
 have asc : σ.sc → Sc (σ.nx + 1) a.vars := fun hs => (dt hx (hs.dev x)).mono (Nat.le_succ _)
 have vsc : Sc (σ.nx + 1) (Lin.at (4 * σ.nx)).vars := rU (Nat.lt_succ_self _)
 unfold FN at h
 split at h
 ·rename_i m hb hk
  have hbv : ∀ ρ,b.v ρ = (m : Int) + 1 := fun ρ => by rw [pP hb]; rfl
  split at h
  ·rename_i ha
   split at h
   ·simp only [Option.some.injEq,Prod.mk.injEq] at h; obtain ⟨rfl,rfl⟩ := h
    refine jn hk (fun hs e he => ?_) fun ρ hs hok hg => ?_
    ·simp only [List.mem_cons,List.mem_nil_iff,or_false] at he
     rcases he with rfl | rfl | rfl
     ·exact Lin.cL vsc
     ·exact Lin.aX vsc
     ·exact Lin.aw vsc (asc hs)
    ·have h0 := bw hok ha
     rw [Lin.aT] at h0
     simp only [gsV,G.v,Lin.aB,and_true] at hg
     have e1 : (a.v ρ).tmod ((m : Int) + 1) = (a.v ρ) % ((m : Int) + 1) := Int.tmod_eq_emod_of_nonneg (by omega)
     have e2 := Int.emod_nonneg (a.v ρ) (b := (m : Int) + 1) (by omega)
     have e3 := Int.emod_lt_of_pos (a.v ρ) (b := (m : Int) + 1) (by omega)
     have e4 : (a.v ρ) % ((m : Int) + 1) ≤ a.v ρ := by
      have q1 := Int.emod_add_mul_ediv (a.v ρ) ((m : Int) + 1)
      have q2 := Int.ediv_nonneg (a := a.v ρ) (b := (m : Int) + 1) (by omega) (by omega)
      have q3 : 0 ≤ ((m : Int) + 1) * (a.v ρ / ((m : Int) + 1)) := Int.mul_nonneg (by omega) q2
      omega
     have := Ek k
     refine ⟨(a.v ρ) % ((m : Int) + 1),by omega,by omega,?_,⟨[],[]⟩,[(m : Int) + 1 ≠ 0],?_,⟨by omega,trivial⟩⟩
     ·rintro ρ' rfl
      have hn : ((up ρ σ.nx (vaN ((a.v ρ) % ((m : Int) + 1)))) σ.nx).n = (a.v ρ) % ((m : Int) + 1) := by rw [aI]; rfl
      have hav := Lin.ag (bR ρ σ.nx σ.nx (vaN ((a.v ρ) % ((m : Int) + 1))) (Nat.le_refl _)) (dt hx (hs.dev x))
      refine ⟨?_,?_,?_,trivial⟩ <;> simp only [Lin.aT,Lin.aB,Lin.aZ,Lin.aW,gI,hn,hav] <;> omega
     ·unfold aop
      simp only [ho,dG,lH,hd,lk,gq,ex,ey,hbv,decide_true,arith,o6,e1,nt]
   ·simp only [Option.some.injEq,Prod.mk.injEq] at h; obtain ⟨rfl,rfl⟩ := h
    refine jn hk (fun hs e he => ?_) fun ρ hs hok hg => ?_
    ·simp only [List.mem_cons,List.mem_nil_iff,or_false] at he
     rcases he with rfl | rfl | rfl | rfl
     ·exact Lin.cL vsc
     ·exact Lin.aw (Lin.cL vsc) (asc hs)
     ·exact Lin.aX (Lin.aw (asc hs) (Lin.cL vsc))
     ·exact Lin.aw vsc (asc hs)
    ·have h0 := bw hok ha
     rw [Lin.aT] at h0
     simp only [gsV,G.v,Lin.aB,and_true] at hg
     have e1 : (a.v ρ).tdiv ((m : Int) + 1) = (a.v ρ) / ((m : Int) + 1) := Int.tdiv_eq_ediv_of_nonneg (by omega)
     have e2 := Int.ediv_nonneg (a := a.v ρ) (b := (m : Int) + 1) (by omega) (by omega)
     have e3 : (a.v ρ) / ((m : Int) + 1) ≤ a.v ρ := Int.ediv_le_self _ (by omega)
     have e4 := Int.mul_ediv_add_emod (a.v ρ) ((m : Int) + 1)
     have e5 := Int.emod_nonneg (a.v ρ) (b := (m : Int) + 1) (by omega)
     have e6 := Int.emod_lt_of_pos (a.v ρ) (b := (m : Int) + 1) (by omega)
     have := Ek k
     refine ⟨(a.v ρ) / ((m : Int) + 1),by omega,by omega,?_,⟨[],[]⟩,[(m : Int) + 1 ≠ 0 ∧ k.wrap ((a.v ρ) / ((m : Int) + 1)) = (a.v ρ) / ((m : Int) + 1)],?_,⟨⟨by omega,zf (by omega) (by omega)⟩,trivial⟩⟩
     ·rintro ρ' rfl
      have hn : ((up ρ σ.nx (vaN ((a.v ρ) / ((m : Int) + 1)))) σ.nx).n = (a.v ρ) / ((m : Int) + 1) := by rw [aI]; rfl
      have hav := Lin.ag (bR ρ σ.nx σ.nx (vaN ((a.v ρ) / ((m : Int) + 1))) (Nat.le_refl _)) (dt hx (hs.dev x))
      refine ⟨?_,?_,?_,?_,trivial⟩ <;> simp only [Lin.aT,Lin.aB,Lin.aZ,Lin.aW,gI,hn,hav] <;> omega
     ·unfold aop
      simp only [ho,dG,lH,hd,lk,gq,ex,ey,hbv,decide_true,arith,o6,e1,nt]
   ·cases h
  ·cases h
 ·cases h
end Go.TL
namespace Go.TL
def we : DV → Option Bool
 | .ptr _ _ => some false
 | .pd _ _ _ => some false
 | .vptr _ _ _ _ => some false
 | .p (.cst (.pointer none)) _ => some true
 | _ => none
def Ai : DV → Option Bool
 | .fn _ _ _ => some false
 | .p (.cst .nilFunc) _ => some true
 | _ => none
theorem n6 {ρ : Ro} {x : DV} {b : Bool} (h : we x = some b) : o9 (x.v ρ) = some b ∧ isInt (x.v ρ) = none ∧ isStr (x.v ρ) = none := by
 unfold we at h
 split at h <;> first | (simp only [Option.some.injEq] at h; subst h; simp [DV.v,DP.v,o9,isInt,isStr]) | cases h
theorem sW {ρ : Ro} {x : DV} {b : Bool} (h : Ai x = some b) : xG (x.v ρ) = some b ∧ isInt (x.v ρ) = none ∧ isStr (x.v ρ) = none := by
 unfold Ai at h
 split at h <;> first | (simp only [Option.some.injEq] at h; subst h; simp [DV.v,DP.v,xG,isInt,isStr]) | cases h
def BA (P : Program) (σ : DSt) (t : TypeId) (x y : Operand) : Option Bool :=
 match P.underlying t with
 | some (.pointer _) => match we (dev σ x),we (dev σ y) with
  | some p,some true => some p
  | some true,some q => some q
  | _,_ => none
 | some (.func _ _ _) => match Ai (dev σ x),Ai (dev σ y) with
  | some p,some true => some p
  | some true,some q => some q
  | _,_ => none
 | _ => none
theorem BB {P : Program} {σ : DSt} {ρ : Ro} {t : TypeId} {x y : Operand} {b : Bool} (h : BA P σ t x y = some b) :
  jE P (σ.v ρ) t x y = some b ∧ isInt (ev (σ.v ρ) x) = none ∧ isStr (ev (σ.v ρ) x) = none := by
 unfold BA at h
 simp only [aA]
 split at h
 ·rename_i e hu
  split at h
  ·rename_i p hx hy
   simp only [Option.some.injEq] at h; subst h
   obtain ⟨a1,a2,a3⟩ := n6 (ρ := ρ) hx
   obtain ⟨b1,_,_⟩ := n6 (ρ := ρ) hy
   exact ⟨by simp only [jE,hu,aA,a1,b1],a2,a3⟩
  ·rename_i q hn hx hy
   simp only [Option.some.injEq] at h; subst h
   obtain ⟨a1,a2,a3⟩ := n6 (ρ := ρ) hx
   obtain ⟨b1,_,_⟩ := n6 (ρ := ρ) hy
   refine ⟨?_,a2,a3⟩
   simp only [jE,hu,aA,a1,b1]
  ·cases h
 ·rename_i hu
  split at h
  ·rename_i p hx hy
   simp only [Option.some.injEq] at h; subst h
   obtain ⟨a1,a2,a3⟩ := sW (ρ := ρ) hx
   obtain ⟨b1,_,_⟩ := sW (ρ := ρ) hy
   exact ⟨by simp only [jE,hu,aA,a1,b1],a2,a3⟩
  ·rename_i q hn hx hy
   simp only [Option.some.injEq] at h; subst h
   obtain ⟨a1,a2,a3⟩ := sW (ρ := ρ) hx
   obtain ⟨b1,_,_⟩ := sW (ρ := ρ) hy
   refine ⟨?_,a2,a3⟩
   simp only [jE,hu,aA,a1,b1]
  ·cases h
 ·cases h
def H9 (s r : SE) (n : Nat) : List Lin := [((Lin.at (4 * n + 3)).ax (-1) (cu s)).ax (-1) (cu r),((cu s).ax 1 (cu r)).ax (-1) (Lin.at (4 * n + 3))]
def BC (σ : DSt) (o : Oper) (op : BinOp) (s r : SE) : DR :=
 match op with
 | .add => some ((σ.grow 1 [] (H9 s r σ.nx) [.cat σ.nx s r]).put o.dst (.p (.st (.var σ.nx)) true),[.le (((cu s).ax 1 (cu r)).aD (-1073741824))])
 | .eql => match s,r with
  | .lit a,.lit b => some (σ.put o.dst (.p (.bl (.lit (lq a b))) true),[])
  | _,_ => some ((σ.grow 1 [] [] []).put o.dst (.p (.bl (.var σ.nx)) true),[])
 | .neq => match s,r with
  | .lit a,.lit b => some (σ.put o.dst (.p (.bl (.lit (!lq a b))) true),[])
  | _,_ => some ((σ.grow 1 [] [] []).put o.dst (.p (.bl (.var σ.nx)) true),[])
 | .lss | .leq | .gtr | .geq => some ((σ.grow 1 [] [] []).put o.dst (.p (.bl (.var σ.nx)) true),[])
 | _ => none
theorem kR : ∀ a b : List UInt8,lq a b = (a == b)
 | [],[] => rfl
 | a :: r,b :: s => by
  simp only [lq]
  cases hb : Nat.beq a.toNat b.toNat with
  | true =>
   have : a = b := UInt8.toNat_inj.1 (Nat.eq_of_beq_eq_true hb)
   subst this
   simp [kR r s]
  | false =>
   have : a ≠ b := fun e => by subst e; simp at hb
   simp [this]
 | [],_ :: _ => rfl
 | _ :: _,[] => rfl
theorem Em {P : Program} {H : Hint} {s : St} {o : Oper} {op : BinOp} {t t' : TypeId} {x y : Operand} {a b : ByteArray} (ho : o.op = .binOp op t x y t') (hx : isStr (ev s x) = some a) (hy : isStr (ev s y) = some b) (hi : isInt (ev s x) = none)
  (c : Bool) (hc : kj op a b = some c) : aop P H s o = some (s.put o.dst (.p (.v (.bool c)) true),[]) := by
 have har : dG op = false := by cases op <;> simp [kj] at hc <;> rfl
 unfold aop
 simp only [ho,har,gq,hi,hx,hy,hc,tr]
theorem Dy {P : Program} {I : Pr} {σ σ' : DSt} {o : Oper} {op : BinOp} {t t' : TypeId} {x y : Operand} {s r : SE} {gs : List G} (ho : o.op = .binOp op t x y t')
  (hx : rW (dev σ x) = some s) (hy : rW (dev σ y) = some r) (h : BC σ o op s r = some (σ',gs)) : Good P I σ o σ' gs := by
 have ex : ∀ ρ,isStr (ev (σ.v ρ) x) = some (s.v ρ) := fun ρ => by rw [aA]; exact (By hx).1
 have ei : ∀ ρ,isInt (ev (σ.v ρ) x) = none := fun ρ => by rw [aA]; exact (By hx).2
 have ey : ∀ ρ,isStr (ev (σ.v ρ) y) = some (r.v ρ) := fun ρ => by rw [aA]; exact (By hy).1
 have fN : (∀ a b, ∃ c,kj op a b = some c) → Good P I σ o ((σ.grow 1 [] [] []).put o.dst (.p (.bl (.var σ.nx)) true)) [] := by
  intro hc
  refine H7 fun ρ hs hok _ => ?_
  obtain ⟨c,hc⟩ := hc (s.v ρ) (r.v ρ)
  exact ⟨c,⟨[],[]⟩,[],Em ho (ex ρ) (ey ρ) (ei ρ) c hc,trivial⟩
 have litB : ∀ (c : Bool),(∀ ρ,kj op (s.v ρ) (r.v ρ) = some c) → Good P I σ o (σ.put o.dst (.p (.bl (.lit c)) true)) [] := by
  intro c hc
  refine a6 (fun hs => by simp [DV.vars,DP.vars,BF.vars,Sc.nil]) fun ρ hs hok _ => ⟨⟨[],[]⟩,[],?_,trivial⟩
  rw [Em ho (ex ρ) (ey ρ) (ei ρ) c (hc ρ)]
  simp [DV.v,DP.v,BF.v]
 unfold BC at h
 split at h
 ·simp only [Option.some.injEq,Prod.mk.injEq] at h; obtain ⟨rfl,rfl⟩ := h
  have ssc : σ.sc → Sc σ.nx s.vars := fun hs => Ej hx (hs.dev x)
  have rsc : σ.sc → Sc σ.nx r.vars := fun hs => Ej hy (hs.dev y)
  have nsc : Sc (σ.nx + 1) (Lin.at (4 * σ.nx + 3)).vars := Lin.aS (by omega)
  refine Bw (fun hs e he => ?_) (fun hs f hf => ?_) fun ρ hs hok hg => ?_
  ·simp only [H9,List.mem_cons,List.mem_nil_iff,or_false] at he
   have a1 := (mP (ssc hs)).mono (Nat.le_succ σ.nx)
   have a2 := (mP (rsc hs)).mono (Nat.le_succ σ.nx)
   rcases he with rfl | rfl
   ·exact Lin.aw (Lin.aw nsc a1) a2
   ·exact Lin.aw (Lin.aw a1 a2) nsc
  ·simp only [List.mem_singleton] at hf; subst hf
   simp only [PF.vars,Sc.cons,Sc.app]
   exact ⟨Nat.lt_succ_self _,(ssc hs).mono (Nat.le_succ _),(rsc hs).mono (Nat.le_succ _)⟩
  ·simp only [gsV,G.v,Lin.aB,Lin.aZ,il,and_true] at hg
   have hsz : (s.v ρ ++ r.v ρ).size = (s.v ρ).size + (r.v ρ).size := ByteArray.size_append
   refine ⟨s.v ρ ++ r.v ρ,by rw [hsz]; unfold bz; omega,?_,⟨[],[]⟩,[(s.v ρ).size + (r.v ρ).size ≤ 4611686018427387904],?_,⟨by omega,trivial⟩⟩
   ·rintro ρ' rfl
    have ha := bR ρ σ.nx σ.nx (vaS (s.v ρ ++ r.v ρ)) (Nat.le_refl _)
    have hn : ((up ρ σ.nx (vaS (s.v ρ ++ r.v ρ))) σ.nx).s = s.v ρ ++ r.v ρ := by rw [aI]; rfl
    have e1 := SE.ag ha (ssc hs)
    have e2 := SE.ag ha (rsc hs)
    refine ⟨⟨?_,?_,trivial⟩,⟨?_,trivial⟩⟩
    ·simp only [Lin.aZ,Lin.aW,gJ,il,hn,e1,e2,hsz]; omega
    ·simp only [Lin.aZ,Lin.aW,gJ,il,hn,e1,e2,hsz]; omega
    ·simp only [PF.v,hn,e1,e2]
   ·unfold aop
    simp only [ho,dG,lH,gq,ei,ex,ey,kj]
    cases o.dst with
    | none => rfl
    | some d => simp [lk,nt]
 ·split at h
  ·rename_i a b
   simp only [Option.some.injEq,Prod.mk.injEq] at h; obtain ⟨rfl,rfl⟩ := h
   exact litB _ fun ρ => by simp [kj,SE.v,kR]
  ·simp only [Option.some.injEq,Prod.mk.injEq] at h; obtain ⟨rfl,rfl⟩ := h
   exact fN fun a b => ⟨_,rfl⟩
 ·split at h
  ·rename_i a b
   simp only [Option.some.injEq,Prod.mk.injEq] at h; obtain ⟨rfl,rfl⟩ := h
   exact litB _ fun ρ => by simp [kj,SE.v,kR]
  ·simp only [Option.some.injEq,Prod.mk.injEq] at h; obtain ⟨rfl,rfl⟩ := h
   exact fN fun a b => ⟨_,rfl⟩
 ·simp only [Option.some.injEq,Prod.mk.injEq] at h; obtain ⟨rfl,rfl⟩ := h
  exact fN fun a b => ⟨_,rfl⟩
 ·simp only [Option.some.injEq,Prod.mk.injEq] at h; obtain ⟨rfl,rfl⟩ := h
  exact fN fun a b => ⟨_,rfl⟩
 ·simp only [Option.some.injEq,Prod.mk.injEq] at h; obtain ⟨rfl,rfl⟩ := h
  exact fN fun a b => ⟨_,rfl⟩
 ·simp only [Option.some.injEq,Prod.mk.injEq] at h; obtain ⟨rfl,rfl⟩ := h
  exact fN fun a b => ⟨_,rfl⟩
 ·cases h
def J8 (P : Program) (σ : DSt) (o : Oper) (op : BinOp) (t : TypeId) (x y : Operand) : DR :=
 match eN (dev σ x),eN (dev σ y),o.dst with
 | some (k,a),some (k',b),some _ => match decide (k = k') with
  | true => match sV op a b with
   | some f => some (σ.put o.dst (.p (.bl (wc f)) true),[])
   | none => match op with
    | .rem => FN σ o .rem k a b
    | .quo => FN σ o .quo k a b
    | op => Bz σ o op k a b
  | false => none
 | _,_,_ => match rW (dev σ x),rW (dev σ y) with
  | some s,some r => BC σ o op s r
  | _,_ => match BA P σ t x y,op with
   | some b,.eql => some (σ.put o.dst (.p (.bl (.lit b)) true),[])
   | some b,.neq => some (σ.put o.dst (.p (.bl (.lit (!b))) true),[])
   | _,_ => none
theorem Ia {P : Program} {I : Pr} {σ σ' : DSt} {o : Oper} {op : BinOp} {t t' : TypeId} {x y : Operand} {gs : List G} (ho : o.op = .binOp op t x y t') (h : J8 P σ o op t x y = some (σ',gs)) : Good P I σ o σ' gs := by
 unfold J8 at h
 split at h
 ·rename_i k a k' b d hx hy hd
  split at h
  ·rename_i hk
   have := of_decide_eq_true hk; subst this
   split at h
   ·rename_i f hf
    simp only [Option.some.injEq,Prod.mk.injEq] at h; obtain ⟨rfl,rfl⟩ := h
    refine a6 (fun hs => by simp only [DV.vars,DP.vars]; exact J6 (J5 hf (dt hx (hs.dev x)) (dt hy (hs.dev y)))) fun ρ hs hok _ => ⟨⟨[],[]⟩,[],?_,trivial⟩
    have ex : isInt (ev (σ.v ρ) x) = some (k,a.v ρ) := by rw [aA]; exact (dA hx).1
    have ey : isInt (ev (σ.v ρ) y) = some (k,b.v ρ) := by rw [aA]; exact (dA hy).1
    have har : dG op = false ∧ arith op (a.v ρ) (b.v ρ) = none := by cases op <;> simp [sV] at hf <;> exact ⟨rfl,rfl⟩
    unfold aop
    simp only [ho,har.1,gq,ex,ey,decide_true,har.2,M7 hf,tr]
    simp [DV.v,DP.v,M9]
   ·split at h
    ·exact zh d hd ho hx hy h
    ·exact zh d hd ho hx hy h
    ·exact Dx d hd ho hx hy h
  ·cases h
 ·split at h
  ·rename_i s r hs hr; exact Dy ho hs hr h
  ·split at h
   ·rename_i b hb
    simp only [Option.some.injEq,Prod.mk.injEq] at h; obtain ⟨rfl,rfl⟩ := h
    refine a6 (fun hs => by simp [DV.vars,DP.vars,BF.vars,Sc.nil]) fun ρ hs hok _ => ⟨⟨[],[]⟩,[],?_,trivial⟩
    obtain ⟨h1,h2,h3⟩ := BB (ρ := ρ) hb
    unfold aop
    simp only [ho,dG,gq,h2,h3,pe,h1,tr]
    simp [DV.v,DP.v,BF.v]
   ·rename_i b hb
    simp only [Option.some.injEq,Prod.mk.injEq] at h; obtain ⟨rfl,rfl⟩ := h
    refine a6 (fun hs => by simp [DV.vars,DP.vars,BF.vars,Sc.nil]) fun ρ hs hok _ => ⟨⟨[],[]⟩,[],?_,trivial⟩
    obtain ⟨h1,h2,h3⟩ := BB (ρ := ρ) hb
    unfold aop
    simp only [ho,dG,gq,h2,h3,pe,h1,tr]
    simp [DV.v,DP.v,BF.v]
   ·cases h
def dUn (σ : DSt) (o : Oper) (op : UnOp) (x : Operand) : DR :=
 match op,dev σ x with
 | .not,.p (.bl (.lit b)) _ => some (σ.put o.dst (.p (.bl (.lit (!b))) true),[])
 | .not,.p (.bl f) _ => some (σ.put o.dst (.p (.bl (.not f)) true),[])
 | .neg,.p (.int k e) _ => match vZ σ k (Lin.scale (-1) e) with
  | true => some (σ.put o.dst (.p (.int k (Lin.scale (-1) e)) true),[])
  | false => none
 | _,_ => none
theorem J9 {P : Program} {I : Pr} {σ σ' : DSt} {o : Oper} {op : UnOp} {t : TypeId} {x : Operand} {gs : List G} (ho : o.op = .unOp op t x) (h : dUn σ o op x = some (σ',gs)) : Good P I σ o σ' gs := by
 unfold dUn at h
 split at h
 ·rename_i b fr he
  simp only [Option.some.injEq,Prod.mk.injEq] at h; obtain ⟨rfl,rfl⟩ := h
  refine a6 (fun hs => by simp [DV.vars,DP.vars,BF.vars,Sc.nil]) fun ρ hs hok _ => ⟨⟨[],[]⟩,[],?_,trivial⟩
  simp [aop,ho,qY,aA,he,DV.v,DP.v,BF.v,tr]
 ·rename_i f fr _ he
  simp only [Option.some.injEq,Prod.mk.injEq] at h; obtain ⟨rfl,rfl⟩ := h
  refine a6 (fun hs => by have := hs.dev x; rw [he] at this; simpa [DV.vars,DP.vars,BF.vars] using this) fun ρ hs hok _ => ⟨⟨[],[]⟩,[],?_,trivial⟩
  simp [aop,ho,qY,aA,he,DV.v,DP.v,BF.v,tr]
 ·rename_i k e fr he
  split at h
  ·rename_i hf
   simp only [Option.some.injEq,Prod.mk.injEq] at h; obtain ⟨rfl,rfl⟩ := h
   refine a6 (fun hs => by have := hs.dev x; rw [he] at this; simp only [DV.vars,DP.vars] at this ⊢; exact Lin.cL this) fun ρ hs hok _ => ?_
   have h1 := xZ hok hf
   have e2 : (Lin.scale (-1) e).v ρ = 0 - e.v ρ := by rw [Lin.aT]; omega
   rw [e2] at h1
   refine ⟨⟨[],[]⟩,[k.wrap (0 - e.v ρ) = 0 - e.v ρ],?_,⟨h1,trivial⟩⟩
   simp only [aop,ho,qY,aA,he,DV.v,DP.v,nt,e2]
  ·cases h
 ·cases h
def FO (P : Program) (σ : DSt) (o : Oper) (src dst : TypeId) (x : Operand) : DR :=
 match dev σ x,P.underlying src,P.underlying dst with
 | .p (.int _ e) _,some _,some (.int k) => match vZ σ k e with
  | true => some (σ.put o.dst (.p (.int k e) true),[])
  | false => none
 | .p (.st s) _,some _,some .string => some (σ.put o.dst (.p (.st s) true),[])
 | _,_,_ => none
theorem FP {P : Program} {I : Pr} {σ σ' : DSt} {o : Oper} {src dst : TypeId} {x : Operand} {gs : List G} (ho : o.op = .convert src dst x) (h : FO P σ o src dst x = some (σ',gs)) : Good P I σ o σ' gs := by
 unfold FO at h
 split at h
 ·rename_i k' e fr d k he hs1 hd
  split at h
  ·rename_i hf
   simp only [Option.some.injEq,Prod.mk.injEq] at h; obtain ⟨rfl,rfl⟩ := h
   refine a6 (fun hs => by have := hs.dev x; rw [he] at this; simpa [DV.vars,DP.vars] using this) fun ρ hs hok _ => ?_
   refine ⟨⟨[],[]⟩,[k.wrap (e.v ρ) = e.v ρ],?_,⟨xZ hok hf,trivial⟩⟩
   simp [aop,ho,qZ,aA,he,DV.v,DP.v,hs1,hd,nt]
  ·cases h
 ·rename_i s fr d he hs1 hd
  simp only [Option.some.injEq,Prod.mk.injEq] at h; obtain ⟨rfl,rfl⟩ := h
  refine a6 (fun hs => by have := hs.dev x; rw [he] at this; simpa [DV.vars,DP.vars] using this) fun ρ hs hok _ => ⟨⟨[],[]⟩,[True],?_,⟨trivial,trivial⟩⟩
  simp [aop,ho,qZ,aA,he,DV.v,DP.v,hs1,hd,nt]
 ·cases h
end Go.TL
namespace Go.TL
theorem zi {P : Program} {I : Pr} {σ : DSt} {o : Oper} {gs : List G} {e : TypeId} {lin : List Lin} {prs : List PF} {mk : LV → DV} (hmk : ∀ n l,Sc n (aL l) → Sc n (mk l).vars)
  (hl : σ.sc → ∀ e ∈ lin,Sc (σ.nx + 1) e.vars) (hp : σ.sc → ∀ f ∈ prs,Sc (σ.nx + 1) f.vars)
  (h : ∀ ρ,σ.sc → σ.ok P I ρ → gsV I ρ gs → ∃ z : List (List PV),aU P e z ∧ (∀ ρ',ρ' = up ρ σ.nx (vaL z) → ao σ.nx ρ ρ' → (ρ' σ.nx).l = z → aR ρ' lin ∧ bQ I ρ' prs ∧
   ∃ (H : Hint) (ps : List Prop),aop P H (σ.v ρ) o = some ((σ.v ρ).put o.dst ((mk (some σ.nx)).v ρ'),ps) ∧ ia ps)) :
  Good P I σ o ((σ.grow 1 [(σ.nx,e)] lin prs).put o.dst (mk (some σ.nx))) gs := by
 refine jl (fun hs => hmk _ _ (by simp only [aL,Sc.cons]; exact ⟨Nat.lt_succ_self _,Sc.nil⟩)) (fun hs => ⟨by simp,hl hs,hp hs⟩) ?_
 intro ρ hs hok hg
 obtain ⟨z,h1,h3⟩ := h ρ hs hok hg
 have hn : (up ρ σ.nx (vaL z) σ.nx).l = z := by rw [aI]; rfl
 obtain ⟨q1,q2,H,ps,h4,h5⟩ := h3 _ rfl (bR _ _ _ _ (Nat.le_refl _)) hn
 exact ⟨up ρ σ.nx (vaL z),bR _ _ _ _ (Nat.le_refl _),hok.g.up _ (ej h1.len),⟨by rw [hn]; exact h1,trivial⟩,q1,q2,H,ps,h4,h5⟩
def bj : LV → Lin
 | none => Lin.lit 0
 | some l => Lin.at (4 * l + 1)
def dS : LV → Lin
 | none => Lin.lit 0
 | some l => Lin.at (4 * l + 2)
theorem de (ρ : Ro) (l : LV) : (bj l).v ρ = ((lvV ρ l).length : Int) := by
 cases l with
 | none => simp [bj,Lin.bI,lvV]
 | some k => simp [bj,Lin.aW,cJ,lvV]
theorem iE (ρ : Ro) (l : LV) : (dS l).v ρ = (rsz (lvV ρ l) : Int) := by
 cases l with
 | none => simp [dS,Lin.bI,lvV,rsz]
 | some k => simp [dS,Lin.aW,c9,lvV]
theorem df {n : Nat} {l : LV} (h : Sc n (aL l)) : Sc n (bj l).vars := by
 cases l with
 | none => exact Lin.cI
 | some k => simp only [aL,Sc.cons] at h; exact Lin.aS (by omega)
theorem fa {n : Nat} {l : LV} (h : Sc n (aL l)) : Sc n (dS l).vars := by
 cases l with
 | none => exact Lin.cI
 | some k => simp only [aL,Sc.cons] at h; exact Lin.aS (by omega)
def isSlice (P : Program) (t : TypeId) : Bool := match P.underlying t with | some (.slice _) => true | _ => false
def isString (P : Program) (t : TypeId) : Bool := match P.underlying t with | some .string => true | _ => false
theorem kS {P : Program} {t : TypeId} (h : isSlice P t = true) : ∃ e,P.underlying t = some (.slice e) := by
 unfold isSlice at h; split at h
 ·rename_i e hu; exact ⟨e,hu⟩
 ·cases h
theorem Dz {P : Program} {t : TypeId} (h : isString P t = true) : P.underlying t = some .string := by
 unfold isString at h; split at h
 ·assumption
 ·cases h
def BD (P : Program) (σ : DSt) (t : TypeId) : DV → Option Lin
 | .vec k => match lk σ.tab k,isSlice P t with
  | some (.vec _ _ l _),true => some (bj l)
  | _,_ => none
 | .p (.sl l) _ => match isSlice P t with | true => some (bj l) | false => none
 | .pc l _ => match isSlice P t with | true => some (bj l) | false => none
 | .p .nl _ => match isSlice P t with | true => some (Lin.lit 0) | false => none
 | .p (.st s) _ => match isString P t with | true => some (cu s) | false => none
 | _ => none
theorem Pc {P : Program} {σ : DSt} {t : TypeId} {x : DV} {e : Lin} (ρ : Ro) (h : BD P σ t x = some e) : ∃ n : Nat,lenOf P (σ.v ρ).tab t (x.v ρ) = some n ∧ e.v ρ = (n : Int) := by
 unfold BD at h
 split at h
 ·rename_i k
  split at h
  ·rename_i et sz l fr hk hs
   simp only [Option.some.injEq] at h; subst h
   obtain ⟨e',hu⟩ := kS hs
   exact ⟨_,by simp only [DV.v,lenOf,da hk,DO.v,hu],de ρ l⟩
  ·cases h
 ·rename_i l fr
  split at h
  ·rename_i hs
   simp only [Option.some.injEq] at h; subst h
   obtain ⟨e',hu⟩ := kS hs
   exact ⟨_,by simp only [DV.v,DP.v,lenOf,hu],de ρ l⟩
  ·cases h
 ·rename_i l fr
  split at h
  ·rename_i hs
   simp only [Option.some.injEq] at h; subst h
   obtain ⟨e',hu⟩ := kS hs
   exact ⟨_,by simp only [DV.v,lenOf,hu],de ρ l⟩
  ·cases h
 ·split at h
  ·rename_i hs
   simp only [Option.some.injEq] at h; subst h
   obtain ⟨e',hu⟩ := kS hs
   exact ⟨0,by simp only [DV.v,DP.v,lenOf,hu],by simp [Lin.bI]⟩
  ·cases h
 ·rename_i s fr
  split at h
  ·rename_i hs
   simp only [Option.some.injEq] at h; subst h
   exact ⟨_,by simp only [DV.v,DP.v,lenOf,Dz hs],il ρ s⟩
  ·cases h
 ·cases h
theorem Na {P : Program} {σ : DSt} (hs : σ.sc) {t : TypeId} {x : DV} {e : Lin} (hx : Sc σ.nx x.vars) (h : BD P σ t x = some e) : Sc σ.nx e.vars := by
 unfold BD at h
 split at h
 ·split at h
  ·rename_i hk _
   simp only [Option.some.injEq] at h; subst h
   exact df (by have := hs.tab _ _ hk; simpa [DO.vars] using this)
  ·cases h
 ·split at h
  ·simp only [Option.some.injEq] at h; subst h; exact df (by simpa [DV.vars,DP.vars] using hx)
  ·cases h
 ·split at h
  ·simp only [Option.some.injEq] at h; subst h; exact df (by simpa [DV.vars] using hx)
  ·cases h
 ·split at h
  ·simp only [Option.some.injEq] at h; subst h; exact Lin.cI
  ·cases h
 ·split at h
  ·simp only [Option.some.injEq] at h; subst h; exact mP (by simpa [DV.vars,DP.vars] using hx)
  ·cases h
 ·cases h
def Ka (P : Program) (σ : DSt) (o : Oper) (x : Operand) (t : TypeId) : DR :=
 match BD P σ t (dev σ x) with
 | some e => some (σ.put o.dst (.p (.int .i64 e) true),[])
 | none => none
theorem Ib {P : Program} {I : Pr} {σ σ' : DSt} {o : Oper} {x : Operand} {t : TypeId} {gs : List G} (ho : o.op = .call { callee := .builtin .len,args := #[x],argTypes := #[t] })
  (h : Ka P σ o x t = some (σ',gs)) : Good P I σ o σ' gs := by
 unfold Ka at h
 split at h
 ·rename_i e he
  simp only [Option.some.injEq,Prod.mk.injEq] at h; obtain ⟨rfl,rfl⟩ := h
  refine a6 (fun hs => by simpa [DV.vars,DP.vars] using Na hs (hs.dev x) he) fun ρ hs hok _ => ⟨⟨[],[]⟩,[],?_,trivial⟩
  obtain ⟨n,h1,h2⟩ := Pc ρ he
  simp [aop,ho,Ab,aA,h1,tr,DV.v,DP.v,h2]
 ·cases h
def BE (P : Program) (σ : DSt) (o : Oper) (t : TypeId) (x ix : Operand) : DR :=
 match eN (dev σ ix) with
 | some (_,n) => match dev σ x,P.underlying t with
  | .agg xs,some (.array len e) => match n.t,n.c,P.info? e with
   | [],.ofNat m,some i => match Nat.ble (m + 1) len,eE P e (m * i.size) xs with
    | true,some v => some (σ.put o.dst v,[])
    | _,_ => none
   | _,_,_ => none
  | .p (.st s) _,some .string => some ((σ.grow 1 [] (jm .u8 σ.nx ++ []) []).put o.dst (.p (.int .u8 (Lin.at (4 * σ.nx))) true),[j0 n,.le ((n.ax (-1) (cu s)).aD 1)])
  | _,_ => none
 | none => none
theorem DA {P : Program} {I : Pr} {σ σ' : DSt} {o : Oper} {t : TypeId} {x ix : Operand} {gs : List G} (ho : o.op = .index t x ix) (h : BE P σ o t x ix = some (σ',gs)) : Good P I σ o σ' gs := by
 unfold BE at h
 split at h
 ·rename_i kk n hn
  have hiv : ∀ ρ,intOf (ev (σ.v ρ) ix) = some (n.v ρ) := fun ρ => by rw [aA]; exact (dA hn).2
  split at h
  ·rename_i xs len e he hu
   have e1 : ∀ ρ,ev (σ.v ρ) x = .agg (dvs ρ xs) := fun ρ => by rw [aA,he]; simp [DV.v]
   split at h
   ·rename_i m i ht hc hi
    split at h
    ·rename_i v hm hv
     simp only [Option.some.injEq,Prod.mk.injEq] at h; obtain ⟨rfl,rfl⟩ := h
     refine a6 (fun hs => gL (by have := hs.dev x; rw [he] at this; simpa [DV.vars] using this) hv) fun ρ hs hok hg => ⟨⟨[],[]⟩,[],?_,trivial⟩
     have hvv : n.v ρ = Int.ofNat m := by unfold Lin.v; rw [ht,hc]; simp [bO]
     unfold aop
     simp [ho,e1,iw,hiv,hvv,hu,nC,hi,hm,lf,gv,hv,tr]
    ·cases h
   ·cases h
  ·rename_i s fr he hu
   have e1 : ∀ ρ,ev (σ.v ρ) x = .p (.v (.string (s.v ρ))) fr := fun ρ => by rw [aA,he]; simp [DV.v,DP.v]
   simp only [Option.some.injEq,Prod.mk.injEq] at h; obtain ⟨rfl,rfl⟩ := h
   refine jn rfl (by simp) fun ρ hs hok hg => ?_
   simp only [j0,gsV,G.v,Lin.aT,Lin.aB,Lin.aZ,il,and_true] at hg
   have hb := UInt8.toNat_lt ((s.v ρ).data.toList.getD (n.v ρ).toNat 0)
   refine ⟨(((s.v ρ).data.toList.getD (n.v ρ).toNat 0).toNat : Int),by have e : IntKind.u8.min = 0 := (by decide); rw [e]; omega,by have e : IntKind.u8.max = 255 := (by decide); rw [e]; omega,fun _ _ => trivial,⟨[],[]⟩,[0 ≤ n.v ρ ∧ n.v ρ < ((s.v ρ).size : Int)],?_,⟨⟨by omega,by omega⟩,trivial⟩⟩
   unfold aop
   simp [ho,e1,iw,hiv,hu,nt]
  ·cases h
 ·cases h
def pQ (σ : DSt) : Option Operand → Option (Option Lin)
 | none => some none
 | some x => match eN (dev σ x) with
  | some (_,e) => some (some e)
  | none => none
def dlo : Option Lin → Lin
 | some e => e
 | none => Lin.lit 0
def dhi (len : Lin) : Option Lin → Lin
 | some e => e
 | none => len
def x3 (len : Lin) (l h : Option Lin) : List G := [j0 (dlo l),.le ((dlo l).ax (-1) (dhi len h)),.le ((dhi len h).ax (-1) len)]
theorem lW {σ : DSt} {x : Option Operand} {l : Option Lin} (ρ : Ro) (h : pQ σ x = some l) : gD (σ.v ρ) x = some (l.map (Lin.v ρ)) := by
 unfold pQ at h
 split at h
 ·simp only [Option.some.injEq] at h; subst h; rfl
 ·split at h
  ·rename_i k e he
   simp only [Option.some.injEq] at h; subst h
   simp [gD,aA,(dA he).2]
  ·cases h
theorem n9 {σ : DSt} (hs : σ.sc) {x : Option Operand} {l : Option Lin} (h : pQ σ x = some l) : ∀ e,l = some e → Sc σ.nx e.vars := by
 unfold pQ at h
 split at h
 ·simp only [Option.some.injEq] at h; subst h; simp
 ·split at h
  ·rename_i k e he
   simp only [Option.some.injEq] at h; subst h
   intro e' e2; simp only [Option.some.injEq] at e2; subst e2
   exact dt he (hs.dev _)
  ·cases h
theorem BG {n : Nat} {l : Option Lin} (h : ∀ e,l = some e → Sc n e.vars) : Sc n (dlo l).vars := by
 cases l with
 | none => exact Lin.cI
 | some e => exact h e rfl
theorem Ic {n : Nat} {len : Lin} {l : Option Lin} (hl : Sc n len.vars) (h : ∀ e,l = some e → Sc n e.vars) : Sc n (dhi len l).vars := by
 cases l with
 | none => exact hl
 | some e => exact h e rfl
theorem wh {I : Pr} {ρ : Ro} {len : Lin} {n : Nat} {l h : Option Lin} (hn : len.v ρ = (n : Int)) (hg : gsV I ρ (x3 len l h)) :
  fH n (l.map (Lin.v ρ)) (h.map (Lin.v ρ)) ∧ 0 ≤ (dlo l).v ρ ∧ (dlo l).v ρ ≤ (dhi len h).v ρ ∧ (dhi len h).v ρ ≤ (n : Int) ∧ bg (l.map (Lin.v ρ)) = ((dlo l).v ρ).toNat ∧ cg n (h.map (Lin.v ρ)) = ((dhi len h).v ρ).toNat := by
 simp only [x3,j0,gsV,G.v,Lin.aT,Lin.aZ,and_true,hn] at hg
 obtain ⟨a1,a2,a3⟩ := hg
 refine ⟨?_,by omega,by omega,by omega,?_,?_⟩
 ·cases l <;> cases h <;> simp only [dlo,dhi,Lin.bI,hn] at a1 a2 a3 <;> simp only [fH,Option.map_none,Option.map_some] <;> refine ⟨?_,?_,?_⟩ <;> first | trivial | omega | (constructor <;> omega)
 ·cases l <;> simp [bg,dlo,Lin.bI]
 ·cases h <;> simp [cg,dhi,hn]
def oa (n : Nat) (lo hi : Lin) (l : LV) : List Lin :=
 [((Lin.at (4 * n + 1)).ax (-1) hi).ax 1 lo,((hi.ax (-1) lo).ax (-1) (Lin.at (4 * n + 1))),(Lin.at (4 * n + 2)).ax (-1) (dS l)]
theorem tY (rows : List (List PV)) (n : Nat) : rsz (rows.take n) ≤ rsz rows := by
 induction rows generalizing n with
 | nil => simp
 | cons x xs ih => cases n with
  | zero => simp [rsz]
  | succ n => simp only [List.take_succ_cons,dM]; have := ih n; omega
def j3 (P : Program) (σ : DSt) (e : TypeId) (i : TypeInfo) : LV → Bool
 | none => true
 | some l => match lk σ.tys l with
  | some e' => match Nat.beq e e' with | true => Nat.beq (cks P e).length i.size | false => false
  | none => false
theorem jo {P : Program} {I : Pr} {σ : DSt} {ρ : Ro} {e : TypeId} {i : TypeInfo} {l : LV} (hok : σ.ok P I ρ) (h : j3 P σ e i l = true) : aU P e (lvV ρ l) ∧ ∀ row ∈ lvV ρ l,row.length = i.size := by
 cases l with
 | none => exact ⟨aU.nil,by simp [lvV]⟩
 | some l =>
  simp only [j3] at h
  split at h
  ·rename_i e' hl
   split at h
   ·rename_i hb
    have := Nat.eq_of_beq_eq_true hb; subst this
    have ht := c7 hok.tys hl
    exact ⟨ht,ht.2.len (Nat.eq_of_beq_eq_true h)⟩
   ·cases h
  ·cases h
def sX (P : Program) (σ : DSt) (o : Oper) (e : TypeId) (i : TypeInfo) (l : LV) (fr : Bool) (lo hi : Option Lin) : DR :=
 match j3 P σ e i l,l with
 | true,some k => some ((σ.grow 1 [(σ.nx,e)] (oa σ.nx (dlo lo) (dhi (bj l) hi) l) [.sub σ.nx k (dlo lo) (dhi (bj l) hi)]).put o.dst (.p (.sl (some σ.nx)) fr),x3 (bj l) lo hi)
 | _,_ => none
def FQ : SE → Bool
 | .lit b => Nat.ble b.length 1073741824
 | .var _ => true
theorem Ie {ρ : Ro} (hg : Gok ρ) {s : SE} (h : FQ s = true) : (s.v ρ).size ≤ bz := by
 cases s with
 | lit b => have := Nat.le_of_ble_eq_true h; simpa [SE.v,ByteArray.size,bz] using this
 | var k => exact hg.st k
def wi (P : Program) (σ : DSt) (o : Oper) (t : TypeId) (x : Operand) (lo hi : Option Operand) : DR :=
 match pQ σ lo,pQ σ hi with
 | some l,some h => match dev σ x,P.underlying t with
  | .p (.sl k) fr,some (.slice e) => match P.info? e with
   | some i => sX P σ o e i k fr l h
   | none => none
  | .pc k fr,some (.slice e) => match P.info? e with
   | some i => sX P σ o e i k fr l h
   | none => none
  | .p .nl _,some (.slice e) => match P.info? e with
   | some _ => some (σ.put o.dst (.p .nl true),x3 (Lin.lit 0) l h)
   | none => none
  | .p (.st s) _,some .string => match FQ s with
   | false => none
   | true => some ((σ.grow 1 [] [((Lin.at (4 * σ.nx + 3)).ax (-1) (dhi (cu s) h)).ax 1 (dlo l),((dhi (cu s) h).ax (-1) (dlo l)).ax (-1) (Lin.at (4 * σ.nx + 3))] []).put o.dst (.p (.st (.var σ.nx)) true),x3 (cu s) l h)
  | _,_ => none
 | _,_ => none
theorem rX {P : Program} {H : Hint} {s : St} {o : Oper} {t : TypeId} {x : Operand} {lo hi : Option Operand} {r : St × Prop} (ho : o.op = .slice t x lo hi none) (hv : ∀ k,ev s x ≠ .vec k) (h : eI P s o t x lo hi none = some r) (hp : r.2) :
  ∃ ps,aop P H s o = some (r.1,ps) ∧ ia ps := by
 obtain ⟨s',p⟩ := r
 refine ⟨[p],?_,⟨hp,trivial⟩⟩
 unfold aop
 cases lo with
 | none => cases hi with
  | none => simp only [ho,h,nt]
  | some hh =>
   simp only [ho]
   cases he : ev s x with
   | vec k => exact absurd he (hv k)
   | _ => simp only [h,nt]
 | some ll => cases hi <;> simp only [ho,h,nt]
theorem zj {_ρ : Ro} {_I : Pr} {rows : List (List PV)} {a b : Int} (h0 : 0 ≤ a) (h1 : a ≤ b) (h2 : b ≤ (rows.length : Int)) :
  (((rows.take b.toNat).drop a.toNat).length : Int) = b - a ∧ rsz ((rows.take b.toNat).drop a.toNat) ≤ rsz rows := by
 refine ⟨?_,Nat.le_trans (Dp _ _) (tY _ _)⟩
 rw [List.length_drop,List.length_take]; omega
theorem rY {P : Program} {I : Pr} {σ σ' : DSt} {o : Oper} {t : TypeId} {x : Operand} {lo hi : Option Operand} {l h : Option Lin} {e : TypeId} {i : TypeInfo} {k : LV} {fr : Bool} {gs : List G} (ho : o.op = .slice t x lo hi none)
  (hlo : pQ σ lo = some l) (hhi : pQ σ hi = some h) (hu : P.underlying t = some (.slice e)) (hi' : P.info? e = some i)
  (hx : dev σ x = .p (.sl k) fr ∨ dev σ x = .pc k fr) (hd : sX P σ o e i k fr l h = some (σ',gs)) : Good P I σ o σ' gs := by
 unfold sX at hd
 split at hd
 ·rename_i k hoke
  simp only [Option.some.injEq,Prod.mk.injEq] at hd; obtain ⟨rfl,rfl⟩ := hd
  have ksc : σ.sc → k < σ.nx := fun hs => by
   have := hs.dev x
   rcases hx with hx | hx <;> rw [hx] at this <;> simp only [DV.vars,DP.vars,aL,Sc.cons] at this <;> exact this.1
  have a1 : σ.sc → Sc σ.nx (dlo l).vars := fun hs => BG (n9 hs hlo)
  have a2 : σ.sc → Sc σ.nx (dhi (bj (some k)) h).vars := fun hs => Ic (df (by simp only [aL,Sc.cons]; exact ⟨ksc hs,Sc.nil⟩)) (n9 hs hhi)
  refine zi (mk := fun l => .p (.sl l) fr) (fun n l hl => by simpa [DV.vars,DP.vars] using hl) (fun hs e he => ?_) (fun hs f hf => ?_) fun ρ hs hok hg => ?_
  ·have b1 := (a1 hs).mono (Nat.le_succ σ.nx)
   have b2 := (a2 hs).mono (Nat.le_succ σ.nx)
   have := ksc hs
   simp only [oa,List.mem_cons,List.mem_nil_iff,or_false] at he
   rcases he with rfl | rfl | rfl
   ·exact Lin.aw (Lin.aw (Lin.aS (by omega)) b2) b1
   ·exact Lin.aw (Lin.aw b2 b1) (Lin.aS (by omega))
   ·exact Lin.aw (Lin.aS (by omega)) (fa (by simp only [aL,Sc.cons]; exact ⟨by omega,Sc.nil⟩))
  ·simp only [List.mem_singleton] at hf; subst hf
   have := ksc hs
   simp only [PF.vars,Sc.cons,Sc.app]
   exact ⟨Nat.lt_succ_self _,by omega,(a1 hs).mono (Nat.le_succ _),(a2 hs).mono (Nat.le_succ _)⟩
  ·obtain ⟨ht,hlen⟩ := jo hok hoke
   obtain ⟨q1,q2,q3,q4,q5,q6⟩ := wh (n := (ρ k).l.length) (by rw [de]; rfl) hg
   refine ⟨((ρ k).l.take ((dhi (bj (some k)) h).v ρ).toNat).drop ((dlo l).v ρ).toNat,ht.sub _ _,?_⟩
   intro ρ' hρ ha hn
   obtain ⟨r1,r2⟩ := zj (_ρ := ρ) (_I := I) q2 q3 q4
   have e1 := Lin.ag ha (a1 hs)
   have e2 := Lin.ag ha (a2 hs)
   have e3 : ρ' k = ρ k := ha k (ksc hs)
   refine ⟨⟨?_,?_,?_,trivial⟩,⟨?_,trivial⟩,?_⟩
   ·simp only [Lin.aZ,Lin.aW,cJ,hn,e1,e2]; omega
   ·simp only [Lin.aZ,Lin.aW,cJ,hn,e1,e2]; omega
   ·simp only [Lin.aZ,Lin.aW,c9,hn,iE,lvV,e3]; omega
   ·simp only [PF.v,hn,e1,e2,e3]
   ·refine ⟨⟨[],[]⟩,?_⟩
    have hsl : eI P (σ.v ρ) o t x lo hi none = some ((σ.v ρ).put o.dst (.p (.sl (((ρ k).l.take (cg (ρ k).l.length (h.map (Lin.v ρ)))).drop (bg (l.map (Lin.v ρ))))) fr),fH (ρ k).l.length (l.map (Lin.v ρ)) (h.map (Lin.v ρ)) ∧ ∀ row ∈ (ρ k).l,row.length = i.size) := by
     unfold eI
     rw [lW ρ hlo,lW ρ hhi,aA,hu]
     rcases hx with hx | hx <;> rw [hx] <;> simp only [DV.v,DP.v,lvV,hi']
    have hv : ∀ j,ev (σ.v ρ) x ≠ .vec j := fun j => by
     rw [aA]
     rcases hx with hx | hx <;> rw [hx] <;> simp [DV.v]
    obtain ⟨ps,h1,h2⟩ := rX (H := ⟨[],[]⟩) ho hv hsl ⟨q1,hlen⟩
    refine ⟨ps,?_,h2⟩
    rw [h1]
    simp only [DV.v,DP.v,lvV,hn,q5,q6]
 ·cases hd
theorem tZ {P : Program} {I : Pr} {σ σ' : DSt} {o : Oper} {t : TypeId} {x : Operand} {lo hi : Option Operand} {gs : List G} (ho : o.op = .slice t x lo hi none) (hd : wi P σ o t x lo hi = some (σ',gs)) : Good P I σ o σ' gs := by
 unfold wi at hd
 split at hd
 ·rename_i l h hlo hhi
  split at hd
  ·rename_i k fr e he hu
   split at hd
   ·rename_i i hi'; exact rY ho hlo hhi hu hi' (.inl he) hd
   ·cases hd
  ·rename_i k fr e he hu
   split at hd
   ·rename_i i hi'; exact rY ho hlo hhi hu hi' (.inr he) hd
   ·cases hd
  ·rename_i fr e he hu
   split at hd
   ·rename_i i hi'
    simp only [Option.some.injEq,Prod.mk.injEq] at hd; obtain ⟨rfl,rfl⟩ := hd
    refine a6 (fun hs => by simp [DV.vars,DP.vars,Sc.nil]) fun ρ hs hok hg => ⟨⟨[],[]⟩,?_⟩
    obtain ⟨q1,_⟩ := wh (n := 0) (by rw [Lin.bI]; rfl) hg
    have e1 : ev (σ.v ρ) x = .p (.v (.slice none 0 0)) fr := by rw [aA,he]; simp [DV.v,DP.v]
    have hsl : eI P (σ.v ρ) o t x lo hi none = some ((σ.v ρ).put o.dst (.p (.v (.slice none 0 0)) true),fH 0 (l.map (Lin.v ρ)) (h.map (Lin.v ρ))) := by
     unfold eI
     rw [lW ρ hlo,lW ρ hhi,e1,hu]
     simp only [hi']
    obtain ⟨ps,h1,h2⟩ := rX (H := ⟨[],[]⟩) ho (by rw [e1]; simp) hsl q1
    exact ⟨ps,by rw [h1]; simp [DV.v,DP.v],h2⟩
   ·cases hd
  ·rename_i s fr he hu
   split at hd
   ·cases hd
   rename_i hsok
   simp only [Option.some.injEq,Prod.mk.injEq] at hd; obtain ⟨rfl,rfl⟩ := hd
   have ssc : σ.sc → Sc σ.nx s.vars := fun hs => by have := hs.dev x; rw [he] at this; simpa [DV.vars,DP.vars] using this
   have a1 : σ.sc → Sc σ.nx (dlo l).vars := fun hs => BG (n9 hs hlo)
   have a2 : σ.sc → Sc σ.nx (dhi (cu s) h).vars := fun hs => Ic (mP (ssc hs)) (n9 hs hhi)
   refine Bw (fun hs e he => ?_) (by simp) fun ρ hs hok hg => ?_
   ·have b1 := (a1 hs).mono (Nat.le_succ σ.nx)
    have b2 := (a2 hs).mono (Nat.le_succ σ.nx)
    simp only [List.mem_cons,List.mem_nil_iff,or_false] at he
    rcases he with rfl | rfl
    ·exact Lin.aw (Lin.aw (Lin.aS (by omega)) b2) b1
    ·exact Lin.aw (Lin.aw b2 b1) (Lin.aS (by omega))
   ·obtain ⟨q1,q2,q3,q4,q5,q6⟩ := wh (n := (s.v ρ).size) (il ρ s) hg
    have hsz : ((s.v ρ).extract ((dlo l).v ρ).toNat ((dhi (cu s) h).v ρ).toNat).size = ((dhi (cu s) h).v ρ).toNat - ((dlo l).v ρ).toNat := by
     rw [ByteArray.size_extract]; omega
    have hst : (s.v ρ).size ≤ bz := Ie hok.g hsok
    refine ⟨(s.v ρ).extract ((dlo l).v ρ).toNat ((dhi (cu s) h).v ρ).toNat,Nat.le_trans (Fs _ _ _) hst,?_,⟨[],[]⟩,?_⟩
    ·rintro ρ' rfl
     have ha := bR ρ σ.nx σ.nx (vaS ((s.v ρ).extract ((dlo l).v ρ).toNat ((dhi (cu s) h).v ρ).toNat)) (Nat.le_refl _)
     have hn : ((up ρ σ.nx (vaS ((s.v ρ).extract ((dlo l).v ρ).toNat ((dhi (cu s) h).v ρ).toNat))) σ.nx).s = (s.v ρ).extract ((dlo l).v ρ).toNat ((dhi (cu s) h).v ρ).toNat := by rw [aI]; rfl
     have e1 := Lin.ag ha (a1 hs)
     have e2 := Lin.ag ha (a2 hs)
     refine ⟨⟨?_,?_,trivial⟩,trivial⟩
     ·simp only [Lin.aZ,Lin.aW,gJ,hn,e1,e2,hsz]; omega
     ·simp only [Lin.aZ,Lin.aW,gJ,hn,e1,e2,hsz]; omega
    ·have e1 : ev (σ.v ρ) x = .p (.v (.string (s.v ρ))) fr := by rw [aA,he]; simp [DV.v,DP.v]
     have hsl : eI P (σ.v ρ) o t x lo hi none = some ((σ.v ρ).put o.dst (.p (.v (.string ((s.v ρ).extract (bg (l.map (Lin.v ρ))) (cg (s.v ρ).size (h.map (Lin.v ρ)))))) true),fH (s.v ρ).size (l.map (Lin.v ρ)) (h.map (Lin.v ρ))) := by
      unfold eI
      rw [lW ρ hlo,lW ρ hhi,e1,hu]
     obtain ⟨ps,h1,h2⟩ := rX (H := ⟨[],[]⟩) ho (by rw [e1]; simp) hsl q1
     exact ⟨ps,by rw [h1,q5,q6],h2⟩
  ·cases hd
 ·cases hd
end Go.TL
