/- Lists made, cut; one operation, whichever it is. -/
import Derived.Test.YtaaimmmofkldbaaWl17
namespace Go.TL
def dzc (x : Value) : DP :=
  match isNilSl x with
  | true => .sl none
  | false => dval x
def dzcs : List Value → List DP
  | [] => []
  | x :: xs => dzc x :: dzcs xs
theorem dzc_v (ρ : Ro) (x : Value) : zc false x = (dzc x).v ρ := by
  unfold zc dzc
  cases isNilSl x with
  | true => simp [DP.v, lvV]
  | false => simp [dval_v]
theorem dzcs_v (ρ : Ro) : ∀ l : List Value, l.map (zc false) = rowV ρ (dzcs l)
  | [] => rfl
  | x :: xs => by simp only [List.map_cons, dzcs, rowV, dzc_v ρ x, dzcs_v ρ xs]
def makeLin (n : Nat) (l : Lin) : List Lin := [(Lin.at (4 * n + 1)).ax (-1) l, l.ax (-1) (Lin.at (4 * n + 1))]
def makeRsz (n : Nat) (l : Lin) (zr : List DP) : List Lin :=
  match linLit (drz zr) with
  | some c => [(Lin.at (4 * n + 2)).ax (-(c + 1)) l, (Lin.scale (c + 1) l).ax (-1) (Lin.at (4 * n + 2))]
  | none => []
theorem rsz_rep (row : List PV) : ∀ n, rsz (List.replicate n row) = (1 + rz row) * n
  | 0 => by simp [rsz]
  | n + 1 => by rw [List.replicate_succ, rsz_cons, rsz_rep row n, Nat.mul_succ]; omega
def dMake (P : Program) (σ : DSt) (o : Oper) (t : TypeId) (l c : Operand) : DR :=
  match dInt (dev σ l), dInt (dev σ c), o.dst, sliceElem P t with
  | some (_, nl), some (_, nc), some d, some (e, i) => match lk σ.tab d, i.zero, Nat.ble 1 i.size with
    | none, some z, true => match Nat.beq z.cells.size i.size, z.cells.toList.all (·.oneCell'), Nat.ble (2097152 * max i.bytes 1) 140737488355328, dty σ.tys (cks P e) (dzcs z.cells.toList) with
      | true, true, true, some gs => some ((σ.grow 1 [(σ.nx, e)] (makeLin σ.nx nl ++ makeRsz σ.nx nl (dzcs z.cells.toList)) []).addVec d (.vec e i.size (some σ.nx) true), [nonneg nl, .le (nl.ax (-1) nc), .le (nc.addc (-2097152))] ++ gs)
      | _, _, _, _ => none
    | _, _, _ => none
  | _, _, _, _ => none
theorem dMake_good {P : Program} {I : Pr} {J : Ex} {σ σ' : DSt} {o : Oper} {t : TypeId} {l c : Operand} {gs : List G} (ho : o.op = .makeSlice t l c) (h : dMake P σ o t l c = some (σ', gs)) : Good P I J σ o σ' gs := by
  unfold dMake at h
  split at h
  · rename_i k1 nl k2 nc d e i hl hc hd hse
    split at h
    · rename_i z hfree hz h1s
      split at h
      · rename_i gs0 hzs hone hroom hty
        simp only [Option.some.injEq, Prod.mk.injEq] at h; obtain ⟨rfl, rfl⟩ := h
        have lsc : σ.sc → Sc σ.nx nl.vars := fun hs => dInt_sc hl (hs.dev l)
        have nsc1 : Sc (σ.nx + 1) (Lin.at (4 * σ.nx + 1)).vars := Lin.at_sc (by omega)
        have nsc2 : Sc (σ.nx + 1) (Lin.at (4 * σ.nx + 2)).vars := Lin.at_sc (by omega)
        refine good_vec (fun _ => by simp only [DO.vars, lvVars, Sc.cons]; exact ⟨Nat.lt_succ_self _, Sc.nil⟩) (fun hs => ⟨by simp, fun q hq => ?_, by simp⟩) ?_
        · have l1 := (lsc hs).mono (Nat.le_succ σ.nx)
          rcases List.mem_append.1 hq with hq | hq
          · simp only [makeLin, List.mem_cons, List.mem_nil_iff, or_false] at hq
            rcases hq with rfl | rfl
            · exact Lin.ax_sc nsc1 l1
            · exact Lin.ax_sc l1 nsc1
          · unfold makeRsz at hq
            split at hq
            · simp only [List.mem_cons, List.mem_nil_iff, or_false] at hq
              rcases hq with rfl | rfl
              · exact Lin.ax_sc nsc2 l1
              · exact Lin.ax_sc (Lin.scale_sc l1) nsc2
            · simp at hq
        · intro ρ hs hok hg
          rw [gsV_app] at hg
          obtain ⟨hg1, hg2⟩ := hg
          simp only [nonneg, gsV, G.v, Lin.scale_v, Lin.ax_v, Lin.addc_v, and_true] at hg1
          have hrow : WTs P (cks P e) (rowV ρ (dzcs z.cells.toList)) := dty_ok hok.g hok.tys _ _ _ hty hg2
          have hlen : (List.replicate (nl.v ρ).toNat (rowV ρ (dzcs z.cells.toList))).length ≤ mostLen := by rw [List.length_replicate]; unfold mostLen; omega
          have hn : ((up ρ σ.nx (vaL (List.replicate (nl.v ρ).toNat (rowV ρ (dzcs z.cells.toList))))) σ.nx).l = List.replicate (nl.v ρ).toNat (rowV ρ (dzcs z.cells.toList)) := by rw [up_same]; rfl
          have ha := up_ag ρ σ.nx σ.nx (vaL (List.replicate (nl.v ρ).toNat (rowV ρ (dzcs z.cells.toList)))) (Nat.le_refl _)
          have e1 := Lin.ag ha (lsc hs)
          refine ⟨up ρ σ.nx (vaL (List.replicate (nl.v ρ).toNat (rowV ρ (dzcs z.cells.toList)))), ha, hok.g.up _ (vaL_ok hlen), ⟨?_, trivial⟩, linsV_append ?_ ?_, trivial, ⟨[], []⟩, [0 ≤ nl.v ρ ∧ nl.v ρ ≤ nc.v ρ ∧ (nc.v ρ).toNat * max i.bytes 1 ≤ 140737488355328], ?_, ⟨⟨by omega, by omega, ?_⟩, trivial⟩⟩
          · rw [hn]
            refine ⟨hlen, fun row hr => ?_⟩
            rw [(List.mem_replicate.1 hr).2]; exact hrow
          · refine ⟨?_, ?_, trivial⟩ <;> simp only [Lin.ax_v, Lin.at_v, atomV1, hn, e1, List.length_replicate] <;> omega
          · unfold makeRsz
            split
            · rename_i cc hcc
              have hz2 : (Go.TL.rz (rowV ρ (dzcs z.cells.toList)) : Int) = cc := by rw [← drz_ty (P := P) (I := I) hok.g _ _ _ hty, linLit_v hcc]
              have hr : (rsz (List.replicate (nl.v ρ).toNat (rowV ρ (dzcs z.cells.toList))) : Int) = (cc + 1) * nl.v ρ := by
                rw [rsz_rep]
                have : ((nl.v ρ).toNat : Int) = nl.v ρ := by omega
                rw [Int.natCast_mul, Int.natCast_add, hz2, this]; congr 1; omega
              refine ⟨?_, ?_, trivial⟩
              · simp only [Lin.ax_v, Lin.at_v, atomV2, hn, e1, hr]; rw [Int.neg_mul]; omega
              · simp only [Lin.ax_v, Lin.scale_v, Lin.at_v, atomV2, hn, e1, hr]; omega
            · trivial
          · have ex : isInt (ev (σ.v J ρ) l) = some (k1, nl.v ρ) := by rw [dev_v]; exact (dInt_v hl).1
            have ey : isInt (ev (σ.v J ρ) c) = some (k2, nc.v ρ) := by rw [dev_v]; exact (dInt_v hc).1
            have hzr : zrow false z = some (rowV ρ (dzcs z.cells.toList)) := by unfold zrow; rw [hone]; simp only [dzcs_v ρ]
            have hn' : lvV (up ρ σ.nx (vaL (List.replicate (nl.v ρ).toNat (rowV ρ (dzcs z.cells.toList))))) (some σ.nx) = List.replicate (nl.v ρ).toNat (rowV ρ (dzcs z.cells.toList)) := hn
            unfold aop
            simp only [ho, opMake, ex, ey, hd, hse, dlk_none hfree, hz, h1s, hzs, lk, hzr, nt, DO.v, hn']
          · refine Nat.le_trans (Nat.mul_le_mul_right _ ?_) (Nat.le_of_ble_eq_true hroom)
            omega
      · cases h
    · cases h
  · cases h
def dSliceVec (P : Program) (σ : DSt) (o : Oper) (t : TypeId) (x hi : Operand) : DR :=
  match dev σ x, dInt (dev σ hi), o.dst, P.underlying t with
  | .vec k, some (_, n), some d, some (.slice e) => match lk σ.tab k, P.info? e, lk (rm σ.tab k) d with
    | some (.vec t' sz (some l) fr), some _, none => match lk σ.tys l with
      | some e' => some ((σ.grow 1 [(σ.nx, e')] (subLin σ.nx (Lin.lit 0) n (some l)) [.sub σ.nx l (Lin.lit 0) n]).re k d (.vec t' sz (some σ.nx) fr), [nonneg n, .le (n.ax (-1) (Lin.at (4 * l + 1)))])
      | none => none
    | _, _, _ => none
  | _, _, _, _ => none
theorem dSliceVec_good {P : Program} {I : Pr} {J : Ex} {σ σ' : DSt} {o : Oper} {t : TypeId} {x hi : Operand} {gs : List G} (ho : o.op = .slice t x none (some hi) none) (h : dSliceVec P σ o t x hi = some (σ', gs)) : Good P I J σ o σ' gs := by
  unfold dSliceVec at h
  split at h
  · rename_i k kk n d e he hn hd hu
    split at h
    · rename_i t' sz l fr i hk hi' hfree
      split at h
      · rename_i e' hl
        simp only [Option.some.injEq, Prod.mk.injEq] at h; obtain ⟨rfl, rfl⟩ := h
        have nsc : σ.sc → Sc σ.nx n.vars := fun hs => dInt_sc hn (hs.dev hi)
        refine good_re (fun hs => by simp only [DO.vars, lvVars, Sc.cons]; exact ⟨Nat.lt_succ_self _, Sc.nil⟩) (fun hs => ⟨by simp, fun q hq => ?_, fun f hf => ?_⟩) ?_
        · have b2 := (nsc hs).mono (Nat.le_succ σ.nx)
          have := tys_sc hs hl
          simp only [subLin, List.mem_cons, List.mem_nil_iff, or_false] at hq
          rcases hq with rfl | rfl | rfl
          · exact Lin.ax_sc (Lin.ax_sc (Lin.at_sc (by omega)) b2) Lin.lit_sc
          · exact Lin.ax_sc (Lin.ax_sc b2 Lin.lit_sc) (Lin.at_sc (by omega))
          · exact Lin.ax_sc (Lin.at_sc (by omega)) (lvRsz_sc (by simp only [lvVars, Sc.cons]; exact ⟨by omega, Sc.nil⟩))
        · have := tys_sc hs hl
          simp only [List.mem_singleton] at hf; subst hf
          simp only [PF.vars, Sc.cons, Sc.app]
          exact ⟨Nat.lt_succ_self _, by omega, Lin.lit_sc, (nsc hs).mono (Nat.le_succ _)⟩
        · intro ρ hs hok hg
          simp only [nonneg, gsV, G.v, Lin.scale_v, Lin.ax_v, Lin.at_v, atomV1, and_true] at hg
          have ht := tysV_lk hok.tys hl
          have hlen : ((ρ l).l.take (n.v ρ).toNat).length ≤ mostLen := by rw [List.length_take]; have := ht.1; omega
          have hnn : ((up ρ σ.nx (vaL ((ρ l).l.take (n.v ρ).toNat))) σ.nx).l = (ρ l).l.take (n.v ρ).toNat := by rw [up_same]; rfl
          have ha := up_ag ρ σ.nx σ.nx (vaL ((ρ l).l.take (n.v ρ).toNat)) (Nat.le_refl _)
          have e1 := Lin.ag ha (nsc hs)
          have e2 : up ρ σ.nx (vaL ((ρ l).l.take (n.v ρ).toNat)) l = ρ l := ha l (tys_sc hs hl)
          refine ⟨up ρ σ.nx (vaL ((ρ l).l.take (n.v ρ).toNat)), ha, hok.g.up _ (vaL_ok hlen), ⟨by rw [hnn]; exact ⟨hlen, ht.2.take _⟩, trivial⟩, ?_, ⟨?_, trivial⟩, ⟨[], []⟩, [0 ≤ n.v ρ ∧ n.v ρ ≤ ((ρ l).l.length : Int)], ?_, ⟨⟨by omega, by omega⟩, trivial⟩⟩
          · have := rsz_take_le (ρ l).l (n.v ρ).toNat
            refine ⟨?_, ?_, ?_, trivial⟩ <;> simp only [Lin.ax_v, Lin.at_v, atomV1, atomV2, hnn, e1, e2, Lin.lit_v, lvRsz_v, lvV, List.length_take] <;> omega
          · simp only [PF.v, hnn, e1, e2, Lin.lit_v, Int.toNat_zero, List.drop_zero]
          · have ev1 : ev (σ.v J ρ) x = .vec k := by rw [dev_v, he]; simp [DV.v]
            have ev2 : intOf (ev (σ.v J ρ) hi) = some (n.v ρ) := by rw [dev_v]; exact (dInt_v hn).2
            have hn' : lvV (up ρ σ.nx (vaL ((ρ l).l.take (n.v ρ).toNat))) (some σ.nx) = (ρ l).l.take (n.v ρ).toNat := hnn
            unfold aop
            simp only [ho, ev1, opSliceVec, ev2, hd, hu, dtab_v hk, DO.v, lvV, hi', rm_none hfree, nt, hnn]
      · cases h
    · cases h
  · cases h
def dSlice3 (P : Program) (σ : DSt) (o : Oper) (t : TypeId) (x : Operand) (lo : Option Operand) (hi mx : Operand) : DR :=
  match dev σ x, dopt σ lo, dInt (dev σ hi), dInt (dev σ mx) with
  | .p (.sl (some k)) fr, some l, some (_, n), some (_, m) => match P.underlying t with
    | some (.slice e) => match P.info? e with
      | some i => match okElem P σ e i (some k) with
        | true => some ((σ.grow 1 [(σ.nx, e)] (subLin σ.nx (dlo l) n (some k)) [.sub σ.nx k (dlo l) n]).put o.dst (.pc (some σ.nx) fr), [.le (n.ax (-1) m), .le (m.ax (-1) n)] ++ bnds (Lin.at (4 * k + 1)) l (some n))
        | false => none
      | none => none
    | _ => none
  | _, _, _, _ => none
theorem dSlice3_good {P : Program} {I : Pr} {J : Ex} {σ σ' : DSt} {o : Oper} {t : TypeId} {x : Operand} {lo : Option Operand} {hi mx : Operand} {gs : List G} (ho : o.op = .slice t x lo (some hi) (some mx)) (h : dSlice3 P σ o t x lo hi mx = some (σ', gs)) : Good P I J σ o σ' gs := by
  unfold dSlice3 at h
  split at h
  · rename_i k fr l k1 n k2 m he hlo hn hm
    split at h
    · rename_i e hu
      split at h
      · rename_i i hi'
        split at h
        · rename_i hoke
          simp only [Option.some.injEq, Prod.mk.injEq] at h; obtain ⟨rfl, rfl⟩ := h
          have ksc : σ.sc → k < σ.nx := fun hs => by
            have := hs.dev x
            rw [he] at this; simp only [DV.vars, DP.vars, lvVars, Sc.cons] at this; exact this.1
          have a1 : σ.sc → Sc σ.nx (dlo l).vars := fun hs => dlo_sc (dopt_sc hs hlo)
          have a2 : σ.sc → Sc σ.nx n.vars := fun hs => dInt_sc hn (hs.dev hi)
          refine good_list (mk := fun l => .pc l fr) (fun n l hl => by simpa [DV.vars] using hl) (fun hs q hq => ?_) (fun hs f hf => ?_) fun ρ hs hok hg => ?_
          · have b1 := (a1 hs).mono (Nat.le_succ σ.nx)
            have b2 := (a2 hs).mono (Nat.le_succ σ.nx)
            have := ksc hs
            simp only [subLin, List.mem_cons, List.mem_nil_iff, or_false] at hq
            rcases hq with rfl | rfl | rfl
            · exact Lin.ax_sc (Lin.ax_sc (Lin.at_sc (by omega)) b2) b1
            · exact Lin.ax_sc (Lin.ax_sc b2 b1) (Lin.at_sc (by omega))
            · exact Lin.ax_sc (Lin.at_sc (by omega)) (lvRsz_sc (by simp only [lvVars, Sc.cons]; exact ⟨by omega, Sc.nil⟩))
          · simp only [List.mem_singleton] at hf; subst hf
            have := ksc hs
            simp only [PF.vars, Sc.cons, Sc.app]
            exact ⟨Nat.lt_succ_self _, by omega, (a1 hs).mono (Nat.le_succ _), (a2 hs).mono (Nat.le_succ _)⟩
          · rw [gsV_app] at hg
            obtain ⟨hg1, hg2⟩ := hg
            simp only [gsV, G.v, Lin.ax_v, and_true] at hg1
            obtain ⟨ht, hlen⟩ := okElem_v hok hoke
            obtain ⟨q1, q2, q3, q4, q5, q6⟩ := bnds_v (n := (ρ k).l.length) (by rw [Lin.at_v, atomV1]) hg2
            simp only [dhi] at q3 q4 q6
            refine ⟨((ρ k).l.take (n.v ρ).toNat).drop ((dlo l).v ρ).toNat, ht.sub _ _, ?_⟩
            intro ρ' hρ ha hnn
            obtain ⟨r1, r2⟩ := sub_facts (ρ := ρ) (I := I) q2 q3 q4
            have e1 := Lin.ag ha (a1 hs)
            have e2 := Lin.ag ha (a2 hs)
            have e3 : ρ' k = ρ k := ha k (ksc hs)
            refine ⟨⟨?_, ?_, ?_, trivial⟩, ⟨?_, trivial⟩, ⟨[], []⟩, [n.v ρ = m.v ρ ∧ bndOk (ρ k).l.length (l.map (Lin.v ρ)) (some (n.v ρ)) ∧ ∀ row ∈ (ρ k).l, row.length = i.size], ?_, ⟨⟨by omega, q1, hlen⟩, trivial⟩⟩
            · simp only [Lin.ax_v, Lin.at_v, atomV1, hnn, e1, e2]; omega
            · simp only [Lin.ax_v, Lin.at_v, atomV1, hnn, e1, e2]; omega
            · simp only [Lin.ax_v, Lin.at_v, atomV2, hnn, lvRsz_v, lvV, e3]; omega
            · simp only [PF.v, hnn, e1, e2, e3]
            · have ev1 : ev (σ.v J ρ) x = .p (.sl (ρ k).l) fr := by rw [dev_v, he]; simp [DV.v, DP.v, lvV]
              have ev2 : intOf (ev (σ.v J ρ) hi) = some (n.v ρ) := by rw [dev_v]; exact (dInt_v hn).2
              have ev3 : intOf (ev (σ.v J ρ) mx) = some (m.v ρ) := by rw [dev_v]; exact (dInt_v hm).2
              have hsl : opSlice3 P (σ.v J ρ) o t x lo hi mx = some ((σ.v J ρ).put o.dst (.pc (((ρ k).l.take (n.v ρ).toNat).drop (bndLo (l.map (Lin.v ρ)))) fr), n.v ρ = m.v ρ ∧ bndOk (ρ k).l.length (l.map (Lin.v ρ)) (some (n.v ρ)) ∧ ∀ row ∈ (ρ k).l, row.length = i.size) := by
                unfold opSlice3
                rw [ev1, dopt_v ρ hlo, ev2, ev3]
                simp only [hu, hi']
              unfold aop
              cases lo with
              | none => simp only [ho, hsl, nt, DV.v, lvV, hnn, q5]
              | some ll => simp only [ho, hsl, nt, DV.v, lvV, hnn, q5]
        · cases h
      · cases h
    · cases h
  · cases h
def dop (P : Program) (σ : DSt) (o : Oper) : DR :=
  match o.op with
  | .move x => dMove σ o x
  | .assign x => dMove σ o x
  | .pick c x y => dPick σ o c x y
  | .alloc t => dAlloc P σ o t
  | .box t x => dBox σ o t x
  | .build t ps => dBuild P σ o t ps
  | .buildSlice t n ps => dBuildSlice P σ o t n ps
  | .load t x => dLoad P σ o t x
  | .store t x y => dStore P σ o t x y
  | .makeSlice t l c => dMake P σ o t l c
  | .fieldAddr s x f => dFieldAddr P σ o s x f
  | .field t x f => dField P σ o t x f
  | .nilCheck x => dNilCheck σ o x
  | .indexAddr t x ix => dIndexAddr P σ o t x ix
  | .index t x ix => dIndex P σ o t x ix
  | .extract x n => dExtract σ o x n
  | .makeInterface t x => dIface P σ o t x
  | .makeFunc f first caps => dFunc σ o f first caps
  | .slice t x lo hi none => match lo, hi with
    | none, some h => match dSliceVec P σ o t x h with
      | some r => some r
      | none => dSlice P σ o t x none (some h)
    | lo, hi => dSlice P σ o t x lo hi
  | .slice t x lo (some hi) (some m) => dSlice3 P σ o t x lo hi m
  | .binOp op t x y _ => dBin P σ o op t x y
  | .unOp op _ x => dUn σ o op x
  | .convert s d x => dConv P σ o s d x
  | .call ⟨.builtin .len, ⟨[x]⟩, ⟨[t]⟩⟩ => dLen P σ o x t
  | .call ⟨.builtin .min, ⟨[x, y]⟩, _⟩ => dMinMax σ o false x y
  | .call ⟨.builtin .max, ⟨[x, y]⟩, _⟩ => dMinMax σ o true x y
  | .call ⟨.builtin .append, ⟨[s, x]⟩, ⟨[t, t']⟩⟩ => match Nat.beq t t' with
    | true => match dAppendF P σ o s x t with
      | some r => some r
      | none => dAppend P σ o s x t
    | false => none
  | _ => none
theorem dop_good {P : Program} {I : Pr} {J : Ex} {σ σ' : DSt} {o : Oper} {gs : List G} (h : dop P σ o = some (σ', gs)) : Good P I J σ o σ' gs := by
  unfold dop at h
  split at h
  · rename_i ho; exact dMove_good (.inl ho) h
  · rename_i ho; exact dMove_good (.inr ho) h
  · rename_i ho; exact dPick_good ho h
  · rename_i ho; exact dAlloc_good ho h
  · rename_i ho; exact dBox_good ho h
  · rename_i ho; exact dBuild_good ho h
  · rename_i ho; exact dBuildSlice_good ho h
  · rename_i ho; exact dLoad_good ho h
  · rename_i ho; exact dStore_good ho h
  · rename_i ho; exact dMake_good ho h
  · rename_i ho; exact dFieldAddr_good ho h
  · rename_i ho; exact dField_good ho h
  · rename_i ho; exact dNilCheck_good ho h
  · rename_i ho; exact dIndexAddr_good ho h
  · rename_i ho; exact dIndex_good ho h
  · rename_i ho; exact dExtract_good ho h
  · rename_i ho; exact dIface_good ho h
  · rename_i ho; exact dFunc_good ho h
  · rename_i ho
    split at h
    · split at h
      · rename_i r hr; rw [h] at hr; exact dSliceVec_good ho hr
      · exact dSlice_good ho h
    · exact dSlice_good ho h
  · rename_i ho; exact dSlice3_good ho h
  · rename_i ho; exact dBin_good ho h
  · rename_i ho; exact dUn_good ho h
  · rename_i ho; exact dConv_good ho h
  · rename_i ho; exact dLen_good ho h
  · rename_i ho; exact dMinMax_good false ho h
  · rename_i ho; exact dMinMax_good true ho h
  · rename_i ho
    split at h
    · rename_i hb
      have := Nat.eq_of_beq_eq_true hb; subst this
      split at h
      · rename_i r hr; rw [h] at hr; exact dAppendF_good ho hr
      · exact dAppend_good ho h
    · cases h
  · cases h
end Go.TL
namespace Go.TL
inductive Tm where
  | v (k : Nat)
  | i (e : Lin)
  | b (f : BF)
  | s (e : SE)
  | l (l : LV)
abbrev Th := List (Nat × Tm)
def ap (ρ : Ro) (θ : Th) : Ro := fun k => match lk θ k with
  | none => ρ k
  | some (.v j) => ρ j
  | some (.i e) => vaN (e.v ρ)
  | some (.b f) => vaB (f.v ρ)
  | some (.s e) => vaS (e.v ρ)
  | some (.l l) => vaL (lvV ρ l)
theorem rsz0 : (0 : Int) = ((rsz ([] : List (List PV)) : Nat) : Int) := by rw [rsz_nil]; rfl
def siAtom (θ : Th) (a : Nat) : Lin :=
  match lk θ (a / 4) with
  | none => Lin.at a
  | some (.v j) => Lin.at (4 * j + a % 4)
  | some (.i e) => match a % 4 with | 0 => e | _ => Lin.lit 0
  | some (.b _) => Lin.lit 0
  | some (.s e) => match a % 4 with | 3 => seSize e | _ => Lin.lit 0
  | some (.l l) => match a % 4 with | 1 => lvLen l | 2 => lvRsz l | _ => Lin.lit 0
theorem siAtom_v (ρ : Ro) (θ : Th) (a : Nat) : (siAtom θ a).v ρ = atomV (ap ρ θ) a := by
  have hap : ∀ x, lk θ (a / 4) = x → ap ρ θ (a / 4) = match x with
    | none => ρ (a / 4) | some (.v j) => ρ j | some (.i e) => vaN (e.v ρ) | some (.b f) => vaB (f.v ρ) | some (.s e) => vaS (e.v ρ) | some (.l l) => vaL (lvV ρ l) := by
    rintro x rfl; rfl
  unfold siAtom
  cases hl : lk θ (a / 4) with
  | none => simp only [Lin.at_v]; unfold atomV; rw [hap _ hl]
  | some tm =>
    have h := hap _ hl
    cases tm with
    | v j =>
      simp only [Lin.at_v]
      have e1 : (4 * j + a % 4) % 4 = a % 4 := by omega
      have e2 : (4 * j + a % 4) / 4 = j := by omega
      unfold atomV; rw [h, e1, e2]
    | i e =>
      simp only at h ⊢
      unfold atomV; rw [h]
      rcases mod4 a with q | q | q | q <;> simp only [q]
      · rfl
      · rw [Lin.lit_v]; rfl
      · rw [Lin.lit_v]; exact rsz0
      · rw [Lin.lit_v]; rfl
    | b f =>
      simp only at h ⊢
      unfold atomV; rw [h]
      rcases mod4 a with q | q | q | q <;> simp only [q]
      · rw [Lin.lit_v]; rfl
      · rw [Lin.lit_v]; rfl
      · rw [Lin.lit_v]; exact rsz0
      · rw [Lin.lit_v]; rfl
    | s e =>
      simp only at h ⊢
      unfold atomV; rw [h]
      rcases mod4 a with q | q | q | q <;> simp only [q]
      · rw [Lin.lit_v]; rfl
      · rw [Lin.lit_v]; rfl
      · rw [Lin.lit_v]; exact rsz0
      · rw [seSize_v]; rfl
    | l lv =>
      simp only at h ⊢
      unfold atomV; rw [h]
      rcases mod4 a with q | q | q | q <;> simp only [q]
      · rw [Lin.lit_v]; rfl
      · rw [lvLen_v]; rfl
      · rw [lvRsz_v]; rfl
      · rw [Lin.lit_v]; rfl
def siSum (θ : Th) : Sum → Lin → Lin
  | [], acc => acc
  | (a, c) :: r, acc => siSum θ r (acc.ax c (siAtom θ a))
theorem siSum_v (ρ : Ro) (θ : Th) : ∀ (x : Sum) (acc : Lin), (siSum θ x acc).v ρ = acc.v ρ + sumV (ap ρ θ) x
  | [], acc => by simp [siSum, sumV]
  | (a, c) :: r, acc => by simp only [siSum, siSum_v ρ θ r, Lin.ax_v, siAtom_v, sumV]; omega
def Lin.si (θ : Th) (e : Lin) : Lin := siSum θ e.t (Lin.lit e.c)
theorem Lin.si_v (ρ : Ro) (θ : Th) (e : Lin) : (e.si θ).v ρ = e.v (ap ρ θ) := by
  unfold Lin.si; rw [siSum_v, Lin.lit_v]; rfl
def BF.si (θ : Th) : BF → BF
  | .lit b => .lit b
  | .var k => match lk θ k with
    | none => .var k
    | some (.v j) => .var j
    | some (.b f) => f
    | _ => .lit false
  | .le e => .le (e.si θ)
  | .eq e => .eq (e.si θ)
  | .not f => .not (f.si θ)
  | .and f g => .and (f.si θ) (g.si θ)
  | .or f g => .or (f.si θ) (g.si θ)
theorem BF.si_v (ρ : Ro) (θ : Th) : ∀ f : BF, (f.si θ).v ρ = f.v (ap ρ θ)
  | .lit b => rfl
  | .var k => by
    simp only [BF.si, BF.v]
    cases hl : lk θ k with
    | none => simp only [ap, hl, BF.v]
    | some tm => cases tm <;> simp only [ap, hl, BF.v] <;> rfl
  | .le e => by simp only [BF.si, BF.v, Lin.si_v]
  | .eq e => by simp only [BF.si, BF.v, Lin.si_v]
  | .not f => by simp only [BF.si, BF.v, BF.si_v ρ θ f]
  | .and f g => by simp only [BF.si, BF.v, BF.si_v ρ θ f, BF.si_v ρ θ g]
  | .or f g => by simp only [BF.si, BF.v, BF.si_v ρ θ f, BF.si_v ρ θ g]
def SE.si (θ : Th) : SE → SE
  | .lit b => .lit b
  | .var k => match lk θ k with
    | none => .var k
    | some (.v j) => .var j
    | some (.s e) => e
    | _ => .lit []
theorem SE.si_v (ρ : Ro) (θ : Th) (f : SE) : (f.si θ).v ρ = f.v (ap ρ θ) := by
  cases f with
  | lit b => rfl
  | var k =>
    simp only [SE.si, SE.v]
    cases hl : lk θ k with
    | none => simp only [ap, hl, SE.v]
    | some tm => cases tm <;> simp only [ap, hl, SE.v] <;> rfl
def lvSi (θ : Th) : LV → LV
  | none => none
  | some k => match lk θ k with
    | none => some k
    | some (.v j) => some j
    | some (.l l) => l
    | _ => none
theorem lvSi_v (ρ : Ro) (θ : Th) (f : LV) : lvV ρ (lvSi θ f) = lvV (ap ρ θ) f := by
  cases f with
  | none => rfl
  | some k =>
    simp only [lvSi, lvV]
    cases hl : lk θ k with
    | none => simp only [ap, hl]
    | some tm => cases tm <;> simp only [ap, hl] <;> first | rfl | (rename_i l; cases l <;> rfl)
def DP.si (θ : Th) : DP → DP
  | .int k e => .int k (e.si θ)
  | .bl f => .bl (f.si θ)
  | .st e => .st (e.si θ)
  | .sl l => .sl (lvSi θ l)
  | .nl => .nl
  | .cst v => .cst v
  | .raw k => match lk θ k with
    | none => .raw k
    | some (.v j) => .raw j
    | _ => .cst .nilFunc
theorem DP.si_v (ρ : Ro) (θ : Th) (x : DP) : (x.si θ).v ρ = x.v (ap ρ θ) := by
  cases x with
  | int k e => simp only [DP.si, DP.v, Lin.si_v]
  | bl f => simp only [DP.si, DP.v, BF.si_v]
  | st e => simp only [DP.si, DP.v, SE.si_v]
  | sl l => simp only [DP.si, DP.v, lvSi_v]
  | nl => rfl
  | cst v => rfl
  | raw k =>
    simp only [DP.si, DP.v]
    cases hl : lk θ k with
    | none => simp only [ap, hl, DP.v]
    | some tm => cases tm <;> simp only [ap, hl, DP.v] <;> rfl
def rowSi (θ : Th) : List DP → List DP
  | [] => []
  | x :: xs => x.si θ :: rowSi θ xs
theorem rowSi_v (ρ : Ro) (θ : Th) : ∀ x : List DP, rowV ρ (rowSi θ x) = rowV (ap ρ θ) x
  | [] => rfl
  | x :: xs => by simp only [rowSi, rowV, DP.si_v, rowSi_v ρ θ xs]
mutual
def DV.inst (θ : Th) (π : Nat → Nat) : DV → DV
  | .u => .u
  | .p x fr => .p (x.si θ) fr
  | .ptr k off => .ptr (π k) off
  | .vec k => .vec (π k)
  | .vptr k sz i off => .vptr (π k) sz (i.si θ) off
  | .pd row off fr => .pd (rowSi θ row) off fr
  | .pc l fr => .pc (lvSi θ l) fr
  | .agg xs => .agg (dvsInst θ π xs)
  | .tup xs => .tup (dvsInst θ π xs)
  | .ref k => .ref (π k)
  | .fn f first caps => .fn f (dvsInst θ π first) (dvsInst θ π caps)
  | .ifc t x => .ifc t (DV.inst θ π x)
  | .rp k off => match lk θ k with
    | none => .rp k off
    | some (.v j) => .rp j off
    | _ => .p (.cst (.pointer (some ⟨0, 0 + off, none⟩))) true
def dvsInst (θ : Th) (π : Nat → Nat) : List DV → List DV
  | [] => []
  | x :: xs => DV.inst θ π x :: dvsInst θ π xs
end
mutual
theorem inst_v (ρ : Ro) (θ : Th) (π : Nat → Nat) : ∀ x : DV, (x.inst θ π).v ρ = SV.rn π (x.v (ap ρ θ))
  | .u => by simp [DV.inst, DV.v, SV.rn]
  | .p x fr => by simp only [DV.inst, DV.v, SV.rn, DP.si_v]
  | .ptr k off => by simp only [DV.inst, DV.v, SV.rn]
  | .vec k => by simp only [DV.inst, DV.v, SV.rn]
  | .vptr k sz i off => by simp only [DV.inst, DV.v, SV.rn, Lin.si_v]
  | .pd row off fr => by simp only [DV.inst, DV.v, SV.rn, rowSi_v]
  | .pc l fr => by simp only [DV.inst, DV.v, SV.rn, lvSi_v]
  | .agg xs => by simp only [DV.inst, DV.v, SV.rn, dvsInst_v ρ θ π xs]
  | .tup xs => by simp only [DV.inst, DV.v, SV.rn, dvsInst_v ρ θ π xs]
  | .ref k => by simp only [DV.inst, DV.v, SV.rn]
  | .fn f first caps => by simp only [DV.inst, DV.v, SV.rn, dvsInst_v ρ θ π first, dvsInst_v ρ θ π caps]
  | .ifc t x => by simp only [DV.inst, DV.v, SV.rn, inst_v ρ θ π x]
  | .rp k off => by
    simp only [DV.inst, DV.v, SV.rn]
    cases hl : lk θ k with
    | none => simp only [ap, hl, DV.v]
    | some tm => cases tm <;> simp only [ap, hl, DV.v, DP.v] <;> rfl
theorem dvsInst_v (ρ : Ro) (θ : Th) (π : Nat → Nat) : ∀ x : List DV, dvs ρ (dvsInst θ π x) = rns π (dvs (ap ρ θ) x)
  | [] => by simp [dvsInst, dvs, rns]
  | x :: xs => by simp only [dvsInst, dvs, rns, inst_v ρ θ π x, dvsInst_v ρ θ π xs]
end
def vidx (θ : Th) (k : Nat) : Option Nat :=
  match lk θ k with
  | none => some k
  | some (.v j) => some j
  | some (.l (some j)) => some j
  | some (.s (.var j)) => some j
  | _ => none
def vidxs (θ : Th) : List Nat → Option (List Nat)
  | [] => some []
  | k :: r => match lk θ k, vidxs θ r with
    | none, some l => some (k :: l)
    | some (.v j), some l => some (j :: l)
    | _, _ => none
theorem vidxs_v (ρ : Ro) (θ : Th) : ∀ {l l' : List Nat}, vidxs θ l = some l' → l'.map ρ = l.map (ap ρ θ)
  | [], l', h => by simp only [vidxs, Option.some.injEq] at h; subst h; rfl
  | k :: r, l', h => by
    simp only [vidxs] at h
    split at h
    · rename_i l h1 h2
      simp only [Option.some.injEq] at h; subst h
      simp only [List.map_cons, vidxs_v ρ θ h2, ap, h1]
    · rename_i j l h1 h2
      simp only [Option.some.injEq] at h; subst h
      simp only [List.map_cons, vidxs_v ρ θ h2, ap, h1]
    · cases h
def DO.inst (θ : Th) (π : Nat → Nat) : DO → Option DO
  | .box t cells => some (.box t (dvsInst θ π cells))
  | .vec t sz l fr => some (.vec t sz (lvSi θ l) fr)
  | .ex id args => match vidxs θ args with
    | some l => some (.ex id l)
    | none => none
theorem DO.inst_v (J : Ex) (ρ : Ro) (θ : Th) (π : Nat → Nat) {x y : DO} (h : x.inst θ π = some y) : y.v J ρ = OV.rn π (x.v J (ap ρ θ)) := by
  cases x with
  | box t cells => simp only [DO.inst, Option.some.injEq] at h; subst h; simp only [DO.v, OV.rn, dvsInst_v]
  | vec t sz l fr => simp only [DO.inst, Option.some.injEq] at h; subst h; simp only [DO.v, OV.rn, lvSi_v]
  | ex id args =>
    simp only [DO.inst] at h
    split at h
    · rename_i l hl
      simp only [Option.some.injEq] at h; subst h
      simp only [DO.v, OV.rn, vidxs_v ρ θ hl]
    · cases h
def tabInst (θ : Th) (π : Nat → Nat) : DTab → Option DTab
  | [] => some []
  | (k, x) :: r => match x.inst θ π, tabInst θ π r with
    | some y, some r' => some ((π k, y) :: r')
    | _, _ => none
theorem tabInst_v (J : Ex) (ρ : Ro) (θ : Th) (π : Nat → Nat) : ∀ {x y : DTab}, tabInst θ π x = some y → tabV J ρ y = rnTab π (tabV J (ap ρ θ) x)
  | [], y, h => by simp only [tabInst, Option.some.injEq] at h; subst h; rfl
  | (k, x) :: r, y, h => by
    simp only [tabInst] at h
    split at h
    · rename_i y' r' h1 h2
      simp only [Option.some.injEq] at h; subst h
      simp only [tabV, rnTab, DO.inst_v J ρ θ π h1, tabInst_v J ρ θ π h2]
    · cases h
theorem vidx_l (ρ : Ro) (θ : Th) {k j : Nat} (h : vidx θ k = some j) (h2 : ∀ e, lk θ k ≠ some (.s e)) : (ap ρ θ k).l = (ρ j).l := by
  unfold vidx at h
  cases hl : lk θ k with
  | none => simp only [hl, Option.some.injEq] at h; subst h; simp only [ap, hl]
  | some tm =>
    rw [hl] at h
    cases tm with
    | v i => simp only [Option.some.injEq] at h; subst h; simp only [ap, hl]
    | l lv => cases lv with
      | none => simp at h
      | some i => simp only [Option.some.injEq] at h; subst h; simp only [ap, hl]; rfl
    | s e => exact absurd hl (h2 e)
    | _ => simp at h
def isS (θ : Th) (k : Nat) : Bool := match lk θ k with | some (.s _) => true | _ => false
theorem isS_false {θ : Th} {k : Nat} (h : isS θ k = false) : ∀ e, lk θ k ≠ some (.s e) := by
  intro e he; simp [isS, he] at h
def PF.inst (θ : Th) : PF → Option PF
  | .row l i cells => match vidx θ l, isS θ l with
    | some j, false => some (.row j (i.si θ) (rowSi θ cells))
    | _, _ => none
  | .app l a b => match vidx θ l, isS θ l with
    | some j, false => some (.app j (lvSi θ a) (lvSi θ b))
    | _, _ => none
  | .sub l a lo hi => match vidx θ l, vidx θ a, isS θ l, isS θ a with
    | some j, some k, false, false => some (.sub j k (lo.si θ) (hi.si θ))
    | _, _, _, _ => none
  | .set l a i cells => match vidx θ l, vidx θ a, isS θ l, isS θ a with
    | some j, some k, false, false => some (.set j k (i.si θ) (rowSi θ cells))
    | _, _, _, _ => none
  | .tru f => some (.tru (f.si θ))
  | .pr id args => match vidxs θ args with
    | some l => some (.pr id l)
    | none => none
  | _ => none
theorem PF.inst_v (I : Pr) (ρ : Ro) (θ : Th) {x y : PF} (h : x.inst θ = some y) : y.v I ρ ↔ x.v I (ap ρ θ) := by
  cases x with
  | row l i cells =>
    simp only [PF.inst] at h
    split at h
    · rename_i j h1 h2
      simp only [Option.some.injEq] at h; subst h
      simp only [PF.v, Lin.si_v, rowSi_v, vidx_l ρ θ h1 (isS_false h2)]
    · cases h
  | app l a b =>
    simp only [PF.inst] at h
    split at h
    · rename_i j h1 h2
      simp only [Option.some.injEq] at h; subst h
      simp only [PF.v, lvSi_v, vidx_l ρ θ h1 (isS_false h2)]
    · cases h
  | sub l a lo hi =>
    simp only [PF.inst] at h
    split at h
    · rename_i j k h1 h2 h3 h4
      simp only [Option.some.injEq] at h; subst h
      simp only [PF.v, Lin.si_v, vidx_l ρ θ h1 (isS_false h3), vidx_l ρ θ h2 (isS_false h4)]
    · cases h
  | set l a i cells =>
    simp only [PF.inst] at h
    split at h
    · rename_i j k h1 h2 h3 h4
      simp only [Option.some.injEq] at h; subst h
      simp only [PF.v, Lin.si_v, rowSi_v, vidx_l ρ θ h1 (isS_false h3), vidx_l ρ θ h2 (isS_false h4)]
    · cases h
  | tru f => simp only [PF.inst, Option.some.injEq] at h; subst h; simp only [PF.v, BF.si_v]
  | pr id args =>
    simp only [PF.inst] at h
    split at h
    · rename_i l hl
      simp only [Option.some.injEq] at h; subst h
      simp only [PF.v, vidxs_v ρ θ hl]
    · cases h
  | _ => simp [PF.inst] at h
def thOk : Th → Option (List G)
  | [] => some []
  | (_, tm) :: r => match thOk r with
    | none => none
    | some gs => match tm with
      | .i e => some (.le (e.addc (-9223372036854775807)) :: .le ((Lin.scale (-1) e).addc (-9223372036854775808)) :: gs)
      | .s (.lit b) => match Nat.ble b.length 1073741824 with | true => some gs | false => none
      | _ => some gs
theorem thOk_lk {I : Pr} {ρ : Ro} (hg : Gok ρ) : ∀ {θ : Th} {gs : List G}, thOk θ = some gs → gsV I ρ gs → ∀ k tm, lk θ k = some tm → VaOk (match tm with | .v j => ρ j | .i e => vaN (e.v ρ) | .b f => vaB (f.v ρ) | .s e => vaS (e.v ρ) | .l l => vaL (lvV ρ l))
  | [], gs, _, _, k, tm, h => by simp [lk] at h
  | (j, t0) :: r, gs, ho, hv, k, tm, h => by
    simp only [thOk] at ho
    split at ho
    · cases ho
    · rename_i gs1 h1
      have hrest : gsV I ρ gs1 := by
        split at ho
        · simp only [Option.some.injEq] at ho; subst ho; exact hv.2.2
        · split at ho
          · simp only [Option.some.injEq] at ho; subst ho; exact hv
          · cases ho
        · simp only [Option.some.injEq] at ho; subst ho; exact hv
      simp only [lk] at h
      cases hb : Nat.beq j k with
      | false => simp only [hb] at h; exact thOk_lk hg h1 hrest k tm h
      | true =>
        simp only [hb, Option.some.injEq] at h; subst h
        cases t0 with
        | v i => exact ⟨hg.lo i, hg.hi i, hg.st i, hg.ln i, hg.on i⟩
        | i e =>
          simp only [Option.some.injEq] at ho; subst ho
          simp only [gsV, G.v, Lin.addc_v, Lin.scale_v] at hv
          exact vaN_ok (by omega) (by omega)
        | b f => exact vaB_ok _
        | l lv => exact vaV_ok (by cases lv with | none => exact Nat.zero_le _ | some i => exact hg.ln i)
        | s e =>
          cases e with
          | var i => exact vaS_ok (hg.st i)
          | lit b =>
            simp only at ho
            split at ho
            · rename_i hb2
              have := Nat.le_of_ble_eq_true hb2
              exact vaS_ok (by simpa [SE.v, ByteArray.size, mostStr] using this)
            · cases ho
theorem ap_gok {I : Pr} {ρ : Ro} {θ : Th} {gs : List G} (hg : Gok ρ) (h : thOk θ = some gs) (hv : gsV I ρ gs) : Gok (ap ρ θ) := by
  have key : ∀ k, VaOk (ap ρ θ k) := by
    intro k
    unfold ap
    cases hl : lk θ k with
    | none => exact ⟨hg.lo k, hg.hi k, hg.st k, hg.ln k, hg.on k⟩
    | some tm => have := thOk_lk hg h hv k tm hl; cases tm <;> exact this
  exact ⟨fun k => (key k).lo, fun k => (key k).hi, fun k => (key k).st, fun k => (key k).ln, fun k => (key k).on⟩
def tysInst (θ : Th) (tys : List (Nat × TypeId)) : List (Nat × TypeId) → Bool
  | [] => true
  | (k, e) :: r => match lvSi θ (some k) with
    | none => tysInst θ tys r
    | some j => match lk tys j with
      | some e' => match Nat.beq e e' with
        | true => tysInst θ tys r
        | false => false
      | none => false
theorem tysInst_v {P : Program} {ρ : Ro} {θ : Th} {tys : List (Nat × TypeId)} (ht : tysV P ρ tys) : ∀ {l : List (Nat × TypeId)}, tysInst θ tys l = true → tysV P (ap ρ θ) l
  | [], _ => trivial
  | (k, e) :: r, h => by
    simp only [tysInst] at h
    have hlv := lvSi_v ρ θ (some k)
    simp only [lvV] at hlv
    split at h
    · rename_i hn
      rw [hn] at hlv
      exact ⟨by rw [← hlv]; exact TyRows.nil, tysInst_v ht h⟩
    · rename_i j hj
      rw [hj] at hlv
      split at h
      · rename_i e' he'
        split at h
        · rename_i hb
          have := Nat.eq_of_beq_eq_true hb; subst this
          refine ⟨?_, tysInst_v ht h⟩
          rw [← hlv]; exact tysV_lk ht he'
        · cases h
      · cases h
end Go.TL
namespace Go.TL
def kindEq (a b : IntKind) : Bool := decide (a = b)
def BF.beq : BF → BF → Bool
  | .lit a, .lit b => a == b
  | .var a, .var b => Nat.beq a b
  | .le a, .le b => a.beq b
  | .eq a, .eq b => a.beq b
  | .not a, .not b => a.beq b
  | .and a b, .and c d => match a.beq c with | true => b.beq d | false => false
  | .or a b, .or c d => match a.beq c with | true => b.beq d | false => false
  | _, _ => false
theorem BF.beq_eq : ∀ {a b : BF}, a.beq b = true → a = b
  | .lit a, .lit b, h => by simp only [BF.beq, beq_iff_eq] at h; rw [h]
  | .var a, .var b, h => by simp only [BF.beq] at h; rw [Nat.eq_of_beq_eq_true h]
  | .le a, .le b, h => by simp only [BF.beq] at h; rw [Lin.beq_eq h]
  | .eq a, .eq b, h => by simp only [BF.beq] at h; rw [Lin.beq_eq h]
  | .not a, .not b, h => by simp only [BF.beq] at h; rw [BF.beq_eq h]
  | .and a b, .and c d, h => by
    simp only [BF.beq] at h
    split at h
    · rename_i h1; rw [BF.beq_eq h1, BF.beq_eq h]
    · cases h
  | .or a b, .or c d, h => by
    simp only [BF.beq] at h
    split at h
    · rename_i h1; rw [BF.beq_eq h1, BF.beq_eq h]
    · cases h
  | .lit _, .var _, h | .lit _, .le _, h | .lit _, .eq _, h | .lit _, .not _, h | .lit _, .and _ _, h | .lit _, .or _ _, h => by simp [BF.beq] at h
  | .var _, .lit _, h | .var _, .le _, h | .var _, .eq _, h | .var _, .not _, h | .var _, .and _ _, h | .var _, .or _ _, h => by simp [BF.beq] at h
  | .le _, .lit _, h | .le _, .var _, h | .le _, .eq _, h | .le _, .not _, h | .le _, .and _ _, h | .le _, .or _ _, h => by simp [BF.beq] at h
  | .eq _, .lit _, h | .eq _, .var _, h | .eq _, .le _, h | .eq _, .not _, h | .eq _, .and _ _, h | .eq _, .or _ _, h => by simp [BF.beq] at h
  | .not _, .lit _, h | .not _, .var _, h | .not _, .le _, h | .not _, .eq _, h | .not _, .and _ _, h | .not _, .or _ _, h => by simp [BF.beq] at h
  | .and _ _, .lit _, h | .and _ _, .var _, h | .and _ _, .le _, h | .and _ _, .eq _, h | .and _ _, .not _, h | .and _ _, .or _ _, h => by simp [BF.beq] at h
  | .or _ _, .lit _, h | .or _ _, .var _, h | .or _ _, .le _, h | .or _ _, .eq _, h | .or _ _, .not _, h | .or _ _, .and _ _, h => by simp [BF.beq] at h
def SE.beq : SE → SE → Bool
  | .lit a, .lit b => bytesEq a b
  | .var a, .var b => Nat.beq a b
  | _, _ => false
theorem SE.beq_eq {a b : SE} (h : a.beq b = true) : a = b := by
  cases a <;> cases b <;> simp only [SE.beq, Bool.false_eq_true] at h
  · rw [bytesEq_eq, beq_iff_eq] at h; rw [h]
  · rw [Nat.eq_of_beq_eq_true h]
def lvEq : LV → LV → Bool
  | none, none => true
  | some a, some b => Nat.beq a b
  | _, _ => false
theorem lvEq_eq {a b : LV} (h : lvEq a b = true) : a = b := by
  cases a <;> cases b <;> simp only [lvEq, Bool.false_eq_true] at h
  · rfl
  · rw [Nat.eq_of_beq_eq_true h]
def cstEq : Value → Value → Bool
  | .pointer none, .pointer none => true
  | .nilFunc, .nilFunc => true
  | .nilIface, .nilIface => true
  | .map none, .map none => true
  | _, _ => false
theorem cstEq_eq {a b : Value} (h : cstEq a b = true) : a = b := by
  unfold cstEq at h; split at h <;> first | rfl | cases h
def DP.beq : DP → DP → Bool
  | .int k e, .int k' e' => match kindEq k k' with | true => e.beq e' | false => false
  | .bl f, .bl g => f.beq g
  | .st e, .st e' => e.beq e'
  | .sl l, .sl l' => lvEq l l'
  | .nl, .nl => true
  | .cst v, .cst v' => cstEq v v'
  | .raw k, .raw k' => Nat.beq k k'
  | _, _ => false
theorem DP.beq_eq {a b : DP} (h : a.beq b = true) : a = b := by
  cases a <;> cases b <;> simp only [DP.beq, Bool.false_eq_true] at h
  · split at h
    · rename_i hk; have := of_decide_eq_true hk; subst this; rw [Lin.beq_eq h]
    · cases h
  · rw [BF.beq_eq h]
  · rw [SE.beq_eq h]
  · rw [lvEq_eq h]
  · rfl
  · rw [cstEq_eq h]
  · rw [Nat.eq_of_beq_eq_true h]
def rowEq : List DP → List DP → Bool
  | [], [] => true
  | x :: xs, y :: ys => match x.beq y with | true => rowEq xs ys | false => false
  | _, _ => false
theorem rowEq_eq : ∀ {a b : List DP}, rowEq a b = true → a = b
  | [], [], _ => rfl
  | x :: xs, y :: ys, h => by
    simp only [rowEq] at h
    split at h
    · rename_i h1; rw [DP.beq_eq h1, rowEq_eq h]
    · cases h
  | [], _ :: _, h => by simp [rowEq] at h
  | _ :: _, [], h => by simp [rowEq] at h
def frLe (is ask : Bool) : Bool := match ask with | true => is | false => true
def dpLe (x y : DP) : Bool :=
  match x, y with
  | .nl, .sl none => true
  | x, y => x.beq y
def fnEq : Fn → Fn → Bool
  | .func a, .func b => Nat.beq a b
  | _, _ => false
theorem fnEq_eq {a b : Fn} (h : fnEq a b = true) : a = b := by
  unfold fnEq at h; split at h
  · rw [Nat.eq_of_beq_eq_true h]
  · cases h
mutual
def leDV : DV → DV → Bool
  | _, .u => true
  | .p x fr, .p y fr' => match dpLe x y with | true => frLe fr fr' | false => false
  | .ptr k off, .ptr k' off' => Nat.beq k k' && Nat.beq off off'
  | .vec k, .vec k' => Nat.beq k k'
  | .vptr k sz i off, .vptr k' sz' i' off' => (Nat.beq k k' && Nat.beq sz sz') && (i.beq i' && Nat.beq off off')
  | .pd row off fr, .pd row' off' fr' => (rowEq row row' && Nat.beq off off') && frLe fr fr'
  | .pc l fr, .pc l' fr' => lvEq l l' && frLe fr fr'
  | .pc l fr, .p (.sl l') fr' => lvEq l l' && frLe fr fr'
  | .agg xs, .agg ys => leDVs xs ys
  | .tup xs, .tup ys => leDVs xs ys
  | .ref k, .ref k' => Nat.beq k k'
  | .fn f a b, .fn f' a' b' => match fnEq f f' with | true => (match leDVs a a' with | true => leDVs b b' | false => false) | false => false
  | .ifc t x, .ifc t' y => match Nat.beq t t' with | true => leDV x y | false => false
  | .rp k off, .rp k' off' => Nat.beq k k' && Nat.beq off off'
  | _, _ => false
def leDVs : List DV → List DV → Bool
  | [], [] => true
  | x :: xs, y :: ys => match leDV x y with | true => leDVs xs ys | false => false
  | _, _ => false
end
theorem frFlo {lo : Nat} {a b : Bool} (h : frLe a b = true) : flo lo b ≤ flo lo a := by
  cases a <;> cases b <;> simp [frLe, flo] at *
theorem Rep.weakF {w : World} {bad : Nat → Prop} {lo : Nat} {a b : Bool} {x : PV} {v : Value} (h : frLe a b = true) (r : Rep w bad (flo lo a) x v) : Rep w bad (flo lo b) x v :=
  r.mono (frFlo h) fun _ _ h h' => ⟨h, h'⟩
theorem dpLe_v {w : World} {bad : Nat → Prop} {lo : Nat} {ρ : Ro} {x y : DP} {v : Value} (h : dpLe x y = true) (r : Rep w bad lo (x.v ρ) v) : Rep w bad lo (y.v ρ) v := by
  unfold dpLe at h
  split at h
  · simp only [DP.v] at r
    have := rep_v r; subst this
    simp only [DP.v, lvV]; exact .nil none 0
  · rw [← DP.beq_eq h]; exact r
mutual
theorem leDV_v {w : World} {E : Env} {lo : Nat} {ρ : Ro} : ∀ {x y : DV} {v : Value}, leDV x y = true → VR w E lo (x.v ρ) v → VR w E lo (y.v ρ) v
  | .u, y, v, h, r => by cases y <;> first | (simp [DV.v, VR]; done) | (simp [leDV] at h; done)
  | .p x fr, y, v, h, r => by
    cases y with
    | u => simp [DV.v, VR]
    | p y fr' =>
      simp only [leDV] at h
      simp only [DV.v, VR] at r ⊢
      split at h
      · rename_i h1; exact Rep.weakF h (dpLe_v h1 r)
      · cases h
    | _ => simp [leDV] at h
  | .ptr k off, y, v, h, r => by
    cases y with
    | u => simp [DV.v, VR]
    | ptr k' off' =>
      simp only [leDV, Bool.and_eq_true] at h
      rw [← Nat.eq_of_beq_eq_true h.1, ← Nat.eq_of_beq_eq_true h.2]; exact r
    | _ => simp [leDV] at h
  | .vec k, y, v, h, r => by
    cases y with
    | u => simp [DV.v, VR]
    | vec k' =>
      simp only [leDV] at h
      rw [← Nat.eq_of_beq_eq_true h]; exact r
    | _ => simp [leDV] at h
  | .vptr k sz i off, y, v, h, r => by
    cases y with
    | u => simp [DV.v, VR]
    | vptr k' sz' i' off' =>
      simp only [leDV, Bool.and_eq_true] at h
      rw [← Nat.eq_of_beq_eq_true h.1.1, ← Nat.eq_of_beq_eq_true h.1.2, ← Lin.beq_eq h.2.1, ← Nat.eq_of_beq_eq_true h.2.2]; exact r
    | _ => simp [leDV] at h
  | .pd row off fr, y, v, h, r => by
    cases y with
    | u => simp [DV.v, VR]
    | pd row' off' fr' =>
      simp only [leDV, Bool.and_eq_true] at h
      rw [← rowEq_eq h.1.1, ← Nat.eq_of_beq_eq_true h.1.2]
      simp only [DV.v, VR] at r ⊢
      obtain ⟨b, o, h1, h2⟩ := r
      exact ⟨b, o, h1, h2.mono (frFlo h.2) fun _ _ h h' => ⟨h, h'⟩⟩
    | _ => simp [leDV] at h
  | .pc l fr, y, v, h, r => by
    cases y with
    | u => simp [DV.v, VR]
    | pc l' fr' =>
      simp only [leDV, Bool.and_eq_true] at h
      rw [← lvEq_eq h.1]
      simp only [DV.v, VR] at r ⊢
      obtain ⟨a, h1, h2⟩ := r
      exact ⟨a, h1, Rep.weakF h.2 h2⟩
    | p y fr' =>
      cases y with
      | sl l' =>
        simp only [leDV, Bool.and_eq_true] at h
        rw [← lvEq_eq h.1]
        simp only [DV.v, DP.v, VR] at r ⊢
        obtain ⟨a, h1, h2⟩ := r
        exact Rep.weakF h.2 h2
      | _ => simp [leDV] at h
    | _ => simp [leDV] at h
  | .agg xs, y, v, h, r => by
    cases y with
    | u => simp [DV.v, VR]
    | agg ys =>
      simp only [leDV] at h
      simp only [DV.v, VR] at r ⊢
      obtain ⟨vs, h1, h2⟩ := r
      exact ⟨vs, h1, leDVs_v h h2⟩
    | _ => simp [leDV] at h
  | .tup xs, y, v, h, r => by
    cases y with
    | u => simp [DV.v, VR]
    | tup ys =>
      simp only [leDV] at h
      simp only [DV.v, VR] at r ⊢
      obtain ⟨vs, h1, h2⟩ := r
      exact ⟨vs, h1, leDVs_v h h2⟩
    | _ => simp [leDV] at h
  | .ref k, y, v, h, r => by
    cases y with
    | u => simp [DV.v, VR]
    | ref k' =>
      simp only [leDV] at h
      rw [← Nat.eq_of_beq_eq_true h]; exact r
    | _ => simp [leDV] at h
  | .fn f a b, y, v, h, r => by
    cases y with
    | u => simp [DV.v, VR]
    | fn f' a' b' =>
      simp only [leDV] at h
      split at h
      · rename_i h1
        split at h
        · rename_i h2
          rw [← fnEq_eq h1]
          simp only [DV.v, VR] at r ⊢
          obtain ⟨vs, ws, q1, q2, q3⟩ := r
          exact ⟨vs, ws, q1, leDVs_v h2 q2, leDVs_v h q3⟩
        · cases h
      · cases h
    | _ => simp [leDV] at h
  | .ifc t x, y, v, h, r => by
    cases y with
    | u => simp [DV.v, VR]
    | ifc t' y =>
      simp only [leDV] at h
      split at h
      · rename_i h1
        rw [← Nat.eq_of_beq_eq_true h1]
        simp only [DV.v, VR] at r ⊢
        obtain ⟨z, q1, q2⟩ := r
        exact ⟨z, q1, leDV_v h q2⟩
      · cases h
    | _ => simp [leDV] at h
  | .rp k off, y, v, h, r => by
    cases y with
    | u => simp [DV.v, VR]
    | rp k' off' =>
      simp only [leDV, Bool.and_eq_true] at h
      rw [← Nat.eq_of_beq_eq_true h.1, ← Nat.eq_of_beq_eq_true h.2]; exact r
    | _ => simp [leDV] at h
theorem leDVs_v {w : World} {E : Env} {lo : Nat} {ρ : Ro} : ∀ {xs ys : List DV} {vs : List Value}, leDVs xs ys = true → VRs w E lo (dvs ρ xs) vs → VRs w E lo (dvs ρ ys) vs
  | [], [], vs, _, r => r
  | x :: xs, y :: ys, vs, h, r => by
    simp only [leDVs] at h
    split at h
    · rename_i h1
      simp only [dvs] at r ⊢
      cases vs with
      | nil => simp [VRs] at r
      | cons v vs =>
        simp only [VRs] at r ⊢
        exact ⟨leDV_v h1 r.1, leDVs_v h r.2⟩
    · cases h
  | [], _ :: _, _, h, _ => by simp [leDVs] at h
  | _ :: _, [], _, h, _ => by simp [leDVs] at h
end
def leDO : DO → DO → Bool
  | .box t xs, .box t' ys => match Nat.beq t t' with | true => leDVs xs ys | false => false
  | .vec t sz l fr, .vec t' sz' l' fr' => (Nat.beq t t' && Nat.beq sz sz') && (lvEq l l' && frLe fr fr')
  | .ex id a, .ex id' a' => Nat.beq id id' && natsEq a a'
  | _, _ => false
  where
  natsEq : List Nat → List Nat → Bool
  | [], [] => true
  | x :: xs, y :: ys => match Nat.beq x y with | true => natsEq xs ys | false => false
  | _, _ => false
theorem natsEq_eq : ∀ {a b : List Nat}, leDO.natsEq a b = true → a = b
  | [], [], _ => rfl
  | x :: xs, y :: ys, h => by
    simp only [leDO.natsEq] at h
    split at h
    · rename_i h1; rw [Nat.eq_of_beq_eq_true h1, natsEq_eq h]
    · cases h
  | [], _ :: _, h => by simp [leDO.natsEq] at h
  | _ :: _, [], h => by simp [leDO.natsEq] at h
theorem leDO_v {J : Ex} {w : World} {E : Env} {lo k : Nat} {ρ : Ro} {x y : DO} (h : leDO x y = true) (r : OR w E lo k (x.v J ρ)) : OR w E lo k (y.v J ρ) := by
  cases x <;> cases y <;> simp only [leDO, Bool.false_eq_true] at h
  · split at h
    · rename_i h1
      rw [← Nat.eq_of_beq_eq_true h1]
      simp only [DO.v, OR] at r ⊢
      obtain ⟨b, vs, q1, q2, q3, q4⟩ := r
      exact ⟨b, vs, q1, q2, q3, leDVs_v h q4⟩
    · cases h
  · simp only [Bool.and_eq_true] at h
    rw [← Nat.eq_of_beq_eq_true h.1.1, ← Nat.eq_of_beq_eq_true h.1.2, ← lvEq_eq h.2.1]
    simp only [DO.v, OR] at r ⊢
    obtain ⟨v, xs, q1, q2, q3, q4, q5⟩ := r
    exact ⟨v, xs, q1, q2, q3, q4, q5.mono (frFlo h.2.2) fun _ _ h h' => ⟨h, h'⟩⟩
  · simp only [Bool.and_eq_true] at h
    rw [← Nat.eq_of_beq_eq_true h.1, ← natsEq_eq h.2]; exact r
def leTab (T : DTab) : DTab → Bool
  | [] => true
  | (k, y) :: r => match lk T k with
    | some x => match leDO x y with | true => leTab T r | false => false
    | none => false
theorem leTab_lk {T : DTab} : ∀ {r : DTab}, leTab T r = true → ∀ k y, lk r k = some y → ∃ x, lk T k = some x ∧ leDO x y = true
  | [], _, k, y, h => by simp [lk] at h
  | (j, z) :: r, h, k, y, hl => by
    simp only [leTab] at h
    split at h
    · rename_i x hx
      split at h
      · rename_i hle
        simp only [lk] at hl
        cases hb : Nat.beq j k with
        | true => simp only [hb, Option.some.injEq] at hl; subst hl; rw [← Nat.eq_of_beq_eq_true hb]; exact ⟨x, hx, hle⟩
        | false => simp only [hb] at hl; exact leTab_lk h k y hl
      · cases h
    · cases h
def leSlots (S : DSlots) : DSlots → Bool
  | [] => true
  | (t, y) :: r => match lk S t with
    | some x => match leDV x y with | true => leSlots S r | false => false
    | none => false
theorem leSlots_lk {S : DSlots} : ∀ {r : DSlots}, leSlots S r = true → ∀ k y, lk r k = some y → ∃ x, lk S k = some x ∧ leDV x y = true
  | [], _, k, y, h => by simp [lk] at h
  | (j, z) :: r, h, k, y, hl => by
    simp only [leSlots] at h
    split at h
    · rename_i x hx
      split at h
      · rename_i hle
        simp only [lk] at hl
        cases hb : Nat.beq j k with
        | true => simp only [hb, Option.some.injEq] at hl; subst hl; rw [← Nat.eq_of_beq_eq_true hb]; exact ⟨x, hx, hle⟩
        | false => simp only [hb] at hl; exact leSlots_lk h k y hl
      · cases h
    · cases h
theorem imp_less {P : Program} {n : Nat} {s s' : St} (hs : ∀ t b, lk s'.slots t = some b → ∃ a, lk s.slots t = some a ∧ ∀ w E lo v, VR w E lo a v → VR w E lo b v)
    (ht : ∀ k b, lk s'.tab k = some b → ∃ a, lk s.tab k = some a ∧ ∀ w E lo, OR w E lo k a → OR w E lo k b) (hk : ∀ k, lk s.tab k ≠ none → lk s'.tab k ≠ none) : Imp P n s s' := by
  rintro lo w0 E0 a w ⟨E, e⟩
  refine ⟨E, e.size, e.defers, ?_, ⟨?_, ?_, ?_, e.tab.ext⟩, e.fr, e.lo, e.ids, e.pres⟩
  · intro t b hl
    obtain ⟨x, h1, h2⟩ := hs t b hl
    exact h2 _ _ _ _ (e.slots t x h1)
  · intro k b hl
    obtain ⟨x, h1, h2⟩ := ht k b hl
    exact h2 _ _ _ (e.tab.obj k x h1)
  · intro k hn
    refine e.tab.dead k ?_
    cases hq : lk s.tab k with
    | none => rfl
    | some x => exact absurd hn (hk k (by rw [hq]; simp))
  · intro b k hb
    obtain ⟨h1, h2, h3⟩ := e.tab.own b k hb
    exact ⟨h1, h2, hk k h3⟩
end Go.TL
namespace Go.TL
mutual
def DV.rn (π : Nat → Nat) : DV → DV
  | .vec j => .vec (π j)
  | .ptr j off => .ptr (π j) off
  | .vptr j sz i off => .vptr (π j) sz i off
  | .ref j => .ref (π j)
  | .agg xs => .agg (drns π xs)
  | .tup xs => .tup (drns π xs)
  | .fn f first caps => .fn f (drns π first) (drns π caps)
  | .ifc t x => .ifc t (DV.rn π x)
  | .u => .u
  | .p x fr => .p x fr
  | .pd row off fr => .pd row off fr
  | .pc rows fr => .pc rows fr
  | .rp k off => .rp k off
def drns (π : Nat → Nat) : List DV → List DV
  | [] => []
  | x :: xs => DV.rn π x :: drns π xs
end
mutual
theorem rn_v (ρ : Ro) (π : Nat → Nat) : ∀ x : DV, (x.rn π).v ρ = SV.rn π (x.v ρ)
  | .vec _ => by simp [DV.rn, DV.v, SV.rn]
  | .ptr _ _ => by simp [DV.rn, DV.v, SV.rn]
  | .vptr _ _ _ _ => by simp [DV.rn, DV.v, SV.rn]
  | .ref _ => by simp [DV.rn, DV.v, SV.rn]
  | .agg xs => by simp only [DV.rn, DV.v, SV.rn, rns_v ρ π xs]
  | .tup xs => by simp only [DV.rn, DV.v, SV.rn, rns_v ρ π xs]
  | .fn f first caps => by simp only [DV.rn, DV.v, SV.rn, rns_v ρ π first, rns_v ρ π caps]
  | .ifc t x => by simp only [DV.rn, DV.v, SV.rn, rn_v ρ π x]
  | .u => by simp [DV.rn, DV.v, SV.rn]
  | .p _ _ => by simp [DV.rn, DV.v, SV.rn]
  | .pd _ _ _ => by simp [DV.rn, DV.v, SV.rn]
  | .pc _ _ => by simp [DV.rn, DV.v, SV.rn]
  | .rp _ _ => by simp [DV.rn, DV.v, SV.rn]
theorem rns_v (ρ : Ro) (π : Nat → Nat) : ∀ x : List DV, dvs ρ (drns π x) = rns π (dvs ρ x)
  | [] => by simp [drns, dvs, rns]
  | x :: xs => by simp only [drns, dvs, rns, rn_v ρ π x, rns_v ρ π xs]
end
mutual
theorem rn_vars (π : Nat → Nat) : ∀ x : DV, (x.rn π).vars = x.vars
  | .vec _ => by simp [DV.rn, DV.vars]
  | .ptr _ _ => by simp [DV.rn, DV.vars]
  | .vptr _ _ _ _ => by simp [DV.rn, DV.vars]
  | .ref _ => by simp [DV.rn, DV.vars]
  | .agg xs => by simp only [DV.rn, DV.vars, rns_vars π xs]
  | .tup xs => by simp only [DV.rn, DV.vars, rns_vars π xs]
  | .fn f first caps => by simp only [DV.rn, DV.vars, rns_vars π first, rns_vars π caps]
  | .ifc t x => by simp only [DV.rn, DV.vars, rn_vars π x]
  | .u => by simp [DV.rn, DV.vars]
  | .p _ _ => by simp [DV.rn, DV.vars]
  | .pd _ _ _ => by simp [DV.rn, DV.vars]
  | .pc _ _ => by simp [DV.rn, DV.vars]
  | .rp _ _ => by simp [DV.rn, DV.vars]
theorem rns_vars (π : Nat → Nat) : ∀ x : List DV, dvsVars (drns π x) = dvsVars x
  | [] => by simp [drns, dvsVars]
  | x :: xs => by simp only [drns, dvsVars, rn_vars π x, rns_vars π xs]
end
def DO.rn (π : Nat → Nat) : DO → DO
  | .box t cells => .box t (drns π cells)
  | o => o
theorem DO.rn_v (J : Ex) (ρ : Ro) (π : Nat → Nat) (o : DO) : (o.rn π).v J ρ = OV.rn π (o.v J ρ) := by
  cases o <;> simp [DO.rn, DO.v, OV.rn, rns_v]
theorem DO.rn_vars (π : Nat → Nat) (o : DO) : (o.rn π).vars = o.vars := by
  cases o <;> simp [DO.rn, DO.vars, rns_vars]
def slotsRn (π : Nat → Nat) : DSlots → DSlots
  | [] => []
  | (t, x) :: r => (t, x.rn π) :: slotsRn π r
def tabRn (π : Nat → Nat) : DTab → DTab
  | [] => []
  | (t, x) :: r => (π t, x.rn π) :: tabRn π r
theorem slotsRn_v (ρ : Ro) (π : Nat → Nat) : ∀ l : DSlots, slotsV ρ (slotsRn π l) = rnSlots π (slotsV ρ l)
  | [] => rfl
  | (t, x) :: r => by simp only [slotsRn, slotsV, rnSlots, rn_v, slotsRn_v ρ π r]
theorem tabRn_v (J : Ex) (ρ : Ro) (π : Nat → Nat) : ∀ l : DTab, tabV J ρ (tabRn π l) = rnTab π (tabV J ρ l)
  | [] => rfl
  | (t, x) :: r => by simp only [tabRn, tabV, rnTab, DO.rn_v, tabRn_v J ρ π r]
def DSt.rn (σ : DSt) (k k' : Nat) : DSt := { σ with slots := slotsRn (sw k k') σ.slots, tab := tabRn (sw k k') σ.tab }
theorem DSt.rn_v {J : Ex} (ρ : Ro) (σ : DSt) (k k' : Nat) : (σ.rn k k').v J ρ = (σ.v J ρ).rn k k' := by
  simp only [DSt.rn, DSt.v, St.rn, slotsRn_v, tabRn_v]
structure DSt.scAll (σ : DSt) : Prop where
  slots : ∀ p ∈ σ.slots, Sc σ.nx p.2.vars
  tab : ∀ p ∈ σ.tab, Sc σ.nx p.2.vars
theorem lk_slotsRn (π : Nat → Nat) : ∀ (l : DSlots) (t : Nat), lk (slotsRn π l) t = (lk l t).map (DV.rn π)
  | [], _ => rfl
  | (j, x) :: r, t => by simp only [slotsRn, lk]; cases Nat.beq j t <;> simp [lk_slotsRn π r t]
theorem lk_tabRn (a b : Nat) : ∀ (l : DTab) (t : Nat), lk (tabRn (sw a b) l) t = (lk l (sw a b t)).map (DO.rn (sw a b))
  | [], _ => rfl
  | (j, x) :: r, t => by
    simp only [tabRn, lk]
    have hb : Nat.beq (sw a b j) t = Nat.beq j (sw a b t) := by
      rw [Bool.eq_iff_iff]
      constructor
      · intro h; have := Nat.eq_of_beq_eq_true h; subst this; rw [sw_sw]; exact Nat.beq_refl _
      · intro h; have := Nat.eq_of_beq_eq_true h; subst this; rw [sw_sw]; exact Nat.beq_refl _
    rw [hb]
    cases Nat.beq j (sw a b t) <;> simp [lk_tabRn a b r t]
theorem DSt.sc.rn {σ : DSt} (hs : σ.sc) (k k' : Nat) : (σ.rn k k').sc := by
  refine ⟨?_, ?_, hs.tys, hs.lin, hs.prs⟩
  · intro t v hl
    simp only [DSt.rn, lk_slotsRn] at hl
    cases hq : lk σ.slots t with
    | none => simp [hq] at hl
    | some x => simp only [hq, Option.map_some, Option.some.injEq] at hl; subst hl; rw [rn_vars]; exact hs.slots t x hq
  · intro t v hl
    simp only [DSt.rn, lk_tabRn] at hl
    cases hq : lk σ.tab (sw k k' t) with
    | none => simp [hq] at hl
    | some x => simp only [hq, Option.map_some, Option.some.injEq] at hl; subst hl; rw [DO.rn_vars]; exact hs.tab _ x hq
def DSt.fz (k : Nat) (vc : DV) (pd : Nat → DV) (σ : DSt) : DSt := { σ with slots := dfzSlots k vc pd σ.slots, tab := dfzTab k vc pd (rm σ.tab k) }
theorem DSt.fz_v {J : Ex} (ρ : Ro) (k : Nat) (vc : DV) (pd : Nat → DV) (σ : DSt) : (DSt.fz k vc pd σ).v J ρ = St.fz k (vc.v ρ) (fun n => (pd n).v ρ) (σ.v J ρ) := by
  simp only [DSt.fz, DSt.v, St.fz, fzSlots_v, fzTab_v, rm_tabV]
theorem DSt.sc.fz {σ : DSt} (hs : σ.sc) {k : Nat} {vc : DV} {pd : Nat → DV} (hv : Sc σ.nx vc.vars) (hp : ∀ j, Sc σ.nx (pd j).vars) : (DSt.fz k vc pd σ).sc := by
  refine ⟨?_, ?_, hs.tys, hs.lin, hs.prs⟩
  · intro t v hl
    simp only [DSt.fz, lk_dfzSlots] at hl
    cases hq : lk σ.slots t with
    | none => simp [hq] at hl
    | some x => simp only [hq, Option.map_some, Option.some.injEq] at hl; subst hl; exact Go.TL.fz_sc hv hp (hs.slots t x hq)
  · intro t v hl
    simp only [DSt.fz, lk_dfzTab, lk_rm] at hl
    split at hl
    · simp at hl
    · cases hq : lk σ.tab t with
      | none => simp [hq] at hl
      | some x => simp only [hq, Option.map_some, Option.some.injEq] at hl; subst hl; exact DO.fz_sc hv hp (hs.tab t x hq)
def DSt.kills : List Nat → DSt → DSt
  | [], σ => σ
  | k :: ks, σ => DSt.kills ks (DSt.fz k .u (fun _ => .u) σ)
theorem kills_v {J : Ex} (ρ : Ro) : ∀ (ks : List Nat) (σ : DSt), (σ.kills ks).v J ρ = (σ.v J ρ).kills ks
  | [], _ => rfl
  | k :: ks, σ => by
    simp only [DSt.kills, St.kills, kills_v ρ ks, DSt.fz_v, dVU, St.kill]
theorem kills_sc : ∀ (ks : List Nat) {σ : DSt}, σ.sc → (σ.kills ks).sc ∧ (σ.kills ks).nx = σ.nx ∧ (σ.kills ks).tys = σ.tys ∧ (σ.kills ks).lin = σ.lin ∧ (σ.kills ks).prs = σ.prs
  | [], _, h => ⟨h, rfl, rfl, rfl, rfl⟩
  | k :: ks, σ, h => kills_sc ks (h.fz (k := k) (by simp [DV.vars, Sc.nil]) (fun _ => by simp [DV.vars, Sc.nil]))
def dothers (LT : List Nat) : DTab → List Nat
  | [] => []
  | (k, _) :: r => match LT.any (Nat.beq k) with | true => dothers LT r | false => k :: dothers LT r
theorem dothers_v {J : Ex} (ρ : Ro) (LT : List Nat) : ∀ T : DTab, others LT (tabV J ρ T) = dothers LT T
  | [] => rfl
  | (k, x) :: r => by
    simp only [tabV, others, dothers, dothers_v ρ LT r]
    cases LT.any (Nat.beq k) <;> rfl
def DSt.keep (L LT : List Nat) (σ : DSt) : DSt :=
  let σ1 := σ.kills (dothers LT σ.tab)
  { σ1 with slots := pick σ1.slots L, tab := pick σ1.tab LT }
theorem pick_slots (ρ : Ro) (S : DSlots) : ∀ L : List Nat, slotsV ρ (pick S L) = pick (slotsV ρ S) L
  | [] => rfl
  | k :: ks => by
    simp only [pick, lk_slotsV]
    cases lk S k with
    | none => simp only [Option.map_none]; exact pick_slots ρ S ks
    | some x => simp only [Option.map_some, slotsV, pick_slots ρ S ks]
theorem pick_tab (J : Ex) (ρ : Ro) (S : DTab) : ∀ L : List Nat, tabV J ρ (pick S L) = pick (tabV J ρ S) L
  | [] => rfl
  | k :: ks => by
    simp only [pick, lk_tabV]
    cases lk S k with
    | none => simp only [Option.map_none]; exact pick_tab J ρ S ks
    | some x => simp only [Option.map_some, tabV, pick_tab J ρ S ks]
theorem keep_v {J : Ex} (ρ : Ro) (L LT : List Nat) (σ : DSt) : (σ.keep L LT).v J ρ = (σ.v J ρ).keep L LT := by
  have h1 := kills_v (J := J) ρ (dothers LT σ.tab) σ
  have h2 : others LT (σ.v J ρ).tab = dothers LT σ.tab := dothers_v ρ LT σ.tab
  have h3 : (σ.v J ρ).keep L LT = ⟨pick ((σ.v J ρ).kills (dothers LT σ.tab)).slots L, pick ((σ.v J ρ).kills (dothers LT σ.tab)).tab LT⟩ := by simp only [St.keep, h2]
  rw [h3, ← h1]
  simp only [DSt.keep, DSt.v, pick_slots, pick_tab]
structure Co1 (P : Program) (J : Ex) (n : Nat) (σ σ' : DSt) : Prop where
  sc : σ.sc → σ'.sc
  nx : σ'.nx = σ.nx
  tys : σ'.tys = σ.tys
  lin : σ'.lin = σ.lin
  prs : σ'.prs = σ.prs
  imp : ∀ ρ, Imp P n (σ.v J ρ) (σ'.v J ρ)
theorem Co1.ok {P : Program} {I : Pr} {J : Ex} {n : Nat} {σ σ' : DSt} {ρ : Ro} (h : Co1 P J n σ σ') (k : σ.ok P I ρ) : σ'.ok P I ρ :=
  ⟨k.g, h.tys ▸ k.tys, h.lin ▸ k.lin, h.prs ▸ k.prs⟩
theorem Co1.refl {P : Program} {J : Ex} {n : Nat} {σ : DSt} : Co1 P J n σ σ := ⟨id, rfl, rfl, rfl, rfl, fun _ => Imp.refl⟩
theorem Co1.trans {P : Program} {J : Ex} {n : Nat} {σ σ1 σ2 : DSt} (h : Co1 P J n σ σ1) (k : Co1 P J n σ1 σ2) : Co1 P J n σ σ2 :=
  ⟨fun x => k.sc (h.sc x), k.nx.trans h.nx, k.tys.trans h.tys, k.lin.trans h.lin, k.prs.trans h.prs, fun ρ => (h.imp ρ).trans (k.imp ρ)⟩
theorem keep_co {P : Program} {J : Ex} {n : Nat} (L LT : List Nat) (σ : DSt) : Co1 P J n σ (σ.keep L LT) := by
  have hk : ∀ (ks : List Nat) (σ : DSt), (σ.kills ks).nx = σ.nx ∧ (σ.kills ks).tys = σ.tys ∧ (σ.kills ks).lin = σ.lin ∧ (σ.kills ks).prs = σ.prs := by
    intro ks
    induction ks with
    | nil => intro σ; exact ⟨rfl, rfl, rfl, rfl⟩
    | cons k ks ih => intro σ; exact ih (DSt.fz k .u (fun _ => .u) σ)
  have h1 := hk (dothers LT σ.tab) σ
  refine ⟨fun hs => ?_, h1.1, h1.2.1, h1.2.2.1, h1.2.2.2, fun ρ => ?_⟩
  · have h2 := (kills_sc (dothers LT σ.tab) hs).1
    exact ⟨fun t v hl => h2.slots t v (lk_pick _ _ _ _ hl), fun t v hl => h2.tab t v (lk_pick _ _ _ _ hl), h2.tys, h2.lin, h2.prs⟩
  · exact imp_keep L LT (keep_v ρ L LT σ).symm
def DSt.freeze1 (k : Nat) (σ : DSt) : Option DSt :=
  match lk σ.tab k with
  | some (.vec _ _ l fr) => some (DSt.fz k (.p (.sl l) fr) (fun _ => .u) σ)
  | some (.box _ cells) => match dtoDPs cells with
    | some (row, fr) => match cstsOk row with
      | true => some (DSt.fz k .u (fun off => .pd row off fr) σ)
      | false => none
    | none => none
  | _ => none
theorem freeze1_co {P : Program} {J : Ex} {n k : Nat} {σ σ' : DSt} (h : σ.freeze1 k = some σ') : Co1 P J n σ σ' := by
  unfold DSt.freeze1 at h
  split at h
  · rename_i t sz l fr hk
    simp only [Option.some.injEq] at h; subst h
    refine ⟨fun hs => hs.fz (by have := hs.tab k _ hk; simpa [DV.vars, DP.vars, DO.vars] using this) (fun _ => by simp [DV.vars, Sc.nil]), rfl, rfl, rfl, rfl, fun ρ => ?_⟩
    refine imp_freeze [k] ?_
    simp only [St.freeze, St.freeze1, dtab_v hk, DO.v, DSt.fz_v, dVU, DV.v, DP.v]
  · rename_i t cells hk
    split at h
    · rename_i row fr hrow
      split at h
      · rename_i hc
        simp only [Option.some.injEq] at h; subst h
        refine ⟨fun hs => hs.fz (by simp [DV.vars, Sc.nil]) (fun _ => by simp only [DV.vars]; exact dtoDPs_sc hrow (by have := hs.tab k _ hk; simpa [DO.vars] using this)), rfl, rfl, rfl, rfl, fun ρ => ?_⟩
        refine imp_freeze [k] ?_
        simp only [St.freeze, St.freeze1, dtab_v hk, DO.v, dtoDPs_v hrow hc, DSt.fz_v, dVU, DV.v]
      · cases h
    · cases h
  · cases h
inductive Co where
  | fz (k : Nat)
  | rn (k k' : Nat)
  | nil (t K : Nat) (e : TypeId) (sz : Nat)
  | cell (k j K : Nat) (e : TypeId) (sz : Nat)
def DSt.co (n : Nat) (σ : DSt) : Co → Option DSt
  | .fz k => σ.freeze1 k
  | .rn k k' => match (lk σ.tab k').isSome, Nat.ble (k' + 1) n with
    | false, true => some (σ.rn k k')
    | _, _ => none
  | .nil t K e sz => match lk σ.slots t, (lk σ.tab K).isSome, Nat.ble (K + 1) n, Nat.ble 1 sz with
    | some (.p .nl _), false, true, true => some { σ with slots := (t, .vec K) :: rm σ.slots t, tab := (K, .vec e sz none true) :: σ.tab }
    | _, _, _, _ => none
  | .cell k j K e sz => match lk σ.tab k, (lk σ.tab K).isSome, Nat.ble (K + 1) n, Nat.ble 1 sz with
    | some (.box t cells), false, true, true => match cells[j]? with
      | some (.p .nl _) => some { σ with tab := (K, .vec e sz none true) :: (k, .box t (cells.set j (.vec K))) :: rm σ.tab k }
      | _ => none
    | _, _, _, _ => none
theorem co_co {P : Program} {J : Ex} {n : Nat} {σ σ' : DSt} {c : Co} (h : σ.co n c = some σ') : Co1 P J n σ σ' := by
  cases c with
  | fz k => exact freeze1_co h
  | rn k k' =>
    simp only [DSt.co] at h
    split at h
    · rename_i h1 h2
      simp only [Option.some.injEq] at h; subst h
      refine ⟨fun hs => hs.rn k k', rfl, rfl, rfl, rfl, fun ρ => ?_⟩
      refine imp_rn k k' ?_ h2 (DSt.rn_v ρ σ k k').symm
      simp only [DSt.v, lk_tabV, Option.isSome_map]; exact h1
    · cases h
  | nil t K e sz =>
    simp only [DSt.co] at h
    split at h
    · rename_i fr hl hK hKn hsz
      simp only [Option.some.injEq] at h; subst h
      refine ⟨fun hs => ⟨?_, ?_, hs.tys, hs.lin, hs.prs⟩, rfl, rfl, rfl, rfl, fun ρ => ?_⟩
      · intro t' v hl'
        simp only [lk_cons] at hl'
        split at hl'
        · simp only [Option.some.injEq] at hl'; subst hl'; simp [DV.vars, Sc.nil]
        · rw [lk_rm] at hl'
          split at hl'
          · cases hl'
          · exact hs.slots t' v hl'
      · intro t' v hl'
        simp only [lk_cons] at hl'
        split at hl'
        · simp only [Option.some.injEq] at hl'; subst hl'; simp [DO.vars, lvVars, Sc.nil]
        · exact hs.tab t' v hl'
      · refine imp_nilvec t K e sz ?_ ?_ hKn hsz ?_
        · simp only [isNl, DSt.v, lk_slotsV, hl, Option.map_some, DV.v, DP.v]
        · simp only [DSt.v, lk_tabV, Option.isSome_map]; exact hK
        · simp only [St.nilVec, DSt.v, slotsV, tabV, rm_slotsV, DV.v, DO.v, lvV]
    · cases h
  | cell k j K e sz =>
    simp only [DSt.co] at h
    split at h
    · rename_i t cells hk hK hKn hsz
      split at h
      · rename_i fr hj
        simp only [Option.some.injEq] at h; subst h
        refine ⟨fun hs => ⟨hs.slots, ?_, hs.tys, hs.lin, hs.prs⟩, rfl, rfl, rfl, rfl, fun ρ => ?_⟩
        · intro t' v hl'
          simp only [lk_cons] at hl'
          split at hl'
          · simp only [Option.some.injEq] at hl'; subst hl'; simp [DO.vars, lvVars, Sc.nil]
          · split at hl'
            · simp only [Option.some.injEq] at hl'; subst hl'
              have := hs.tab k _ hk
              simp only [DO.vars, dvs_sc] at this ⊢
              intro x hx
              rcases List.mem_or_eq_of_mem_set hx with hx | rfl
              · exact this x hx
              · simp [DV.vars, Sc.nil]
            · rw [lk_rm] at hl'
              split at hl'
              · cases hl'
              · exact hs.tab t' v hl'
        · refine imp_nilCell k j K e sz ?_ hKn hsz ?_
          · simp only [DSt.v, lk_tabV, Option.isSome_map]; exact hK
          · simp only [St.nilCell, dtab_v hk, DO.v, dvs_map, List.getElem?_map, hj, Option.map_some, DV.v, DP.v, isNl0, isNilSl]
            simp only [DSt.v, tabV, DO.v, rm_tabV, dvs_map, List.map_set, DV.v, lvV]
      · cases h
    · cases h
def DSt.cos (n : Nat) (σ : DSt) : List Co → Option DSt
  | [] => some σ
  | c :: cs => match σ.co n c with
    | some σ' => σ'.cos n cs
    | none => none
theorem cos_co {P : Program} {J : Ex} {n : Nat} : ∀ {cs : List Co} {σ σ' : DSt}, σ.cos n cs = some σ' → Co1 P J n σ σ'
  | [], σ, σ', h => by simp only [DSt.cos, Option.some.injEq] at h; subst h; exact Co1.refl
  | c :: cs, σ, σ', h => by
    simp only [DSt.cos] at h
    split at h
    · rename_i σ1 h1; exact (co_co h1).trans (cos_co h)
    · cases h
end Go.TL
