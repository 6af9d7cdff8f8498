/- Functions told by hand: new names, copies of maps, lists that are sorted. -/
import Derived.Test.YtajkchpnbnbmfaaGreatDoorW24
import Derived.Lib.OwnBridge
import Derived.Lib.SlicesCompact
import Derived.Sort.EncStr
import Derived.RangeFuncLeaves
import Derived.RangeFuncRecord
import Derived.OrdersIn
namespace Go.TL.H
open Go
theorem Rc {P : Program} {mb : TypeId} {cs : List CK} {rows : List (List PV)} (hc : cks P mb = .str :: cs) (h : bL P mb rows) : qb rows := qb.of hc h
theorem bL.RN {P : Program} {e : TypeId} {rows : List (List PV)} (h : bL P e rows) {row : List PV} (hr : Ty P e row) (j : Nat) : bL P e (rows.set j row) := fun r hm => by
 rcases List.mem_or_eq_of_mem_set hm with hm | rfl
 ·exact h r hm
 ·exact hr
theorem IV {w : World} {bad : Nat → Prop} {lo : Nat} {key val : Value} (h1 : key.oneCell' = true) (h2 : val.oneCell' = true) : jw w bad lo none [.v key,.v val] key val :=
 ⟨[key,val],rfl,fun j => [key,val].getD j default,fun j x hx => by
  match j,hx with
  | 0,hx => simp at hx; subst hx; exact ⟨rfl,.v _ h1⟩
  | 1,hx => simp at hx; subst hx; exact ⟨rfl,.v _ h2⟩
  | j + 2,hx => simp at hx⟩
theorem DM {P : Program} {w : World} {bad : Nat → Prop} {lo : Nat} {mb : TypeId} {rows : List (List PV)} {es : Array MapEntry} (hc : cks P mb = [.str,.bool]) (ht : bL P mb rows) (h : cn w bad lo none rows es) (i : Nat) (e : MapEntry) (hi : es[i]? = some e) : ∃ c,e.val = .bool c := by
 obtain ⟨row,vs,hm,hv,g,hg⟩ := h.at hi
 obtain ⟨s,r,rfl,_,hr⟩ := nI (Ty.to hc (ht row hm))
 obtain ⟨c,r,rfl,_⟩ := MQ hr
 have := hg 1 _ rfl
 have e1 := eW this.2
 simp only [bY,Option.some.injEq] at hv; subst hv
 simp only [List.getElem?_cons_succ,List.getElem?_cons_zero,Option.some.injEq] at this
 exact ⟨c,this.1.trans e1⟩
def ki (f : FuncId) (M mb : TypeId) : TL.Spec :=
 ⟨f,2,[.ptr 1000000 0],[(1000000,.box M [.ref 1000001,.p (.int .i64 ⟨0,[(4,1)]⟩) true]),(1000001,.mp none (some 0) true)],[(0,mb)],[⟨-4194303,[(1,1)]⟩,⟨0,[(4, -1)]⟩,⟨-35184372088832,[(4,1)]⟩],[],⟨0,[]⟩,
 [⟨3,[(2,mb)],[⟨-64,[(19,1)]⟩,⟨-1,[(1, -1),(9,1)]⟩,⟨0,[(4,1),(12, -1)]⟩,⟨-4194304,[(4, -1),(12,1)]⟩],[],[(1000000,.box M [.ref 1000001,.p (.int .i64 ⟨0,[(12,1)]⟩) true]),(1000001,.mp none (some 2) true)],[.p (.st (.var 4)) true]⟩]⟩
theorem DN {P : Program} {f : FuncId} {M mb : TypeId} (hmb : 1000000 ≤ mb) (hc : cks P mb = [.str,.bool])
  (h : ∀ (w : World) (b bm : Nat) (n : Int) (es : Array MapEntry) (clock : Nat),w.heap[b]? = some (.cells #[.map (some bm),.int .i64 n] M (0,0)) → w.heap[bm]? = some (.map es clock) → (∀ x ∈ es.toList,MapKept.IsKey .string x.key) → (∀ (i : Nat) e,es[i]? = some e → ∃ c,e.val = .bool c) →
   0 ≤ n → n ≤ 4611686018427387904 → es.size ≤ 1073741824 → (∀ w',Ch (fun c => c = b ∨ c = bm) w w' → Lib.TabIs P w' "internal/strconv.uint64pow10" .u64 Lib.pow10Tab) →
   Ret P f [Ptr b 0] w fun v w' => ∃ s k es' clock',v = .string s ∧ s.size ≤ 64 ∧ 1 ≤ k ∧ k ≤ (es.size : Int) + 1 ∧ Ch (fun c => c = b ∨ c = bm) w w' ∧ w'.heap[b]? = some (.cells #[.map (some bm),.int .i64 (n + k)] M (0,0)) ∧ w'.heap[bm]? = some (.map es' clock') ∧
    (es' = es.push { key := .string s,val := .bool true,born := clock } ∨ ∃ (j : Nat) (e : MapEntry),es[j]? = some e ∧ es' = es.modify j fun e => { e with key := .string s,val := .bool true }))
  (hu : (P.globalNamed "internal/strconv.uint64pow10").isSome = true) : aC P aH (ki f M mb) := by
 refine gi rfl fun ρ hok => ?_
 intro lo w E vals hlo ht hv
 match vals,hv with
 | [v0],hv =>
  simp only [ki,dvs,VRs,DV.v,VR] at hv
  obtain ⟨⟨b,hb1,rfl⟩,_⟩ := hv
  obtain ⟨b',vs,k1,k2,k3,k4⟩ := ht.obj 1000000 (.box M [.ref 1000001,.p (.v (.int .i64 (ρ 1).n)) true]) (by simp [ki,aG,lk,DO.v,dvs,DV.v,DP.v,Lin.v,bO,aN])
  rw [hb1] at k1
  simp only [Option.some.injEq,Value.pointer.injEq,Addr.mk.injEq,and_true] at k1
  subst k1
  obtain ⟨bm,es,cl,m1,m2,m3,m4⟩ := ht.obj 1000001 (.mp none (ρ 0).l true) (by simp [ki,aG,lk,DO.v,lvV])
  match vs,k4 with
  | [u0,u1],k4 =>
   simp only [VRs,VR] at k4
   obtain ⟨⟨j1,_⟩,j2,_⟩ := k4
   rw [m1] at j1
   obtain rfl := Option.some.inj j1
   obtain rfl := eW j2
   have hl := hok.lin
   simp only [ki,Spec.pre,aR,Lin.v,bO,aN] at hl
   obtain ⟨l1,l2,l3,_⟩ := hl
   simp at l1 l2 l3
   have hty : aU P mb (ρ 0).l := hok.tys.1
   have hsz : es.size = (ρ 0).l.length := by obtain ⟨_,⟨e1,_⟩,_⟩ := m4; exact e1
   have hold : ∀ w',Ch (fun c => c = b ∨ c = bm) w w' → ∀ c,c < w.heap.size → E.own c = none → w'.heap[c]? = w.heap[c]? := fun w' hch c hc hn => hch.keep c hc (by
    rintro (rfl | rfl)
    ·rw [k2] at hn; cases hn
    ·rw [m2] at hn; cases hn)
   refine Calls.mono (h w b bm (ρ 1).n es cl k3 m3 (m4.keys (Rc hc hty.2)) (DM hc hty.2 m4) (by omega) (by omega) (by omega) fun w' hch => ?_) ?_
   ·refine KR (lo := lo) hu fun g hg => ?_
    obtain ⟨q1,cs,t,fz,q2,q3⟩ := hlo.laid g hg
    exact ⟨q1,cs,t,fz,by rw [hold w' hch g (aJ q2) (hlo.own g q1)]; exact q2,q3⟩
   ·rintro e w' ⟨v,rfl,s,k,es',cl',rfl,hs,hk1,hk2,hch,hb,hm,hes⟩
    have hfr : Fr w E w' E := ⟨hch.os,hch.tape,hch.output,hch.size,fun c hc hn => ⟨hold w' hch c hc hn,hn⟩,rfl⟩
    have hrow : Ty P mb [.v (.string s),.v (.bool true)] := Ty.of hc (vF (by unfold bz; omega) (MR AX))
    have m5 := m4.mono (Nat.le_refl _) hfr.keeps.rep
    have key : ∃ rows',cn w' E.bad lo none rows' es' ∧ aU P mb rows' ∧ rows'.length ≤ (ρ 0).l.length + 1 := by
     rcases hes with rfl | ⟨j,e,_,rfl⟩
     ·exact ⟨_,m5.push (IV rfl rfl),.ofC hmb (by simp; omega) (hty.2.append (.one hrow)),by simp⟩
     ·exact ⟨_,m5.set (fun _ => ⟨rfl,rfl⟩) (IV rfl rfl),.ofC hmb (by simp; omega) (bL.RN hty.2 hrow j),by simp⟩
    obtain ⟨rows',m6,hty',hlen⟩ := key
    let ρ' := up (up (up ρ 2 (vaL rows')) 3 (vaN ((ρ 1).n + k))) 4 (vaS s)
    have r0 : ρ' 0 = ρ 0 := rfl
    have r1 : ρ' 1 = ρ 1 := rfl
    have r2 : ρ' 2 = vaL rows' := rfl
    have r3 : ρ' 3 = vaN ((ρ 1).n + k) := rfl
    have r4 : ρ' 4 = vaS s := rfl
    have hg : Gok ρ' := ((hok.g.up 2 (ej (hty'.len))).up 3 (rJ (by omega) (by omega))).up 4 (nV (by unfold bz; omega))
    refine ⟨.p (.v (.string s)) true,_,[(1000000,.box M [.ref 1000001,.p (.v (.int .i64 ((ρ 1).n + k))) true]),(1000001,.mp none rows' true)],E,rfl,?_,hfr,?_,.v _ rfl,fun k x hx => .inl hx⟩
    ·refine ⟨_,List.mem_singleton.2 rfl,ρ',fun j hj => ?_,⟨hg,⟨by rw [r2]; exact hty',trivial⟩,?_,trivial⟩,?_,?_⟩
     ·have : j = 0 ∨ j = 1 := by simp only [ki] at hj; omega
      rcases this with rfl | rfl <;> rfl
     ·simp only [bh.st,aR,Lin.v,bO,aN]
      simp only [Nat.reduceDiv,r0,r1,r2,r3,r4,vaL,vaN,vaS]
      simp only [and_true]
      omega
     ·simp [dmk,DV.v,DP.v,SE.v,r4,vaS]
     ·simp [aG,DO.v,dvs,DV.v,DP.v,Lin.v,bO,aN,lvV,r2,r3,vaL,vaN]
    ·refine ⟨fun j ov hj => ?_,fun j hj => ht.dead j ?_,fun c j hc => ?_,fun c hc => ⟨Nat.lt_of_lt_of_le (ht.ext c hc).1 hch.size,(ht.ext c hc).2⟩⟩
     ·simp only [lk] at hj
      split at hj
      ·rename_i he
       have := Nat.eq_of_beq_eq_true he; subst this
       simp only [Option.some.injEq] at hj; subst hj
       exact ⟨b,_,hb1,k2,hb,bC (by simp only [VR]; exact ⟨m1,rfl⟩) (bC (.v _ rfl) c6)⟩
      ·split at hj
       ·rename_i he
        have := Nat.eq_of_beq_eq_true he; subst this
        simp only [Option.some.injEq] at hj; subst hj
        exact ⟨bm,es',cl',m1,m2,hm,m6⟩
       ·cases hj
     ·simp only [lk] at hj
      split at hj
      ·cases hj
      ·rename_i he1
       split at hj
       ·cases hj
       ·rename_i he2; simp only [ki,aG,lk,he1,he2]
     ·obtain ⟨q1,q2,q3⟩ := ht.own c j hc
      refine ⟨Nat.lt_of_lt_of_le q1 hch.size,q2,fun e => q3 ?_⟩
      simp only [lk] at e
      split at e
      ·cases e
      ·rename_i he1
       split at e
       ·cases e
       ·rename_i he2; simp only [ki,aG,lk,he1,he2]
theorem KT {w w' : World} {bad bad' : Nat → Prop} {lo lo' : Nat} {a : Option Nat} {rows : List (List PV)} {es : Array MapEntry} (hv : ∀ row ∈ rows, ∀ x ∈ row, ∃ v,x = .v v) (h : cn w bad lo a rows es) : cn w' bad' lo' a rows es := by
 obtain ⟨f,h1,h2⟩ := h
 refine ⟨f,h1,fun i row j x hi hj => ?_⟩
 obtain ⟨v,rfl⟩ := hv row (List.mem_of_getElem? hi) x (List.mem_of_getElem? hj)
 have := h2 i row j _ hi hj
 generalize f i j = u at this
 cases this with
 | v _ hx => exact .v _ hx
theorem PQ {P : Program} {mt : TypeId} {rows : List (List PV)} (hc : cks P mt = [.str,.sst]) (ht : bL P mt rows) : ∀ row ∈ rows, ∀ x ∈ row, ∃ v,x = .v v := by
 intro row hr x hx
 obtain ⟨s,r,rfl,_,hr2⟩ := nI (Ty.to hc (ht row hr))
 obtain ⟨y,r,rfl,hy,hr3⟩ := fP hr2
 obtain ⟨s2,rfl,_⟩ := HB hy
 obtain rfl := lh hr3
 simp only [List.mem_cons,List.mem_nil_iff,or_false] at hx
 rcases hx with rfl | rfl <;> exact ⟨_,rfl⟩
theorem CY {P : Program} {f : FuncId} {mt : TypeId} (hc : cks P mt = [.str,.sst])
  (h0 : ∀ w : World,Calls P f #[.map none] w fun e w' => e = .returned (.map none) ∧ w' = w)
  (h : ∀ (b : Nat) (es : Array MapEntry) (clock : Nat) (w : World),w.heap[b]? = some (.map es clock) → Calls P f #[.map (some b)] w fun e w' => e = .returned (.map (some w.heap.size)) ∧ w' = w.alloc (.map es clock)) :
  aC P aH ⟨f,1,[.p (.mp none (some 0)) false],[],[(0,mt)],[],[],⟨0,[]⟩,[⟨0,[],[],[],[],[.p (.cst (.map none)) true]⟩,⟨1,[(1,mt)],[⟨0,[(1, -1),(5,1)]⟩,⟨0,[(1,1),(5, -1)]⟩],[],[(11,.mp none (some 1) true)],[.ref 11]⟩]⟩ := by
 refine gi rfl fun ρ hok => ?_
 intro lo w E vals hlo ht hv
 match vals,hv with
 | [v0],hv =>
  simp only [dvs,VRs,DV.v,DP.v,lvV,VR,flo] at hv
  obtain ⟨hv,_⟩ := hv
  have hty : aU P mt (ρ 0).l := hok.tys.1
  have hvv := PQ hc hty.2
  generalize hrw : (ρ 0).l = rows at hv hvv hty
  cases hv with
  | mpNil =>
   refine Calls.mono (h0 w) ?_
   rintro e w' ⟨rfl,rfl⟩
   exact ⟨.p (.v (.map none)) true,_,[],E,rfl,⟨_,List.mem_cons_self ..,ρ,fun _ _ => rfl,⟨hok.g,trivial,trivial,trivial⟩,by simp [dmk,DV.v,DP.v],rfl⟩,Fr.refl _ _,ht,.v _ rfl,fun k x hx => .inl hx⟩
  | mp _ _ b es cl g hb hbad _ hcc hr =>
   refine Calls.mono (h b es cl w hb) ?_
   rintro e w' ⟨rfl,rfl⟩
   have hM : cn w E.bad 0 none rows es := ⟨g,hcc,hr⟩
   have ht' : a8 w E lo [] := ht
   have hbo : ∀ c,c < w.heap.size → (w.alloc (.map es cl)).heap[c]? = w.heap[c]? := fun c hlt => (Ch.alloc (fun _ => False) w _).keep c hlt fun h => h
   have hor : OR (w.alloc (.map es cl)) (E.add 11 (.map (some w.heap.size)) w.heap.size) lo 11 (.mp none rows true) :=
    ⟨w.heap.size,es,cl,by simp [Env.add],by simp [Env.add],heap_alloc_new w _,KT hvv hM⟩
   refine ⟨.ref 11,_,[(11,.mp none rows true)],E.add 11 (.map (some w.heap.size)) w.heap.size,rfl,?_,Fr.add rfl rfl rfl (by simp) hbo (Nat.le_refl _),?_,?_,fun k x hx => ?_⟩
   ·refine ⟨_,List.mem_cons_of_mem _ (List.mem_singleton.2 rfl),up ρ 1 (vaL rows),bR _ _ _ _ (Nat.le_refl _),⟨hok.g.up 1 (ej hty.len),⟨by rw [aI]; exact hty,trivial⟩,?_,trivial⟩,by simp [dmk,DV.v],?_⟩
    ·simp only [bh.st,aR,Lin.v,bO,aN,Nat.reduceMod,Nat.reduceDiv,aI,show up ρ 1 (vaL rows) 0 = ρ 0 from rfl,hrw]
     simp only [vaL,and_true]
     omega
    ·simp [aG,DO.v,lvV,aI,vaL]
   ·exact a8.add ht' rfl (by simp) hbo (Nat.le_refl _) (by simp) hlo.le hor
   ·simp only [VR]; exact ⟨by simp [Env.add],rfl⟩
   ·exact .inl (Env.k9 ht' rfl k x hx)
end Go.TL.H
namespace Go.TL.H
open Go Go.Proofs
def c5 (l : List (List UInt8)) : List (List PV) := l.map fun x => [.v (encStr x)]
theorem EX {P : Program} {e : TypeId} (hc : cks P e = [.str]) : ∀ {rows : List (List PV)},bL P e rows → ∃ ss,rows = c5 ss ∧ ∀ x ∈ ss,x.length ≤ bz
 | [],_ => ⟨[],rfl,by simp⟩
 | r :: rs,h => by
  obtain ⟨ss,h1,h2⟩ := EX hc (rows := rs) fun x hx => h x (List.mem_cons_of_mem _ hx)
  obtain ⟨s,r',rfl,h3,h4⟩ := nI (Ty.to hc (h r (List.mem_cons_self ..)))
  obtain rfl := lh h4
  refine ⟨s.data.toList :: ss,by rw [h1]; simp [c5],fun x hx => ?_⟩
  rcases List.mem_cons.1 hx with rfl | hx
  ·rw [Array.length_toList]; exact h3
  ·exact h2 x hx
theorem EY {P : Program} {e : TypeId} (hc : cks P e = [.str]) {ss : List (List UInt8)} (h : ∀ x ∈ ss,x.length ≤ bz) : bL P e (c5 ss) := fun row hr => by
 obtain ⟨x,hx,rfl⟩ := List.mem_map.1 hr
 exact Ty.of hc (vF (show x.toArray.size ≤ bz by rw [List.size_toArray]; exact h x hx) AX)
theorem CZ {w : World} {bad : Nat → Prop} {lo : Nat} (ss : List (List UInt8)) : bZ w bad lo 1 (c5 ss) (ss.map encStr) := by
 refine ⟨fun i _ => encStr (ss.getD i []),fun i row hi => ?_,fun i row j x hi hj => ?_,fun i row j x hi hj => ?_⟩
 all_goals (
  simp only [c5,List.getElem?_map,Option.map_eq_some_iff] at hi
  obtain ⟨y,hy,rfl⟩ := hi)
 ·rfl
 all_goals (
  match j,hj with
  | 0,hj => ?_
  | j + 1,hj => simp at hj)
 ·simp at hj; subst hj; simp [hy,List.getD]
 ·simp at hj; subst hj; simp only [List.getD,hy,Option.getD_some]; exact .v _ rfl
theorem KU {w : World} {bad : Nat → Prop} {lo : Nat} {ss : List (List UInt8)} {xs : List Value} (h : bZ w bad lo 1 (c5 ss) xs) (hl : xs.length = ss.length) : xs = ss.map encStr := by
 obtain ⟨f,_,h2,h3⟩ := h
 apply List.ext_getElem?
 intro i
 rcases Nat.lt_or_ge i ss.length with hi | hi
 ·have hr : (c5 ss)[i]? = some [.v (encStr ss[i])] := by simp [c5,hi]
  have e1 := h2 i _ 0 _ hr rfl
  have e2 := eW (h3 i _ 0 _ hr rfl)
  rw [Nat.mul_one,Nat.add_zero] at e1
  rw [e1,e2]; simp [hi]
 ·rw [List.getElem?_eq_none (by omega),List.getElem?_eq_none (by simpa using hi)]
theorem IW (w : World) (n g : Nat) (d : Array (List UInt8)) : Ch (· = g) w (Sort.putRow encStr (Sort.ahead w n) g 0 d) :=
 ⟨rfl,rfl,rfl,by simp [Sort.ahead],fun b _ hn => by simp [Sort.putRow,Sort.mapBlock,Sort.ahead,Array.getElem?_modify,Ne.symm hn]⟩
theorem NG (w : World) (os : Array Obj) : Ch (fun _ => False) w (Sort.grow w os) :=
 ⟨rfl,rfl,rfl,by simp [Sort.grow],fun b hb _ => by simp only [Sort.grow]; rw [Array.getElem?_append_left hb]⟩
theorem C0 {P : Program} {w : World} {E : Env} {lo K : Nat} {e : TypeId} {rows : List (List PV)} (hc : cks P e = [.str]) (hty : bL P e rows) (h : OR w E lo K (.vec e 1 rows true)) :
  ∃ v ss,E.val K = some v ∧ rows = c5 ss ∧ (∀ x ∈ ss,x.length ≤ bz) ∧ w.ownsRow 0 e 1 v ss.length (ss.map encStr) ∧ (∀ g,v.ownBlock = some g → E.own g = some K) := by
 obtain ⟨v,xs,h1,_,h3,h4,h5⟩ := h
 obtain ⟨ss,rfl,h6⟩ := EX hc hty
 have hl : (c5 ss).length = ss.length := by simp [c5]
 rw [hl] at h3
 have := KU h5 (by simpa using h3.1)
 subst this
 exact ⟨v,ss,h1,rfl,h6,h3,h4⟩
theorem G7 {P : Program} {f : FuncId} {e : TypeId} (hc : cks P e = [.str])
  (h0 : ∀ (p : Option Addr) (cap : Nat) (w : World),Calls P f #[.slice p 0 cap] w fun e w' => e = .returned (.tuple #[]) ∧ w' = w)
  (h : ∀ (blk cap : Nat) (ss : List (List UInt8)) (w : World),Sort.Holds encStr w blk 0 ss.toArray → blk < w.heap.size → ss.length < 4611686018427387904 → Calls P f #[.slice (some ⟨blk,0,none⟩) ss.length cap] w fun e w' =>
   e = .returned (.tuple #[]) ∧ ∃ n os,w' = Sort.grow (Sort.putRow encStr (Sort.ahead w n) blk 0 (ss.mergeSort fun x y => decide (x ≤ y)).toArray) os) :
  aC P aH ⟨f,1,[.vec 1000000],[(1000000,.vec e 1 (some 0) true)],[(0,e)],[],[],⟨0,[]⟩,[⟨1,[(1,e)],[⟨0,[(1, -1),(5,1)]⟩,⟨0,[(1,1),(5, -1)]⟩],[],[(1000000,.vec e 1 (some 1) true)],[]⟩]⟩ := by
 refine gi rfl fun ρ hok => ?_
 intro lo w E vals hlo ht hv
 match vals,hv with
 | [v0],hv =>
  simp only [dvs,VRs,DV.v,VR] at hv
  obtain ⟨⟨hv,_⟩,_⟩ := hv
  have hty : aU P e (ρ 0).l := hok.tys.1
  have ht' : a8 w E lo [(1000000,.vec e 1 (ρ 0).l true)] := ht
  obtain ⟨v,ss,k1,hrw,k2,k3,k4⟩ := C0 hc hty.2 (ht'.obj 1000000 _ rfl)
  rw [hv] at k1
  obtain rfl := Option.some.inj k1
  have hlen : (ρ 0).l.length = ss.length := by rw [hrw]; simp [c5]
  have fin : ∀ (ys : List (List UInt8)) (w' : World),ys.length = ss.length → (∀ y ∈ ys,y ∈ ss) → Fr w E w' E → a8 w' E lo [(1000000,.vec e 1 (c5 ys) true)] →
    ∃ r v T' E',Ending.returned (.tuple #[]) = .returned v ∧ jM P aH ⟨f,1,[.vec 1000000],[(1000000,.vec e 1 (some 0) true)],[(0,e)],[],[],⟨0,[]⟩,[⟨1,[(1,e)],[⟨0,[(1, -1),(5,1)]⟩,⟨0,[(1,1),(5, -1)]⟩],[],[(1000000,.vec e 1 (some 1) true)],[]⟩]⟩ ρ r T' ∧ Fr w E w' E' ∧ a8 w' E' lo T' ∧ VR w' E' lo r v ∧ ∀ k x,E.val k = some x → E'.val k = some x ∨ E'.val k = none := by
   intro ys w' h1 h2 h3 h4
   have hl : (c5 ys).length = ss.length := by simp [c5,h1]
   have hty' : aU P e (c5 ys) := ⟨by rw [hl, ← hlen]; exact hty.1,EY hc fun x hx => k2 x (h2 x hx)⟩
   refine ⟨.tup [],_,[(1000000,.vec e 1 (c5 ys) true)],E,rfl,?_,h3,h4,by simp only [VR]; exact ⟨[],rfl,c6⟩,fun k x hx => .inl hx⟩
   refine ⟨_,List.mem_singleton.2 rfl,up ρ 1 (vaL (c5 ys)),bR _ _ _ _ (Nat.le_refl _),⟨hok.g.up 1 (ej hty'.len),⟨by rw [aI]; exact hty',trivial⟩,?_,trivial⟩,by simp [dmk,DV.v,dvs],by simp [aG,DO.v,lvV,aI,vaL]⟩
   simp only [bh.st,aR,Lin.v,bO,aN,Nat.reduceMod,Nat.reduceDiv,aI,show up ρ 1 (vaL (c5 ys)) 0 = ρ 0 from rfl]
   simp only [vaL,and_true]
   omega
  rcases Nat.eq_zero_or_pos ss.length with hz | hz
  ·have hss : ss = [] := List.length_eq_zero_iff.1 hz
   have : ∃ p cap,v0 = .slice p 0 cap := by
    rcases k3.2 with ⟨rfl,_⟩ | ⟨g,cap,cur,rfl,_⟩
    ·exact ⟨_,_,rfl⟩
    ·exact ⟨_,_,by rw [hz]⟩
   obtain ⟨p,cap,rfl⟩ := this
   refine Calls.mono (h0 p cap w) ?_
   rintro e' w' ⟨rfl,rfl⟩
   exact fin ss w' rfl (fun _ h => h) (Fr.refl _ _) (by rw [← hrw]; exact ht')
  ·obtain ⟨g,cap,rfl,_,hlt,hcap,hcm,_,hH⟩ := Lib.holds_of_ownsRow k3 (fun e0 => by
    subst e0
    rcases k3.2 with ⟨_,hn⟩ | ⟨_,_,_,h,_⟩
    ·omega
    ·cases h)
   refine Calls.mono (h g cap ss w hH hlt (by have := hty.len; omega)) ?_
   rintro e' w' ⟨rfl,n,os,rfl⟩
   generalize hys : ss.mergeSort (fun x y => decide (x ≤ y)) = ys
   have hyl : ys.length = ss.length := by rw [← hys]; simp
   have hym : ∀ y ∈ ys,y ∈ ss := fun y hy => by rw [← hys] at hy; exact List.mem_mergeSort.1 hy
   have g1 := IW w n g ys.toArray
   have g2 := NG (Sort.putRow encStr (Sort.ahead w n) g 0 ys.toArray) os
   have hown := Lib.ownsRow_putRow (q := n) (ys := ys) (k := ss.length) k3 hyl (Nat.le_refl _)
   rw [List.take_of_length_le (by omega)] at hown
   have hgo := k4 g rfl
   have t1 : a8 (Sort.putRow encStr (Sort.ahead w n) g 0 ys.toArray) E lo [(1000000,.vec e 1 (c5 ys) true)] := by
    refine ht'.set (k := 1000000) (by simp [lk]) (by simp [Sort.ahead]) (fun b hb => ?_) ⟨_,_,hv,by omega,by rw [show (c5 ys).length = ss.length by simp [c5,hyl]]; exact hown,k4,CZ ys⟩
    simp [Sort.putRow,Sort.mapBlock,Sort.ahead,Array.getElem?_modify]
    intro e; subst e; exact absurd hgo hb
   have hfr : Fr w E (Sort.putRow encStr (Sort.ahead w n) g 0 ys.toArray) E := ⟨rfl,rfl,rfl,g1.size,fun b hb hn => ⟨g1.keep b hb (by rintro rfl; rw [hgo] at hn; cases hn),hn⟩,rfl⟩
   have hfr2 : Fr (Sort.putRow encStr (Sort.ahead w n) g 0 ys.toArray) E (Sort.grow (Sort.putRow encStr (Sort.ahead w n) g 0 ys.toArray) os) E := ⟨rfl,rfl,rfl,g2.size,fun b hb hn => ⟨g2.keep b hb fun h => h,hn⟩,rfl⟩
   exact fin ys _ hyl hym (hfr.trans hfr2) (t1.same g2.size fun b hb => g2.keep b hb fun h => h)
theorem DQ {zs : List (List UInt8)} {y : List UInt8} (h : y ∈ Lib.compact zs) : y ∈ zs := by
 unfold Lib.compact Lib.compactUpTo at h
 obtain ⟨j,hj,rfl⟩ := List.mem_map.1 h
 have hj : j < zs.length := by simpa using (List.mem_filter.1 hj).1
 simp [hj]
theorem z6 {P : Program} {f : FuncId} {e : TypeId} (hc : cks P e = [.str])
  (h0 : ∀ (a : Option Addr) (cap : Nat) (w : World),Calls P f #[.slice a 0 cap] w fun e w' => e = .returned (.slice a 0 cap) ∧ w' = w)
  (h : ∀ (blk cap : Nat) (zs : List (List UInt8)) (w : World),Sort.Holds encStr w blk 0 zs.toArray → zs.length ≤ 9223372036854775807 → zs.length ≤ cap → Calls P f #[.slice (some ⟨blk,0,none⟩) zs.length cap] w fun e w' =>
   e = .returned (.slice (some ⟨blk,0,none⟩) (Lib.compact zs).length cap) ∧ ∃ q,w' = Sort.putRow encStr (Sort.ahead w q) blk 0 (Lib.compact zs ++ List.replicate (zs.length - (Lib.compact zs).length) []).toArray) :
  aC P aH ⟨f,1,[.vec 1000000],[(1000000,.vec e 1 (some 0) true)],[(0,e)],[],[],⟨0,[]⟩,[⟨1,[(1,e)],[],[],[],[.p (.sl (some 1)) true]⟩]⟩ := by
 refine gi rfl fun ρ hok => ?_
 intro lo w E vals hlo ht hv
 match vals,hv with
 | [v0],hv =>
  simp only [dvs,VRs,DV.v,VR] at hv
  obtain ⟨⟨hv,_⟩,_⟩ := hv
  have hty : aU P e (ρ 0).l := hok.tys.1
  have ht' : a8 w E lo [(1000000,.vec e 1 (ρ 0).l true)] := ht
  obtain ⟨v,ss,k1,hrw,k2,k3,k4⟩ := C0 hc hty.2 (ht'.obj 1000000 _ rfl)
  rw [hv] at k1
  obtain rfl := Option.some.inj k1
  have hlen : (ρ 0).l.length = ss.length := by rw [hrw]; simp [c5]
  have hcl := Lib.compact_length_le ss
  have fin : ∀ (ys : List (List UInt8)) (v : Value) (w' : World),ys.length ≤ ss.length → (∀ y ∈ ys,y ∈ ss) → Ch (fun b => E.own b = some 1000000) w w' → w'.ownsRow 0 e 1 v ys.length (ys.map encStr) → (∀ g,v.ownBlock = some g → E.own g = some 1000000) →
    ∃ r v' T' E',Ending.returned v = .returned v' ∧ jM P aH ⟨f,1,[.vec 1000000],[(1000000,.vec e 1 (some 0) true)],[(0,e)],[],[],⟨0,[]⟩,[⟨1,[(1,e)],[],[],[],[.p (.sl (some 1)) true]⟩]⟩ ρ r T' ∧ Fr w E w' E' ∧ a8 w' E' lo T' ∧ VR w' E' lo r v' ∧ ∀ k x,E.val k = some x → E'.val k = some x ∨ E'.val k = none := by
   intro ys v w' h1 h2 h3 h4 h5
   have hl : (c5 ys).length = ys.length := by simp [c5]
   have hty' : aU P e (c5 ys) := ⟨by have := hty.1; omega,EY hc fun x hx => k2 x (h2 x hx)⟩
   refine ⟨.p (.sl (c5 ys)) true,v,[],⟨fun _ => none,fun _ => none,E.ext⟩,rfl,?_,⟨h3.os,h3.tape,h3.output,h3.size,fun b hb hn => ⟨h3.keep b hb (by rw [hn]; simp),rfl⟩,rfl⟩,?_,?_,fun k x _ => .inr rfl⟩
   ·exact ⟨_,List.mem_singleton.2 rfl,up ρ 1 (vaL (c5 ys)),bR _ _ _ _ (Nat.le_refl _),⟨hok.g.up 1 (ej hty'.len),⟨by rw [aI]; exact hty',trivial⟩,trivial,trivial⟩,by simp [dmk,DV.v,DP.v,lvV,aI,vaL],rfl⟩
   ·exact ⟨fun k ov hk => by simp [lk] at hk,fun _ _ => rfl,fun b k hk => by simp at hk,fun b hb => ⟨Nat.lt_of_lt_of_le (ht'.ext b hb).1 h3.size,rfl⟩⟩
   ·have hor : OR w' ⟨fun k => if k = 1000000 then some v else E.val k,E.own,E.ext⟩ lo 1000000 (.vec e 1 (c5 ys) true) := ⟨v,_,by simp,by omega,by rw [hl]; exact h4,h5,CZ ys⟩
    simp only [VR]
    refine DY hor (E' := ⟨fun _ => none,fun _ => none,E.ext⟩) ⟨fun b _ _ => ⟨rfl,rfl⟩,rfl⟩ (fun b _ => rfl) (fun b hb => (ht'.own b _ hb).2.1) (fun b hb hx => ?_) (by simp)
    have := (ht'.ext b hx).2
    rw [show E.own b = some 1000000 from hb] at this; cases this
  rcases Nat.eq_zero_or_pos ss.length with hz | hz
  ·have : ∃ p cap,v0 = .slice p 0 cap := by
    rcases k3.2 with ⟨rfl,_⟩ | ⟨g,cap,cur,rfl,_⟩
    ·exact ⟨_,_,rfl⟩
    ·exact ⟨_,_,by rw [hz]⟩
   obtain ⟨p,cap,rfl⟩ := this
   refine Calls.mono (h0 p cap w) ?_
   rintro e' w' ⟨rfl,rfl⟩
   exact fin ss _ w' (Nat.le_refl _) (fun _ h => h) (Ch.refl _ _) k3 k4
  ·obtain ⟨g,cap,rfl,_,hlt,hcap,hcm,_,hH⟩ := Lib.holds_of_ownsRow k3 (fun e0 => by
    subst e0
    rcases k3.2 with ⟨_,hn⟩ | ⟨_,_,_,h,_⟩
    ·omega
    ·cases h)
   refine Calls.mono (h g cap ss w hH (by have := hty.len; omega) hcap) ?_
   rintro e' w' ⟨rfl,n,rfl⟩
   have hown := Lib.ownsRow_putRow (q := n) (ys := Lib.compact ss ++ List.replicate (ss.length - (Lib.compact ss).length) []) (k := (Lib.compact ss).length) k3 (by simp; omega) hcl
   rw [List.take_left] at hown
   have hgo := k4 g rfl
   exact fin _ _ _ hcl (fun y hy => DQ hy) ((IW w n g _).mono fun b _ hb => by rw [hb]; exact hgo) hown fun g' hg => by simp [Value.ownBlock] at hg; subst hg; exact hgo
end Go.TL.H
namespace Go.TL.H
open Go
abbrev FW (r : Option Nat) : Fence := { Fence.wide with round := r }
theorem KV {r : Option Nat} {n : Nat} {P : Program} {f : FuncId} {args : Array Value} {w : World} {R : Ending → World → Prop} (h : Calls P f args w R) : CallsIn (FW r) n P f args w R := (callsIn_wide (n := n)).2 h
theorem KW (k : Bool) (ro : Option Nat) (ρ : Operand → Value) (o : Oper) : (st k o).semAt ro ρ = o.semAt ro ρ := by
 obtain ⟨dst,op,ty,pos,af,g⟩ := o
 cases ro with
 | none => exact xL k ρ _
 | some l =>
  cases op
  case call c =>
   obtain ⟨cal,args,ts⟩ := c
   cases cal <;> rfl
  all_goals rfl
section
variable {P : Program} {r : Option Nat} {n : Nat} {Q : Exit → Act → World → Prop} {K : Act → World → Prop} {a : Act} {w w' : World} {o : Oper}
theorem IX {k : Bool} (h : (st k o).wpIn (FW r) n P a w K Q) : o.wpIn (FW r) n P a w K Q := by
 refine ⟨fun _ _ => trivial,?_⟩
 have := h.2
 rw [KW] at this
 exact this
theorem C1 {k : Bool} {ops : Array Oper} : ∀ (l : List Oper) (a : Act) (w : World),wpListIn (FW r) n P (ops.toList.map (st k)).toArray Q (l.map (st k)) a w → wpListIn (FW r) n P ops Q l a w
 | [],_,_,h => h
 | o :: l,a,w,h => by
  simp only [List.map_cons,wpListIn,mH,kJ] at h ⊢
  split
  ·rename_i hw
   rw [if_pos hw] at h
   exact Oper.wpIn_mono (fun a w h => C1 l a w h) (IX h)
  ·rename_i hw
   rw [if_neg hw] at h
   exact ⟨fun _ _ => trivial,C1 l _ _ h.2⟩
theorem qj {ops : Array Oper} {md : Region.Mode} : ∀ (fuel : Nat) (listed : Array Bool) (a : Act) (w : World),wpAnyIn (FW r) n P md (ops.toList.map (st true)).toArray Q fuel listed a w → wpAnyIn (FW r) n P md ops Q fuel listed a w
 | 0,listed,a,w,h => by unfold wpAnyIn at h ⊢; rw [pq] at h; exact h
 | fuel + 1,listed,a,w,h => by
  unfold wpAnyIn at h ⊢
  rw [pq] at h
  refine ⟨h.1,fun i hi => ?_⟩
  have := h.2 i hi
  unfold wpOpIn at this ⊢
  rw [vE] at this
  cases ho : ops[i]? with
  | none => simp only [ho,Option.map_none] at this ⊢; exact qj fuel _ _ _ this
  | some o =>
   simp only [ho,Option.map_some,mH,kJ] at this ⊢
   split
   ·rename_i hw
    rw [if_pos hw] at this
    exact Oper.wpIn_mono (fun a w h => qj fuel _ a w h) (IX this)
   ·rename_i hw
    rw [if_neg hw] at this
    exact ⟨fun _ _ => trivial,qj fuel _ _ _ this.2⟩
def NI (r : Option Nat) (P : Program) (c' : Code) (Q : Exit → Act → World → Prop) (a : Act) (w : World) : Prop := ∀ c,norm c = c' → c.wpIn (FW r) 0 P Q a w
theorem MH {c' : Code} (h : NI none P c' Q a w) : NW P c' Q a w := fun c hc => wpIn_wide.1 (h c hc)
theorem zK {l : List Oper} (h : wpListIn (FW r) 0 P l.toArray Q l a w) : NI r P (.region 0 l.toArray false) Q a w := by
 intro c hc
 cases c <;> simp only [norm,reduceCtorEq,Code.region.injEq] at hc
 rename_i id ops d
 obtain ⟨_,h1,rfl⟩ := hc
 have h1' : ops.toList.map (st false) = l := by simpa using congrArg Array.toList h1
 subst h1'
 exact wpIn_region_list (C1 _ _ _ h)
theorem EZ {l : List Oper} (k : Nat) (hk : l.length = k) (hm : P.follows .mixedOrders = true) (h : wpAnyIn (FW r) 0 P .any l.toArray Q k (Array.replicate k false) a { w with drawn := w.drawn + 1 }) : NI r P (.region 0 l.toArray true) Q a w := by
 subst hk
 intro c hc
 cases c <;> simp only [norm,reduceCtorEq,Code.region.injEq] at hc
 rename_i id ops d
 obtain ⟨_,h1,rfl⟩ := hc
 have h1' : ops.toList.map (st true) = l := by simpa using congrArg Array.toList h1
 subst h1'
 refine wpIn_region_any hm (qj _ _ _ _ ?_)
 simpa using h
theorem KX {id : Nat} {x : Code} (h : NI r P x (Exit.inBlock id Q) a w) : NI r P (.block id x) Q a w := by
 intro c hc
 cases c <;> simp only [norm,reduceCtorEq,Code.block.injEq] at hc
 obtain ⟨rfl,h1⟩ := hc
 exact wpIn_block (h _ h1)
theorem E3 {v : Value} (hd : ∀ c,o.op ≠ .defer c) (hr : (execOp a.eval o).run P w = .ok (.value v) w') (k : K (a.put o.dst v) w') : o.wpIn (FW r) n P a w K Q := by
 refine ⟨fun _ _ => trivial,?_⟩
 rw [Oper.semAt_eq _ _ _ hd,hr]; exact k
theorem C2 (hd : ∀ c,o.op ≠ .defer c) (hn : o.dst = none) (hr : (execOp a.eval o).run P w = .ok .skip w') (k : K a w') : o.wpIn (FW r) n P a w K Q := by
 refine ⟨fun _ _ => trivial,?_⟩
 rw [Oper.semAt_eq _ _ _ hd,hr]
 have e : a.put o.dst undef = a := by rw [hn]; rfl
 show K (a.put o.dst undef) w'
 rw [e]; exact k
theorem KY {g : FuncId} {vs : List Value} {R : Value → World → Prop} (hd : ∀ c,o.op ≠ .defer c) (hr : (execOp a.eval o).run P w = .ok (.enter g vs.toArray) w) (hret : Ret P g vs w R) (k : ∀ v w',R v w' → K (a.put o.dst v) w') : o.wpIn (FW r) n P a w K Q := by
 refine ⟨fun _ _ => trivial,?_⟩
 rw [Oper.semAt_eq _ _ _ hd,hr]
 refine ⟨fun h => (by simp [Fence.wide] at h),KV (Calls.mono hret ?_)⟩
 rintro e w' ⟨v,rfl,hR⟩
 exact k v w' hR
variable {ops : Array Oper} {i : Nat}
theorem yE (hi : ops[i]? = some o) (hg : o.guard = none) (h : o.wpIn (FW r) n P a w K Q) : wpOpIn (FW r) n P ops Q i K a w := by
 unfold wpOpIn
 simp only [hi]
 rw [if_pos (by unfold Region.wanted; rw [hg])]
 exact h
def ed (o : Oper) : Bool := match o.op with | .defer _ => true | _ => false
theorem zL (h : ed o = false) : ∀ c,o.op ≠ .defer c := fun c e => by simp [ed,e] at h
theorem iu {v : Value} (hi : ops[i]? = some o) (hg : o.guard = none) (hd : ed o = false) (hr : (execOp a.eval o).run P w = .ok (.value v) w') (k : K (a.put o.dst v) w') : wpOpIn (FW r) n P ops Q i K a w :=
 yE hi hg (E3 (zL hd) hr k)
theorem zM (hi : ops[i]? = some o) (hg : o.guard = none) (hd : ed o = false) (hn : o.dst = none) (hr : (execOp a.eval o).run P w = .ok .skip w') (k : K a w') : wpOpIn (FW r) n P ops Q i K a w :=
 yE hi hg (C2 (zL hd) hn hr k)
theorem C3 {rest : List Oper} (hg : o.guard = none) (h : o.wpIn (FW r) n P a w (wpListIn (FW r) n P ops Q rest) Q) : wpListIn (FW r) n P ops Q (o :: rest) a w := by
 unfold wpListIn
 rw [if_pos (by unfold Region.wanted; rw [hg])]
 exact h
theorem LI {m : Nat} {sl : cj} {v : Value} {rest : List Oper} (h : SL m sl a) (hg : o.guard = none) (hde : ∀ c,o.op ≠ .defer c) (hd : dok m o.dst = true) (hr : (execOp a.eval o).run P w = .ok (.value v) w')
  (k : ∀ a',SL m (du o.dst v sl) a' → wpListIn (FW r) n P ops Q rest a' w') : wpListIn (FW r) n P ops Q (o :: rest) a w :=
 C3 hg (E3 hde hr (k _ (h.put hd v)))
def dm (l : List Bool) : Nat := (l.filter (!·)).length
theorem qk : ∀ (l : List Bool) (i : Nat),l[i]? = some false → dm (l.set i true) + 1 = dm l
 | [],i,h => by simp at h
 | b :: l,0,h => by simp at h; subst h; simp [dm]
 | b :: l,i + 1,h => by
  have := qk l i (by simpa using h)
  cases b <;> simp [dm] at this ⊢ <;> omega
theorem um : ∀ (l : List Bool),dm l = 0 → ∀ i,i < l.length → l[i]? = some true
 | [],_,i,hi => by simp at hi
 | b :: l,h,i,hi => by
  cases b with
  | false => simp [dm] at h
  | true =>
   cases i with
   | zero => rfl
   | succ i => simpa using um l (by simpa [dm] using h) i (by simpa using hi)
theorem E4 {I : Array Bool → Act → World → Prop} (hdag : ∀ (i : Nat) (o : Oper),ops[i]? = some o → ∀ e ∈ o.after,e.on < i)
  (hstep : ∀ listed a w i,listed.size = ops.size → I listed a w → i ∈ Region.ready .any ops listed → wpOpIn (FW r) n P ops Q i (I (listed.setIfInBounds i true)) a w)
  (hend : ∀ listed a w,(∀ i,i < ops.size → listed.getD i false = true) → I listed a w → Q .normal a w) : ∀ (fuel : Nat) (listed : Array Bool) (a : Act) (w : World),listed.size = ops.size → dm listed.toList ≤ fuel → I listed a w → wpAnyIn (FW r) n P .any ops Q fuel listed a w := by
 have all : ∀ listed : Array Bool,listed.size = ops.size → Region.ready .any ops listed = [] → ∀ i,i < ops.size → listed.getD i false = true := by
  intro listed hs hr i
  induction i using Nat.strongRecOn with
  | _ i ih =>
   intro hi
   cases hl : listed.getD i false with
   | true => rfl
   | false =>
    exfalso
    have hm : i ∈ Region.ready .any ops listed := mem_ready.2 ⟨by
     have : i < listed.size := by omega
     simpa [Array.getD,this] using hl,ops[i],by simp [hi],fun e he _ => ih e.on (hdag i _ (by simp [hi]) e he) (Nat.lt_trans (hdag i _ (by simp [hi]) e he) hi)⟩
    rw [hr] at hm; cases hm
 have fls : ∀ (listed : Array Bool) i,listed.size = ops.size → i ∈ Region.ready .any ops listed → listed.toList[i]? = some false := by
  intro listed i hs hm
  obtain ⟨h1,o,ho,_⟩ := mem_ready.1 hm
  have hi : i < ops.size := (Array.getElem?_eq_some_iff.1 ho).1
  have hl : i < listed.size := by omega
  simp only [Array.getD,hl,dif_pos] at h1
  simp [hl]; simpa using h1
 intro fuel
 induction fuel with
 | zero =>
  intro listed a w hs hf hI
  have h0 := um _ (Nat.le_zero.1 hf)
  have hall : ∀ i,i < ops.size → listed.getD i false = true := fun i hi => by
   have := h0 i (by simpa [hs] using hi)
   have hl : i < listed.size := by omega
   simp [hl] at this
   simp [Array.getD,hl,this]
  refine ⟨?_,hend listed a w hall hI⟩
  cases hr : Region.ready .any ops listed with
  | nil => rfl
  | cons i r =>
   have hm : i ∈ Region.ready .any ops listed := by rw [hr]; simp
   have h1 := fls listed i hs hm
   have := h0 i (by have := (List.getElem?_eq_some_iff.1 h1).1; exact this)
   rw [h1] at this; cases this
 | succ fuel ih =>
  intro listed a w hs hf hI
  refine ⟨fun hr => hend listed a w (all listed hs hr) hI,fun i hi => ?_⟩
  have h1 := fls listed i hs hi
  have := qk _ i h1
  refine wpOpIn_mono (fun a' w' h => ih _ a' w' (by simpa using hs) ?_ h) (hstep listed a w i hs hI hi)
  rw [Array.toList_setIfInBounds]; omega
end
end Go.TL.H
