/- This law's functions that are told by hand. -/
import Derived.Test.YtajkchpnbnbmfaaGreatDoorW25
import Derived.Test.YtajkchpnbnbmfaaGreatDoorW27
import Derived.Shelf.Strconv.Itoa3
import Derived.Shelf.Strings.Search3
import Derived.Shelf.Sort.Plain
import Derived.Shelf.Slices.In.SortNone
import Derived.Shelf.Slices.CompactS
import Derived.Test.YtajkchpnbnbmfaaGreatDoorProg
import Derived.KernelRfl
import Derived.Test.YtajkchpnbnbmfaaGreatDoorW23
set_option maxRecDepth 100000
namespace Go.TL.H.Hprep
open Go Go.Proofs Go.Shelf
def qJ : TL.Spec := ⟨111,2,[.p (.st (.var 0)) true,.p (.st (.var 1)) true],[],[],[⟨-1,[(7,1)]⟩,⟨1,[(7, -1)]⟩],[],⟨0,[]⟩,
 [⟨1,[],[],[],[],[.p (.bl (.var 2)) true]⟩]⟩
def PX : TL.Spec := ⟨52,2,[.agg [.p (.sl (some 0)) false,.p (.sl (some 1)) false]],[],[(0,74),(1,71)],[],[],⟨0,[]⟩,
 [⟨1,[(2,1000074)],[],[],[(11,.box 111 [.ref 12,.p (.int .i64 ⟨0,[]⟩) true]),(12,.mp (some 4) (some 2) true)],[.ptr 11 0]⟩]⟩
def C8 : TL.Spec := ⟨92,1,[.p (.mp none (some 0)) false],[],[(0,1000009)],[],[],⟨0,[]⟩,
 [⟨0,[],[],[],[],[.p (.cst (.map none)) true]⟩,⟨1,[(1,1000009)],[⟨0,[(1, -1),(5,1)]⟩,⟨0,[(1,1),(5, -1)]⟩],[],[(11,.mp none (some 1) true)],[.ref 11]⟩]⟩
def yL : TL.Spec := ⟨62,2,[.ptr 1000000 0],[(1000000,.box 69 [.ref 1000001,.p (.int .i64 ⟨0,[(4,1)]⟩) true]),(1000001,.mp none (some 0) true)],[(0,1000004)],[⟨-4194303,[(1,1)]⟩,⟨0,[(4, -1)]⟩,⟨-35184372088832,[(4,1)]⟩],[],⟨0,[]⟩,
 [⟨3,[(2,1000004)],[⟨-64,[(19,1)]⟩,⟨-1,[(1, -1),(9,1)]⟩,⟨0,[(4,1),(12, -1)]⟩,⟨-4194304,[(4, -1),(12,1)]⟩],[],[(1000000,.box 69 [.ref 1000001,.p (.int .i64 ⟨0,[(12,1)]⟩) true]),(1000001,.mp none (some 2) true)],[.p (.st (.var 4)) true]⟩]⟩
def E9 : TL.Spec := ⟨114,0,[],[],[],[],[],⟨0,[]⟩,
 [⟨1,[(0,1000179)],[],[],[(11,.mp (some 2) (some 0) true)],[.ref 11]⟩]⟩
def I9 : TL.Spec := ⟨37,1,[.vec 1000000],[(1000000,.vec 9 1 (some 0) true)],[(0,9)],[],[],⟨0,[]⟩,
 [⟨1,[(1,9)],[⟨0,[(1, -1),(5,1)]⟩,⟨0,[(1,1),(5, -1)]⟩],[],[(1000000,.vec 9 1 (some 1) true)],[]⟩]⟩
def zN : TL.Spec := ⟨38,1,[.vec 1000000],[(1000000,.vec 9 1 (some 0) true)],[(0,9)],[],[],⟨0,[]⟩,
 [⟨1,[(1,9)],[],[],[],[.p (.sl (some 1)) true]⟩]⟩
def Lh : Go.Shelf.Ren := ⟨fun | 144 => 111 | 143 => 122 | 219 => 143 | 217 => 150 | 225 => 151 | 224 => 152 | 267 => 153 | 266 => 158 | 314 => 159 | n => n,fun | 9 => 9 | 4 => 4 | 3 => 3 | 5 => 5 | 46 => 131 | 146 => 210 | 51 => 165 | n => n,fun | 1 => 0 | n => n⟩
theorem RO : Lays.n144 Tryz.prog Lh := { mixed := by kernel_rfl,f143 := Tryz.func122.trans (congrArg some (by kernel_rfl)),f144 := Tryz.func111.trans (congrArg some (by kernel_rfl)),f217 := Tryz.func150.trans (congrArg some (by kernel_rfl)),f219 := Tryz.func143.trans (congrArg some (by kernel_rfl)),f224 := Tryz.func152.trans (congrArg some (by kernel_rfl)),f225 := Tryz.func151.trans (congrArg some (by kernel_rfl)),f266 := Tryz.func158.trans (congrArg some (by kernel_rfl)),f267 := Tryz.func153.trans (congrArg some (by kernel_rfl)),f314 := Tryz.func159.trans (congrArg some (by kernel_rfl)),t3 := Tryz.underlying3,a3 := Tryz.isAgg3,z3 := Tryz.sizeOf3,v3 := Tryz.zeroValue3,t4 := Tryz.underlying4,a4 := Tryz.isAgg4,z4 := Tryz.sizeOf4,v4 := Tryz.zeroValue4,t5 := Tryz.underlying5,a5 := Tryz.isAgg5,z5 := Tryz.sizeOf5,v5 := Tryz.zeroValue5,t9 := Tryz.underlying9,a9 := Tryz.isAgg9,z9 := Tryz.sizeOf9,v9 := Tryz.zeroValue9,t46 := Tryz.underlying131,a46 := Tryz.isAgg131,z46 := Tryz.sizeOf131,v46 := Tryz.zeroValue131,t51 := Tryz.underlying165,a51 := Tryz.isAgg165,z51 := Tryz.sizeOf165,v51 := Tryz.zeroValue165,t146 := Tryz.underlying210,a146 := Tryz.isAgg210,z146 := Tryz.sizeOf210,v146 := Tryz.zeroValue210,g1 := by kernel_rfl }
def Li : Go.Shelf.Ren := ⟨fun | 171 => 94 | 243 => 116 | 246 => 141 | 283 => 146 | 284 => 147 | 285 => 148 | 286 => 149 | 129 => 104 | 317 => 154 | 318 => 155 | 319 => 156 | 320 => 157 | 337 => 160 | 338 => 161 | n => n,fun | 3 => 3 | 9 => 9 | 2 => 2 | 4 => 4 | 171 => 200 | 0 => 0 | 53 => 167 | 37 => 132 | 5 => 5 | 173 => 202 | 212 => 207 | 51 => 165 | 20 => 20 | 213 => 208 | 46 => 131 | 232 => 212 | 233 => 213 | n => n,fun | 17 => 1 | 18 => 2 | 19 => 3 | n => n⟩
theorem RP : LaysM.n171 Tryz.prog Li := { mixed := by kernel_rfl,f129 := Tryz.func104.trans (congrArg some (by kernel_rfl)),f171 := Tryz.func94.trans (congrArg some (by kernel_rfl)),f243 := Tryz.func116.trans (congrArg some (by kernel_rfl)),f246 := Tryz.func141.trans (congrArg some (by kernel_rfl)),f283 := Tryz.func146.trans (congrArg some (by kernel_rfl)),f284 := Tryz.func147.trans (congrArg some (by kernel_rfl)),f285 := Tryz.func148.trans (congrArg some (by kernel_rfl)),f286 := Tryz.func149.trans (congrArg some (by kernel_rfl)),f317 := Tryz.func154.trans (congrArg some (by kernel_rfl)),f318 := Tryz.func155.trans (congrArg some (by kernel_rfl)),f319 := Tryz.func156.trans (congrArg some (by kernel_rfl)),f320 := Tryz.func157.trans (congrArg some (by kernel_rfl)),f337 := Tryz.func160.trans (congrArg some (by kernel_rfl)),f338 := Tryz.func161.trans (congrArg some (by kernel_rfl)),t0 := Tryz.underlying0,a0 := Tryz.isAgg0,z0 := Tryz.sizeOf0,v0 := Tryz.zeroValue0,t2 := Tryz.underlying2,a2 := Tryz.isAgg2,z2 := Tryz.sizeOf2,v2 := Tryz.zeroValue2,t3 := Tryz.underlying3,a3 := Tryz.isAgg3,z3 := Tryz.sizeOf3,v3 := Tryz.zeroValue3,t4 := Tryz.underlying4,a4 := Tryz.isAgg4,z4 := Tryz.sizeOf4,v4 := Tryz.zeroValue4,t5 := Tryz.underlying5,a5 := Tryz.isAgg5,z5 := Tryz.sizeOf5,v5 := Tryz.zeroValue5,t9 := Tryz.underlying9,a9 := Tryz.isAgg9,z9 := Tryz.sizeOf9,v9 := Tryz.zeroValue9,t20 := Tryz.underlying20,a20 := Tryz.isAgg20,z20 := Tryz.sizeOf20,v20 := Tryz.zeroValue20,t37 := Tryz.underlying132,a37 := Tryz.isAgg132,z37 := Tryz.sizeOf132,v37 := Tryz.zeroValue132,t46 := Tryz.underlying131,a46 := Tryz.isAgg131,z46 := Tryz.sizeOf131,v46 := Tryz.zeroValue131,t51 := Tryz.underlying165,a51 := Tryz.isAgg165,z51 := Tryz.sizeOf165,v51 := Tryz.zeroValue165,t53 := Tryz.underlying167,a53 := Tryz.isAgg167,z53 := Tryz.sizeOf167,v53 := Tryz.zeroValue167,t171 := Tryz.underlying200,a171 := Tryz.isAgg200,z171 := Tryz.sizeOf200,v171 := Tryz.zeroValue200,t173 := Tryz.underlying202,a173 := Tryz.isAgg202,z173 := Tryz.sizeOf202,v173 := Tryz.zeroValue202,t212 := Tryz.underlying207,a212 := Tryz.isAgg207,z212 := Tryz.sizeOf207,v212 := Tryz.zeroValue207,t213 := Tryz.underlying208,a213 := Tryz.isAgg208,z213 := Tryz.sizeOf208,t232 := Tryz.underlying212,a232 := Tryz.isAgg212,z232 := Tryz.sizeOf212,v232 := Tryz.zeroValue212,t233 := Tryz.underlying213,a233 := Tryz.isAgg213,z233 := Tryz.sizeOf213,v233 := Tryz.zeroValue213,g17 := by kernel_rfl,g18 := by kernel_rfl,g19 := by kernel_rfl,i0 := by kernel_rfl,i2 := by kernel_rfl,i3 := by kernel_rfl,i4 := by kernel_rfl,i5 := by kernel_rfl,i9 := by kernel_rfl,i20 := by kernel_rfl,i37 := by kernel_rfl,i46 := by kernel_rfl,i51 := by kernel_rfl,i53 := by kernel_rfl,i171 := by kernel_rfl,i173 := by kernel_rfl,i212 := by kernel_rfl,i232 := by kernel_rfl,i233 := by kernel_rfl,m17 := by kernel_rfl,m18 := by kernel_rfl,m19 := by kernel_rfl }
def Lj : Go.Shelf.Ren := ⟨fun | 190 => 37 | 125 => 71 | 258 => 70 | 128 => 103 | 129 => 104 | 302 => 95 | 303 => 96 | 304 => 97 | 305 => 98 | 306 => 99 | 307 => 100 | 308 => 86 | 309 => 101 | 310 => 102 | 333 => 117 | 329 => 118 | 330 => 119 | 334 => 120 | 335 => 121 | 336 => 109 | 344 => 142 | n => n,fun | 31 => 26 | 9 => 9 | 3 => 3 | 46 => 131 | 0 => 0 | 51 => 165 | 53 => 167 | 4 => 4 | 183 => 158 | 182 => 157 | 131 => 162 | 5 => 5 | 218 => 183 | 222 => 91 | 228 => 196 | 229 => 197 | n => n,fun | n => n⟩
theorem PY : Lays.n190 Tryz.prog Lj := { mixed := by kernel_rfl,f125 := Tryz.func71.trans (congrArg some (by kernel_rfl)),f128 := Tryz.func103.trans (congrArg some (by kernel_rfl)),f129 := Tryz.func104.trans (congrArg some (by kernel_rfl)),f190 := Tryz.func37.trans (congrArg some (by kernel_rfl)),f258 := Tryz.func70.trans (congrArg some (by kernel_rfl)),f302 := Tryz.func95.trans (congrArg some (by kernel_rfl)),f303 := Tryz.func96.trans (congrArg some (by kernel_rfl)),f304 := Tryz.func97.trans (congrArg some (by kernel_rfl)),f305 := Tryz.func98.trans (congrArg some (by kernel_rfl)),f306 := Tryz.func99.trans (congrArg some (by kernel_rfl)),f307 := Tryz.func100.trans (congrArg some (by kernel_rfl)),f308 := Tryz.func86.trans (congrArg some (by kernel_rfl)),f309 := Tryz.func101.trans (congrArg some (by kernel_rfl)),f310 := Tryz.func102.trans (congrArg some (by kernel_rfl)),f329 := Tryz.func118.trans (congrArg some (by kernel_rfl)),f330 := Tryz.func119.trans (congrArg some (by kernel_rfl)),f333 := Tryz.func117.trans (congrArg some (by kernel_rfl)),f334 := Tryz.func120.trans (congrArg some (by kernel_rfl)),f335 := Tryz.func121.trans (congrArg some (by kernel_rfl)),f336 := Tryz.func109.trans (congrArg some (by kernel_rfl)),f344 := Tryz.func142.trans (congrArg some (by kernel_rfl)),t0 := Tryz.underlying0,a0 := Tryz.isAgg0,z0 := Tryz.sizeOf0,v0 := Tryz.zeroValue0,t3 := Tryz.underlying3,a3 := Tryz.isAgg3,z3 := Tryz.sizeOf3,v3 := Tryz.zeroValue3,t4 := Tryz.underlying4,a4 := Tryz.isAgg4,z4 := Tryz.sizeOf4,v4 := Tryz.zeroValue4,t5 := Tryz.underlying5,a5 := Tryz.isAgg5,z5 := Tryz.sizeOf5,v5 := Tryz.zeroValue5,t9 := Tryz.underlying9,a9 := Tryz.isAgg9,z9 := Tryz.sizeOf9,v9 := Tryz.zeroValue9,t31 := Tryz.underlying26,a31 := Tryz.isAgg26,z31 := Tryz.sizeOf26,v31 := Tryz.zeroValue26,t46 := Tryz.underlying131,a46 := Tryz.isAgg131,z46 := Tryz.sizeOf131,v46 := Tryz.zeroValue131,t51 := Tryz.underlying165,a51 := Tryz.isAgg165,z51 := Tryz.sizeOf165,v51 := Tryz.zeroValue165,t53 := Tryz.underlying167,a53 := Tryz.isAgg167,z53 := Tryz.sizeOf167,v53 := Tryz.zeroValue167,t131 := Tryz.underlying162,a131 := Tryz.isAgg162,z131 := Tryz.sizeOf162,v131 := Tryz.zeroValue162,t182 := Tryz.underlying157,a182 := Tryz.isAgg157,z182 := Tryz.sizeOf157,v182 := Tryz.zeroValue157,t183 := Tryz.underlying158,a183 := Tryz.isAgg158,z183 := Tryz.sizeOf158,v183 := Tryz.zeroValue158,t218 := Tryz.underlying183,a218 := Tryz.isAgg183,z218 := Tryz.sizeOf183,v218 := Tryz.zeroValue183,t222 := Tryz.underlying91,a222 := Tryz.isAgg91,z222 := Tryz.sizeOf91,v222 := Tryz.zeroValue91,t228 := Tryz.underlying196,a228 := Tryz.isAgg196,z228 := Tryz.sizeOf196,v228 := Tryz.zeroValue196,t229 := Tryz.underlying197,a229 := Tryz.isAgg197,z229 := Tryz.sizeOf197,v229 := Tryz.zeroValue197 }
def Lk : Go.Shelf.Ren := ⟨fun | 194 => 38 | n => n,fun | 31 => 26 | 9 => 9 | 3 => 3 | 4 => 4 | 0 => 0 | n => n,fun | n => n⟩
theorem PZ : Lays.n194 Tryz.prog Lk := { mixed := by kernel_rfl,f194 := Tryz.func38.trans (congrArg some (by kernel_rfl)),t0 := Tryz.underlying0,a0 := Tryz.isAgg0,z0 := Tryz.sizeOf0,v0 := Tryz.zeroValue0,t3 := Tryz.underlying3,a3 := Tryz.isAgg3,z3 := Tryz.sizeOf3,v3 := Tryz.zeroValue3,t4 := Tryz.underlying4,a4 := Tryz.isAgg4,z4 := Tryz.sizeOf4,v4 := Tryz.zeroValue4,t9 := Tryz.underlying9,a9 := Tryz.isAgg9,z9 := Tryz.sizeOf9,v9 := Tryz.zeroValue9,t31 := Tryz.underlying26,a31 := Tryz.isAgg26,z31 := Tryz.sizeOf26,v31 := Tryz.zeroValue26 }
theorem t99 : Tp Proofs.Tryz.prog 99 false 1 := dT (by kernel_rfl) (by kernel_rfl) rfl
theorem t109 : Tp Proofs.Tryz.prog 109 false 1 := dT (by kernel_rfl) (by kernel_rfl) rfl
theorem t9 : Tp Proofs.Tryz.prog 9 false 1 := dT (by kernel_rfl) (by kernel_rfl) rfl
theorem t74 : Tp Proofs.Tryz.prog 74 true 4 := dT (by kernel_rfl) (by kernel_rfl) rfl
theorem t22 : Tp Proofs.Tryz.prog 22 false 1 := dT (by kernel_rfl) (by kernel_rfl) rfl
theorem t3 : Tp Proofs.Tryz.prog 3 false 1 := dT (by kernel_rfl) (by kernel_rfl) rfl
theorem t67 : Tp Proofs.Tryz.prog 67 false 1 := dT (by kernel_rfl) (by kernel_rfl) rfl
theorem z7 : aC Proofs.Tryz.prog aH qJ := yD fun s c w => Any.strings_Contains_one RO s c w
theorem RQ : Body Proofs.Tryz.prog 52 22 [.tmp 2] (ofC 25 111 109 99 22 81 (ku Proofs.Tryz.prog 52).1 (ku Proofs.Tryz.prog 52).2) := aF (by kernel_rfl) (by kernel_rfl)
theorem RR : Body Proofs.Tryz.prog 81 4 [.tmp 2] (xn 22 106) := aF (by kernel_rfl) (by kernel_rfl)
theorem Re : Body Proofs.Tryz.prog 106 19 [] (C7 3 22 74 4) := aF (by kernel_rfl) (by kernel_rfl)
theorem ofH : OfH Proofs.Tryz.prog 25 111 109 99 22 74 9 81 106 ((Proofs.Tryz.prog.info? 74).getD default) := ⟨(by kernel_rfl),t99,t109,t9,t74,t22,(by kernel_rfl),(by kernel_rfl),(by kernel_rfl),Go.Proofs.Tryz.underlying109,Go.Proofs.Tryz.underlying9,fe (by kernel_rfl) rfl rfl,fe (by kernel_rfl) rfl rfl,fun _ => (by kernel_rfl),(by kernel_rfl),(by kernel_rfl),Go.Proofs.Tryz.underlying22,(by kernel_rfl),(by kernel_rfl)⟩
theorem RT : aC Proofs.Tryz.prog aH PX := Lg (by decide) (by kernel_rfl) (by kernel_rfl) fun p len cap v2 vs Qe w q1 q2 q3 q4 => PW ofH RQ (by kernel_rfl) (by kernel_rfl) RR Re q1 q2 q3 q4
theorem RU : Body Proofs.Tryz.prog 92 9 [.tmp 2] (I7 114 113 20) := aF (by kernel_rfl) (by kernel_rfl)
theorem clo (m : Option Nat) (w : World) (hm : ∀ b,m = some b → ∃ es clock,w.heap[b]? = some (.map es clock)) : Ret Proofs.Tryz.prog 92 [.map m] w fun v w' => (m = none ∧ v = .map none ∧ w' = w) ∨ ∃ b es clock,m = some b ∧ w.heap[b]? = some (.map es clock) ∧ v = .map (some w.heap.size) ∧ w' = w.alloc (.map es clock) := I8 RU (Go.Proofs.Tryz.underlying114) (by kernel_rfl) (fun args w => run_callFunc_extern Go.Proofs.Tryz.func113 (by kernel_rfl) (by kernel_rfl) (by kernel_rfl) (e := Extern.MapsClone.clone) (by kernel_rfl) args w) m w hm
theorem Ll : aC Proofs.Tryz.prog aH C8 := CY (by kernel_rfl) (fun w => Calls.mono (clo none w (fun _ h => by cases h)) (by
  rintro e w' ⟨v,rfl,h⟩
  rcases h with ⟨_,rfl,rfl⟩ | ⟨b,_,_,h,_⟩
  ·exact ⟨rfl,rfl⟩
  ·cases h)) (fun b es clock w hb => Calls.mono (clo (some b) w (fun _ h => by cases h; exact ⟨es,clock,hb⟩)) (by
  rintro e w' ⟨v,rfl,h⟩
  rcases h with ⟨h,_⟩ | ⟨b',es',cl',h,hb',rfl,rfl⟩
  ·cases h
  ·cases h
   rw [hb] at hb'; cases hb'
   exact ⟨rfl,rfl⟩))
theorem ito (n : Int) (h0 : -9223372036854775808 ≤ n) (h1 : n ≤ 9223372036854775807) (w : World) (ht : Lib.TabIs Proofs.Tryz.prog w "internal/strconv.uint64pow10" .u64 Lib.pow10Tab) : Calls Proofs.Tryz.prog 94 #[.int .i64 n] w fun e w' => e = .returned (.string ⟨(Lib.itoa n).toArray⟩) ∧ ∃ k os,w' = Sort.grow (w.drewN k) os := Any.strconv_Itoa RP n h0 h1 w ht
theorem RW : Body Proofs.Tryz.prog 62 30 [.tmp 2] (IT 69 3 9 67 4 94 [126,112]) := aF (by kernel_rfl) (by kernel_rfl)
theorem Fa : aC Proofs.Tryz.prog aH yL := DN (by decide) (by kernel_rfl) (fun w b bm n es clock q1 q2 q3 q4 q5 q6 q7 q8 => IU RW (by decide) (by kernel_rfl) (by kernel_rfl) t3 t67 Go.Proofs.Tryz.underlying67 Go.Proofs.Tryz.underlying9 Go.Proofs.Tryz.zeroValue4 (by kernel_rfl) ito q1 q2 q3 q4 q5 q6 q7 q8) (by kernel_rfl)
theorem Rf : Body Proofs.Tryz.prog 114 41 [.tmp 0] (I3 54 (PS Proofs.Tryz.prog 114)) := aF (by kernel_rfl) (by kernel_rfl)
theorem Rg : Body Proofs.Tryz.prog 127 4 [.tmp 2] (xn 193 144) := aF (by kernel_rfl) (by kernel_rfl)
theorem RX : K8 Proofs.Tryz.prog 179 181 54 127 9 := ⟨(by kernel_rfl),fun w g => (NM Rg _ w),⟨_,_,Go.Proofs.Tryz.underlying54,rfl,rfl⟩,fun _ _ _ _ _ _ => (by kernel_rfl),Go.Proofs.Tryz.underlying181,Go.Proofs.Tryz.underlying9⟩
theorem NN : aC Proofs.Tryz.prog aH E9 := DS (by decide) (by kernel_rfl) (by kernel_rfl) fun w => I4 Rf RX (by kernel_rfl) (by kernel_rfl) (by kernel_rfl) (by kernel_rfl) Go.Proofs.Tryz.underlying54 (db (by kernel_rfl) (by kernel_rfl) rfl) w
theorem P0 : aC Proofs.Tryz.prog aH I9 := G7 (by kernel_rfl) (fun p cap w => Any.slices_Sort_string_none PY p cap w) (fun blk cap ss w h1 h2 h3 => Any.slices_Sort_string PY blk 0 cap ss w h1 h2 h3)
theorem Ja : aC Proofs.Tryz.prog aH zN := z6 (by kernel_rfl) (fun a cap w => Any.slices_Compact_string_empty PZ a cap w) (fun blk cap zs w h1 h2 h3 => Any.slices_Compact_string PZ blk 0 cap zs w h1 h2 h3)
end Go.TL.H.Hprep
namespace Go.TL
def Seq.st (s : Seq) : DSt := ⟨[],[],s.tys,s.lin,s.prs,0,[]⟩
def Lm (id k : Nat) (l : List PF) : Bool := l.any fun f => match f with
 | .pr i [j] => Nat.beq i id && Nat.beq j k
 | _ => false
def hasB (b : Nat) (l : List PF) : Bool := l.any fun f => match f with
 | .tru (.var j) => Nat.beq j b
 | _ => false
def MK (b : Nat) (l : List PF) : Bool := l.any fun f => match f with
 | .tru (.not (.var j)) => Nat.beq j b
 | _ => false
def P1 (s : Seq) (e : Lin) : Bool := s.prs.any fun f => match f with
 | .tru (.or (.eq a) (.eq b)) => a.beq (e.aD (-1)) && b.beq (e.aD (-3))
 | _ => false
def Hd (s : Seq) (e : Lin) : Bool := (bN s.st (e.aD 1) || bN s.st ((Lin.scale (-1) e).aD 1)) || s.prs.any fun f => match f with
 | .tru (.not (.eq e')) => e'.beq e
 | _ => false
def isZero (s : Seq) (e : Lin) : Bool := bN s.st e && bN s.st (Lin.scale (-1) e)
def Fb (s : Seq) : List DP → Bool
 | .int .i64 e :: _ => P1 s e
 | _ => false
def qp (s : Seq) : List (List DP) → Bool
 | [] => true
 | r :: rs => match Fb s r with | true => qp s rs | false => false
def oN (s : Seq) : Nat → Nat → Bool
 | 0,_ => false
 | n + 1,l => match Lm 79 l s.prs,bN s.st (Lin.at (4 * l + 1)) with
  | true,_ => true
  | _,true => true
  | _,_ => s.prs.any fun f => match f with
   | .sub l' a _ _ => Nat.beq l' l && oN s n a
   | .app l' a b => Nat.beq l' l && ((match a with | some a => oN s n a | none => true) && (match b with | some b => oN s n b | none => true))
   | .lit l' rows => Nat.beq l' l && qp s rows
   | _ => false
def contra (s : Seq) : Bool := s.prs.any fun f => match f with
 | .tru (.or (.eq a) (.eq b)) => Hd s a && Hd s b
 | .pr 95 [b,k,t] => hasB b s.prs && s.prs.any fun f' => match f' with
  | .pr 95 [b',k',t'] => (Nat.beq k k' && Nat.beq t t') && MK b' s.prs
  | _ => false
 | _ => false
def Jb (s : Seq) : Bool := match s.goal with
 | .pf (.pr 79 [l]) => oN s 6 l
 | .pf (.tru (.or (.eq a) (.eq b))) => (isZero s a || isZero s b) || s.prs.any fun f => match f with
  | .row l _ (.int .i64 e' :: _) => Lm 79 l s.prs && (a.beq (e'.aD (-1)) && b.beq (e'.aD (-3)))
  | _ => false
 | _ => false
def He (s : Seq) : Bool := match contra s with | true => true | false => Jb s
def tG : List Seq → Bool
 | [] => true
 | s :: r => match He s with | true => tG r | false => false
def Calm (l : List (List PV)) : Prop := ∀ row ∈ l, ∃ (k : Int) (r : List PV),row = .v (.int .i64 k) :: r ∧ (k = 1 ∨ k = 3)
structure xo (I : Pr) : Prop where
 calm : ∀ va : Va,I 79 [va] ↔ Calm va.l
 mark : ∀ b k t : Va,I 95 [b,k,t] ↔ b.b = ((k.n == 8) && (t.s.toList == (⟨#[125]⟩ : ByteArray).toList))
theorem Ln (N : Nat) : xo (inN aH N) :=
 ⟨fun _ => Iff.rfl,fun _ _ _ => Iff.rfl⟩
section
variable {P : Program} {I : Pr} {ρ : Ro} {s : Seq}
theorem fB : ∀ {l : List PF},bQ I ρ l → ∀ f ∈ l,f.v I ρ
 | [],_,f,hf => by simp at hf
 | x :: r,h,f,hf => by
  rcases List.mem_cons.1 hf with rfl | hf
  ·exact h.1
  ·exact fB h.2 f hf
theorem Jc {id k : Nat} {l : List PF} (hl : bQ I ρ l) (h : Lm id k l = true) : I id [ρ k] := by
 obtain ⟨f,hf,ht⟩ := List.any_eq_true.1 h
 have hv := fB hl f hf
 split at ht
 ·simp only [Bool.and_eq_true] at ht
  rw [← Nat.eq_of_beq_eq_true ht.1, ← Nat.eq_of_beq_eq_true ht.2]
  exact hv
 ·cases ht
theorem P2 {b : Nat} {l : List PF} (hl : bQ I ρ l) (h : hasB b l = true) : (ρ b).b = true := by
 obtain ⟨f,hf,ht⟩ := List.any_eq_true.1 h
 have hv := fB hl f hf
 split at ht
 ·rw [← Nat.eq_of_beq_eq_true ht]; exact hv
 ·cases ht
theorem NO {b : Nat} {l : List PF} (hl : bQ I ρ l) (h : MK b l = true) : (ρ b).b = false := by
 obtain ⟨f,hf,ht⟩ := List.any_eq_true.1 h
 have hv := fB hl f hf
 split at ht
 ·rw [← Nat.eq_of_beq_eq_true ht]; simpa [PF.v,BF.v] using hv
 ·cases ht
theorem P3 {e : Lin} (hl : bQ I ρ s.prs) (h : P1 s e = true) : e.v ρ = 1 ∨ e.v ρ = 3 := by
 obtain ⟨f,hf,ht⟩ := List.any_eq_true.1 h
 have hv := fB hl f hf
 split at ht
 ·simp only [Bool.and_eq_true] at ht
  rw [Lin.beq_eq ht.1,Lin.beq_eq ht.2] at hv
  simp only [PF.v,BF.v,Bool.or_eq_true,decide_eq_true_eq,Lin.aB] at hv
  omega
 ·cases ht
theorem Jd {e : Lin} (hok : s.st.ok P I ρ) (h : Hd s e = true) : e.v ρ ≠ 0 := by
 have hl : bQ I ρ s.prs := hok.prs
 unfold Hd at h
 simp only [Bool.or_eq_true] at h
 rcases h with (h | h) | h
 ·have := bw hok h; simp only [Lin.aB] at this; omega
 ·have := bw hok h; simp only [Lin.aB,Lin.aT] at this; omega
 ·obtain ⟨f,hf,ht⟩ := List.any_eq_true.1 h
  have hv := fB hl f hf
  split at ht
  ·rw [Lin.beq_eq ht] at hv
   simpa only [PF.v,BF.v,Bool.not_eq_true',decide_eq_false_iff_not] using hv
  ·cases ht
theorem C9 {e : Lin} (hok : s.st.ok P I ρ) (h : isZero s e = true) : e.v ρ = 0 := by
 unfold isZero at h
 simp only [Bool.and_eq_true] at h
 have h1 := bw hok h.1
 have h2 := bw hok h.2
 simp only [Lin.aT] at h2
 omega
theorem xp (hl : bQ I ρ s.prs) : ∀ {rows : List (List DP)},qp s rows = true → Calm (cH ρ rows)
 | [],_ => by intro row hr; simp [cH] at hr
 | r :: rs,h => by
  simp only [qp] at h
  split at h
  ·rename_i hr
   intro row hrow
   simp only [cH,List.mem_cons] at hrow
   rcases hrow with rfl | hrow
   ·unfold Fb at hr
    split at hr
    ·rename_i e xs; exact ⟨e.v ρ,ak ρ xs,rfl,P3 hl hr⟩
    ·cases hr
   ·exact xp hl h row hrow
  ·cases h
theorem qu (hI : xo I) (hok : s.st.ok P I ρ) : ∀ (n l : Nat),oN s n l = true → Calm (ρ l).l
 | 0,l,h => by cases h
 | n + 1,l,h => by
  have hl : bQ I ρ s.prs := hok.prs
  simp only [oN] at h
  split at h
  ·rename_i h1; exact (hI.calm _).1 (Jc hl h1)
  ·rename_i h1 _
   have := bw hok h1
   simp only [Lin.aW,cJ] at this
   have h0 : (ρ l).l = [] := List.length_eq_zero_iff.1 (by omega)
   rw [h0]; intro row hr; simp at hr
  ·obtain ⟨f,hf,ht⟩ := List.any_eq_true.1 h
   have hv := fB hl f hf
   split at ht
   ·rename_i l' a lo hi
    simp only [Bool.and_eq_true] at ht
    rw [← Nat.eq_of_beq_eq_true ht.1]
    have ih := qu hI hok n a ht.2
    simp only [PF.v] at hv
    rw [hv]
    intro row hr
    exact ih row (List.mem_of_mem_take (List.mem_of_mem_drop hr))
   ·rename_i l' a b
    simp only [Bool.and_eq_true] at ht
    rw [← Nat.eq_of_beq_eq_true ht.1]
    simp only [PF.v] at hv
    rw [hv]
    intro row hr
    rcases List.mem_append.1 hr with hr | hr
    ·cases a with
     | none => simp [lvV] at hr
     | some a => exact qu hI hok n a ht.2.1 row hr
    ·cases b with
     | none => simp [lvV] at hr
     | some b => exact qu hI hok n b ht.2.2 row hr
   ·rename_i l' rows
    simp only [Bool.and_eq_true] at ht
    rw [← Nat.eq_of_beq_eq_true ht.1]
    simp only [PF.v] at hv
    rw [hv]; exact xp hl ht.2
   ·cases ht
theorem Lo (hI : xo I) (hok : s.st.ok P I ρ) (h : contra s = true) : False := by
 have hl : bQ I ρ s.prs := hok.prs
 obtain ⟨f,hf,ht⟩ := List.any_eq_true.1 h
 have hv := fB hl f hf
 split at ht
 ·simp only [Bool.and_eq_true] at ht
  have h1 := Jd hok ht.1
  have h2 := Jd hok ht.2
  simp only [PF.v,BF.v,Bool.or_eq_true,decide_eq_true_eq] at hv
  omega
 ·rename_i b k t
  simp only [Bool.and_eq_true] at ht
  obtain ⟨hb,ht⟩ := ht
  obtain ⟨f',hf',ht'⟩ := List.any_eq_true.1 ht
  have hv' := fB hl f' hf'
  split at ht'
  ·rename_i b' k' t'
   simp only [Bool.and_eq_true] at ht'
   obtain ⟨⟨e1,e2⟩,hnb⟩ := ht'
   have e1 := Nat.eq_of_beq_eq_true e1
   have e2 := Nat.eq_of_beq_eq_true e2
   subst e1; subst e2
   have a1 := (hI.mark (ρ b) (ρ k) (ρ t)).1 hv
   have a2 := (hI.mark (ρ b') (ρ k) (ρ t)).1 hv'
   rw [P2 hl hb] at a1
   rw [NO hl hnb] at a2
   rw [← a1] at a2; cases a2
  ·cases ht'
 ·cases ht
theorem NP (hI : xo I) (h : He s = true) : s.valid P I := by
 intro ρ hg ht hlin hl
 have hok : s.st.ok P I ρ := ⟨hg,ht,hlin,hl⟩
 unfold He at h
 split at h
 ·rename_i hc; exact (Lo hI hok hc).elim
 ·unfold Jb at h
  split at h
  ·rename_i l hgoal
   rw [hgoal]
   exact (hI.calm _).2 (qu hI hok 6 l h)
  ·rename_i a b hgoal
   rw [hgoal]
   simp only [G.v,PF.v,BF.v,Bool.or_eq_true,decide_eq_true_eq]
   simp only [Bool.or_eq_true] at h
   rcases h with (h | h) | h
   ·exact .inl (C9 hok h)
   ·exact .inr (C9 hok h)
   ·obtain ⟨f,hf,hq⟩ := List.any_eq_true.1 h
    have hv := fB hl f hf
    split at hq
    ·rename_i l i e' xs
     simp only [Bool.and_eq_true] at hq
     obtain ⟨h1,h2,h3⟩ := hq
     have hc := (hI.calm _).1 (Jc hl h1)
     simp only [PF.v,ak] at hv
     obtain ⟨k,r,hr,hk⟩ := hc _ (List.mem_of_getElem? hv.2)
     simp only [DP.v,List.cons.injEq,PV.v.injEq,Value.int.injEq,true_and] at hr
     rw [Lin.beq_eq h2,Lin.beq_eq h3]
     simp only [Lin.aB]
     omega
    ·cases hq
  ·cases h
end
theorem zO {P : Program} {I : Pr} (hI : xo I) : ∀ {q : List Seq},tG q = true → Valid P I q
 | [],_ => Valid.nil
 | s :: r,h => by
  simp only [tG] at h
  split at h
  ·rename_i hs
   intro x hx
   rcases List.mem_cons.1 hx with rfl | hx
   ·exact NP hI hs
   ·exact zO hI h x hx
  ·cases h
def aO (P : Program) (D G : List Spec) (s : Spec) (A : Ann) : Bool := match oD P D G s A with | some q => tG q | none => false
theorem NQ {P : Program} {D G : List Spec} {s : Spec} {A : Ann} (h : aO P D G s A = true) : ∃ A q,oD P D G s A = some q ∧ ∀ N,Valid P (inN aH N) q := by
 unfold aO at h
 split at h
 ·rename_i q hq
  exact ⟨A,q,hq,fun N => zO (Ln N) h⟩
 ·cases h
inductive jz (P : Program) : List Spec → Prop
 | nil : jz P []
 | cons {s : Spec} {r : List Spec} (h : aC P aH s) (k : jz P r) : jz P (s :: r)
theorem jz.hd {P : Program} {s : Spec} {r : List Spec} : jz P (s :: r) → aC P aH s | .cons h _ => h
theorem jz.tl {P : Program} {s : Spec} {r : List Spec} : jz P (s :: r) → jz P r | .cons _ h => h
theorem jz.mem {P : Program} {l : List Spec} (h : jz P l) : ∀ s ∈ l,aC P aH s := by
 induction h with
 | nil => simp
 | cons h _ ih => intro s hs; rcases List.mem_cons.1 hs with rfl | hs; exact h; exact ih s hs
inductive Da (P : Program) (D G : List Spec) : List Spec → Prop
 | nil : Da P D G []
 | cons {s : Spec} {A : Ann} {r : List Spec} (h : aO P D G s A = true) (k : Da P D G r) : Da P D G (s :: r)
theorem grp {P : Program} {D G : List Spec} (hD : jz P D) (hG : Da P D G G) : jz P G := by
 have h1 : ∀ s ∈ G,aC P aH s := KJ hD.mem (by
  have : ∀ l,Da P D G l → ∀ s ∈ l, ∃ A q,oD P D G s A = some q ∧ ∀ N,Valid P (inN aH N) q := by
   intro l h
   induction h with
   | nil => simp
   | cons h _ ih => intro s hs; rcases List.mem_cons.1 hs with rfl | hs; exact NQ h; exact ih s hs
  exact this G hG)
 have : ∀ l : List Spec,(∀ s ∈ l,aC P aH s) → jz P l := by
  intro l
  induction l with
  | nil => intro _; exact .nil
  | cons s r ih => intro h; exact .cons (h s (List.mem_cons_self ..)) (ih fun x hx => h x (List.mem_cons_of_mem _ hx))
 exact this G h1
end Go.TL
