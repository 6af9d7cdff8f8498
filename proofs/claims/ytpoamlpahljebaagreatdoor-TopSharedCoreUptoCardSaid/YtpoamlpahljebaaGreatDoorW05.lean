/- Runs of operations; code; functions. -/
import Derived.Test.YtpoamlpahljebaaGreatDoorW04
namespace Go.TL
def tr:Option (St×Prop)→Option (St×List Prop)
 |some (s,_)=>some (s,[])
 |none=>none
def nt:Option (St×Prop)→Option (St×List Prop)
 |some (s,p)=>some (s,[p])
 |none=>none
def lM:List Prop→Prop
 | []=>True
 |p::ps=>p∧lM ps
def aop(P:Program)(H:Hint)(σ:St)(o:Oper):Option (St×List Prop):=
 match o.op with
 | .move x=>tr (xn σ o x)
 | .assign x=>tr (xn σ o x)
 | .pick c x y=>tr (xo σ o c x y)
 | .alloc t=>tr (yN P σ o t)
 | .box t x=>tr (FU σ o t x)
 | .build t ps=>tr (yO P σ o t ps)
 | .buildSlice t n ps=>tr (nN P σ o t n ps)
 | .load t x=>match ev σ x with
  | .bn _ _ _ _=>nt (ji P H σ o t x)
  |_=>tr (ji P H σ o t x)
 | .store t x y=>match ev σ x with
  | .bn _ _ _ _=>nt (j3 P H σ o t x y)
  |_=>tr (j3 P H σ o t x y)
 | .makeSlice t l c=>nt (By P H σ o t l c)
 | .fieldAddr s x f=>tr (pw P σ o s x f)
 | .field t x f=>tr (yQ P σ o t x f)
 | .nilCheck x=>tr (qy σ o x)
 | .indexAddr t x ix=>match ev σ x with
  | .ptr _ _=>tr (dP P H σ o t x ix)
  |_=>nt (dP P H σ o t x ix)
 | .index t x ix=>match ev σ x with
  | .agg _=>tr (mZ P σ o t x ix)
  |_=>nt (mZ P σ o t x ix)
 | .extract x n=>tr (tc σ o x n)
 | .makeInterface t x=>tr (yR P σ o t x)
 | .makeFunc f first aQ=>tr (Bv σ o f first aQ)
 | .slice t x lo hi mx=>match lo,hi,mx with
  |none,some h,none=>match ev σ x with
   | .vec _=>nt (qB P σ o t x h)
   |_=>nt (jj P σ o t x none (some h) none)
  |lo,some h,some m=>nt (rV P σ o t x lo h m)
  |lo,hi,none=>nt (jj P σ o t x lo hi none)
  |_,_,_=>none
 | .binOp op t x y _=>match gD op with
  |true=>match rY H σ o op x y with
   |some r=>nt (some r)
   |none=>nt (lx σ o op x y)
  |false=>match lx σ o op x y with
   |some r=>tr (some r)
   |none=>tr (vD P σ o op t x y)
 | .unOp op _ x=>match op with
  | .not=>tr (xA σ o .not x)
  |op=>nt (xA σ o op x)
 | .convert s d x=>nt (xB P σ o s d x)
 | .call c=>match c.callee,c.args.toList,c.argTypes.toList with
  | .builtin .len,[x],[t]=>tr (FV P σ o x t)
  | .builtin .min,[x,y],_=>tr (mM σ o false x y)
  | .builtin .max,[x,y],_=>tr (mM σ o true x y)
  | .builtin .append,[s,x],[t,t']=>match Nat.beq t t' with
   |true=>match PI (ev σ s)with
    |true=>nt (s8 P σ o s x t)
    |false=>nt (vA P σ o s x t)
   |false=>none
  |_,_,_=>none
 |_=>none
theorem c6{r:Option (St×Prop)}{σ':St}{ps:List Prop}(h:tr r=some (σ',ps)):∃vc,r=some (σ',vc):=by
 unfold tr at h;split at h
 ·simp only[ZS,ZT]at h;obtain⟨rfl,_⟩:=h;exact⟨_,rfl⟩
 ·cases h
theorem gn{r:Option (St×Prop)}{σ':St}{ps:List Prop}(h:nt r=some (σ',ps))(hp:lM ps):∃vc,r=some (σ',vc)∧vc:=by
 unfold nt at h;split at h
 ·simp only[ZS,ZT]at h;obtain⟨rfl,rfl⟩:=h;exact⟨_,rfl,hp.1⟩
 ·cases h
theorem z7{P:Program}{H:Hint}{σ σ':St}{o:Oper}{t:TypeId}{x:Operand}{vc:Prop}(hn:∀k sz i off,ev σ x≠ .bn k sz i off)(hf:ji P H σ o t x=some (σ',vc)):vc:=by
 unfold ji at hf
 split at hf
 ·split at hf
  ·split at hf
   ·simp only[ZS,ZT]at hf;rw[←hf.2];trivial
   ·cases hf
  ·cases hf
 ·split at hf
  ·simp only[ZS,ZT]at hf;rw[←hf.2];trivial
  ·cases hf
 ·rename_i he;exact absurd he (hn _ _ _ _)
 ·cases hf
theorem GC{P:Program}{H:Hint}{σ σ':St}{o:Oper}{t:TypeId}{x y:Operand}{vc:Prop}(hn:∀k sz i off,ev σ x≠ .bn k sz i off)(hf:j3 P H σ o t x y=some (σ',vc)):vc:=by
 unfold j3 at hf
 split at hf
 ·split at hf
  ·split at hf
   ·split at hf
    ·split at hf
     ·simp only[ZS,ZT]at hf;rw[←hf.2];trivial
     ·cases hf
    ·cases hf
   ·rename_i he;exact absurd he (hn _ _ _ _)
   ·cases hf
  ·cases hf
 ·cases hf
theorem rZ{P:Program}{H:Hint}{σ σ':St}{o:Oper}{t:TypeId}{x ix:Operand}{vc:Prop}{k off:Nat}(hn:ev σ x= .ptr k off)(hf:dP P H σ o t x ix=some (σ',vc)):vc:=by
 unfold dP at hf
 split at hf
 ·split at hf
  ·rename_i he _;rw[hn]at he;cases he
  ·rename_i he _;rw[hn]at he;cases he
  ·split at hf
   ·split at hf
    ·simp only[ZS,ZT]at hf;rw[←hf.2];trivial
    ·cases hf
   ·cases hf
  ·cases hf
 ·cases hf
theorem GD{P:Program}{σ σ':St}{o:Oper}{t:TypeId}{x ix:Operand}{vc:Prop}{xs:List SV}(hn:ev σ x= .agg xs)(hf:mZ P σ o t x ix=some (σ',vc)):vc:=by
 unfold mZ at hf
 split at hf
 ·split at hf
  ·split at hf
   ·split at hf
    ·simp only[ZS,ZT]at hf;rw[←hf.2];trivial
    ·cases hf
   ·cases hf
  ·rename_i he _;rw[hn]at he;cases he
  ·cases hf
 ·cases hf
theorem BB{σ σ':St}{o:Oper}{op:BinOp}{x y:Operand}{vc:Prop}(hn:gD op=false)(hf:lx σ o op x y=some (σ',vc)):vc:=by
 unfold lx at hf
 split at hf
 ·split at hf
  ·split at hf
   ·rename_i hr;cases op<;>simp[arith,gD]at hr hn
   ·split at hf
    ·simp only[ZS,ZT]at hf;rw[←hf.2];trivial
    ·split at hf<;>first|(simp[gD]at hn;done)|cases hf
  ·cases hf
 ·split at hf
  ·split at hf
   ·simp only[ZS,ZT]at hf;rw[←hf.2];trivial
   ·split at hf<;>first|(simp[gD]at hn;done)|cases hf
  ·cases hf
theorem qF{α:Type}{xs:Array α}{x:α}(h:xs.toList=[x]):xs= #[x]:=Array.ext' h
theorem qG{α:Type}{xs:Array α}{x y:α}(h:xs.toList=[x,y]):xs= #[x,y]:=Array.ext' h
theorem Ns{C:Ctx}{H:Hint}{σ σ':St}{a:Act}{w:World}{o:Oper}{ps:List Prop}(hf:aop C.P H σ o=some (σ',ps))(hp:lM ps)(h:Holds C σ a w)(hd:bA C o):bR C o σ' a w:=by
 obtain⟨E,h⟩:=h
 unfold aop at hf
 split at hf
 ·rename_i ho;obtain⟨_,hq⟩:=c6 hf;exact(py (.inl ho) hq h hd).out
 ·rename_i ho;obtain⟨_,hq⟩:=c6 hf;exact(py (.inr ho) hq h hd).out
 ·rename_i ho;obtain⟨_,hq⟩:=c6 hf;exact(zZ ho hq h hd).out
 ·rename_i ho;obtain⟨_,hq⟩:=c6 hf;exact FF ho hq h hd
 ·rename_i ho;obtain⟨_,hq⟩:=c6 hf;exact I0 ho hq h hd
 ·rename_i ho;obtain⟨_,hq⟩:=c6 hf;exact FG ho hq h hd
 ·rename_i ho;obtain⟨_,hq⟩:=c6 hf;exact xx ho hq h hd
 ·rename_i ho
  split at hf
  ·obtain⟨_,hq,hv⟩:=gn hf hp;exact xr ho hq hv h hd
  ·rename_i hn;obtain⟨_,hq⟩:=c6 hf;exact xr ho hq (z7 (fun _ _ _ _ he=>hn _ _ _ _ he) hq) h hd
 ·rename_i ho
  split at hf
  ·obtain⟨_,hq,hv⟩:=gn hf hp;exact xa ho hq hv h hd
  ·rename_i hn;obtain⟨_,hq⟩:=c6 hf;exact xa ho hq (GC (fun _ _ _ _ he=>hn _ _ _ _ he) hq) h hd
 ·rename_i ho;obtain⟨_,hq,hv⟩:=gn hf hp;exact GB ho hq hv h hd
 ·rename_i ho;obtain⟨_,hq⟩:=c6 hf;exact(rX ho hq h hd).out
 ·rename_i ho;obtain⟨_,hq⟩:=c6 hf;exact FH ho hq h hd
 ·rename_i ho;obtain⟨_,hq⟩:=c6 hf;exact(tf ho hq h hd).out
 ·rename_i ho
  split at hf
  ·rename_i he;obtain⟨_,hq⟩:=c6 hf;exact(jD ho hq (rZ he hq) h hd).out
  ·obtain⟨_,hq,hv⟩:=gn hf hp;exact(jD ho hq hv h hd).out
 ·rename_i ho
  split at hf
  ·rename_i he;obtain⟨_,hq⟩:=c6 hf;exact xd ho hq (GD he hq) h hd
  ·obtain⟨_,hq,hv⟩:=gn hf hp;exact xd ho hq hv h hd
 ·rename_i ho;obtain⟨_,hq⟩:=c6 hf;exact(ud ho hq h hd).out
 ·rename_i ho;obtain⟨_,hq⟩:=c6 hf;exact FI ho hq h hd
 ·rename_i ho;obtain⟨_,hq⟩:=c6 hf;exact Gx ho hq h hd
 ·rename_i ho
  split at hf
  ·split at hf
   ·obtain⟨_,hq,hv⟩:=gn hf hp;exact Az ho hq hv h hd
   ·obtain⟨_,hq,hv⟩:=gn hf hp;exact xc ho hq hv h hd
  ·obtain⟨_,hq,hv⟩:=gn hf hp;exact Dn ho hq hv h hd
  ·obtain⟨_,hq,hv⟩:=gn hf hp;exact xc ho hq hv h hd
  ·cases hf
 ·rename_i ho
  split at hf
  ·split at hf
   ·rename_i r hr
    obtain⟨_,hq,hv⟩:=gn hf hp
    rw[hq]at hr
    exact(z6 ho hr hv h hd).out
   ·obtain⟨_,hq,hv⟩:=gn hf hp;exact(qD ho hq hv h hd).out
  ·rename_i hn
   split at hf
   ·rename_i r hr
    obtain⟨_,hq⟩:=c6 hf
    rw[hq]at hr
    exact(qD ho hr (BB hn hr) h hd).out
   ·obtain⟨_,hq⟩:=c6 hf;exact(qE ho hq h hd).out
 ·rename_i op t x ho
  split at hf
  ·obtain⟨_,hq⟩:=c6 hf;exact Bw ho hq (by unfold xA at hq;split at hq<;>simp_all) h hd
  ·obtain⟨_,hq,hv⟩:=gn hf hp;exact Bw ho hq hv h hd
 ·rename_i ho;obtain⟨_,hq,hv⟩:=gn hf hp;exact Gy ho hq hv h hd
 ·rename_i c ho
  split at hf
  ·rename_i x t hc ha ht
   have kT:o.op= .call {callee:= .builtin .len,args:= #[x],argTypes:= #[t]}:=by
    rw[ho];obtain⟨cc,ca,ct⟩:=c;simp only at hc ha ht;subst hc;rw[qF ha,qF ht]
   obtain⟨_,hq⟩:=c6 hf;exact(BA kT hq h hd).out
  ·rename_i x y hc ha
   obtain⟨_,hq⟩:=c6 hf
   refine I3 (ts:=c.argTypes) (x:=x) (y:=y) ?_ hq h hd
   rw[ho];obtain⟨cc,ca,ct⟩:=c;simp only at hc ha;subst hc;rw[qG ha]
  ·rename_i x y hc ha
   obtain⟨_,hq⟩:=c6 hf
   refine I4 (ts:=c.argTypes) (x:=x) (y:=y) ?_ hq h hd
   rw[ho];obtain⟨cc,ca,ct⟩:=c;simp only at hc ha;subst hc;rw[qG ha]
  ·rename_i s x t t' hc ha ht
   split at hf
   ·rename_i htt
    have:=ZU htt;subst this
    have kT:o.op= .call {callee:= .builtin .append,args:= #[s,x],argTypes:= #[t,t]}:=by
     rw[ho];obtain⟨cc,ca,ct⟩:=c;simp only at hc ha ht;subst hc;rw[qG ha,qG ht]
    split at hf
    ·obtain⟨_,hq,hv⟩:=gn hf hp;exact Bu kT hq hv h hd
    ·obtain⟨_,hq,hv⟩:=gn hf hp;exact Dm kT hq hv h hd
   ·cases hf
  ·cases hf
 ·cases hf
def gE(σ:St)(ops:List Oper)(o:Oper):Option Bool:=
 match o.guard with
 |none=>some true
 |some (j,want)=>match ops[j]? with
  |some oj=>match oj.dst with
   |some t=>match lk σ.ah t with
    |some (.p (.v (.bool b)) _)=>some (b==want)
    |some (.bL [])=>some false
    |_=>none
   |none=>none
  |none=>none
def GF(n:Nat)(o:Oper):Bool:=
 match o.dst with
 |some d=>Nat.ble (d+1) n
 |none=>true
def lift(C:Ctx)(Q:Exit→St→Prop):Exit→Act→World→Prop:=fun e a w=>∃σ,Q e σ∧Holds C σ a w
theorem gY{C:Ctx}{σ:St}{a:Act}{w:World}{ops:Array Oper}{o:Oper}{b:Bool}(h:Holds C σ a w)(hd:∀o∈ops.toList,∀d,o.dst=some d→d<C.n)
  (hb:gE σ ops.toList o=some b):Region.wanted o (yielded ops a.tmps)=b:=by
 obtain⟨E,h⟩:=h
 unfold gE at hb
 unfold Region.wanted
 split at hb
 ·rename_i hg;rw[hg];simp at hb;rw[hb]
 ·rename_i j want hg
  rw[hg]
  split at hb
  ·rename_i oj lJ
   split at hb
   ·rename_i t ht
    split at hb
    ·rename_i bb fr hl
     have h1:=dh (h.ah t _ hl)
     have hoj':ops[j]? =some oj:=by simpa using lJ
     have av:t<a.tmps.size:=by rw[h.size];exact hd oj (Z2 lJ) t ht
     have h2:a.tmps[t]? =some (.bool bb):=by
      rw[Array.getD_eq_getD_getElem?]at h1
      rw[Array.getElem?_eq_getElem av]at h1 ⊢
      simpa using h1
     simp only[ZS]at hb
     simp only[yielded,hoj',Option.bind_some,ht,h2]
     rw[←hb];cases bb<;>cases want<;>rfl
    ·rename_i hl
     have h1:=h.ah t _ hl
     simp only[VR]at h1
     obtain⟨vs,h1,hv⟩:=h1
     have:vs=[]:=by cases vs with|nil=>rfl|cons _ _=>simp[VRs]at hv
     subst this
     have hoj':ops[j]? =some oj:=by simpa using lJ
     have h2:yielded ops a.tmps j=none:=by
      unfold yielded
      simp only[hoj',Option.bind_some,ht]
      split
      ·rename_i b bz
       rw[Array.getD_eq_getD_getElem?,bz]at h1;cases h1
      ·rfl
     simp only[ZS]at hb
     simp only[h2, ←hb];rfl
    ·cases hb
   ·cases hb
  ·cases hb
def mkC(P:Program)(n:Nat)(lo:Nat)(w0:World)(E0:Env):Ctx:=⟨P,lo,w0,E0,n⟩
def Dr(P:Program)(n:Nat)(ops:Array Oper)(is:List Nat)(σ:St)(Q:Exit→St→Prop):Prop:=
 ∀lo w0 E0 a w,Holds (mkC P n lo w0 E0) σ a w→wpOps P ops (lift (mkC P n lo w0 E0) Q) is a w
def AWP(P:Program)(n:Nat)(c:Code)(σ:St)(Q:Exit→St→Prop):Prop:=
 ∀lo w0 E0 a w,Holds (mkC P n lo w0 E0) σ a w→c.wp P (lift (mkC P n lo w0 E0) Q) a w
theorem KK{P:Program}{ops:Array Oper}{Q:Exit→Act→World→Prop}{i:Nat}{rest:List Nat}{a:Act}{w:World}{o:Oper}(ho:ops[i]? =some o)
  (hw:Region.wanted o (yielded ops a.tmps)=true)(h:o.wp P a w (wpOps P ops Q rest) Q):wpOps P ops Q (i::rest) a w:=by
 simp only[wpOps,ho,hw,if_true];exact .inl h
theorem KL{P:Program}{ops:Array Oper}{Q:Exit→Act→World→Prop}{i:Nat}{rest:List Nat}{a:Act}{w:World}{o:Oper}(ho:ops[i]? =some o)
  (hw:Region.wanted o (yielded ops a.tmps)=false)(h:wpOps P ops Q rest (a.put o.dst undef) w):wpOps P ops Q (i::rest) a w:=by
 simp only[wpOps,ho,hw,Bool.false_eq_true,if_false];exact h
theorem JC{C:Ctx}{σ:St}{a:Act}{w:World}{dst:Option Nat}(h:Holds C σ a w)(hd:∀d,dst=some d→d<C.n):Holds C (σ.put dst (.bL [])) (a.put dst undef) w:=by
 obtain⟨E,h⟩:=h
 exact⟨E,h.upd (Fr.refl w E) (fun _ _ h=>h) (fun _ _ h=>h) h.tab dst hd fun _ _=>by simp only[VR];exact⟨[],rfl,df⟩⟩
def ly(n:Nat):List Oper→Bool
 | []=>true
 |o::os=>match GF n o with|true=>ly n os|false=>false
theorem SR{n:Nat}{o:Oper}(h:GF n o=true):∀d,o.dst=some d→d<n:=by
 intro d hd
 unfold GF at h
 rw[hd]at h
 exact ZX h
theorem eX{n:Nat}:∀{os:List Oper},ly n os=true→∀o∈os,∀d,o.dst=some d→d<n
 | [],_,o,ho,_,_=>by simp at ho
 |x::os,h,o,ho,d,hd=>by
  simp only[ly]at h
  cases hx:GF n x with
  |false=>simp[hx]at h
  |true=>
   simp only[hx]at h
   rcases Z1 ho with rfl|ho
   ·exact SR hx d hd
   ·exact eX h o ho d hd
theorem PK{P:Program}{n:Nat}{ops:Array Oper}{σ:St}{Q:Exit→St→Prop}(h:Q .normal σ):Dr P n ops [] σ Q:=by
 intro lo w0 E0 a w hh
 exact⟨σ,h,hh⟩
def Imp(P:Program)(n:Nat)(σ σ':St):Prop:=∀lo w0 E0 a w,Holds (mkC P n lo w0 E0) σ a w→Holds (mkC P n lo w0 E0) σ' a w
theorem Dr.imp{P:Program}{n:Nat}{ops:Array Oper}{is:List Nat}{σ σ':St}{Q:Exit→St→Prop}(h:Imp P n σ σ')(k:Dr P n ops is σ' Q):Dr P n ops is σ Q:=
 fun lo w0 E0 a w hh=>k lo w0 E0 a w (h lo w0 E0 a w hh)
theorem AWP.imp{P:Program}{n:Nat}{c:Code}{σ σ':St}{Q:Exit→St→Prop}(h:Imp P n σ σ')(k:AWP P n c σ' Q):AWP P n c σ Q:=
 fun lo w0 E0 a w hh=>k lo w0 E0 a w (h lo w0 E0 a w hh)
theorem KM{P:Program}{n id:Nat}{ops:Array Oper}{σ:St}{Q:Exit→St→Prop}(h:Dr P n ops (List.range ops.size) σ Q):AWP P n (.region id ops false) σ Q:=
 fun lo w0 E0 a w hh=>wp_region (h lo w0 E0 a w hh)
theorem SU{P:Program}{n:Nat}{x y:Code}{σ:St}{Q:Exit→St→Prop}(h:AWP P n x σ fun e s=>match e with| .normal=>AWP P n y s Q|e=>Q e s):AWP P n (.seq x y) σ Q:=by
 intro lo w0 E0 a w hh
 refine wp_seq (wp_mono (h lo w0 E0 a w hh) ?_)
 rintro e a' w' ⟨s,hq,hs⟩
 cases e<;>first|exact⟨s,hq,hs⟩|exact hq lo w0 E0 a' w' hs
theorem PL{P:Program}{n:Nat}{σ:St}{Q:Exit→St→Prop}(h:Q .normal σ):AWP P n .skip σ Q:=fun _ _ _ _ _ hh=>wp_skip ⟨σ,h,hh⟩
theorem SW{P:Program}{n:Nat}{σ:St}{Q:Exit→St→Prop}(h:Q .ret σ):AWP P n .ret σ Q:=fun _ _ _ _ _ hh=>wp_ret ⟨σ,h,hh⟩
theorem PM{P:Program}{n id:Nat}{σ:St}{Q:Exit→St→Prop}(h:Q (.exit id) σ):AWP P n (.exit id) σ Q:=fun _ _ _ _ _ hh=>wp_exit ⟨σ,h,hh⟩
theorem Nt{P:Program}{n id:Nat}{c:Code}{σ:St}{Q:Exit→St→Prop}(h:AWP P n c σ fun e s=>match e with| .exit id'=>(match Nat.beq id' id with|true=>Q .normal s|false=>Q (.exit id') s)|e=>Q e s):AWP P n (.block id c) σ Q:=by
 intro lo w0 E0 a w hh
 refine wp_block (wp_mono (h lo w0 E0 a w hh) ?_)
 rintro e a' w' ⟨s,hq,hs⟩
 cases e with
 |exit id'=>
  simp only[Exit.inBlock]
  simp only at hq
  cases hb:Nat.beq id' id with
  |true=>rw[if_pos (ZU hb)];simp only[hb]at hq;exact⟨s,hq,hs⟩
  |false=>rw[if_neg (beq_false hb)];simp only[hb]at hq;exact⟨s,hq,hs⟩
 |_=>exact⟨s,hq,hs⟩
def xC(σ:St)(c:Operand):Option Bool:=
 match ev σ c with
 | .p (.v (.bool b)) _=>some b
 |_=>none
theorem pP{C:Ctx}{σ:St}{a:Act}{w:World}{c:Operand}{b:Bool}(h:Holds C σ a w)(hb:xC σ c=some b):a.eval c= .bool b:=by
 obtain⟨E,h⟩:=h
 unfold xC at hb
 split at hb
 ·rename_i b' fr he
  simp only[ZS]at hb;subst hb
  exact kf h he
 ·cases hb
theorem PN{P:Program}{n:Nat}{c:Operand}{x y:Code}{σ:St}{Q:Exit→St→Prop}(b:Bool)(hb:xC σ c=some b)(h1:b=true→AWP P n x σ Q)(h2:b=false→AWP P n y σ Q):AWP P n (.cond c x y) σ Q:=
 fun lo w0 E0 a w hh=>wp_cond_split (pP hh hb) (fun e=>h1 e lo w0 E0 a w hh) (fun e=>h2 e lo w0 E0 a w hh)
theorem PO{P:Program}{n:Nat}{c:Code}{σ:St}{Q:Exit→St→Prop}{α:Type}(I:α→St)(K:α→Prop)(μ:α→Nat)(x0:α)(h0:Imp P n σ (I x0))(hK:K x0)
  (h:∀x,K x→AWP P n c (I x) fun e s=>match e with| .normal=>∃x',K x'∧μ x'<μ x∧Imp P n s (I x')|e=>Q e s):AWP P n (.loop c) σ Q:=by
 intro lo w0 E0 a w hh
 intro b k cs
 have key:∀m a w x,K x→μ x=m→Holds (mkC P n lo w0 E0) (I x) a w→
   ∃e a' w',lift (mkC P n lo w0 E0) Q e a' w'∧Arrives P (lone (b.at a (.code c:: .inLoop c::k)) cs w) b k cs e a' w':=by
  intro m
  induction m using Nat.strongRecOn with
  |_ m ih=>
   intro a w x hx hm hs
   obtain⟨e,a₁,w₁,⟨s,hq,hs₁⟩,fG⟩:=h x hx lo w0 E0 a w hs b (.inLoop c::k) cs
   cases e with
   |normal=>
    obtain⟨x',hx',av,himp⟩:=hq
    obtain⟨e₂,a₂,w₂,hq₂,wV⟩:=ih (μ x') (hm▸av) a₁ w₁ x' hx' rfl (himp lo w0 E0 a₁ w₁ hs₁)
    exact⟨e₂,a₂,w₂,hq₂,.of_steps (Steps.trans fG (.one step_inLoop)) wV⟩
   |exit id=>exact⟨_,a₁,w₁,⟨s,hq,hs₁⟩,.pass (x:= .inLoop c) rfl (fun _ _=> .inl (by simp)) fG⟩
   |goto l=>exact⟨_,a₁,w₁,⟨s,hq,hs₁⟩,.pass (x:= .inLoop c) rfl (fun _ _=> .inl (by simp)) fG⟩
   |ret=>exact⟨_,a₁,w₁,⟨s,hq,hs₁⟩,.pass (x:= .inLoop c) rfl (fun _ _=> .inl (by simp)) fG⟩
   |panic ch=>exact⟨_,a₁,w₁,⟨s,hq,hs₁⟩,.pass (x:= .inLoop c) rfl (fun _ _=> .inl (by simp)) fG⟩
   |outgrown=>exact⟨_,a₁,w₁,⟨s,hq,hs₁⟩,.pass (x:= .inLoop c) rfl (fun _ _=> .inl (by simp)) fG⟩
 obtain⟨e,a',w',hq,fG⟩:=key _ a w x0 hK rfl (h0 lo w0 E0 a w hh)
 exact⟨e,a',w',hq,.of_steps (.one step_loop) fG⟩
def FnS(P:Program)(f:FuncId)(args:List SV)(T:Tab)(R:SV→Tab→Prop):Prop:=
 ∀lo w E vals,tL P lo w E→bV w E lo T→VRs w E lo args vals→
  Calls P f vals.toArray w fun e w'=>∃r v T' E',e= .returned v∧R r T'∧Fr w E w' E'∧bV w' E' lo T'∧VR w' E' lo r v∧∀k x,E.val k=some x→E'.val k=some x∨E'.val k=none
def fk:Nat→List SV→List (Nat×SV)
 |_,[]=>[]
 |k,x::xs=>(k,x)::fk (k+1) xs
theorem nO:∀(xs:List SV) (k t:Nat),lk (fk k xs) t=if k≤t then xs[t - k]? else none
 | [],k,t=>by simp[fk,lk]
 |x::xs,k,t=>by
  simp only[fk,lk]
  cases hb:Nat.beq k t with
  |true=>have:=ZU hb;subst this;simp
  |false=>
   have gl:=beq_false hb
   simp only
   rw[nO xs (k+1) t]
   by_cases hle:k≤t
   ·rw[if_pos (by omega),if_pos hle,show t - k=(t - (k+1))+1 by omega];rfl
   ·rw[if_neg (by omega),if_neg hle]
def Dt(n:Nat):Tab→Bool
 | []=>true
 |(k,_)::r=>match Nat.ble n k with|true=>Dt n r|false=>false
theorem Du{n:Nat}:∀{T:Tab},Dt n T=true→∀k,lk T k≠none→n≤k
 | [],_,k,h=>by simp[lk]at h
 |(j,x)::r,hb,k,h=>by
   simp only[Dt]at hb
   cases hq:Nat.ble n j with
   |false=>simp[hq]at hb
   |true=>
    simp only[hq]at hb
    simp only[lk]at h
    cases eI:Nat.beq j k with
    |true=>have:=ZU eI;subst this;exact ZX hq
    |false=>simp only[eI]at h;exact Du hb k h
def vE(P:Program)(σ:St):ResultVar→Option SV
 | .tmp t=>some (σ.get t)
 | .cell x t=>match σ.get x with
  | .ptr k off=>match lk σ.tab k with
   |some (.box _ cells)=>j0 P t off cells
   |_=>none
  |_=>none
def na(P:Program)(σ:St):List ResultVar→Option (List SV)
 | []=>some []
 |r::rs=>match vE P σ r,na P σ rs with
  |some x,some xs=>some (x::xs)
  |_,_=>none
def jR(tmps:Array Value):ResultVar→Sem Value
 | .tmp t=>pure (tmps.getD t undef)
 | .cell a t=>do loadVar t (←asAddr (tmps.getD a undef))
theorem Nu{C:Ctx}{E:Env}{σ:St}{a:Act}{w:World}{r:ResultVar}{sv:SV}(h:aC C E σ a w)(hr:vE C.P σ r=some sv):∃v,(jR a.tmps r).run C.P w= .ok v w∧VR w E C.lo sv v:=by
 cases r with
 |tmp t=>simp only[vE,ZS]at hr;subst hr;exact⟨_,rfl,bO h (.tmp t)⟩
 |cell x t=>
  simp only[vE]at hr
  split at hr
  ·rename_i k off he
   split at hr
   ·rename_i bt cells hl
    have az:=bO h (.tmp x)
    simp only[ev,he,VR]at az
    obtain⟨b,hb,hx⟩:=az
    obtain⟨b',vs,h1,h2,h3,h4⟩:=h.tab.obj k _ hl
    rw[hb]at h1;simp at h1;subst h1
    obtain⟨v,gb,hv⟩:=vy (P:=C.P) (b:=b) (o:=0) h4 (fun j v hj=>by rw[gC h3];simpa using hj) hr
    refine⟨v,?_,hv⟩
    simp only[Nat.zero_add]at gb
    simp only[Act.eval]at hx
    simp only[jR,Sem.run_bind,hx,asAddr,Sem.run_pure,Result.andThen_ok]
    simpa[Instr.loadAt,Instr.sureAddr]using gb
   ·cases hr
  ·cases hr
theorem z8{C:Ctx}{E:Env}{σ:St}{a:Act}{w:World}(h:aC C E σ a w):∀(rs:List ResultVar) (xs:List SV),na C.P σ rs=some xs→∃vs:List Value,(rs.mapM (jR a.tmps)).run C.P w= .ok vs w∧VRs w E C.lo xs vs
 | [],xs,hr=>by simp only[na,ZS]at hr;subst hr;exact⟨[],rfl,df⟩
 |r::rs,xs,hr=>by
  simp only[na]at hr
  split at hr
  ·rename_i x ys h1 h2
   simp only[ZS]at hr;subst hr
   obtain⟨v,hv,hvr⟩:=Nu h h1
   obtain⟨vs,gM,hvrs⟩:=z8 h rs ys h2
   exact⟨v::vs,by simp[List.mapM_cons,hv,gM],bu hvr hvrs⟩
  ·cases hr
end Go.TL
namespace Go.TL
mutual
def SV.inB(T:Tab):SV→Bool
 | .vec j=>(lk T j).isSome
 | .ptr j _=>(lk T j).isSome
 | .bn j _ _ _=>(lk T j).isSome
 | .ref j=>(lk T j).isSome
 | .agg xs=>lN T xs
 | .bL xs=>lN T xs
 | .fn _ first aQ=>match lN T first with|true=>lN T aQ|false=>false
 | .cL _ x=>SV.inB T x
 | .u=>true
 | .p _ _=>true
 | .pd _ _ _=>true
 | .pc _ _=>true
def lN(T:Tab):List SV→Bool
 | []=>true
 |x::xs=>match SV.inB T x with|true=>lN T xs|false=>false
end
def Env.sub(E:Env)(T0:Tab):Env:=
 ⟨fun k=>if(lk T0 k).isSome then E.val k else none,fun b=>match E.own b with|some k=>if(lk T0 k).isSome then some k else none|none=>none,
  fun b=>E.ext b∨∃k,E.own b=some k∧(lk T0 k).isSome=false⟩
theorem tL.sub{P:Program}{lo:Nat}{w:World}{E:Env}(h:tL P lo w E)(T0:Tab):tL P lo w (E.sub T0):=⟨h.le,h.laid,fun b hb=>by simp only[Env.sub,h.own b hb]⟩
theorem ry(E:Env)(T0:Tab):(E.sub T0).bad=E.bad:=by
 funext b
 apply propext
 unfold Env.bad Env.sub
 simp only
 cases hb:E.own b with
 |none=>simp
 |some k=>
  cases hk:(lk T0 k).isSome with
  |true=>simp[hk]
  |false=>
   simp only[hk,Bool.false_eq_true,if_false,ne_eq,not_true_eq_false,false_or,reduceCtorEq,not_false_eq_true,true_or,iff_true]
   exact .inr ⟨k,rfl,hk⟩
mutual
theorem VR.sub{w:World}{E:Env}{lo:Nat}{T0:Tab}:∀(sv:SV) (v:Value),sv.inB T0=true→VR w E lo sv v→VR w (E.sub T0) lo sv v
 | .u,_,_,_=>by simp[VR]
 | .p x fr,v,_,h=>by simp only[VR]at h ⊢;rw[ry];exact h
 | .ptr k off,v,hb,h=>by simp only[VR,SV.inB]at h hb ⊢;obtain⟨b,h1,h2⟩:=h;exact⟨b,by simp[Env.sub,hb,h1],h2⟩
 | .vec k,v,hb,h=>by simp only[VR,SV.inB]at h hb ⊢;exact⟨by simp[Env.sub,hb,h.1],h.2⟩
 | .bn k sz i off,v,hb,h=>by simp only[VR,SV.inB]at h hb ⊢;obtain⟨b,n,c,h1,h2⟩:=h;exact⟨b,n,c,by simp[Env.sub,hb,h1],h2⟩
 | .pd row off fr,v,_,h=>by simp only[VR]at h ⊢;rw[ry];exact h
 | .pc rows fr,v,_,h=>by simp only[VR]at h ⊢;rw[ry];exact h
 | .agg xs,v,hb,h=>by simp only[VR,SV.inB]at h hb ⊢;obtain⟨vs,h1,h2⟩:=h;exact⟨vs,h1,VRs.sub xs vs hb h2⟩
 | .bL xs,v,hb,h=>by simp only[VR,SV.inB]at h hb ⊢;obtain⟨vs,h1,h2⟩:=h;exact⟨vs,h1,VRs.sub xs vs hb h2⟩
 | .ref k,v,hb,h=>by simp only[VR,SV.inB]at h hb ⊢;exact⟨by simp[Env.sub,hb,h.1],h.2⟩
 | .fn f first aQ,v,hb,h=>by
  simp only[VR,SV.inB]at h hb ⊢
  obtain⟨vs,ws,h1,h2,h3⟩:=h
  cases hf:lN T0 first with
  |false=>simp[hf]at hb
  |true=>simp only[hf]at hb;exact⟨vs,ws,h1,VRs.sub first vs hf h2,VRs.sub aQ ws hb h3⟩
 | .cL t x,v,hb,h=>by simp only[VR,SV.inB]at h hb ⊢;obtain⟨y,h1,h2⟩:=h;exact⟨y,h1,VR.sub x y hb h2⟩
theorem VRs.sub{w:World}{E:Env}{lo:Nat}{T0:Tab}:∀(xs:List SV) (vs:List Value),lN T0 xs=true→VRs w E lo xs vs→VRs w (E.sub T0) lo xs vs
 | [],[],_,_=>by simp[VRs]
 |x::xs,v::vs,hb,h=>by
  simp only[lN]at hb
  cases hx:x.inB T0 with
  |false=>simp[hx]at hb
  |true=>
   simp only[hx]at hb
   exact bu (VR.sub x v hx (aH.1 h).1) (VRs.sub xs vs hb (aH.1 h).2)
 | [],_::_,_,h=>by simp[VRs]at h
 |_::_,[],_,h=>by simp[VRs]at h
end
def jE(T0:Tab):Tab→Bool
 | []=>true
 |(_,.box _ cells)::r=>match lN T0 cells with|true=>jE T0 r|false=>false
 |_::r=>jE T0 r
theorem JD{T0:Tab}:∀{r:Tab},jE T0 r=true→∀k t cells,lk r k=some (.box t cells)→lN T0 cells=true
 | [],_,k,t,cells,h=>by simp[lk]at h
 |(j,ov)::r,hb,k,t,cells,h=>by
   simp only[lk]at h
   cases hj:Nat.beq j k with
   |true=>
    simp only[hj,ZS]at h;subst h
    simp only[jE]at hb
    cases hi:lN T0 cells with
    |true=>rfl
    |false=>simp[hi]at hb
   |false=>
    simp only[hj]at h
    have:jE T0 r=true:=by
     cases ov with
     |box t' cs=>
      simp only[jE]at hb
      cases hi:lN T0 cs with
      |true=>simpa only[hi]using hb
      |false=>simp[hi]at hb
     |vec=>simpa only[jE]using hb
     |mp=>simpa only[jE]using hb
     |it=>simpa only[jE]using hb
    exact JD this k t cells h
theorem bV.sub{w:World}{E:Env}{lo:Nat}{T T0:Tab}(h:bV w E lo T)(hs:∀k ov,lk T0 k=some ov→lk T k=some ov)(hb:jE T0 T0=true):bV w (E.sub T0) lo T0:=by
 refine⟨?_,?_,?_,?_⟩
 ·intro k ov hl
  have dL:=h.obj k ov (hs k ov hl)
  have hsm:(lk T0 k).isSome=true:=by rw[hl];rfl
  have cD:∀b,(E.sub T0).own b=some k ↔ E.own b=some k:=by
   intro b
   simp only[Env.sub]
   cases hb:E.own b with
   |none=>simp
   |some j=>
    simp only
    cases hj:(lk T0 j).isSome with
    |true=>simp
    |false=>
     simp only[Bool.false_eq_true,if_false,reduceCtorEq,false_iff]
     intro e;simp at e;subst e;rw[hsm]at hj;cases hj
  have dB:(E.sub T0).val k=E.val k:=by simp[Env.sub,hsm]
  cases ov with
  |box t cells=>
   obtain⟨b,vs,h1,h2,h3,h4⟩:=dL
   exact⟨b,vs,by rw[dB];exact h1,(cD b).2 h2,h3,VRs.sub cells vs (JD hb k t cells hl) h4⟩
  |vec t sz rows fr=>
   obtain⟨v,xs,h1,h2,h3,h4,h5⟩:=dL
   exact⟨v,xs,by rw[dB];exact h1,h2,h3,fun g hg=>(cD g).2 (h4 g hg),by rw[ry];exact h5⟩
  |mp a rows fr=>
   obtain⟨b,es,cl,h1,h2,h3,h4⟩:=dL
   exact⟨b,es,cl,by rw[dB];exact h1,(cD b).2 h2,h3,by rw[ry];exact h4⟩
  |it a rows fr n on=>
   obtain⟨b,o,h1,h2,h3,h4⟩:=dL
   exact⟨b,o,by rw[dB];exact h1,(cD b).2 h2,h3,by rw[ry];exact h4⟩
 ·intro k hl
  simp[Env.sub,hl]
 ·intro b k ho
  simp only[Env.sub]at ho
  cases hb:E.own b with
  |none=>simp[hb]at ho
  |some j=>
   simp only[hb]at ho
   cases hj:(lk T0 j).isSome with
   |false=>simp[hj]at ho
   |true=>
    simp[hj]at ho;subst ho
    have:=h.own b j hb
    exact⟨this.1,this.2.1,by intro e;rw[e]at hj;cases hj⟩
 ·intro b hx
  rcases hx with hx|⟨k,hk,hkn⟩
  ·have:=h.ext b hx
   exact⟨this.1,by simp[Env.sub,this.2]⟩
  ·exact⟨(h.own b k hk).1,by simp[Env.sub,hk,hkn]⟩
def Env.pA(E:Env)(k:Nat):Env:=⟨fun j=>if j=k then none else E.val j,E.own,E.ext⟩
def Env.pQ(E:Env):List Nat→Env
 | []=>E
 |k::ks=>(E.pA k).pQ ks
def kA:List Nat→List (Nat×SV)→List (Nat×SV)
 | [],l=>l
 |k::ks,l=>kA ks (gP k .u (fun _=> .u) l)
def lW:List Nat→Tab→Tab
 | [],T=>T
 |k::ks,T=>lW ks (nK k .u (fun _=> .u) T)
def rmK{α:Type}:List Nat→List (Nat×α)→List (Nat×α)
 | [],T=>T
 |k::ks,T=>rmK ks (rm T k)
theorem qH(E:Env):∀ks:List Nat,(E.pQ ks).own=E.own∧(E.pQ ks).ext=E.ext
 | []=>⟨rfl,rfl⟩
 |k::ks=>qH (E.pA k) ks
theorem BC:∀(ks:List Nat) (E:Env) (j:Nat) (x:Value),(E.pQ ks).val j=some x→E.val j=some x∧j ∉ ks
 | [],E,j,x,h=>⟨h,by simp⟩
 |k::ks,E,j,x,h=>by
  have:=BC ks (E.pA k) j x h
  simp only[Env.pA]at this
  split at this
  ·cases this.1
  ·rename_i gl;exact⟨this.1,by simp[gl,this.2]⟩
theorem xD{w:World}{lo:Nat}{tmps:Array Value}:∀(ks:List Nat) (E:Env) (l:List (Nat×SV)),(∀t sv,lk l t=some sv→VR w E lo sv (tmps.getD t undef))→
  ∀t sv,lk (kA ks l) t=some sv→VR w (E.pQ ks) lo sv (tmps.getD t undef)
 | [],_,_,h=>h
 |k::ks,E,l,h=>by
  refine xD ks (E.pA k) _ ?_
  intro t sv hl
  rw[vv]at hl
  cases hq:lk l t with
  |none=>simp[hq]at hl
  |some s=>
   simp[hq]at hl;subst hl
   exact VR.fz (E:=E) (E':=E.pA k) ⟨fun _ _ h=>⟨rfl,h⟩,rfl⟩ (fun j x hj hx=>by simp[Env.pA,hj,hx]) (fun _ _=>by simp[VR]) (fun _ _ _=>by simp[VR]) s _ (h t s hq)
theorem BD{w:World}{lo:Nat}:∀(ks:List Nat) (E:Env) (T:Tab),(∀k ov,lk T k=some ov→k ∉ ks∧OR w E lo k ov)→
  ∀k ov,lk (lW ks T) k=some ov→OR w (E.pQ ks) lo k ov
 | [],_,_,h=>fun k ov hl=>(h k ov hl).2
 |k::ks,E,T,h=>by
  refine BD ks (E.pA k) _ ?_
  intro j ov hl
  rw[jB]at hl
  cases hq:lk T j with
  |none=>simp[hq]at hl
  |some o=>
   simp[hq]at hl;subst hl
   have:=h j o hq
   refine⟨fun e=>this.1 (by simp[e]),?_⟩
   exact OR.fz (E:=E) (E':=E.pA k) (fun e=>this.1 (by simp[e])) ⟨fun _ _ h=>⟨rfl,h⟩,rfl⟩ (fun j x hj hx=>by simp[Env.pA,hj,hx]) (fun _ _=>by simp[VR]) (fun _ _ _=>by simp[VR]) (fun _=>Iff.rfl) (fun _ _=>rfl) this.2
theorem jF:∀(ks:List Nat) (T:Tab) (k:Nat),(lk (lW ks T) k).isSome=(lk T k).isSome
 | [],_,_=>rfl
 |j::ks,T,k=>by rw[lW,jF ks,jB];simp
theorem BE{α:Type}:∀(ks:List Nat) (T:List (Nat×α)) (k:Nat) (x:α),lk (rmK ks T) k=some x→lk T k=some x∧k ∉ ks
 | [],_,_,_,h=>⟨h,by simp⟩
 |j::ks,T,k,x,h=>by
  have:=BE ks (rm T j) k x h
  by_cases he:k=j
  ·subst he;rw[lp]at this;cases this.1
  ·rw[cM _ _ _ he]at this;exact⟨this.1,by simp[he,this.2]⟩
theorem vF{α:Type}:∀(ks:List Nat) (T:List (Nat×α)) (k:Nat),k ∉ ks→lk (rmK ks T) k=lk T k
 | [],_,_,_=>rfl
 |j::ks,T,k,h=>by
  simp only[List.mem_cons,not_or]at h
  rw[rmK,vF ks _ k h.2,cM _ _ _ h.1]
def keys{α:Type}:List (Nat×α)→List Nat
 | []=>[]
 |(k,_)::r=>k::keys r
theorem mem_keys{α:Type}:∀(T:List (Nat×α)) (k:Nat),k∈keys T ↔ (lk T k).isSome=true
 | [],k=>by simp[keys,lk]
 |(j,x)::r,k=>by
   simp only[keys,lk,List.mem_cons]
   cases hb:Nat.beq j k with
   |true=>have:=ZU hb;simp[this]
   |false=>have:=beq_false hb;rw[mem_keys r k];simp[Ne.symm this]
def app{α:Type}:List (Nat×α)→List (Nat×α)→List (Nat×α)
 | [],b=>b
 |x::a,b=>x::app a b
theorem pR{α:Type}:∀(a b:List (Nat×α)) (k:Nat),lk (app a b) k=match lk a k with|some x=>some x|none=>lk b k
 | [],b,k=>rfl
 |(j,x)::a,b,k=>by
   simp only[app,lk]
   cases Nat.beq j k with
   |true=>rfl
   |false=>exact pR a b k
def gone(T':Tab):List Nat→List Nat
 | []=>[]
 |k::ks=>match(lk T' k).isSome with|true=>gone T' ks|false=>k::gone T' ks
theorem vG(T':Tab):∀(ks:List Nat) (k:Nat),k∈gone T' ks ↔ k∈ks∧(lk T' k).isSome=false
 | [],k=>by simp[gone]
 |j::ks,k=>by
  simp only[gone]
  cases hj:(lk T' j).isSome with
  |true=>
   rw[vG T' ks k]
   constructor
   ·rintro⟨h1,h2⟩;exact⟨by simp[h1],h2⟩
   ·rintro⟨h1,h2⟩
    rcases Z1 h1 with rfl|h1
    ·rw[hj]at h2;cases h2
    ·exact⟨h1,h2⟩
  |false=>
   rw[List.mem_cons,vG T' ks k]
   constructor
   ·rintro(rfl|⟨h1,h2⟩)
    ·exact⟨by simp,hj⟩
    ·exact⟨by simp[h1],h2⟩
   ·rintro⟨h1,h2⟩
    rcases Z1 h1 with rfl|h1
    ·exact .inl rfl
    ·exact .inr ⟨h1,h2⟩
def St.after(σ:St)(T0 T':Tab):St:=
 ⟨kA (gone T' (keys T0)) σ.ah,app T' (lW (gone T' (keys T0)) (rmK (keys T0) σ.tab))⟩
def kB(n:Nat)(T0 T:Tab):Tab→Bool
 | []=>true
 |(k,_)::r=>match(lk T0 k).isSome,(lk T k).isSome,Nat.ble (k+1) n with
   |true,_,_=>kB n T0 T r
   |false,false,true=>kB n T0 T r
   |_,_,_=>false
theorem ue{n:Nat}{T0 T:Tab}:∀{r:Tab},kB n T0 T r=true→∀k,(lk r k).isSome=true→(lk T0 k).isSome=true∨((lk T k).isSome=false∧k<n)
 | [],_,k,h=>by simp[lk]at h
 |(j,x)::r,hb,k,h=>by
   simp only[kB]at hb
   simp only[lk]at h
   split at hb
   ·rename_i h0
    cases hj:Nat.beq j k with
    |true=>have:=ZU hj;subst this;exact .inl h0
    |false=>simp only[hj]at h;exact ue hb k h
   ·rename_i h0 h1 h2
    cases hj:Nat.beq j k with
    |true=>have:=ZU hj;subst this;exact .inr ⟨h1,ZX h2⟩
    |false=>simp only[hj]at h;exact ue hb k h
   ·cases hb
theorem I5{C:Ctx}{E E':Env}{σ:St}{a:Act}{w w':World}{T0 T':Tab}{r:SV}{v:Value}{dst:Option Nat}(h:aC C E σ a w)(hs:∀k ov,lk T0 k=some ov→lk σ.tab k=some ov)
  (c8:Fr w (E.sub T0) w' E')(ht:bV w' E' C.lo T')(hr:VR w' E' C.lo r v)(hp:∀k x,(E.sub T0).val k=some x→E'.val k=some x∨E'.val k=none)
  (fy:kB C.n T0 σ.tab T'=true)(hd:∀d,dst=some d→d<C.n):Holds C ((σ.after T0 T').put dst r) (a.put dst v) w':=by
 let F:Env:=⟨fun j=>if(lk T' j).isSome then E'.val j else if(lk T0 j).isSome then none else E.val j,
  fun b=>match E'.own b with|some j=>some j|none=>match E.own b with|some j=>if(lk T0 j).isSome then none else some j|none=>none,E.ext⟩
 have hsubown:∀b j,E.own b=some j→(lk T0 j).isSome=false→(E.sub T0).own b=none∧(E.sub T0).ext b:=by
  intro b j hb hj
  exact⟨by simp[Env.sub,hb,hj],.inr ⟨j,hb,hj⟩⟩
 have hkeepE:∀b,b<w.heap.size→E.own b=none→w'.heap[b]? =w.heap[b]? ∧F.own b=none:=by
  intro b hb hn
  have:=c8.keep b hb (by simp[Env.sub,hn])
  refine⟨this.1,?_⟩
  simp only[F,this.2,hn]
 have hFbad:F.bad=E'.bad:=by
  funext b
  apply propext
  simp only[Env.bad,F]
  rw[c8.ext]
  simp only[Env.sub]
  cases hb:E'.own b with
  |some j=>simp
  |none=>
   simp only[ne_eq,not_true_eq_false,false_or]
   cases bz:E.own b with
   |none=>simp
   |some j=>
    cases hj:(lk T0 j).isSome with
    |true=>
     simp only[hj,if_true,not_true_eq_false,false_or]
     constructor
     ·intro hx;exact .inl hx
     ·rintro(hx|⟨k,hk,hkn⟩)
      ·exact hx
      ·simp at hk;subst hk;rw[hj]at hkn;cases hkn
    |false=>
     simp only[hj,Bool.false_eq_true,if_false,reduceCtorEq,not_false_eq_true,true_or,true_iff]
     exact .inr ⟨j,rfl,hj⟩
 have hK:eL w (E.pQ (gone T' (keys T0))) w' F:=by
  refine⟨?_,?_⟩
  ·intro b hb hn
   rw[(qH E _).1]at hn
   exact hkeepE b hb hn
  ·rw[(qH E _).2]
 have hV:∀k x,(E.pQ (gone T' (keys T0))).val k=some x→F.val k=some x:=by
  intro k x hk
  obtain⟨h1,h2⟩:=BC _ _ _ _ hk
  simp only[F]
  cases hT':(lk T' k).isSome with
  |true=>
   simp only[if_true]
   have hk0:(lk T0 k).isSome=true:=by
    rcases ue fy k hT' with h3|⟨h3,_⟩
    ·exact h3
    ·have:=h.tab.dead k (by simpa using h3)
     rw[this]at h1;cases h1
   rcases hp k x (by simp[Env.sub,hk0,h1])with h4|h4
   ·exact h4
   ·-- the object is there:it has a place
    cases hq:lk T' k with
    |none=>rw[hq]at hT';cases hT'
    |some ov=>
     have dL:=ht.obj k ov hq
     exfalso
     cases ov with
     |box t cells=>obtain⟨b,vs,e,_⟩:=dL;rw[h4]at e;cases e
     |vec t sz rows fr=>obtain⟨v,xs,e,_⟩:=dL;rw[h4]at e;cases e
     |mp a rows fr=>obtain⟨b,es,cl,e,_⟩:=dL;rw[h4]at e;cases e
     |it a rows fr n on=>obtain⟨b,o,e,_⟩:=dL;rw[h4]at e;cases e
  |false=>
   simp only[Bool.false_eq_true,if_false]
   cases hT0:(lk T0 k).isSome with
   |true=>exact absurd ((vG T' (keys T0) k).2 ⟨(mem_keys T0 k).2 hT0,hT'⟩) h2
   |false=>simpa using h1
 have hval':∀k x,E'.val k=some x→F.val k=some x:=by
  intro k x hk
  have:(lk T' k).isSome=true:=by
   cases hq:lk T' k with
   |none=>rw[ht.dead k hq]at hk;cases hk
   |some _=>rfl
  simp only[F,this,if_true];exact hk
 have hR':FR w' E' w' F:=fun b o hb bY=>⟨hb,by rw[hFbad];exact bY⟩
 have tI:∀k x,C.E0.val k=some x→F.val k=some x∨F.val k=none:=by
  intro k x hk
  have hid:=h.ids k (by rw[hk];simp)
  simp only[F]
  cases hT':(lk T' k).isSome with
  |true=>
   simp only[if_true]
   rcases ue fy k hT' with h3|⟨_,h3⟩
   ·rcases h.lL k x hk with h4|h4
    ·exact hp k x (by simp[Env.sub,h3,h4])
    ·exfalso
     cases hq:lk T0 k with
     |none=>rw[hq]at h3;cases h3
     |some ov=>
      have dL:=h.tab.obj k ov (hs k ov hq)
      cases ov with
      |box t cells=>obtain⟨b,vs,e,_⟩:=dL;rw[h4]at e;cases e
      |vec t sz rows fr=>obtain⟨v,xs,e,_⟩:=dL;rw[h4]at e;cases e
      |mp a rows fr=>obtain⟨b,es,cl,e,_⟩:=dL;rw[h4]at e;cases e
      |it a rows fr n on=>obtain⟨b,o,e,_⟩:=dL;rw[h4]at e;cases e
   ·omega
  |false=>
   cases hT0:(lk T0 k).isSome with
   |true=>exact .inr (by simp)
   |false=>simpa using h.lL k x hk
 refine⟨F,?_⟩
 have yJ:∀t s,lk (kA (gone T' (keys T0)) σ.ah) t=some s→VR w' F C.lo s (a.tmps.getD t undef):=fun t s hl=>
  VR.mono hK hV s _ (xD _ E _ h.ah t s hl)
 have lQ:bV w' F C.lo (σ.after T0 T').tab:=by
  refine⟨?_,?_,?_,?_⟩
  ·intro k ov hl
   simp only[St.after]at hl
   rw[pR]at hl
   split at hl
   ·rename_i x hx
    simp only[ZS]at hl;subst hl
    have dL:=ht.obj k x hx
    have hsm:(lk T' k).isSome=true:=by rw[hx];rfl
    refine OR.jA hR' hval' (fun b=>?_) (fun _ _=>rfl) dL
    simp only[F]
    cases hb:E'.own b with
    |some j=>simp
    |none=>
     simp only[reduceCtorEq,iff_false]
     cases bz:E.own b with
     |none=>simp
     |some j=>
      simp only
      cases hj:(lk T0 j).isSome with
      |true=>simp
      |false=>
       simp only[Bool.false_eq_true,if_false,ZS]
       intro e;subst e
       rcases ue fy j hsm with h3|⟨h3,_⟩
       ·rw[hj]at h3;cases h3
       ·exact(h.tab.own b j bz).2.2 (by simpa using h3)
   ·rename_i hx
    have gN:k ∉ keys T0∧∃o,lk σ.tab k=some o:=by
     have h1:(lk (rmK (keys T0) σ.tab) k).isSome=true:=by rw[←jF,hl];rfl
     cases hq:lk (rmK (keys T0) σ.tab) k with
     |none=>rw[hq]at h1;cases h1
     |some o=>have:=BE _ _ _ _ hq;exact⟨this.2,o,this.1⟩
    have hkT0:(lk T0 k).isSome=false:=by
     cases hq:(lk T0 k).isSome with
     |false=>rfl
     |true=>exact absurd ((mem_keys T0 k).2 hq) gN.1
    have dL:=BD (gone T' (keys T0)) E (rmK (keys T0) σ.tab) (fun j o hj=>by
     have:=BE _ _ _ _ hj
     exact⟨fun hg=>this.2 ((vG _ _ _).1 hg).1,h.tab.obj j o this.1⟩) k ov hl
    have hde:=(qH E (gone T' (keys T0))).1
    refine OR.mono hK hV (fun b=>?_) (fun b hb=>?_) dL
    ·rw[hde]
     simp only[F]
     cases hb:E'.own b with
     |some j=>
      simp only[ZS]
      have hj:=(ht.own b j hb).2.2
      constructor
      ·intro e;subst e;exact absurd hx hj
      ·intro e
       exfalso
       have h1:=hsubown b k e hkT0
       have h2:=(c8.keep b (h.tab.own b k e).1 h1.1).2
       rw[hb]at h2;cases h2
     |none=>
      simp only
      cases bz:E.own b with
      |none=>simp
      |some j=>
       simp only
       cases hj:(lk T0 j).isSome with
       |true=>
        simp only[if_true,reduceCtorEq,ZS,false_iff]
        intro e;subst e;rw[hkT0]at hj;cases hj
       |false=>simp
    ·rw[hde]at hb
     exact(c8.keep b (h.tab.own b k hb).1 (hsubown b k hb hkT0).1).1
  ·intro k hl
   simp only[St.after]at hl
   rw[pR]at hl
   split at hl
   ·cases hl
   ·rename_i hx
    have hn:(lk (rmK (keys T0) σ.tab) k).isSome=false:=by rw[←jF,hl];rfl
    simp only[F,hx,Option.isSome_none,Bool.false_eq_true,if_false]
    cases hT0:(lk T0 k).isSome with
    |true=>simp
    |false=>
     simp only[Bool.false_eq_true,if_false]
     have:k ∉ keys T0:=fun hm=>by rw[(mem_keys T0 k).1 hm]at hT0;cases hT0
     rw[vF _ _ _ this]at hn
     exact h.tab.dead k (by simpa using hn)
  ·intro b k ho
   simp only[F]at ho
   cases hb:E'.own b with
   |some j=>
    simp only[hb,ZS]at ho;subst ho
    have:=ht.own b j hb
    refine⟨this.1,this.2.1,?_⟩
    simp only[St.after];rw[pR]
    cases hq:lk T' j with
    |none=>exact absurd hq this.2.2
    |some x=>simp
   |none=>
    simp only[hb]at ho
    cases bz:E.own b with
    |none=>simp[bz]at ho
    |some j=>
     simp only[bz]at ho
     cases hj:(lk T0 j).isSome with
     |true=>simp[hj]at ho
     |false=>
      simp[hj]at ho;subst ho
      have h1:=h.tab.own b j bz
      refine⟨Nat.lt_of_lt_of_le h1.1 c8.size,h1.2.1,?_⟩
      simp only[St.after];rw[pR]
      cases hq:lk T' j with
      |some x=>simp
      |none=>
       have hnk:j ∉ keys T0:=fun hm=>by rw[(mem_keys T0 j).1 hm]at hj;cases hj
       have:(lk (lW (gone T' (keys T0)) (rmK (keys T0) σ.tab)) j).isSome=true:=by
        rw[jF,vF _ _ _ hnk]
        cases hq2:lk σ.tab j with
        |none=>exact absurd hq2 h1.2.2
        |some _=>rfl
       intro e;simp only at e;rw[e]at this;cases this
  ·intro b hx
   have h1:=h.tab.ext b hx
   exact⟨Nat.lt_of_lt_of_le h1.1 c8.size,(hkeepE b h1.1 h1.2).2⟩
 have hfrF:Fr w E w' F:=⟨c8.os,c8.tape,c8.output,c8.size,hkeepE,rfl⟩
 have hrF:=VR.jA hR' hval' r v hr
 cases dst with
 |none=>exact⟨h.size,h.defers,yJ,lQ,h.fr.trans hfrF,h.lo,h.ids,tI⟩
 |some d=>
  refine⟨by simp[Act.put,h.size],h.defers,?_,lQ,h.fr.trans hfrF,h.lo,h.ids,tI⟩
  intro t s hl
  simp only[St.put]at hl
  by_cases he:t=d
  ·subst he
   rw[aB]at hl;cases hl
   have:t<a.tmps.size:=by rw[h.size];exact hd t rfl
   simp only[Act.put,Array.getD_eq_getD_getElem?,Array.getElem?_setIfInBounds,if_true,this]
   exact hrF
  ·rw[aw _ _ _ _ he]at hl
   simpa[Act.put,Array.getElem?_setIfInBounds,Ne.symm he]using yJ t s hl
def aP(P:Program)(g:FuncId):Bool:=
 match P.funcs[g]? with
 |some fn=>match fn.body with
  |some _=> !(fn.name== "runtime.NumGoroutine")
  |none=>false
 |none=>false
theorem nP{P:Program}{w:World}{g:FuncId}{args:Array Value}(h:aP P g=true):(callFunc g args).run P w= .ok (.enter g args) w:=by
 unfold aP at h
 split at h
 ·rename_i fn hf
  split at h
  ·rename_i c hb
   have hn:¬ fn.name= "runtime.NumGoroutine" :=by simpa using h
   simp[callFunc,hf,hn,hb]
  ·cases h
 ·cases h
def apps{α:Type}:List α→List α→List α
 | [],b=>b
 |x::a,b=>x::apps a b
theorem Dv{α:Type}:∀(a b:List α),apps a b=a++b
 | [],b=>rfl
 |x::a,b=>by simp[apps,Dv a b]
def methodOf(P:Program)(t:TypeId)(name:String):Option FuncId:=
 match P.info? t with
 |some i=>match i.methods.find? (·.name==name)with
  |some m=>match m.path.toList,m.func,P.underlying t with
   | [],some (f,false),some (.struct _)=>some f
   |_,_,_=>none
  |none=>none
 |none=>none
def r6(P:Program)(σ:St)(o:Oper):Option (FuncId×List SV):=
 match o.op with
 | .call c=>match c.callee with
  | .value f=>match ev σ f with
   | .fn (.func g) first aQ=>some (g,apps first (apps (evs σ c.args.toList) aQ))
   |_=>none
  | .invoke r m=>match ev σ r with
   | .cL t x=>match methodOf P t m with
    |some g=>some (g,x::evs σ c.args.toList)
    |none=>none
   |_=>none
  |_=>none
 |_=>none
theorem KN{P:Program}{t:TypeId}{name:String}{g:FuncId}(h:methodOf P t name=some g)(v:Value)(n:Nat)(w:World):(method (n+1) t v name).run P w= .ok (g,v) w:=by
 unfold methodOf at h
 split at h
 ·rename_i i hi
  split at h
  ·rename_i m hm
   split at h
   ·rename_i f fs hp hf hu
    simp only[ZS]at h;subst h
    simp[method,typeInfo,hi,hm,hp,hf,follow,receiverAt,run_underlying hu,Place.get]
   ·cases h
  ·cases h
 ·cases h
theorem KO{C:Ctx}{E:Env}{σ:St}{a:Act}{w:World}{o:Oper}{g:FuncId}{svs:List SV}(h:aC C E σ a w)(hc:r6 C.P σ o=some (g,svs))(ab:aP C.P g=true):
  ∃vals,VRs w E C.lo svs vals∧(execOp a.eval o).run C.P w= .ok (.enter g vals.toArray) w:=by
 unfold r6 at hc
 split at hc
 ·rename_i c kU
  have rj:=yS h c.args.toList
  split at hc
  ·rename_i f hcv
   split at hc
   ·rename_i g' first aQ hf
    simp only[ZS,ZT]at hc;obtain⟨rfl,rfl⟩:=hc
    have az:=bO h f
    rw[hf]at az;simp only[VR]at az
    obtain⟨vs,ws,hfv,gM,hws⟩:=az
    have fS:=jC gM (jC rj hws)
    rw[Dv,Dv]
    refine⟨_,fS,?_⟩
    unfold execOp
    simp only[kU,resolve,hcv,hfv,Deferred.ofValue,pure_bind,invoke]
    have e:(vs.toArray++Array.map a.eval c.args)++ws.toArray=(vs++(c.args.toList.map a.eval++ws)).toArray:=by
     apply Array.ext';simp
    rw[e]
    exact nP ab
   ·cases hc
  ·rename_i r m hcv
   split at hc
   ·rename_i t x hf
    split at hc
    ·rename_i g' hm
     simp only[ZS,ZT]at hc;obtain⟨rfl,rfl⟩:=hc
     have az:=bO h r
     rw[hf]at az;simp only[VR]at az
     obtain⟨y,hfv,hy⟩:=az
     refine⟨y::c.args.toList.map a.eval,⟨hy,rj⟩,?_⟩
     unfold execOp
     simp only[kU,resolve,hcv,hfv,pure_bind,invoke]
     have e:(#[Value.iface t y]++Array.map a.eval c.args).extract 1 (#[Value.iface t y]++Array.map a.eval c.args).size=Array.map a.eval c.args:=by
      apply Array.ext';simp[List.take_of_length_le]
     have e2:(#[y]++Array.map a.eval c.args)=(y::c.args.toList.map a.eval).toArray:=by
      apply Array.ext';simp
     have e4:(#[Value.iface t y]++Array.map a.eval c.args)=(Value.iface t y::c.args.toList.map a.eval).toArray:=by
      apply Array.ext';simp
     have e3:(#[Value.iface t y]++Array.map a.eval c.args)[0]? =some (.iface t y):=by rw[e4];rfl
     simp only[e3,e,callMethod]
     have hmr:=KN hm y (C.P.types.size+Made.depth - 1) w
     have hd:C.P.types.size+Made.depth - 1+1=C.P.types.size+Made.depth:=by unfold Made.depth;omega
     rw[hd]at hmr
     simp only[Sem.run_bind,run_program,Result.andThen_ok,hmr]
     rw[e2]
     exact nP ab
    ·cases hc
   ·cases hc
  ·cases hc
 ·cases hc
theorem FnS.mono{P:Program}{f:FuncId}{args:List SV}{T:Tab}{R R':SV→Tab→Prop}(h:FnS P f args T R)(hr:∀r T',R r T'→R' r T'):FnS P f args T R':=by
 intro lo w E vals aR ht hv
 refine(h lo w E vals aR ht hv).mono ?_
 rintro e w' ⟨r,v,T',E',rfl,hR,rest⟩
 exact⟨r,v,T',E',rfl,hr r T' hR,rest⟩
end Go.TL
