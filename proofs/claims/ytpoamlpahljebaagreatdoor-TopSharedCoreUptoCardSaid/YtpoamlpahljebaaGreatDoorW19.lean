/- Runs of operations; code. -/
import Derived.Test.YtpoamlpahljebaaGreatDoorW18
namespace Go.TL
def aS(P:Program)(I:Pr)(n:Nat)(o:Oper)(σ:DSt)(outs:List DSt):Prop:=
 σ.sc→(∀σ'∈outs,σ'.sc∧σ.nx≤σ'.nx)∧∀ρ,σ.ok P I ρ→∀(K:Act→World→Prop) (Q:Exit→Act→World→Prop) (lo:Nat) (w0:World) (E0:Env),
  (∀σ'∈outs,∀ρ',au σ.nx ρ ρ'→σ'.ok P I ρ'→∀a' w',Holds (mkC P n lo w0 E0) (σ'.v ρ') a' w'→K a' w')→
  ∀a w,Holds (mkC P n lo w0 E0) (σ.v ρ) a w→(∀d,o.dst=some d→d<n)→o.wp P a w K Q
abbrev bj:=Option (List DSt×List Seq)
def Handler(P:Program)(I:Pr)(n:Nat)(CL:DSt→Oper→bj):Prop:=
 ∀σ o outs q,CL σ o=some (outs,q)→Valid P I q→aS P I n o σ outs
def A8(P:Program)(σ:DSt)(d:Nat):Option DSt:=
 match lk σ.tab d with
 |some (.vec e sz (some l) false)=>match scalars (cks P e),lk σ.tys l with
  |true,some e'=>match Nat.beq e e' with|true=>some (σ.setObj d (.vec e sz (some l) true))|false=>none
  |_,_=>none
 |_=>none
theorem QN{P:Program}{w:World}{bad:Nat→Prop}{lo jb:Nat}{c:CK}{x:PV}{v:Value}(hs:(∃k,c= .int k)∨c= .bool∨c= .str)(hw:WT P c x)(h:Rep w bad lo x v):Rep w bad jb x v:=by
 obtain⟨⟨y,rfl⟩,_⟩:=xI hs hw
 cases h with|v _ hx=>exact .v _ hx
theorem LJ{P:Program}{I:Pr}{σ σ':DSt}{d:Nat}{ρ:Ro}(h:A8 P σ d=some σ')(ab:σ.ok P I ρ){C:Ctx}{E:Env}{a:Act}{w:World}(hh:aC C E (σ.v ρ) a w):aC C E (σ'.v ρ) a w:=by
 unfold A8 at h
 split at h
 ·rename_i e sz l hl
  split at h
  ·rename_i e' hs aJ
   split at h
   ·rename_i he
    simp only[ZS]at h;subst h
    have:=ZU he;subst this
    have ht:=eE ab.tys aJ
    refine{hh with ah:= ?_,tab:= ?_}
    ·rw[mT];exact hh.ah
    ·have hd:=hh.tab.obj d _ (dJ hl)
     rw[mT]
     refine⟨fun k ov hk=>?_,fun k hk=>?_,fun b k hb=>?_,hh.tab.ext⟩
     ·rw[cK]at hk
      split at hk
      ·rename_i e1;subst e1
       simp only[ZS]at hk;subst hk
       obtain⟨v,xs,h1,h2,h3,h4,f,f1,f2,f3⟩:=hd
       refine⟨v,xs,h1,h2,h3,h4,f,f1,f2,fun i row j x hi hj=>?_⟩
       have hr:=ht.2 row (Z2 hi)
       have hw:=(ay _ _).1 hr
       have ow:j<(cks P e).length:=by rw[←hw.1];exact(ZY hj).1
       exact QN (j4 hs _ (List.getElem_mem ow)) (hw.2 j _ x (List.getElem?_eq_getElem ow) hj) (f3 i row j x hi hj)
      ·rename_i e1;rw[cM _ _ _ e1]at hk;exact hh.tab.obj k ov hk
     ·rw[cK]at hk
      split at hk
      ·cases hk
      ·rename_i e1;rw[cM _ _ _ e1]at hk;exact hh.tab.dead k hk
     ·obtain⟨h1,h2,h3⟩:=hh.tab.own b k hb
      refine⟨h1,h2,?_⟩
      rw[cK]
      split
      ·simp
      ·rename_i e1;rw[cM _ _ _ e1];exact h3
   ·cases h
  ·cases h
 ·cases h
theorem Tt{P:Program}{σ σ':DSt}{d:Nat}(h:A8 P σ d=some σ')(hs:σ.sc):σ'.sc∧σ'.nx=σ.nx:=by
 unfold A8 at h
 split at h
 ·rename_i e sz l hl
  split at h
  ·split at h
   ·simp only[ZS]at h;subst h
    have:=hs.tab d _ hl
    exact⟨ns hs this,rfl⟩
   ·cases h
  ·cases h
 ·cases h
theorem Tv{P:Program}{I:Pr}{σ σ':DSt}{d:Nat}{ρ:Ro}(h:A8 P σ d=some σ')(ab:σ.ok P I ρ):σ'.ok P I ρ:=by
 unfold A8 at h
 split at h
 ·split at h
  ·split at h
   ·simp only[ZS]at h;subst h;exact⟨ab.g,ab.tys,ab.lin,ab.prs⟩
   ·cases h
  ·cases h
 ·cases h
def upD(P:Program)(d:Option Nat)(σ:DSt):DSt:=
 match d with
 |some d=>match A8 P σ d with|some σ'=>σ'|none=>σ
 |none=>σ
theorem VK{P:Program}{d:Option Nat}{σ:DSt}(hs:σ.sc):(upD P d σ).sc∧(upD P d σ).nx=σ.nx:=by
 unfold upD
 split
 ·split
  ·rename_i h;exact Tt h hs
  ·exact⟨hs,rfl⟩
 ·exact⟨hs,rfl⟩
theorem VL{P:Program}{I:Pr}{d:Option Nat}{σ:DSt}{ρ:Ro}(ab:σ.ok P I ρ):(upD P d σ).ok P I ρ:=by
 unfold upD
 split
 ·split
  ·rename_i h;exact Tv h ab
  ·exact ab
 ·exact ab
theorem Ou{P:Program}{I:Pr}{d:Option Nat}{σ:DSt}{ρ:Ro}(ab:σ.ok P I ρ){C:Ctx}{a:Act}{w:World}(hh:Holds C (σ.v ρ) a w):Holds C ((upD P d σ).v ρ) a w:=by
 obtain⟨E,hh⟩:=hh
 unfold upD
 split
 ·split
  ·rename_i h;exact⟨E,LJ h ab hh⟩
  ·exact⟨E,hh⟩
 ·exact⟨E,hh⟩
def LK(P:Program)(CL:DSt→Oper→bj)(σ:DSt)(o:Oper):bj:=
 match dop P σ o with
 |some (σ',gs)=>some ([upD P o.dst (Ga σ')],todo σ gs)
 |none=>CL σ o
theorem A9{P:Program}{I:Pr}{n:Nat}{σ σ':DSt}{o:Oper}{gs:List G}(h:dop P σ o=some (σ',gs))(hV:Valid P I (todo σ gs)):aS P I n o σ [σ']:=by
 intro hs
 obtain⟨h1,h2,h3⟩:=A1 (I:=I) h hs
 refine⟨by simp[h1,h2],?_⟩
 intro ρ ab K Q lo w0 E0 hK a w hh hd
 obtain⟨ρ',ha,cR,H,s,ps,e1,e2,e3⟩:=h3 ρ ab (jq ab hV)
 obtain⟨v,w',aW,fm⟩:=Ns (C:=mkC P n lo w0 E0) e1 e2 hh hd
 unfold Oper.wp
 rcases aW with aW|⟨aW,rfl⟩
 ·change Sem.run P _ _=_ at aW
  rw[aW];exact hK σ' (by simp) ρ' ha cR _ _ (e3.holds fm)
 ·change Sem.run P _ _=_ at aW
  rw[aW];exact hK σ' (by simp) ρ' ha cR _ _ (e3.holds fm)
theorem LL{P:Program}{I:Pr}{n:Nat}{CL:DSt→Oper→bj}(hC:Handler P I n CL){σ:DSt}{o:Oper}{outs:List DSt}{q:List Seq}(h:LK P CL σ o=some (outs,q))(hV:Valid P I q):aS P I n o σ outs:=by
 unfold LK at h
 split at h
 ·rename_i σ' gs hd
  simp only[ZS,ZT]at h;obtain⟨rfl,rfl⟩:=h
  have x:=A9 (n:=n) hd hV
  intro hs
  obtain⟨h1,h2⟩:=x hs
  have g:=QM (P:=P) (I:=I) (σ:=σ')
  have hσ:=h1 σ' (by simp)
  have hu:=VK (P:=P) (d:=o.dst) (g.sc hσ.1)
  refine⟨fun y hy=>by simp only[List.mem_singleton]at hy;subst hy;exact⟨hu.1,hu.2▸Nat.le_trans hσ.2 g.nx⟩,?_⟩
  intro ρ ab K Q lo w0 E0 hK a w hh hd'
  refine h2 ρ ab K Q lo w0 E0 ?_ a w hh hd'
  intro y hy ρ' ha cR a' w' hh'
  simp only[List.mem_singleton]at hy;subst hy
  obtain⟨ρ2,a2,o2,s2⟩:=g.run hσ.1 ρ' cR
  exact hK (upD P o.dst (Ga y)) (List.mem_singleton.2 rfl) ρ2 (ha.trans a2 hσ.2) (VL o2) a' w' (Ou o2 (s2.holds hh'))
 ·exact hC σ o outs q h hV
def ew(σ:DSt):Bool→BF→List Lin×List PF
 |true,.le e=>([e],[])
 |false,.le e=>([p5 e],[])
 |true,.eq e=>([e,Lin.scale (-1) e],[])
 |false,.eq e=>match cW σ (Lin.scale (-1) e)with
  |true=>([p5 e],[])
  |false=>match cW σ e with
   |true=>([e.aN 1],[])
   |false=>([],[.je (.not (.eq e))])
 |b,.not f=>ew σ (!b) f
 |true,.and f g=>((ew σ true f).1++(ew σ true g).1,(ew σ true f).2++(ew σ true g).2)
 |false,.or f g=>((ew σ false f).1++(ew σ false g).1,(ew σ false f).2++(ew σ false g).2)
 |true,f=>([],[.je f])
 |false,f=>([],[.je (.not f)])
theorem sH{P:Program}{I:Pr}{σ:DSt}{ρ:Ro}(ab:σ.ok P I ρ):∀(f:BF) (b:Bool),f.v ρ=b→bh ρ (ew σ b f).1∧c5 I ρ (ew σ b f).2
 | .le e,true,h=>by simp only[BF.v,decide_eq_true_eq]at h;exact⟨⟨h,trivial⟩,trivial⟩
 | .le e,false,h=>by
  simp only[BF.v,decide_eq_false_iff_not]at h
  exact⟨⟨by simp only[p5,Lin.aO,Lin.bE];omega,trivial⟩,trivial⟩
 | .eq e,true,h=>by
  simp only[BF.v,decide_eq_true_eq]at h
  exact⟨⟨by omega,by rw[Lin.bE];omega,trivial⟩,trivial⟩
 | .eq e,false,h=>by
  have h':=h
  simp only[BF.v,decide_eq_false_iff_not]at h
  simp only[ew]
  split
  ·rename_i hp
   have:=cB ab hp
   rw[Lin.bE]at this
   exact⟨⟨by simp only[p5,Lin.aO,Lin.bE];omega,trivial⟩,trivial⟩
  ·split
   ·rename_i hp
    have:=cB ab hp
    exact⟨⟨by rw[Lin.aO];omega,trivial⟩,trivial⟩
   ·exact⟨trivial,⟨by simp only[PF.v,BF.v];simp[h],trivial⟩⟩
 | .not f,true,h=>by simp only[BF.v]at h;simp only[ew];exact sH ab f false (by simpa using h)
 | .not f,false,h=>by simp only[BF.v]at h;simp only[ew];exact sH ab f true (by simpa using h)
 | .and f g,true,h=>by
  simp only[BF.v,Bool.and_eq_true]at h
  have a:=sH ab f true h.1
  have b:=sH ab g true h.2
  exact⟨dH a.1 b.1,mP.2 ⟨a.2,b.2⟩⟩
 | .and f g,false,h=>⟨trivial,⟨by have:(BF.and f g).v ρ=false:=h;simp only[PF.v,BF.v]at this ⊢;simp[this],trivial⟩⟩
 | .or f g,false,h=>by
  simp only[BF.v,Bool.or_eq_false_iff]at h
  have a:=sH ab f false h.1
  have b:=sH ab g false h.2
  exact⟨dH a.1 b.1,mP.2 ⟨a.2,b.2⟩⟩
 | .or f g,true,h=>⟨trivial,⟨h,trivial⟩⟩
 | .lit c,true,h=>⟨trivial,⟨h,trivial⟩⟩
 | .lit c,false,h=>⟨trivial,⟨by have:(BF.lit c).v ρ=false:=h;simp only[PF.v,BF.v]at this ⊢;simp[this],trivial⟩⟩
 | .var k,true,h=>⟨trivial,⟨h,trivial⟩⟩
 | .var k,false,h=>⟨trivial,⟨by have:(BF.var k).v ρ=false:=h;simp only[PF.v,BF.v]at this ⊢;simp[this],trivial⟩⟩
theorem oW{σ:DSt}{n:Nat}:∀(f:BF) (b:Bool),Sc n f.vars→(∀e∈(ew σ b f).1,Sc n e.vars)∧∀p∈(ew σ b f).2,Sc n p.vars
 | .le e,true,h=>by simp only[ew];exact⟨by intro x hx;simp only[List.mem_singleton]at hx;subst hx;exact h,by simp⟩
 | .le e,false,h=>by simp only[ew];exact⟨by intro x hx;simp only[List.mem_singleton]at hx;subst hx;exact Lin.bI (Lin.dW h),by simp⟩
 | .eq e,true,h=>by
  simp only[ew]
  refine⟨?_,by simp⟩
  intro x hx
  simp only[List.mem_cons,List.mem_nil_iff,or_false]at hx
  rcases hx with rfl|rfl
  ·exact h
  ·exact Lin.dW h
 | .eq e,false,h=>by
  simp only[ew]
  split
  ·exact⟨by intro x hx;simp only[List.mem_singleton]at hx;subst hx;exact Lin.bI (Lin.dW h),by simp⟩
  ·split
   ·exact⟨by intro x hx;simp only[List.mem_singleton]at hx;subst hx;exact Lin.bI h,by simp⟩
   ·exact⟨by simp,by intro x hx;simp only[List.mem_singleton]at hx;subst hx;exact h⟩
 | .not f,true,h=>by simp only[ew];exact oW f false h
 | .not f,false,h=>by simp only[ew];exact oW f true h
 | .and f g,true,h=>by
  simp only[BF.vars,Sc.app]at h
  have a:=oW (σ:=σ) f true h.1
  have b:=oW (σ:=σ) g true h.2
  simp only[ew]
  exact⟨fun x hx=>(Z0 hx).elim (a.1 x) (b.1 x),fun x hx=>(Z0 hx).elim (a.2 x) (b.2 x)⟩
 | .and f g,false,h=>by simp only[ew];exact⟨by simp,by intro x hx;simp only[List.mem_singleton]at hx;subst hx;exact h⟩
 | .or f g,false,h=>by
  simp only[BF.vars,Sc.app]at h
  have a:=oW (σ:=σ) f false h.1
  have b:=oW (σ:=σ) g false h.2
  simp only[ew]
  exact⟨fun x hx=>(Z0 hx).elim (a.1 x) (b.1 x),fun x hx=>(Z0 hx).elim (a.2 x) (b.2 x)⟩
 | .or f g,true,h=>by simp only[ew];exact⟨by simp,by intro x hx;simp only[List.mem_singleton]at hx;subst hx;exact h⟩
 | .lit c,true,h=>by simp only[ew];exact⟨by simp,by intro x hx;simp only[List.mem_singleton]at hx;subst hx;exact h⟩
 | .lit c,false,h=>by simp only[ew];exact⟨by simp,by intro x hx;simp only[List.mem_singleton]at hx;subst hx;exact h⟩
 | .var k,true,h=>by simp only[ew];exact⟨by simp,by intro x hx;simp only[List.mem_singleton]at hx;subst hx;exact h⟩
 | .var k,false,h=>by simp only[ew];exact⟨by simp,by intro x hx;simp only[List.mem_singleton]at hx;subst hx;exact h⟩
def DSt.asm(σ:DSt)(t:Option Nat)(b:Bool)(f:BF):DSt:=
 let r:=ew σ b f
 {σ with ah:=(match t with|some t=>(t,.p (.bl (.lit b)) true)::σ.ah|none=>σ.ah),lin:=r.1++σ.lin,prs:=r.2++σ.prs}
theorem HK{σ:DSt}(hs:σ.sc)(t:Option Nat)(b:Bool){f:BF}(hf:Sc σ.nx f.vars):(σ.asm t b f).sc:=by
 have h:=oW (σ:=σ) f b hf
 refine⟨?_,hs.tab,hs.tys,?_,?_⟩
 ·intro j v hl
  cases t with
  |none=>exact hs.ah j v hl
  |some t=>
   simp only[DSt.asm,cK]at hl
   split at hl
   ·simp only[ZS]at hl;subst hl;simp[DV.vars,DP.vars,BF.vars,Sc.nil]
   ·exact hs.ah j v hl
 ·intro e he;exact(Z0 he).elim (h.1 e) (hs.lin e)
 ·intro e he;exact(Z0 he).elim (h.2 e) (hs.prs e)
theorem HL{P:Program}{I:Pr}{σ:DSt}{ρ:Ro}(ab:σ.ok P I ρ)(t:Option Nat){b:Bool}{f:BF}(hf:f.v ρ=b):(σ.asm t b f).ok P I ρ:=by
 have h:=sH ab f b hf
 exact⟨ab.g,ab.tys,dH h.1 ab.lin,mP.2 ⟨h.2,ab.prs⟩⟩
theorem HM{σ:DSt}{ρ:Ro}(t:Option Nat){b:Bool}{f:BF}(hf:f.v ρ=b)(ht:∀j,t=some j→∃fr,lk σ.ah j=some (.p (.bl f) fr)){C:Ctx}{a:Act}{w:World}(h:Holds C (σ.v ρ) a w):Holds C ((σ.asm t b f).v ρ) a w:=by
 obtain⟨E,e⟩:=h
 refine⟨E,e.size,e.defers,?_,e.tab,e.fr,e.lo,e.ids,e.lL⟩
 intro j sv hl
 cases t with
 |none=>exact e.ah j sv hl
 |some t=>
  simp only[DSt.asm,DSt.v,cV,cK]at hl
  split at hl
  ·rename_i hj
   subst hj
   simp only[ZS]at hl;subst hl
   obtain⟨fr,h1⟩:=ht j rfl
   have:=e.ah j (.p (.v (.bool b)) fr) (by simp only[DSt.v,fQ,h1,Option.map_some,DV.v,DP.v,hf])
   rw[dh this]
   simp only[DV.v,DP.v,BF.v]
   exact dR true rfl
  ·exact e.ah j sv hl
inductive Wd where
 |yes
 |no
 |split(t:Nat)(f:BF)(want:Bool)
 |bad
def zo(σ:DSt)(ops:List Oper)(o:Oper):Wd:=
 match o.guard with
 |none=> .yes
 |some (j,want)=>match ops[j]? with
  |some oj=>match oj.dst with
   |some t=>match lk σ.ah t with
    |some (.p (.bl f) _)=>match f with
     | .lit b=>match b,want with|true,true=> .yes|false,false=> .yes|_,_=> .no
     |f=> .split t f want
    |some (.bL [])=> .no
    |_=> .bad
   |none=> .bad
  |none=> .bad
theorem Tw{σ:DSt}{ops:List Oper}{o:Oper}(ρ:Ro):match zo σ ops o with
  | .yes=>gE (σ.v ρ) ops o=some true
  | .no=>gE (σ.v ρ) ops o=some false
  | .split t f want=>(∃fr,lk σ.ah t=some (.p (.bl f) fr))∧gE (σ.v ρ) ops o=some (f.v ρ==want)
  | .bad=>True:=by
 unfold zo gE
 cases o.guard with
 |none=>rfl
 |some g=>
  obtain⟨j,want⟩:=g
  simp only
  cases ops[j]? with
  |none=>trivial
  |some oj=>
   simp only
   cases oj.dst with
   |none=>trivial
   |some t=>
    simp only[DSt.v,fQ]
    cases hl:lk σ.ah t with
    |none=>trivial
    |some x=>
     cases x with
     |p y fr=>
      cases y with
      |bl f=>
       simp only[Option.map_some,DV.v,DP.v]
       cases f with
       |lit b=>cases b<;>cases want<;>rfl
       |_=>exact⟨⟨fr,hl⟩,rfl⟩
      |_=>trivial
     |bL xs=>cases xs with
      |nil=>simp only[Option.map_some,DV.v,dvs]
      |cons _ _=>trivial
     |_=>trivial
def ny(f:DSt→bj):List DSt→bj
 | []=>some ([],[])
 |σ::r=>match f σ,ny f r with
  |some (a,q),some (b,q')=>some (a++b,q++q')
  |_,_=>none
def zp:bj→bj→bj
 |some (a,q),some (b,q')=>some (a++b,q++q')
 |_,_=>none
def zq(q:List Seq):bj→bj
 |some (a,q')=>some (a,q++q')
 |none=>none
theorem Cu{x y:bj}{r:List DSt}{q:List Seq}(h:zp x y=some (r,q)):∃a p b p',x=some (a,p)∧y=some (b,p')∧r=a++b∧q=p++p':=by
 unfold zp at h
 split at h
 ·simp only[ZS,ZT]at h;exact⟨_,_,_,_,rfl,rfl,h.1.symm,h.2.symm⟩
 ·cases h
theorem sI{x:bj}{r:List DSt}{q q0:List Seq}(h:zq q0 x=some (r,q)):∃p,x=some (r,p)∧q=q0++p:=by
 unfold zq at h
 split at h
 ·simp only[ZS,ZT]at h;obtain⟨rfl,rfl⟩:=h;exact⟨_,rfl,rfl⟩
 ·cases h
theorem mn{f:DSt→bj}:∀{S:List DSt} {r:List DSt} {q:List Seq},ny f S=some (r,q)→∀σ∈S,∃a p,f σ=some (a,p)∧(∀x∈a,x∈r)∧∀s∈p,s∈q
 | [],r,q,h,σ,hσ=>by simp at hσ
 |σ0::S,r,q,h,σ,hσ=>by
  simp only[ny]at h
  split at h
  ·rename_i a p b p' h1 h2
   simp only[ZS,ZT]at h;obtain⟨rfl,rfl⟩:=h
   rcases Z1 hσ with rfl|hσ
   ·exact⟨a,p,h1,fun x hx=>ZZ (.inl hx),fun s hs=>ZZ (.inl hs)⟩
   ·obtain⟨a',q',e1,e2,e3⟩:=mn h2 σ hσ
    exact⟨a',q',e1,fun x hx=>ZZ (.inr (e2 x hx)),fun s hs=>ZZ (.inr (e3 s hs))⟩
  ·cases h
theorem sJ{f:DSt→bj}:∀{S:List DSt} {r:List DSt} {q:List Seq},ny f S=some (r,q)→∀x∈r,∃σ∈S,∃a p,f σ=some (a,p)∧x∈a
 | [],r,q,h,x,hx=>by simp only[ny,ZS,ZT]at h;rw[←h.1]at hx;simp at hx
 |σ0::S,r,q,h,x,hx=>by
  simp only[ny]at h
  split at h
  ·rename_i a p b p' h1 h2
   simp only[ZS,ZT]at h;obtain⟨rfl,rfl⟩:=h
   rcases Z0 hx with hx|hx
   ·exact⟨σ0,ZW ..,a,p,h1,hx⟩
   ·obtain⟨σ,hσ,r⟩:=sJ h2 x hx
    exact⟨σ,ZV _ hσ,r⟩
  ·cases h
def uL(ops:List Oper)(o:Oper)(go next:DSt→bj)(σ:DSt):bj:=
 match zo σ ops o with
 | .yes=>go σ
 | .no=>next (σ.put o.dst (.bL []))
 | .split t f want=>match want with
  |true=>zp (go (σ.asm (some t) true f)) (next ((σ.asm (some t) false f).put o.dst (.bL [])))
  |false=>zp (next ((σ.asm (some t) true f).put o.dst (.bL []))) (go (σ.asm (some t) false f))
 | .bad=>none
def LM(P:Program)(CL:DSt→Oper→bj)(o:Oper)(next:DSt→bj)(σ:DSt):bj:=
 match LK P CL σ o with
 |some (outs,q)=>zq q (ny next outs)
 |none=>none
def yd(P:Program)(o:Oper)(next:DSt→bj)(σ:DSt):bj:=
 match dop P σ o with
 |some (σ',gs)=>zq (todo σ gs) (next σ')
 |none=>none
def zt(P:Program)(n:Nat)(CL:DSt→Oper→bj)(ops:List Oper):List Nat→DSt→bj
 | [],σ=>some ([σ],[])
 |i::is,σ=>match ops[i]? with
  |none=>none
  |some o=>match GF n o with
   |true=>uL ops o (LM P CL o (zt P n CL ops is)) (zt P n CL ops is) σ
   |false=>none
structure j9(P:Program)(I:Pr)(A B:St→Prop)(σ:DSt)(outs:List DSt):Prop where
 sc:∀σ'∈outs,σ'.sc∧σ.nx≤σ'.nx
 run:∀ρ,σ.ok P I ρ→(∀σ'∈outs,∀ρ',au σ.nx ρ ρ'→σ'.ok P I ρ'→B (σ'.v ρ'))→A (σ.v ρ)
structure wy(P:Program)(I:Pr)(ops:List Oper)(o:Oper)(b:Bool)(A B:St→Prop)(σ:DSt)(outs:List DSt):Prop where
 sc:∀σ'∈outs,σ'.sc∧σ.nx≤σ'.nx
 run:∀ρ,σ.ok P I ρ→gE (σ.v ρ) ops o=some b→(∀σ'∈outs,∀ρ',au σ.nx ρ ρ'→σ'.ok P I ρ'→B (σ'.v ρ'))→A (σ.v ρ)
def VM(P:Program)(n:Nat)(A:St→Prop):Prop:=∀s s',(∀lo w0 E0 a w,Holds (mkC P n lo w0 E0) s a w→Holds (mkC P n lo w0 E0) s' a w)→A s'→A s
theorem Sn{σ:DSt}(hs:σ.sc)(dst:Option Nat):(σ.put dst (.bL [])).sc∧σ.nx≤(σ.put dst (.bL [])).nx:=⟨hs.put dst (by simp[DV.vars,aD,Sc.nil]),by rw[di];exact Nat.le_refl _⟩
theorem HN{σ:DSt}{ops:List Oper}{o:Oper}{t:Nat}{f:BF}{want:Bool}(hw:zo σ ops o= .split t f want)(b:Bool)(ρ:Ro):gE ((σ.asm (some t) b f).v ρ) ops o=some (b==want):=by
 unfold gE
 unfold zo at hw
 cases hg:o.guard with
 |none=>simp[hg]at hw
 |some g=>
  obtain⟨j,wt⟩:=g
  simp only[hg]at hw ⊢
  cases lJ:ops[j]? with
  |none=>simp[lJ]at hw
  |some oj=>
   simp only[lJ]at hw ⊢
   cases dm:oj.dst with
   |none=>simp[dm]at hw
   |some t'=>
    simp only[dm]at hw ⊢
    have htt:t'=t∧wt=want:=by
     cases hq:lk σ.ah t' with
     |none=>simp[hq]at hw
     |some y=>
      rw[hq]at hw
      cases y with
      |p z fr'=>
       cases z with
       |bl g'=>
        simp only at hw
        cases g' with
        |lit c=>cases c<;>cases wt<;>simp at hw
        |_=>simp only[Wd.split.injEq]at hw;exact⟨hw.1,hw.2.2⟩
       |_=>simp at hw
      |bL xs=>cases xs<;>simp at hw
      |_=>simp at hw
    obtain⟨rfl,rfl⟩:=htt
    simp only[DSt.asm,DSt.v,cV,aB,DV.v,DP.v,BF.v]
theorem pG{P:Program}{I:Pr}{n:Nat}{ops:List Oper}{o:Oper}{A B:St→Prop}{go next:DSt→bj}(hA:VM P n A)
  (hgo:∀σ outs q,go σ=some (outs,q)→Valid P I q→σ.sc→wy P I ops o true A B σ outs)
  (ky:∀σ outs q,next (σ.put o.dst (.bL []))=some (outs,q)→Valid P I q→σ.sc→wy P I ops o false A B σ outs)
  {σ:DSt}{outs:List DSt}{q:List Seq}(h:uL ops o go next σ=some (outs,q))(hV:Valid P I q)(hs:σ.sc):j9 P I A B σ outs:=by
 unfold uL at h
 have hwv:=fun ρ=>Tw (σ:=σ) (ops:=ops) (o:=o) ρ
 cases hw:zo σ ops o with
 |yes=>
  simp only[hw]at h hwv
  have g:=hgo σ outs q h hV hs
  exact⟨g.sc,fun ρ ab hB=>g.run ρ ab (hwv ρ) hB⟩
 |no=>
  simp only[hw]at h hwv
  have g:=ky σ outs q h hV hs
  exact⟨g.sc,fun ρ ab hB=>g.run ρ ab (hwv ρ) hB⟩
 |bad=>simp[hw]at h
 |split t f want=>
  simp only[hw]at h hwv
  obtain⟨fr,hlk⟩:=(hwv (fun _=>default)).1
  have hfsc:Sc σ.nx f.vars:=by have:=hs.ah t _ hlk;simpa[DV.vars,DP.vars]using this
  have hsT:=HK hs (some t) true hfsc
  have hsF:=HK hs (some t) false hfsc
  have hlkj:∀j,some t=some j→∃fr,lk σ.ah j=some (.p (.bl f) fr):=fun j hj=>by cases hj;exact⟨fr,hlk⟩
  have fin:∀(oT oF:List DSt) (bT bF:Bool),bT=(true==want)→bF=(false==want)→wy P I ops o bT A B (σ.asm (some t) true f) oT→wy P I ops o bF A B (σ.asm (some t) false f) oF→j9 P I A B σ (oT++oF):=by
   intro oT oF bT bF hbT hbF hT hF
   refine⟨fun σ' a7=>(Z0 a7).elim (hT.sc σ') (hF.sc σ'),?_⟩
   intro ρ ab hB
   cases hb:f.v ρ with
   |true=>
    refine hA _ _ (fun lo w0 E0 a w hh=>HM _ hb hlkj hh) (hT.run ρ (HL ab _ hb) (by rw[hbT];exact HN hw true ρ) fun σ' a7=>hB σ' (ZZ (.inl a7)))
   |false=>
    refine hA _ _ (fun lo w0 E0 a w hh=>HM _ hb hlkj hh) (hF.run ρ (HL ab _ hb) (by rw[hbF];exact HN hw false ρ) fun σ' a7=>hB σ' (ZZ (.inr a7)))
  cases want with
  |true=>
   simp only at h
   obtain⟨a,p,b,p',e1,e2,rfl,rfl⟩:=Cu h
   rw[Valid.app]at hV
   exact fin a b true false rfl rfl (hgo _ a p e1 hV.1 hsT) (ky _ b p' e2 hV.2 hsF)
  |false=>
   simp only at h
   obtain⟨a,p,b,p',e1,e2,rfl,rfl⟩:=Cu h
   rw[Valid.app]at hV
   exact fin a b false true rfl rfl (ky _ a p e1 hV.1 hsT) (hgo _ b p' e2 hV.2 hsF)
theorem Fi{P:Program}{I:Pr}{n:Nat}{CL:DSt→Oper→bj}(hC:Handler P I n CL){ops:List Oper}{o:Oper}(hdo:∀d,o.dst=some d→d<n){Q:Exit→St→Prop}{B:St→Prop}
  (X K:Nat→World→Env→Act→World→Prop)(hX:∀s lo w0 E0 a w,Holds (mkC P n lo w0 E0) s a w→gE s ops o=some true→o.wp P a w (K lo w0 E0) (lift (mkC P n lo w0 E0) Q)→X lo w0 E0 a w)
  {next:DSt→bj}(ky:∀σ outs q,next σ=some (outs,q)→Valid P I q→σ.sc→j9 P I (fun s=>∀lo w0 E0 a w,Holds (mkC P n lo w0 E0) s a w→K lo w0 E0 a w) B σ outs)
  (σ:DSt)(outs:List DSt)(q:List Seq)(h:LM P CL o next σ=some (outs,q))(hV:Valid P I q)(hs:σ.sc):
  wy P I ops o true (fun s=>∀lo w0 E0 a w,Holds (mkC P n lo w0 E0) s a w→X lo w0 E0 a w) B σ outs:=by
 unfold LM at h
 split at h
 ·rename_i o1 q1 h1
  obtain⟨p,h2,rfl⟩:=sI h
  rw[Valid.app]at hV
  obtain⟨g1,g2⟩:=LL hC h1 hV.1 hs
  refine⟨?_,?_⟩
  ·intro σ' a7
   obtain⟨σ1,hm,a,p',e1,e2⟩:=sJ h2 σ' a7
   obtain⟨a',p'',f1,f2,f3⟩:=mn h2 σ1 hm
   rw[e1]at f1;simp only[ZS,ZT]at f1;obtain⟨rfl,rfl⟩:=f1
   obtain⟨s1,l1⟩:=g1 σ1 hm
   have:=(ky σ1 a p' e1 (fun s hs=>hV.2 s (f3 s hs)) s1).sc σ' e2
   exact⟨this.1,Nat.le_trans l1 this.2⟩
  ·intro ρ ab hw hB lo w0 E0 a w hh
   refine hX _ lo w0 E0 a w hh hw ?_
   refine g2 ρ ab _ _ lo w0 E0 ?_ a w hh hdo
   intro σ1 hm ρ1 ha1 hok1 a' w' hh'
   obtain⟨a',p'',f1,f2,f3⟩:=mn h2 σ1 hm
   obtain⟨s1,l1⟩:=g1 σ1 hm
   refine(ky σ1 a' p'' f1 (fun s hs=>hV.2 s (f3 s hs)) s1).run ρ1 hok1 ?_ lo w0 E0 _ _ hh'
   intro σ' a7 ρ' ha' cR
   exact hB σ' (f2 σ' a7) ρ' (ha1.trans ha' l1) cR
 ·cases h
theorem ye{P:Program}{I:Pr}{n:Nat}{ops:List Oper}{o:Oper}(hdo:∀d,o.dst=some d→d<n){B:St→Prop}
  (X K:Nat→World→Env→Act→World→Prop)(hX:∀s lo w0 E0 a w,Holds (mkC P n lo w0 E0) s a w→gE s ops o=some false→K lo w0 E0 (a.put o.dst undef) w→X lo w0 E0 a w)
  {next:DSt→bj}(ky:∀σ outs q,next σ=some (outs,q)→Valid P I q→σ.sc→j9 P I (fun s=>∀lo w0 E0 a w,Holds (mkC P n lo w0 E0) s a w→K lo w0 E0 a w) B σ outs)
  (σ:DSt)(outs:List DSt)(q:List Seq)(h:next (σ.put o.dst (.bL []))=some (outs,q))(hV:Valid P I q)(hs:σ.sc):
  wy P I ops o false (fun s=>∀lo w0 E0 a w,Holds (mkC P n lo w0 E0) s a w→X lo w0 E0 a w) B σ outs:=by
 have g:=ky _ outs q h hV (Sn hs o.dst).1
 refine⟨fun σ' a7=>by have:=g.sc σ' a7;rw[di]at this;exact this,?_⟩
 intro ρ ab hw hB lo w0 E0 a w hh
 refine hX _ lo w0 E0 a w hh hw ?_
 have:=g.run ρ (ab.put _ _) (fun σ' a7 ρ' ha cR=>hB σ' a7 ρ' (by rw[di]at ha;exact ha) cR) lo w0 E0
 rw[eF]at this
 simp only[DV.v,dvs]at this
 exact this _ _ (JC hh hdo)
theorem Cv{P:Program}{n:Nat}(X:Nat→World→Env→Act→World→Prop):VM P n (fun s=>∀lo w0 E0 a w,Holds (mkC P n lo w0 E0) s a w→X lo w0 E0 a w):=
 fun _ _ h k lo w0 E0 a w hh=>k lo w0 E0 a w (h lo w0 E0 a w hh)
theorem Cx{P:Program}{I:Pr}{n:Nat}{CL:DSt→Oper→bj}(hC:Handler P I n CL){ops:Array Oper}(dN:ly n ops.toList=true){Q:Exit→St→Prop}:
  ∀(is:List Nat) (σ:DSt) (outs:List DSt) (q:List Seq),zt P n CL ops.toList is σ=some (outs,q)→Valid P I q→σ.sc→j9 P I (fun s=>Dr P n ops is s Q) (fun s=>Q .normal s) σ outs
 | [],σ,outs,q,h,hV,hs=>by
  simp only[zt,ZS,ZT]at h;obtain⟨rfl,rfl⟩:=h
  exact⟨by simp[hs],fun ρ ab hB=>PK (hB σ (by simp) ρ (au.refl _ _) ab)⟩
 |i::is,σ,outs,q,h,hV,hs=>by
  simp only[zt]at h
  split at h
  ·cases h
  ·rename_i o ho
   split at h
   ·have kT:ops[i]? =some o:=by simpa using ho
    have hdo:∀d,o.dst=some d→d<n:=fun d hd=>eX dN o (Z2 ho) d hd
    have hnx:=fun σ outs q h hV hs=>Cx hC dN (Q:=Q) is σ outs q h hV hs
    refine pG (Cv fun lo w0 E0 a w=>wpOps P ops (lift (mkC P n lo w0 E0) Q) (i::is) a w)
     (Fi hC hdo (Q:=Q) _ (fun lo w0 E0 a w=>wpOps P ops (lift (mkC P n lo w0 E0) Q) is a w) (fun s lo w0 E0 a w hh hw hwp=>KK kT (gY hh (eX dN) hw) hwp) hnx)
     (ye hdo _ (fun lo w0 E0 a w=>wpOps P ops (lift (mkC P n lo w0 E0) Q) is a w) (fun s lo w0 E0 a w hh hw hk=>KL kT (gY hh (eX dN) hw) hk) hnx) h hV hs
   ·cases h
def XM(σ:DSt)(o:Oper):Bool:=
 match o.op with
 | .binOp _ _ x _ _=>match dev σ x with| .agg _=>true| .p (.sl _) _=>true|_=>false
 |_=>false
def HO(ops:Array Oper)(listed:Array Bool)(σ:DSt):List Nat→Option Nat
 | []=>none
 |i::r=>match ops.toList[i]? with
  |none=>none
  |some o=>match(sa o && Region.free .any ops listed i) && !XM σ o with
   |true=>some i
   |false=>HO ops listed σ r
theorem Jj{P:Program}{I:Pr}{n:Nat}{ops:Array Oper}{fuel i:Nat}{listed:Array Bool}{o:Oper}{Q:Exit→St→Prop}{B:St→Prop}(ho:ops.toList[i]? =some o)(dN:ly n ops.toList=true)
  (lE:sa o=true)(gO:Region.noSelect ops=true)(fM:Region.free .any ops listed i=true)(hr:(Region.ready .any ops listed).contains i=true)(hQ:∀c s,Q (.panic c) s→False)
  {next:DSt→bj}(ky:∀σ outs q,next σ=some (outs,q)→Valid P I q→σ.sc→j9 P I (fun s=>jG P n ops fuel (listed.setIfInBounds i true) s Q) B σ outs)
  (σ:DSt)(outs:List DSt)(q:List Seq)(h:yd P o next σ=some (outs,q))(hV:Valid P I q)(hs:σ.sc):
  wy P I ops.toList o true (fun s=>jG P n ops (fuel+1) listed s Q) B σ outs:=by
 unfold yd at h
 split at h
 ·rename_i σ' gs h1
  obtain⟨p,h2,rfl⟩:=sI h
  rw[Valid.app]at hV
  obtain⟨g1,g2,g3⟩:=A1 (I:=I) h1 hs
  have g:=ky σ' outs p h2 hV.2 g1
  refine⟨fun x hx=>⟨(g.sc x hx).1,Nat.le_trans g2 (g.sc x hx).2⟩,?_⟩
  intro ρ ab hw hB
  obtain⟨ρ',ha,cR,H,s,ps,e1,e2,e3⟩:=g3 ρ ab (jq ab hV.1)
  refine ND i ho dN lE hw gO fM hr hQ e1 e2 rfl ?_
  refine GL (fun lo w0 E0 a w hh=>e3.holds hh) ?_
  exact g.run ρ' cR fun x hx ρ2 ha2 oq=>hB x hx ρ2 (ha.trans ha2 g2) oq
 ·cases h
def sK(P:Program)(ops:Array Oper):List Oper→DSt→bj
 | [],σ=>some ([σ],[])
 |o::r,σ=>match uh o with
  |true=>uL ops.toList o (yd P o (sK P ops r)) (sK P ops r) σ
  |false=>none
theorem tW{P:Program}{I:Pr}{n:Nat}{ops:Array Oper}(dN:ly n ops.toList=true){Q:Exit→St→Prop}:
  ∀(l:List Oper) (_hl:∀o∈l,o∈ops.toList) (σ:DSt) (outs:List DSt) (q:List Seq),sK P ops l σ=some (outs,q)→Valid P I q→σ.sc→j9 P I (fun s=>GN P n ops l s Q) (fun s=>Q .normal s) σ outs
 | [],_,σ,outs,q,h,_,hs=>by
  simp only[sK,ZS,ZT]at h;obtain⟨rfl,rfl⟩:=h
  exact⟨by simp[hs],fun ρ ab hB lo w0 E0 a w hh=>⟨_,hB σ (by simp) ρ (au.refl _ _) ab,hh⟩⟩
 |o::r,hl,σ,outs,q,h,hV,hs=>by
  simp only[sK]at h
  split at h
  ·rename_i hst
   have hdo:∀d,o.dst=some d→d<n:=fun d hd=>eX dN o (hl o (ZW ..)) d hd
   have hnx:=fun σ outs q h hV hs=>tW (P:=P) (I:=I) dN (Q:=Q) r (fun x hx=>hl x (ZV _ hx)) σ outs q h hV hs
   refine pG (Cv fun lo w0 E0 a w=>wpStill P ops w (fun a'=>lift (mkC P n lo w0 E0) Q .normal a' w) (o::r) a) (fun σ outs q h hV hs=>?_)
    (ye hdo _ (fun lo w0 E0 a w=>wpStill P ops w (fun a'=>lift (mkC P n lo w0 E0) Q .normal a' w) r a) (fun s lo w0 E0 a w hh hw hk=>by
     unfold wpStill
     simp only[gY hh (eX dN) hw,Bool.false_eq_true,if_false];exact hk) hnx) h hV hs
   unfold yd at h
   split at h
   ·rename_i σ' gs h1
    obtain⟨p,h2,rfl⟩:=sI h
    rw[Valid.app]at hV
    obtain⟨g1,g2,g3⟩:=A1 (I:=I) h1 hs
    have g:=hnx σ' outs p h2 hV.2 g1
    refine⟨fun x hx=>⟨(g.sc x hx).1,Nat.le_trans g2 (g.sc x hx).2⟩,?_⟩
    intro ρ ab hw hB lo w0 E0 a w hh
    obtain⟨ρ',ha,cR,H,s,ps,e1,e2,e3⟩:=g3 ρ ab (jq ab hV.1)
    obtain⟨v,aW,fm⟩:=Nz (C:=mkC P n lo w0 E0) hst e1 e2 hh hdo
    unfold wpStill
    simp only[gY hh (eX dN) hw,if_true]
    unfold Oper.still
    change Sem.run P _ _=_ at aW
    rw[aW]
    exact⟨rfl,g.run ρ' cR (fun x hx ρ2 ha2 oq=>hB x hx ρ2 (ha.trans ha2 g2) oq) lo w0 E0 _ _ (e3.holds fm)⟩
   ·cases h
  ·cases h
end Go.TL
