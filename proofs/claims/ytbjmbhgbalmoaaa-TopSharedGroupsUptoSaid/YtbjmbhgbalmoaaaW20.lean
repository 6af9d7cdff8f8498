/- Runs of operations; code. -/
import Derived.Test.YtbjmbhgbalmoaaaW19
namespace Go.TL
def gL(P:Program)(I:Pr)(n:Nat)(o:Oper)(σ:DSt)(outs:List DSt):Prop:=
 σ.sc→(∀σ'∈outs,σ'.sc∧σ.nx≤σ'.nx)∧∀ρ,σ.ok P I ρ→∀(K:Act→World→Prop) (Q:Exit→Act→World→Prop) (lo:Nat) (w0:World) (E0:Env),
  (∀σ'∈outs,∀ρ',aS σ.nx ρ ρ'→σ'.ok P I ρ'→∀a' w',Holds (mkC P n lo w0 E0) (σ'.v ρ') a' w'→K a' w')→
  ∀a w,Holds (mkC P n lo w0 E0) (σ.v ρ) a w→(∀d,o.dst=some d→d<n)→o.wp P a w K Q
abbrev Br:=Option (List DSt×List Seq)
def cI(σ:DSt):Bool→BF→List Lin×List PF
 |true,.le e=>([e],[])
 |false,.le e=>([iV e],[])
 |true,.eq e=>([e,Lin.scale (-1) e],[])
 |false,.eq e=>match ek σ (Lin.scale (-1) e)with
  |true=>([iV e],[])
  |false=>match ek σ e with
   |true=>([e.cR 1],[])
   |false=>([],[.tru (.not (.eq e))])
 |b,.not f=>cI σ (!b) f
 |true,.and f g=>((cI σ true f).1++(cI σ true g).1,(cI σ true f).2++(cI σ true g).2)
 |false,.or f g=>((cI σ false f).1++(cI σ false g).1,(cI σ false f).2++(cI σ false g).2)
 |true,f=>([],[.tru f])
 |false,f=>([],[.tru (.not f)])
theorem jN{P:Program}{I:Pr}{σ:DSt}{ρ:Ro}(aC:σ.ok P I ρ):∀(f:BF) (b:Bool),f.v ρ=b→bR ρ (cI σ b f).1∧fp I ρ (cI σ b f).2
 | .le e,true,h=>by simp only[BF.v,decide_eq_true_eq]at h;exact⟨⟨h,trivial⟩,trivial⟩
 | .le e,false,h=>by
  simp only[BF.v,decide_eq_false_iff_not]at h
  exact⟨⟨by simp only[iV,Lin.ca,Lin.ez];omega,trivial⟩,trivial⟩
 | .eq e,true,h=>by
  simp only[BF.v,decide_eq_true_eq]at h
  exact⟨⟨by omega,by rw[Lin.ez];omega,trivial⟩,trivial⟩
 | .eq e,false,h=>by
  have h':=h
  simp only[BF.v,decide_eq_false_iff_not]at h
  simp only[cI]
  split
  ·rename_i hp
   have:=dY aC hp
   rw[Lin.ez]at this
   exact⟨⟨by simp only[iV,Lin.ca,Lin.ez];omega,trivial⟩,trivial⟩
  ·split
   ·rename_i hp
    have:=dY aC hp
    exact⟨⟨by rw[Lin.ca];omega,trivial⟩,trivial⟩
   ·exact⟨trivial,⟨by simp only[PF.v,BF.v];simp[h],trivial⟩⟩
 | .not f,true,h=>by simp only[BF.v]at h;simp only[cI];exact jN aC f false (by simpa using h)
 | .not f,false,h=>by simp only[BF.v]at h;simp only[cI];exact jN aC f true (by simpa using h)
 | .and f g,true,h=>by
  simp only[BF.v,Bool.and_eq_true]at h
  have a:=jN aC f true h.1
  have b:=jN aC g true h.2
  exact⟨ij a.1 b.1,jI.2 ⟨a.2,b.2⟩⟩
 | .and f g,false,h=>⟨trivial,⟨by have:(BF.and f g).v ρ=false:=h;simp only[PF.v,BF.v]at this ⊢;simp[this],trivial⟩⟩
 | .or f g,false,h=>by
  simp only[BF.v,Bool.or_eq_false_iff]at h
  have a:=jN aC f false h.1
  have b:=jN aC g false h.2
  exact⟨ij a.1 b.1,jI.2 ⟨a.2,b.2⟩⟩
 | .or f g,true,h=>⟨trivial,⟨h,trivial⟩⟩
 | .lit c,true,h=>⟨trivial,⟨h,trivial⟩⟩
 | .lit c,false,h=>⟨trivial,⟨by have:(BF.lit c).v ρ=false:=h;simp only[PF.v,BF.v]at this ⊢;simp[this],trivial⟩⟩
 | .var k,true,h=>⟨trivial,⟨h,trivial⟩⟩
 | .var k,false,h=>⟨trivial,⟨by have:(BF.var k).v ρ=false:=h;simp only[PF.v,BF.v]at this ⊢;simp[this],trivial⟩⟩
theorem iI{σ:DSt}{n:Nat}:∀(f:BF) (b:Bool),Sc n f.vars→(∀e∈(cI σ b f).1,Sc n e.vars)∧∀p∈(cI σ b f).2,Sc n p.vars
 | .le e,true,h=>by simp only[cI];exact⟨by intro x hx;simp only[List.mem_singleton]at hx;subst hx;exact h,by simp⟩
 | .le e,false,h=>by simp only[cI];exact⟨by intro x hx;simp only[List.mem_singleton]at hx;subst hx;exact Lin.oV (Lin.nA h),by simp⟩
 | .eq e,true,h=>by
  simp only[cI]
  refine⟨?_,by simp⟩
  intro x hx
  simp only[List.mem_cons,List.mem_nil_iff,or_false]at hx
  rcases hx with rfl|rfl
  ·exact h
  ·exact Lin.nA h
 | .eq e,false,h=>by
  simp only[cI]
  split
  ·exact⟨by intro x hx;simp only[List.mem_singleton]at hx;subst hx;exact Lin.oV (Lin.nA h),by simp⟩
  ·split
   ·exact⟨by intro x hx;simp only[List.mem_singleton]at hx;subst hx;exact Lin.oV h,by simp⟩
   ·exact⟨by simp,by intro x hx;simp only[List.mem_singleton]at hx;subst hx;exact h⟩
 | .not f,true,h=>by simp only[cI];exact iI f false h
 | .not f,false,h=>by simp only[cI];exact iI f true h
 | .and f g,true,h=>by
  simp only[BF.vars,Sc.app]at h
  have a:=iI (σ:=σ) f true h.1
  have b:=iI (σ:=σ) g true h.2
  simp only[cI]
  exact⟨fun x hx=>(CC hx).elim (a.1 x) (b.1 x),fun x hx=>(CC hx).elim (a.2 x) (b.2 x)⟩
 | .and f g,false,h=>by simp only[cI];exact⟨by simp,by intro x hx;simp only[List.mem_singleton]at hx;subst hx;exact h⟩
 | .or f g,false,h=>by
  simp only[BF.vars,Sc.app]at h
  have a:=iI (σ:=σ) f false h.1
  have b:=iI (σ:=σ) g false h.2
  simp only[cI]
  exact⟨fun x hx=>(CC hx).elim (a.1 x) (b.1 x),fun x hx=>(CC hx).elim (a.2 x) (b.2 x)⟩
 | .or f g,true,h=>by simp only[cI];exact⟨by simp,by intro x hx;simp only[List.mem_singleton]at hx;subst hx;exact h⟩
 | .lit c,true,h=>by simp only[cI];exact⟨by simp,by intro x hx;simp only[List.mem_singleton]at hx;subst hx;exact h⟩
 | .lit c,false,h=>by simp only[cI];exact⟨by simp,by intro x hx;simp only[List.mem_singleton]at hx;subst hx;exact h⟩
 | .var k,true,h=>by simp only[cI];exact⟨by simp,by intro x hx;simp only[List.mem_singleton]at hx;subst hx;exact h⟩
 | .var k,false,h=>by simp only[cI];exact⟨by simp,by intro x hx;simp only[List.mem_singleton]at hx;subst hx;exact h⟩
def DSt.asm(σ:DSt)(t:Option Nat)(b:Bool)(f:BF):DSt:=
 let r:=cI σ b f
 {σ with az:=(match t with|some t=>(t,.p (.bl (.lit b)) true)::σ.az|none=>σ.az),lin:=r.1++σ.lin,prs:=r.2++σ.prs}
theorem zY{σ:DSt}(hs:σ.sc)(t:Option Nat)(b:Bool){f:BF}(hf:Sc σ.nx f.vars):(σ.asm t b f).sc:=by
 have h:=iI (σ:=σ) f b hf
 refine⟨?_,hs.tab,hs.tys,?_,?_⟩
 ·intro j v hl
  cases t with
  |none=>exact hs.az j v hl
  |some t=>
   simp only[DSt.asm,iG]at hl
   split at hl
   ·simp only[Ct]at hl;subst hl;simp[DV.vars,DP.vars,BF.vars,Sc.nil]
   ·exact hs.az j v hl
 ·intro e he;exact(CC he).elim (h.1 e) (hs.lin e)
 ·intro e he;exact(CC he).elim (h.2 e) (hs.prs e)
theorem zZ{P:Program}{I:Pr}{σ:DSt}{ρ:Ro}(aC:σ.ok P I ρ)(t:Option Nat){b:Bool}{f:BF}(hf:f.v ρ=b):(σ.asm t b f).ok P I ρ:=by
 have h:=jN aC f b hf
 exact⟨aC.g,aC.tys,ij h.1 aC.lin,jI.2 ⟨h.2,aC.prs⟩⟩
inductive Wd where
 |yes
 |no
 |split(t:Nat)(f:BF)(want:Bool)
 |bad
structure B8(P:Program)(I:Pr)(A B:St→Prop)(σ:DSt)(outs:List DSt):Prop where
 sc:∀σ'∈outs,σ'.sc∧σ.nx≤σ'.nx
 run:∀ρ,σ.ok P I ρ→(∀σ'∈outs,∀ρ',aS σ.nx ρ ρ'→σ'.ok P I ρ'→B (σ'.v ρ'))→A (σ.v ρ)
structure Cg(P:Program)(I:Pr)(ops:List Oper)(o:Oper)(b:Bool)(A B:St→Prop)(σ:DSt)(outs:List DSt):Prop where
 sc:∀σ'∈outs,σ'.sc∧σ.nx≤σ'.nx
 run:∀ρ,σ.ok P I ρ→yt (σ.v ρ) ops o=some b→(∀σ'∈outs,∀ρ',aS σ.nx ρ ρ'→σ'.ok P I ρ'→B (σ'.v ρ'))→A (σ.v ρ)
end Go.TL
