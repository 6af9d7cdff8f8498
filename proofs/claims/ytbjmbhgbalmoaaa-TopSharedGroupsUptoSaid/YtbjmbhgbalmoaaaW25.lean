/- To go along a map's entries; to take one out. -/
import Derived.Test.YtbjmbhgbalmoaaaW23
import Derived.Maps.RangeRun
import Derived.Test.YtbjmbhgbalmoaaaW24
namespace Go.TL
open Go.MapKept
end Go.TL
namespace Go.TL
end Go.TL
namespace Go.TL
end Go.TL
namespace Go.TL
def nzB:List PF→Bool
 | []=>true
 | .pr 0 _::_=>false
 |_::r=>nzB r
theorem iP{B B':Pr}{ρ:Ro}(hB:∀k,B (k+1)=B' (k+1)):∀{l:List PF},nzB l=true→fp B ρ l→fp B' ρ l
 | [],_,_=>trivial
 | .row _ _ _::r,h,v=>⟨v.1,iP hB (l:=r) h v.2⟩
 | .app _ _ _::r,h,v=>⟨v.1,iP hB (l:=r) h v.2⟩
 | .lit _ _::r,h,v=>⟨v.1,iP hB (l:=r) h v.2⟩
 | .sub _ _ _ _::r,h,v=>⟨v.1,iP hB (l:=r) h v.2⟩
 | .set _ _ _ _::r,h,v=>⟨v.1,iP hB (l:=r) h v.2⟩
 | .tru _::r,h,v=>⟨v.1,iP hB (l:=r) h v.2⟩
 | .cat _ _ _::r,h,v=>⟨v.1,iP hB (l:=r) h v.2⟩
 | .pr (k+1) args::r,h,v=>⟨by have:=v.1;simp only[PF.v]at this ⊢;rw[←hB k];exact this,iP hB (l:=r) h v.2⟩
 | .pr 0 _::_,h,_=>by simp[nzB]at h
def mI:List bD→Bool
 | []=>true
 |p::r=>match nzB p.prs with|true=>mI r|false=>false
theorem mZ:∀{l:List bD},mI l=true→∀p∈l,nzB p.prs=true
 |p::r,h,x,hx=>by
  simp only[mI]at h
  split at h
  ·rename_i h1
   rcases CD hx with rfl|hx
   ·exact h1
   ·exact mZ h x hx
  ·cases h
def Spec.nz(s:Spec):Bool:=match nzB s.prs with|true=>mI s.jZ|false=>false
theorem mH.sub{P:Program}{B B':Pr}{N:Nat}{s:Spec}(hz:s.nz=true)(hB:∀k,B (k+1)=B' (k+1))(h:mH P B N s):mH P B' N s:=by
 unfold Spec.nz at hz
 split at hz
 ·rename_i h1
  intro ρ aC hm
  have:=h ρ ⟨aC.g,aC.tys,aC.lin,iP (fun k=>(hB k).symm) h1 aC.prs⟩ hm
  refine this.mono ?_
  rintro r T' ⟨p,hp,ρ',h2,h3,h4,h5⟩
  exact⟨p,hp,ρ',h2,⟨h3.g,h3.tys,h3.lin,iP hB (mZ hz p hp) h3.prs⟩,h4,h5⟩
 ·cases hz
structure fB(P:Program)(B:Pr)(s:Spec):Prop where
 nz:s.nz=true
 ok:∀N,mH P B N s
end Go.TL
