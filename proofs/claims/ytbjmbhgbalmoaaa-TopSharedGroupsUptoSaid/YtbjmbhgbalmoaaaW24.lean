/- Maps of strings and chains: what operations on them make of a state. -/
import Derived.Test.YtbjmbhgbalmoaaaW22
import Derived.Test.YtbjmbhgbalmoaaaW23
import Derived.Laws.StructEq
import Derived.Lib.SliceRun
import Derived.ChangeKeysEq
namespace Go.TL
theorem gL.of{P:Program}{I:Pr}{n:Nat}{o:Oper}{σ:DSt}{outs:List DSt}(hsc:σ.sc→∀σ'∈outs,σ'.sc∧σ.nx≤σ'.nx)
  (h:σ.sc→∀ρ,σ.ok P I ρ→∀(C:Ctx) (E:Env) (a:Act) (w:World),C.P=P→uA C E (σ.v ρ) a w→AH C o→∃σ'∈outs,∃ρ' s,aS σ.nx ρ ρ'∧σ'.ok P I ρ'∧tw C o s a w∧cS s (σ'.v ρ')):gL P I n o σ outs:=by
 intro hs
 refine⟨hsc hs,?_⟩
 intro ρ aC K Q lo w0 E0 hK a w ⟨E,hh⟩ hd
 obtain⟨σ',hm,ρ',s,ha,hok',⟨v,w',cf,hH⟩,hS⟩:=h hs ρ aC (mkC P n lo w0 E0) E a w rfl hh hd
 unfold Oper.wp
 rcases cf with cf|⟨cf,rfl⟩
 ·change Sem.run P _ _=_ at cf
  rw[cf];exact hK σ' hm ρ' ha hok' _ _ (hS.holds hH)
 ·change Sem.run P _ _=_ at cf
  rw[cf];exact hK σ' hm ρ' ha hok' _ _ (hS.holds hH)
def mE(et:TypeId):TypeId:=et+1000000
def cE(t:TypeId):TypeId:=t+2000000
def unR:List CK→List DP→List DP
 | [],xs=>xs
 |_::_,[]=>[]
 |c::cs,x::xs=>(match c with| .any=> .un|_=>x)::unR cs xs
theorem sL{ρ:Ro}:∀(cs:List CK) (row:List DP) (j:Nat) (y:PV),(aU ρ (unR cs row))[j]? =some y→∃x,(aU ρ row)[j]? =some x∧(y=x∨y= .un)
 | [],row,j,y,h=>⟨y,h,.inl rfl⟩
 |_::_,[],j,y,h=>by simp[unR,aU]at h
 |c::cs,x::xs,0,y,h=>by
  cases c<;>simp only[unR,aU,List.getElem?_cons_zero,Ct]at h ⊢ <;>subst h<;>first|exact⟨_,rfl,.inl rfl⟩|exact⟨_,rfl,.inr rfl⟩
 |c::cs,x::xs,j+1,y,h=>by
  simp only[unR,aU,List.getElem?_cons_succ]at h ⊢
  exact sL cs xs j y h
theorem rj.un{w:World}{bad:Nat→Prop}{lo:Nat}{q:Option Nat}{ρ:Ro}{s:ByteArray}{v:Value}{row:List DP}(cs:List CK)(h:rj w bad lo q (.v (.string s)::aU ρ row) (.string s) v):
  rj w bad lo q (.v (.string s)::aU ρ (unR cs row)) (.string s) v:=by
 obtain⟨vs,h1,g,h2⟩:=h
 refine⟨vs,h1,g,fun j y hy=>?_⟩
 cases j with
 |zero=>exact h2 0 y hy
 |succ j=>
  simp only[List.getElem?_cons_succ]at hy
  obtain⟨x,hx,hxy⟩:=sL cs row j y hy
  obtain⟨e1,e2⟩:=h2 (j+1) x (by simpa using hx)
  rcases hxy with rfl|rfl
  ·exact⟨e1,e2⟩
  ·exact⟨e1,.un _ e2.one⟩
theorem Co1.step{P:Program}{I:Pr}{n:Nat}{o:Oper}{σ σ1:DSt}{outs:List DSt}(c:Co1 P n σ σ1)(h:gL P I n o σ1 outs):gL P I n o σ outs:=by
 intro hs
 obtain⟨h1,h2⟩:=h (c.sc hs)
 have hn:σ.nx=σ1.nx:=by rw[c.nx]
 refine⟨fun σ' dp=>⟨(h1 σ' dp).1,hn▸(h1 σ' dp).2⟩,?_⟩
 intro ρ aC K Q lo w0 E0 hK a w hh hd
 exact h2 ρ (c.ok aC) K Q lo w0 E0 (fun σ' dp ρ' ha=>hK σ' dp ρ' (hn▸ha)) a w (c.imp ρ lo w0 E0 a w hh) hd
end Go.TL
