/- Maps of strings and chains: what operations on them make of a state. -/
import Derived.Test.YtpoamlpahljebaaGreatDoorW21
import Derived.Test.YtpoamlpahljebaaGreatDoorW22
import Derived.Laws.StructEq
import Derived.Lib.SliceRun
import Derived.ChangeKeysEq
namespace Go.TL
theorem aS.of{P:Program}{I:Pr}{n:Nat}{o:Oper}{σ:DSt}{outs:List DSt}(oz:σ.sc→∀σ'∈outs,σ'.sc∧σ.nx≤σ'.nx)
  (h:σ.sc→∀ρ,σ.ok P I ρ→∀(C:Ctx) (E:Env) (a:Act) (w:World),C.P=P→aC C E (σ.v ρ) a w→bA C o→∃σ'∈outs,∃ρ' s,au σ.nx ρ ρ'∧σ'.ok P I ρ'∧bR C o s a w∧cq s (σ'.v ρ')):aS P I n o σ outs:=by
 intro hs
 refine⟨oz hs,?_⟩
 intro ρ ab K Q lo w0 E0 hK a w ⟨E,hh⟩ hd
 obtain⟨σ',hm,ρ',s,ha,cR,⟨v,w',aW,hH⟩,hS⟩:=h hs ρ ab (mkC P n lo w0 E0) E a w rfl hh hd
 unfold Oper.wp
 rcases aW with aW|⟨aW,rfl⟩
 ·change Sem.run P _ _=_ at aW
  rw[aW];exact hK σ' hm ρ' ha cR _ _ (hS.holds hH)
 ·change Sem.run P _ _=_ at aW
  rw[aW];exact hK σ' hm ρ' ha cR _ _ (hS.holds hH)
def Bi(P:Program)(t:TypeId):Option (TypeId×TypeId×Option Nat×Value):=
 match P.underlying t with
 |some (.map kt et)=>match P.underlying kt,P.info? et,iq P et with
  |some .string,some i,some ag=>match i.zero with
   |some z=>some (kt,et,(match ag with|true=>some i.size|false=>none),z)
   |none=>none
  |_,_,_=>none
 |_=>none
theorem zF{P:Program}{t kt et:TypeId}{q:Option Nat}{z:Value}(h:Bi P t=some (kt,et,q,z)):P.underlying t=some (.map kt et)∧P.underlying kt=some .string∧∀w,(zeroValue et).run P w= .ok z w:=by
 unfold Bi at h
 split at h
 ·rename_i k e hu
  split at h
  ·rename_i i ag hk hi _
   cases hz:i.zero with
   |none=>rw[hz]at h;cases h
   |some z0=>
    simp only[hz,ZS,ZT]at h;obtain⟨rfl,rfl,_,rfl⟩:=h
    exact⟨hu,hk,fun w=>by simp[zeroValue,typeInfo,hi,hz]⟩
  ·cases h
 ·cases h
def mE(et:TypeId):TypeId:=et+1000000
def cE(t:TypeId):TypeId:=t+2000000
def Ek(σ:DSt)(e:TypeId):LV→Bool
 |none=>true
 |some k=>match lk σ.tys k with|some e'=>Nat.beq e e'|none=>false
theorem CS{P:Program}{I:Pr}{σ:DSt}{ρ:Ro}(ab:σ.ok P I ρ){e:TypeId}:∀{l:LV},Ek σ e l=true→bK P e (lvV ρ l)
 |none,_=>bK.nil
 |some k,h=>by
  simp only[Ek]at h
  split at h
  ·rename_i e' hl;rw[ZU h];exact eE ab.tys hl
  ·cases h
def Ih(σ:DSt):DV→Option (Option Nat×LV×Bool)
 | .ref k=>match lk σ.tab k with|some (.mp q l fr)=>some (q,l,fr)|_=>none
 | .p (.mp q l) fr=>some (q,l,fr)
 |_=>none
theorem Q1{σ:DSt}{x:DV}{q:Option Nat}{l:LV}{fr:Bool}(ρ:Ro)(h:Ih σ x=some (q,l,fr)):CR (σ.v ρ).tab (x.v ρ) q (lvV ρ l) fr:=by
 unfold Ih at h
 split at h
 ·split at h
  ·rename_i hl
   simp only[ZS,ZT]at h;obtain⟨rfl,rfl,rfl⟩:=h
   simp only[DV.v];exact .own (by rw[dJ hl];rfl)
  ·cases h
 ·simp only[ZS,ZT]at h;obtain⟨rfl,rfl,rfl⟩:=h
  simp only[DV.v,DP.v];exact .pure _ _ _
 ·cases h
def Ii:DV→Option SE
 | .p (.st e) _=>match Lm e with|true=>some e|false=>none
 |_=>none
theorem Ij{ρ:Ro}{x:DV}{e:SE}(h:Ii x=some e):isStr (x.v ρ)=some (e.v ρ)∧Lm e=true:=by
 unfold Ii at h
 split at h
 ·split at h
  ·rename_i hs;simp only[ZS]at h;subst h;exact⟨by simp[DV.v,DP.v,isStr],hs⟩
  ·cases h
 ·cases h
def Bj:Nat→List DV
 |0=>[]
 |n+1=> .u::Bj n
theorem OJ(ρ:Ro):∀n,dvs ρ (Bj n)=List.replicate n .u
 |0=>by simp[Bj,dvs]
 |n+1=>by simp only[Bj,dvs,DV.v,List.replicate_succ,OJ ρ n]
theorem Ki{m:Nat}:∀n,Sc m (aD (Bj n))
 |0=>Sc.nil
 |n+1=>by simp only[Bj,aD,DV.vars,List.nil_append];exact Ki n
def mvD(q:Option Nat)(fr:Bool)(row:List DP):DV:=
 match q,row with
 |none,x::_=>tS fr x
 |none,[]=> .u
 |some n,row=> .agg (jM fr row++Bj (n - row.length))
theorem SF(ρ:Ro)(q:Option Nat)(fr:Bool)(row:List DP):(mvD q fr row).v ρ=mvS q fr (ar ρ row):=by
 cases q with
 |none=>cases row with
  |nil=>simp[mvD,DV.v,mvS,ar]
  |cons x r=>simp only[mvD,mvS,ar,Hg]
 |some n=>simp only[mvD,mvS,DV.v,vX,OJ,uD,eV]
theorem OK{n:Nat}{q:Option Nat}{fr:Bool}{row:List DP}(h:Sc n (bP row)):Sc n (mvD q fr row).vars:=by
 cases q with
 |none=>cases row with
  |nil=>exact Sc.nil
  |cons x r=>simp only[bP,Sc.app]at h;cases x<;>exact h.1
 |some m=>simp only[mvD,DV.vars,tT];exact⟨sy h,Ki _⟩
def lkD(c:Bool)(x:DV)(b:Nat):DV:=match c with|true=> .bL [x,.p (.bl (.var b)) true]|false=>x
def Ik(q:Option Nat)(z:Value):Bool:=(z.cells.toList.all (·.oneCell') && (ez q {key:=z,val:=z,born:=0}).isSome) && (match q,z with|none,.agg _=>false|_,_=>true)
theorem Me{q:Option Nat}{z:Value}(h:Ik q z=true){w:World}{bad:Nat→Prop}{lo:Nat}{s:ByteArray}(m:Nat):ql w bad lo q (.v (.string s)::(z.cells.toList.map (zc false)).take m) (.string s) z:=by
 have key:(z.cells.toList.all (·.oneCell'))=true∧ez q {key:= .string s,val:=z,born:=0}=some (.string s::z.cells.toList):=by
  simp only[Ik,Bool.and_eq_true]at h
  obtain⟨⟨h1,h2⟩,h3⟩:=h
  refine⟨h1,?_⟩
  cases q with
  |none=>cases z<;>first|rfl|cases h3
  |some n=>
   cases z<;>first|(simp[ez]at h2;done)|skip
   rename_i cs
   simp only[ez]at h2 ⊢
   cases hd:decide (cs.size=n)with
   |true=>rfl
   |false=>rw[hd]at h2;cases h2
 refine⟨_,key.2,fun j=>(Value.string s::z.cells.toList).getD j undef,?_⟩
 intro j x hx
 cases j with
 |zero=>simp only[List.getElem?_cons_zero,ZS]at hx;subst hx;exact⟨rfl,.v _ rfl⟩
 |succ j=>
  simp only[List.getElem?_cons_succ,List.getElem?_take]at hx
  split at hx
  ·rw[List.getElem?_map]at hx
   obtain⟨y,hy,rfl⟩:=Option.map_eq_some_iff.1 hx
   have h1:=List.all_eq_true.1 key.1 y (Z2 hy)
   have e:(Value.string s::z.cells.toList).getD (j+1) undef=y:=by simp[hy]
   simp only[e]
   exact⟨by simpa using hy,Gz h1⟩
  ·cases hx
def unR:List CK→List DP→List DP
 | [],xs=>xs
 |_::_,[]=>[]
 |c::cs,x::xs=>(match c with| .any=> .un|_=>x)::unR cs xs
theorem Kj{ρ:Ro}:∀(cs:List CK) (row:List DP) (j:Nat) (y:PV),(ar ρ (unR cs row))[j]? =some y→∃x,(ar ρ row)[j]? =some x∧(y=x∨y= .un)
 | [],row,j,y,h=>⟨y,h,.inl rfl⟩
 |_::_,[],j,y,h=>by simp[unR,ar]at h
 |c::cs,x::xs,0,y,h=>by
  cases c<;>simp only[unR,ar,List.getElem?_cons_zero,ZS]at h ⊢ <;>subst h<;>first|exact⟨_,rfl,.inl rfl⟩|exact⟨_,rfl,.inr rfl⟩
 |c::cs,x::xs,j+1,y,h=>by
  simp only[unR,ar,List.getElem?_cons_succ]at h ⊢
  exact Kj cs xs j y h
theorem ql.un{w:World}{bad:Nat→Prop}{lo:Nat}{q:Option Nat}{ρ:Ro}{s:ByteArray}{v:Value}{row:List DP}(cs:List CK)(h:ql w bad lo q (.v (.string s)::ar ρ row) (.string s) v):
  ql w bad lo q (.v (.string s)::ar ρ (unR cs row)) (.string s) v:=by
 obtain⟨vs,h1,g,h2⟩:=h
 refine⟨vs,h1,g,fun j y hy=>?_⟩
 cases j with
 |zero=>exact h2 0 y hy
 |succ j=>
  simp only[List.getElem?_cons_succ]at hy
  obtain⟨x,hx,hxy⟩:=Kj cs row j y hy
  obtain⟨e1,e2⟩:=h2 (j+1) x (by simpa using hx)
  rcases hxy with rfl|rfl
  ·exact⟨e1,e2⟩
  ·exact⟨e1,.un _ e2.one⟩
def Mf(P:Program)(σ:DSt)(o:Oper)(t:TypeId)(m x:Operand)(c:Bool):bj:=
 match Bi P t,Ih σ (dev σ m),Ii (dev σ x)with
 |some (_,et,q,z),some (q',l,fr),some _=>match gw q q',Ek σ (mE et) l,Ik q z,cks P (mE et)with
  |true,true,true,.str::cs=>match iv cs σ.nx,dty σ.tys cs (unR cs ((kg z.cells.toList).take cs.length))with
   |some R,some gs=>some ([(σ.grow (R.nx - σ.nx+1) R.tys R.lin []).put o.dst (lkD c (mvD q fr R.cells) R.nx)],todo σ gs)
   |_,_=>none
  |_,_,_,_=>none
 |_,_,_=>none
theorem Mg{P:Program}{I:Pr}{n:Nat}{σ:DSt}{o:Oper}{t:TypeId}{m x:Operand}{c:Bool}{outs:List DSt}{q:List Seq}(ho:o.op= .lookup t m x c)(h:Mf P σ o t m x c=some (outs,q))(hV:Valid P I q):aS P I n o σ outs:=by
 unfold Mf at h
 split at h
 ·rename_i kt et qq z q' l fr e ht hm hx
  split at h
  ·rename_i cs hq hl hz fZ
   split at h
   ·rename_i R gs hR aJ
    simp only[ZS,ZT]at h;obtain⟨rfl,rfl⟩:=h
    have:=eH hq;subst this
    have ed:=oK cs σ.nx R hR
    have hn:σ.nx+(R.nx - σ.nx+1)=R.nx+1:=by have:=ed.le;omega
    have hlk:∀fr,Sc (R.nx+1) (lkD c (mvD qq fr R.cells) R.nx).vars:=by
     intro fr
     have h1:Sc (R.nx+1) (mvD qq fr R.cells).vars:=OK (ed.cells.mono (Nat.le_succ _))
     cases c with
     |false=>exact h1
     |true=>simp only[lkD,DV.vars,aD,DP.vars,BF.vars,Sc.app,Sc.cons];exact⟨h1,⟨Nat.lt_succ_self _,Sc.nil⟩,Sc.nil⟩
    have hg:jT (σ.nx+(R.nx - σ.nx+1)) R.tys R.lin []:=by
     rw[hn];exact⟨fun k e hk=>Nat.lt_succ_of_lt (ed.tys k e hk),fun e he=>(ed.lin e he).mono (Nat.le_succ _),by simp⟩
    refine aS.of (fun hs=>?_) fun hs ρ ab C E a w hC hh hd=>?_
    ·intro σ' a7
     simp only[List.mem_singleton]at a7;subst a7
     refine⟨(hs.grow hg).put o.dst ?_,by rw[di];exact Nat.le_add_right _ _⟩
     simp only[DSt.grow,hn];exact hlk fr
    ·obtain⟨h1,h2,h3⟩:=zF ht
     have jt:=gj (P:=P) ab.g ab.tys cs _ gs aJ (jq ab hV)
     have hrow0:ar ρ ((kg z.cells.toList).take cs.length)=(z.cells.toList.map (zc false)).take cs.length:=by rw[kH,Hy]
     have eb:=CS ab hl
     obtain⟨y,row,b,a6,gh⟩:=OI (C:=C) ho hh hd (hC▸h1) (hC▸h2) (hC▸h3 w) (by rw[aK];exact Q1 ρ hm) (oY.of fZ eb.2) (by rw[aK];exact(Ij hx).1)
      ((hrow0▸Me (w:=w) (bad:=E.bad) (lo:=flo C.lo fr) hz cs.length).un cs)
     have hw:WTs P cs row:=by
      rcases a6 with rfl|a6
      ·exact jt
      ·have:=Ty.to fZ (eb.2 _ a6);exact(kC this).elim fun _ ⟨_,e,_,h⟩=>by cases e;exact h
     obtain⟨ρ1,r⟩:=rD (P:=P) cs σ.nx R row ρ hR hw ab.g
     let ρ':=up ρ1 R.nx (vaB b)
     have jf:au R.nx ρ1 ρ':=da _ _ _ _ (Nat.le_refl _)
     have ag:au σ.nx ρ ρ':=r.ag.trans jf ed.le
     have okk:(σ.grow (R.nx - σ.nx+1) R.tys R.lin []).ok P I ρ':=ab.grow hs ag (r.g.up _ (uz b)) ((xQ jf ed.tys).2 r.tys) ((uy jf ed.lin).2 r.lin) trivial
     refine⟨_,ZW ..,ρ',_,ag,okk.put _ _,gh,?_⟩
     rw[eF]
     have e1:(lkD c (mvD qq fr R.cells) R.nx).v ρ'=lkS c (mvS qq fr row) b:=by
      have e2:(mvD qq fr R.cells).v ρ'=mvS qq fr row:=by rw[SF,lZ jf ed.cells,r.cells]
      cases c with
      |false=>exact e2
      |true=>
       have e3:(ρ' R.nx).b=b:=by simp only[ρ',bg];rfl
       simp only[lkD,lkS,DV.v,dvs,e2,DP.v,BF.v,e3]
     rw[e1]
     exact cq.put (DSt.fX hs ag) _ _
   ·cases h
  ·cases h
 ·cases h
theorem Mh{P:Program}{I:Pr}{σ:DSt}{ρ:Ro}(hs:σ.sc)(ab:σ.ok P I ρ){e:TypeId}{lin:List Lin}{rows:List (List PV)}(ht:bK P e rows)
  (hl:bh (up ρ σ.nx (vaL rows)) lin):au σ.nx ρ (up ρ σ.nx (vaL rows))∧(σ.grow 1 [(σ.nx,e)] lin []).ok P I (up ρ σ.nx (vaL rows))∧lvV (up ρ σ.nx (vaL rows)) (some σ.nx)=rows:=by
 have ag:=da ρ σ.nx σ.nx (vaL rows) (Nat.le_refl _)
 exact⟨ag,ab.grow hs ag (ab.g.up _ (jU ht.len)) ⟨by rw[bg];exact ht,trivial⟩ hl trivial,by simp only[lvV,bg];rfl⟩
def DSt.addRef(σ:DSt)(d:Nat)(ov:DO):DSt:={σ with ah:=(d,.ref d)::σ.ah,tab:=(d,ov)::σ.tab}
def Bk(P:Program)(σ:DSt)(o:Oper)(t:TypeId):bj:=
 match Bi P t,o.dst with
 |some (_,et,q,_),some d=>match lk σ.tab d with
  |none=>some ([(σ.grow 1 [(σ.nx,mE et)] [Lin.at (4*σ.nx+1),Lin.at (4*σ.nx+2)] []).addRef d (.mp q (some σ.nx) true)],[])
  |some _=>none
 |_,_=>none
theorem ib{n k j:Nat}(h:k<n)(hj:j<4):Sc n (Lin.at (4*k+j)).vars:=Lin.bC (by omega)
theorem FM{P:Program}{I:Pr}{n:Nat}{σ:DSt}{o:Oper}{t:TypeId}{outs:List DSt}{q:List Seq}(ho:o.op= .makeMap t none)(h:Bk P σ o t=some (outs,q)):aS P I n o σ outs:=by
 unfold Bk at h
 split at h
 ·rename_i kt et qq z d ht dm
  split at h
  ·rename_i hf
   simp only[ZS,ZT]at h;obtain⟨rfl,rfl⟩:=h
   refine aS.of (fun hs=>?_) fun hs ρ ab C E a w hC hh hd=>?_
   ·intro σ' a7
    simp only[List.mem_singleton]at a7;subst a7
    have av:σ.nx<σ.nx+1:=Nat.lt_succ_self _
    have hg:=hs.grow (n:=1) (tys:=[(σ.nx,mE et)]) (lin:=[Lin.at (4*σ.nx+1),Lin.at (4*σ.nx+2)]) (prs:=[]) ⟨by simp,by simp only[List.mem_cons,List.mem_nil_iff,or_false];rintro e (rfl|rfl);exact ib av (by omega);exact ib av (by omega),by simp⟩
    refine⟨⟨?_,?_,hg.tys,hg.lin,hg.prs⟩,Nat.le_succ _⟩
    ·intro t' v hl
     simp only[DSt.addRef,cK]at hl
     split at hl
     ·simp only[ZS]at hl;subst hl;exact Sc.nil
     ·exact hg.ah t' v hl
    ·intro t' v hl
     simp only[DSt.addRef,cK]at hl
     split at hl
     ·simp only[ZS]at hl;subst hl;simp only[DO.vars,a8,Sc.cons];exact⟨av,Sc.nil⟩
     ·exact hg.tab t' v hl
   ·obtain⟨ag,ok',hv⟩:=Mh (e:=mE et) hs ab (lin:=[Lin.at (4*σ.nx+1),Lin.at (4*σ.nx+2)]) (bK.nil (P:=P)) (by
     simp only[bh,Lin.bN,dI,fa,bg,vaL,List.length_nil,nf];exact⟨by decide,by decide,trivial⟩)
    have gh:=Md (C:=C) (σ:=σ.v ρ) qq ho hh hd dm (oL hf)
    refine⟨_,ZW ..,_,_,ag,⟨ok'.g,ok'.tys,ok'.lin,ok'.prs⟩,gh,?_⟩
    have S:=DSt.fX hs ag
    refine⟨fun t'=>?_,fun t'=>?_⟩
    ·simp only[DSt.addRef,DSt.v,cV,DV.v,cK];split
     ·rfl
     ·exact S.ah t'
    ·simp only[DSt.addRef,DSt.v,aU,DO.v,hv,cK];split
     ·rfl
     ·exact S.tab t'
  ·cases h
 ·cases h
def Il(q:Option Nat)(m:Nat):DV→Option (List DP×Bool)
 | .agg xs=>match q with
  |some n=>match Nat.beq xs.length n,jV (xs.take m)with
   |true,some (row,fr)=>match pY row with|true=>some (row,fr)|false=>none
   |_,_=>none
  |none=>none
 | .p x fr=>match q,zf (.p x fr)with
  |none,some (y,f)=>match F5 y with|true=>some ([y],f)|false=>none
  |_,_=>none
 |_=>none
theorem Q2{w:World}{E:Env}{lo m:Nat}{q:Option Nat}{x:DV}{row:List DP}{fr:Bool}{ρ:Ro}{v:Value}{s:ByteArray}(h:Il q m x=some (row,fr))(hv:VR w E lo (x.v ρ) v):
  ql w E.bad (flo lo fr) q (.v (.string s)::ar ρ row) (.string s) v:=by
 unfold Il at h
 split at h
 ·rename_i xs
  split at h
  ·rename_i n
   split at h
   ·rename_i hn hr
    split at h
    ·rename_i hc
     simp only[ZS,ZT]at h;obtain⟨rfl,rfl⟩:=h
     have hn:=ZU hn
     simp only[DV.v,VR]at hv
     obtain⟨vs,rfl,gM⟩:=hv
     have hl:=cX gM
     rw[gZ]at hl
     obtain⟨g1,g2,f,f1,f2⟩:=mW _ _ _ (oP (ρ:=ρ) hr hc) (vs.take m) (by rw[AS];exact oD m gM)
     have hvl:vs.length=n:=by omega
     refine⟨.string s::vs,by simp[ez,hvl],fun j=>match j with|0=> .string s|j+1=>f j,?_⟩
     intro j y hy
     cases j with
     |zero=>simp only[List.getElem?_cons_zero,ZS]at hy;subst hy;exact⟨rfl,.v _ rfl⟩
     |succ j=>
      simp only[List.getElem?_cons_succ]at hy ⊢
      refine⟨?_,f2 j y hy⟩
      have:=f1 j y hy
      rw[List.getElem?_take]at this
      split at this
      ·exact this
      ·cases this
    ·cases h
   ·cases h
  ·cases h
 ·split at h
  ·rename_i hr
   split at h
   ·rename_i hc
    simp only[ZS,ZT]at h;obtain⟨rfl,rfl⟩:=h
    have:=Gt (J3 (ρ:=ρ) hr hc) hv
    refine⟨[.string s,v],rfl,fun j=>match j with|0=> .string s|_=>v,?_⟩
    intro j y hy
    match j,hy with
    |0,hy=>simp only[List.getElem?_cons_zero,ZS]at hy;subst hy;exact⟨rfl,.v _ rfl⟩
    |1,hy=>simp only[ar,List.getElem?_cons_succ,List.getElem?_cons_zero,ZS]at hy;subst hy;exact⟨rfl,this⟩
    |j+2,hy=>simp[ar]at hy
   ·cases h
  ·cases h
 ·cases h
def Q3(P:Program)(σ:DSt)(o:Oper)(t:TypeId)(m x v:Operand):bj:=
 match Bi P t,dev σ m,Ii (dev σ x)with
 |some (_,et,q,_),.ref k,some _e=>match lk σ.tab k,cks P (mE et)with
  |some (.mp q' l fr),.str::cs=>match Il q cs.length (dev σ v),gw q q',Ek σ (mE et) l with
   |some (row,fr'),true,true=>match dty σ.tys cs (unR cs row)with
    |some gs=>some ([((σ.grow 1 [(σ.nx,mE et)] [(Lin.at (4*σ.nx+1)).ax (-1) ((bJ l).aN 1),(bJ l).ax (-1) (Lin.at (4*σ.nx+1))] []).setObj k (.mp q (some σ.nx) (fr && fr'))).put o.dst .u],todo σ (.le ((bJ l).aN (-1073741823))::gs))
    |none=>none
   |_,_,_=>none
  |_,_=>none
 |_,_,_=>none
theorem OL{P:Program}{I:Pr}{n:Nat}{σ:DSt}{o:Oper}{t:TypeId}{m x v:Operand}{outs:List DSt}{q:List Seq}(ho:o.op= .mapUpdate t m x v∨o.op= .insert t m x v)(h:Q3 P σ o t m x v=some (outs,q))(hV:Valid P I q):aS P I n o σ outs:=by
 unfold Q3 at h
 split at h
 ·rename_i kt et qq z k e ht hm hx
  split at h
  ·rename_i q' l fr cs hl fZ
   split at h
   ·rename_i row fr' hv hq hly
    split at h
    ·rename_i gs aJ
     simp only[ZS,ZT]at h;obtain⟨rfl,rfl⟩:=h
     have:=eH hq;subst this
     have av:σ.nx<σ.nx+1:=Nat.lt_succ_self _
     refine aS.of (fun hs=>?_) fun hs ρ ab C E a w hC hh hd=>?_
     ·intro σ' a7
      simp only[List.mem_singleton]at a7;subst a7
      have jd:Sc (σ.nx+1) (bJ l).vars:=dX ((hs.tab k _ hl).mono (Nat.le_succ _))
      have hg:=hs.grow (n:=1) (tys:=[(σ.nx,mE et)]) (lin:=[(Lin.at (4*σ.nx+1)).ax (-1) ((bJ l).aN 1),(bJ l).ax (-1) (Lin.at (4*σ.nx+1))]) (prs:=[]) ⟨by simp,by
       simp only[List.mem_cons,List.mem_nil_iff,or_false];rintro e (rfl|rfl);exact Lin.aE (ib av (by omega)) (Lin.bI jd);exact Lin.aE jd (ib av (by omega)),by simp⟩
      refine⟨(ns hg (by simp only[DO.vars,a8,Sc.cons];exact⟨av,Sc.nil⟩)).put o.dst (by simp[DV.vars,Sc.nil]),by rw[di];exact Nat.le_succ _⟩
     ·obtain⟨h1,h2,h3⟩:=zF ht
      have hgs:=jq ab hV
      have a6:=gj (P:=P) ab.g ab.tys cs _ gs aJ hgs.2
      have eb:=CS ab hly
      have hlen:=hgs.1
      simp only[G.v,Lin.aO,eG]at hlen
      obtain⟨hk1,hk2⟩:=Ij (ρ:=ρ) hx
      have hte:Ty P (mE et) (.v (.string (e.v ρ))::ar ρ (unR cs row)):=Ty.of fZ (Nx (Og ab.g hk2) a6)
      obtain⟨cC,gb,gh⟩:=Ig (C:=C) (σ:=σ.v ρ) (fr':=fr') ho hh hd (hC▸h1) (hC▸h2) (by rw[aK,hm];rfl) (by rw[dJ hl];rfl) (oY.of fZ eb.2) (by rw[aK];exact hk1)
       ((Q2 hv (by rw[←aK];exact bO hh v)).un cs)
      have jt:bK P (mE et) cC∧cC.length≤(lvV ρ l).length+1∧(lvV ρ l).length≤cC.length:=by
       rcases gb with rfl|⟨j,rfl⟩
       ·exact⟨.ofC (Nat.le_add_left ..) (by simp;omega) (eb.2.append (.one hte)),by simp,by simp⟩
       ·refine⟨⟨by have:=eb.1;simpa using this,?_⟩,by simp,by simp⟩
        intro r hr
        rcases List.mem_or_eq_of_mem_set hr with hr|rfl
        ·exact eb.2 r hr
        ·exact hte
      have hla:∀ρ',au σ.nx ρ ρ'→(bJ l).v ρ'=((lvV ρ l).length:Int):=fun ρ' ha=>by rw[Lin.ag ha (dX (hs.tab k _ hl)),eG]
      obtain⟨ag,ok',hvv⟩:=Mh (e:=mE et) hs ab (lin:=[(Lin.at (4*σ.nx+1)).ax (-1) ((bJ l).aN 1),(bJ l).ax (-1) (Lin.at (4*σ.nx+1))]) jt.1 (by
       have:=hla _ (da ρ σ.nx σ.nx (vaL cC) (Nat.le_refl _))
       simp only[bh,Lin.bQ,Lin.aO,Lin.bN,dI,this,and_true]
       rw[bg]
       have e1:(vaL cC).l=cC:=rfl
       rw[e1];omega)
      have S:=DSt.fX hs ag
      have okk:(((σ.grow 1 [(σ.nx,mE et)] [(Lin.at (4*σ.nx+1)).ax (-1) ((bJ l).aN 1),(bJ l).ax (-1) (Lin.at (4*σ.nx+1))] []).setObj k (.mp qq (some σ.nx) (fr && fr')))).ok P I (up ρ σ.nx (vaL cC)):=⟨ok'.g,ok'.tys,ok'.lin,ok'.prs⟩
      refine⟨_,ZW ..,_,_,ag,okk.put _ _,gh,?_⟩
      rw[eF,mT,dVU]
      simp only[DO.v,hvv]
      exact(S.setObj k _).put _ _
    ·cases h
   ·cases h
  ·cases h
 ·cases h
def qd:List DV→Option (List DV×LV×Bool)
 | []=>none
 | [x]=>match x with
  | .p (.ls l) fr=>some ([],l,fr)
  | .p (.ej (.pointer none)) _=>some ([],none,true)
  |_=>none
 |x::xs=>match qd xs with
  |some (i,l,f)=>some (x::i,l,f)
  |none=>none
theorem Im{w:World}{E:Env}{lo:Nat}{ρ:Ro}:∀{xs i:List DV} {l:LV} {f:Bool} {vs:List Value},qd xs=some (i,l,f)→VRs w E lo (dvs ρ xs) vs→VRs w E lo (dvs ρ (i++ [.p (.ls l) f])) vs
 | [x],i,l,f,vs,h,hv=>by
  simp only[qd]at h
  split at h
  ·simp only[ZS,ZT]at h;obtain⟨rfl,rfl,rfl⟩:=h;exact hv
  ·rename_i fr
   simp only[ZS,ZT]at h;obtain⟨rfl,rfl,rfl⟩:=h
   cases vs with
   |nil=>simp[dvs,VRs]at hv
   |cons v vs=>
    simp only[dvs,List.nil_append,VRs,DV.v,DP.v,VR,lvV]at hv ⊢
    have:=ek hv.1;subst this
    exact⟨.pN,hv.2⟩
  ·cases h
 |x::y::xs,i,l,f,vs,h,hv=>by
  simp only[qd]at h
  split at h
  ·rename_i i' l' f' h'
   simp only[ZS,ZT]at h;obtain⟨rfl,rfl,rfl⟩:=h
   cases vs with
   |nil=>simp[dvs,VRs]at hv
   |cons v vs=>
    rw[dvs]at hv
    simp only[VRs]at hv
    rw[List.cons_append,dvs]
    simp only[VRs]
    exact⟨hv.1,Im h' hv.2⟩
  ·cases h
theorem Ft{n:Nat}:∀{xs i:List DV} {l:LV} {f:Bool},qd xs=some (i,l,f)→Sc n (aD xs)→Sc n (aD i)∧Sc n (a8 l)
 | [x],i,l,f,h,hs=>by
  simp only[qd]at h
  split at h
  ·simp only[ZS,ZT]at h;obtain⟨rfl,rfl,rfl⟩:=h
   simp only[aD,DV.vars,DP.vars,Sc.app]at hs ⊢;exact⟨Sc.nil,hs.1⟩
  ·simp only[ZS,ZT]at h;obtain⟨rfl,rfl,rfl⟩:=h;exact⟨Sc.nil,Sc.nil⟩
  ·cases h
 |x::y::xs,i,l,f,h,hs=>by
  simp only[qd]at h
  split at h
  ·rename_i i' l' f' h'
   simp only[ZS,ZT]at h;obtain⟨rfl,rfl,rfl⟩:=h
   rw[aD,Sc.app]at hs
   have:=Ft h' hs.2
   rw[aD,Sc.app];exact⟨⟨hs.1,this.1⟩,this.2⟩
  ·cases h
def pK(n:Nat)(l:LV)(z:Lin):List Lin:=
 [(Lin.at (4*n+1)).ax (-1) ((bJ l).aN 1),((bJ l).aN 1).ax (-1) (Lin.at (4*n+1)),(Lin.at (4*n+2)).ax (-1) ((z.add (gL l)).aN 1),((z.add (gL l)).aN 1).ax (-1) (Lin.at (4*n+2))]
theorem Io{n m:Nat}{l:LV}{z:Lin}(hn:n<m)(hl:Sc m (a8 l))(hz:Sc m z.vars):∀e∈pK n l z,Sc m e.vars:=by
 have h1:=Lin.bI (k:=1) (dX hl)
 have h2:=Lin.bI (k:=1) (Lin.N3 hz (jN hl))
 simp only[pK,List.mem_cons,List.mem_nil_iff,or_false]
 rintro e (rfl|rfl|rfl|rfl)
 ·exact Lin.aE (ib hn (by omega)) h1
 ·exact Lin.aE h1 (ib hn (by omega))
 ·exact Lin.aE (ib hn (by omega)) h2
 ·exact Lin.aE h2 (ib hn (by omega))
theorem Kk{ρ:Ro}{n:Nat}{l:LV}{z:Lin}{row:List PV}(h:(ρ n).l=row::lvV ρ l)(hz:z.v ρ=(rz row:Int)):bh ρ (pK n l z):=by
 simp only[pK,bh,Lin.bQ,Lin.aO,Lin.K8,Lin.bN,dI,fa,h,hz,eG,nq,List.length_cons,eY,and_true];omega
def Ip(P:Program)(σ:DSt)(o:Oper)(t:TypeId)(x:Operand):bj:=
 match dev σ x with
 | .agg xs=>match qd xs with
  |some (i,l,f)=>match jV (i++ [.p (.ls l) f])with
   |some (row,fr)=>match qT row (row.dropLast++ [.ls l]),pY row,Ek σ (cE t) l,dty σ.tys (cks P (cE t)) row.dropLast with
    |true,true,true,some gs=>some ([(σ.grow 1 [(σ.nx,cE t)] (pK σ.nx l (drz row.dropLast)) []).put o.dst (.p (.ls (some σ.nx)) fr)],todo σ (.le ((bJ l).aN (-1073741823))::gs))
    |_,_,_,_=>none
   |none=>none
  |none=>none
 |_=>none
theorem Jo{P:Program}{I:Pr}{n:Nat}{σ:DSt}{o:Oper}{t:TypeId}{x:Operand}{outs:List DSt}{q:List Seq}(ho:o.op= .box t x)(h:Ip P σ o t x=some (outs,q))(hV:Valid P I q):aS P I n o σ outs:=by
 unfold Ip at h
 split at h
 ·rename_i xs hx
  split at h
  ·rename_i i l f hi
   split at h
   ·rename_i row fr hr
    split at h
    ·rename_i gs he hc hl aJ
     simp only[ZS,ZT]at h;obtain⟨rfl,rfl⟩:=h
     have he:=sB he
     have av:σ.nx<σ.nx+1:=Nat.lt_succ_self _
     have oz:σ.sc→Sc σ.nx (bP row.dropLast)∧Sc σ.nx (a8 l):=fun hs=>by
      have h1:=hs.dev x
      rw[hx]at h1;simp only[DV.vars]at h1
      have h2:=Ft hi h1
      have h3:=pZ hr (n:=σ.nx) (by rw[tT];exact⟨h2.1,by simpa[aD,DV.vars,DP.vars]using h2.2⟩)
      rw[pT]at h3 ⊢
      exact⟨fun y hy=>h3 y (List.dropLast_subset _ hy),h2.2⟩
     have mu:σ.sc→Sc (σ.nx+1) (drz row.dropLast).vars:=fun hs=>(uB (oz hs).1).mono (Nat.le_succ _)
     refine aS.of (fun hs=>?_) fun hs ρ ab C E a w hC hh hd=>?_
     ·intro σ' a7
      simp only[List.mem_singleton]at a7;subst a7
      have hg:=hs.grow (n:=1) (tys:=[(σ.nx,cE t)]) (lin:=pK σ.nx l (drz row.dropLast)) (prs:=[]) ⟨by simp,Io av ((oz hs).2.mono (Nat.le_succ _)) (mu hs),by simp⟩
      exact⟨hg.put o.dst (by simp only[DV.vars,DP.vars,a8,Sc.cons];exact⟨av,Sc.nil⟩),by rw[di];exact Nat.le_succ _⟩
     ·have hgs:=jq ab hV
      have a6:=gj (P:=P) ab.g ab.tys _ _ gs aJ hgs.2
      have hrz:=BZ (P:=P) (I:=I) (ρ:=ρ) ab.g _ _ gs aJ
      have eb:=CS ab hl
      have hlen:=hgs.1
      simp only[G.v,Lin.aO,eG]at hlen
      have hp:=oP (ρ:=ρ) hr hc
      rw[he,tR]at hp
      have az:=bO hh x
      rw[aK,hx]at az
      simp only[DV.v,VR]at az
      obtain⟨vs,gM,hvv⟩:=az
      have gh:=Q0 (C:=C) (row:=ar ρ row.dropLast) (rows:=lvV ρ l) ho hh hd (by rw[gM];exact Im hi hvv) hp
      have hT:bK P (cE t) (ar ρ row.dropLast::lvV ρ l):= .ofC (Nat.le_trans (by decide) (Nat.le_add_left 2000000 _)) (by simp;omega) (.cons a6 eb.2)
      obtain⟨ag,ok',hnv⟩:=Mh (e:=cE t) hs ab (lin:=pK σ.nx l (drz row.dropLast)) hT (by
       have ag:=da ρ σ.nx σ.nx (vaL (ar ρ row.dropLast::lvV ρ l)) (Nat.le_refl _)
       refine Kk (row:=ar ρ row.dropLast) ?_ ?_
       ·rw[bg,gv ag (oz hs).2];rfl
       ·rw[Lin.ag ag (uB (oz hs).1)];exact hrz)
      refine⟨_,ZW ..,_,_,ag,ok'.put _ _,gh,?_⟩
      rw[eF]
      simp only[DV.v,DP.v,hnv]
      exact cq.put (DSt.fX hs ag) _ _
    ·cases h
   ·cases h
  ·cases h
 ·cases h
def Mi(P:Program)(σ:DSt)(o:Oper)(x:Operand):bj:=
 match dev σ x with
 | .p (.ls (some l)) fr=>match lk σ.tys l with
  |some e=>match iv (cks P e) σ.nx with
   |some R=>some ([(σ.grow (R.nx - σ.nx+1) ((R.nx,e)::R.tys) (pK l (some R.nx) R.rz++R.lin) []).put o.dst (.pd (R.cells++ [.ls (some R.nx)]) 0 fr)],todo σ [.le ((Lin.scale (-1) (Lin.at (4*l+1))).aN 1)])
   |none=>none
  |none=>none
 |_=>none
theorem Mj{P:Program}{I:Pr}{n:Nat}{σ:DSt}{o:Oper}{x:Operand}{outs:List DSt}{q:List Seq}(ho:o.op= .nilCheck x)(h:Mi P σ o x=some (outs,q))(hV:Valid P I q):aS P I n o σ outs:=by
 unfold Mi at h
 split at h
 ·rename_i l fr hx
  split at h
  ·rename_i e hl
   split at h
   ·rename_i R hR
    simp only[ZS,ZT]at h;obtain⟨rfl,rfl⟩:=h
    have ed:=oK _ σ.nx R hR
    have hn:σ.nx+(R.nx - σ.nx+1)=R.nx+1:=by have:=ed.le;omega
    have av:=Nat.lt_succ_self R.nx
    have jd:σ.sc→l<R.nx+1:=fun hs=>by have:=mi hs hl;have:=ed.le;omega
    have hg:σ.sc→jT (σ.nx+(R.nx - σ.nx+1)) ((R.nx,e)::R.tys) (pK l (some R.nx) R.rz++R.lin) []:=fun hs=>by
     rw[hn]
     refine⟨?_,?_,by simp⟩
     ·intro k e' hk
      simp only[List.mem_cons,ZT]at hk
      rcases hk with⟨rfl,_⟩|hk
      ·exact av
      ·exact Nat.lt_succ_of_lt (ed.tys k e' hk)
     ·intro y hy
      rcases Z0 hy with hy|hy
      ·exact Io (jd hs) (by simp only[a8,Sc.cons];exact⟨av,Sc.nil⟩) (ed.rz.mono (Nat.le_succ _)) y hy
      ·exact(ed.lin y hy).mono (Nat.le_succ _)
    refine aS.of (fun hs=>?_) fun hs ρ ab C E a w hC hh hd=>?_
    ·intro σ' a7
     simp only[List.mem_singleton]at a7;subst a7
     refine⟨(hs.grow (hg hs)).put o.dst ?_,by rw[di];exact Nat.le_add_right _ _⟩
     simp only[DSt.grow,hn,DV.vars]
     rw[pT]
     intro y hy
     rcases Z0 hy with hy|hy
     ·exact((pT.1 ed.cells) y hy).mono (Nat.le_succ _)
     ·simp only[List.mem_singleton]at hy;subst hy;simp only[DP.vars,a8,Sc.cons];exact⟨av,Sc.nil⟩
    ·have hgs:=jq ab hV
     have h1:=hgs.1
     simp only[G.v,Lin.aO,Lin.bE,Lin.bN,dI]at h1
     have aJ:=eE ab.tys hl
     cases hq:(ρ l).l with
     |nil=>rw[hq]at h1;simp at h1
     |cons row rows=>
      rw[hq]at aJ
      have hw:=aJ.2 row (ZW ..)
      obtain⟨ρ1,r⟩:=rD (P:=P) _ σ.nx R row ρ hR hw ab.g
      have hT:bK P e rows:=⟨by have:=aJ.1;simp at this;omega,fun y hy=>aJ.2 y (ZV _ hy)⟩
      have jf:=da ρ1 R.nx R.nx (vaL rows) (Nat.le_refl _)
      have ag:au σ.nx ρ (up ρ1 R.nx (vaL rows)):=r.ag.trans jf ed.le
      have nH:(up ρ1 R.nx (vaL rows) l)=ρ l:=ag l (mi hs hl)
      have okk:(σ.grow (R.nx - σ.nx+1) ((R.nx,e)::R.tys) (pK l (some R.nx) R.rz++R.lin) []).ok P I (up ρ1 R.nx (vaL rows)):=by
       refine ab.grow hs ag (r.g.up _ (jU hT.len)) ⟨by rw[bg];exact hT,(xQ jf ed.tys).2 r.tys⟩ (dH (Kk (row:=row) ?_ ?_) ((uy jf ed.lin).2 r.lin)) trivial
       ·rw[nH,hq];simp only[lvV,bg];rfl
       ·rw[Lin.ag jf ed.rz,r.rz]
      have gh:=Tz (C:=C) (σ:=σ.v ρ) (row:=row) (rows:=rows) (fr:=fr) ho hh hd (by rw[aK,hx];simp only[DV.v,DP.v,lvV,hq])
      refine⟨_,ZW ..,_,_,ag,okk.put _ _,gh,?_⟩
      rw[eF]
      simp only[DV.v,tR,lZ jf ed.cells,r.cells,ar,DP.v,lvV,bg]
      exact cq.put (DSt.fX hs ag) _ _
   ·cases h
  ·cases h
 ·cases h
def zG(P:Program)(σ:DSt)(t:TypeId)(x y:Operand):Option BF:=
 match P.underlying t with
 |some (.pointer _)=>match dev σ x,B7 (dev σ y)with
  | .p (.ls l) _,some true=>some (.le (bJ l))
  |_,_=>none
 |some (.map _ _)=>match dev σ y with
  | .p (.ej (.map none)) _=>match dev σ x with
   | .p (.ej (.map none)) _=>some (.lit true)
   | .ref k=>match lk σ.tab k with|some (.mp _ _ _)=>some (.lit false)|_=>none
   |_=>none
  |_=>none
 |_=>none
def Mk(P:Program)(σ:DSt)(o:Oper)(op:BinOp)(t:TypeId)(x y:Operand):bj:=
 match zG P σ t x y,op with
 |some f,.eql=>some ([σ.put o.dst (.p (.bl f) true)],[])
 |some f,.neq=>some ([σ.put o.dst (.p (.bl (.not f)) true)],[])
 |_,_=>none
theorem TA{P:Program}{σ:DSt}{o:Oper}{op:BinOp}{tx ty:TypeId}{x y:Operand}{f:BF}(ho:o.op= .binOp op tx x y ty)(kU:op= .eql∨op= .neq)(h:zG P σ tx x y=some f){ρ:Ro}{C:Ctx}{E:Env}{a:Act}{w:World}(hC:C.P=P)(hh:aC C E (σ.v ρ) a w)(hd:bA C o):
  bR C o ((σ.v ρ).put o.dst (.p (.v (.bool (opB op (f.v ρ)))) true)) a w:=by
 unfold zG at h
 split at h
 ·rename_i e hu
  split at h
  ·rename_i l fr hx hy
   simp only[ZS]at h;subst h
   have e1:vC (ev (σ.v ρ) x)=some (BF.v ρ (.le (bJ l))):=by
    rw[aK,hx]
    simp only[DV.v,DP.v,BF.v,eG]
    cases lvV ρ l with
    |nil=>simp[vC]
    |cons r rs=>simp[vC]
   have e2:=(uF (ρ:=ρ) hy).1
   rw[←aK]at e2
   have e3:px C.P (σ.v ρ) tx x y=some (BF.v ρ (.le (bJ l))):=by simp only[px,hC,hu,e1,e2]
   rcases kU with rfl|rfl
   ·exact(qE ho (by simp only[vD,e3];rfl) hh hd).out
   ·exact(qE ho (by simp only[vD,e3];rfl) hh hd).out
  ·cases h
 ·rename_i k e hu
  split at h
  ·rename_i fr hy
   have ey:a.eval y= .map none:=kf hh (fr:=fr) (by rw[aK,hy];simp only[DV.v,DP.v])
   split at h
   ·rename_i fr' hx
    simp only[ZS]at h;subst h
    have ex:a.eval x= .map none:=kf hh (fr:=fr') (by rw[aK,hx];simp only[DV.v,DP.v])
    have:=Fs ho kU (hC▸hu) ex ey hh hd
    rcases kU with rfl|rfl<;>exact this
   ·rename_i k' hx
    split at h
    ·rename_i hl
     simp only[ZS]at h;subst h
     obtain⟨b,es,cl,h1,_⟩:=hh.tab.obj k' _ (dJ hl)
     have az:=bO hh x
     rw[aK,hx]at az
     simp only[DV.v,VR]at az
     rw[h1]at az
     have:=Fs ho kU (hC▸hu) (Option.some.inj az.1).symm ey hh hd
     rcases kU with rfl|rfl<;>exact this
    ·cases h
   ·cases h
  ·cases h
 ·cases h
theorem Q4{P:Program}{σ:DSt}(hs:σ.sc){t:TypeId}{x y:Operand}{f:BF}(h:zG P σ t x y=some f):Sc σ.nx f.vars:=by
 unfold zG at h
 split at h
 ·split at h
  ·rename_i hx _
   simp only[ZS]at h;subst h
   have:=hs.dev x;rw[hx]at this
   exact dX (by simpa[DV.vars,DP.vars]using this)
  ·cases h
 ·split at h
  ·split at h
   ·simp only[ZS]at h;subst h;exact Sc.nil
   ·split at h
    ·simp only[ZS]at h;subst h;exact Sc.nil
    ·cases h
   ·cases h
  ·cases h
 ·cases h
theorem Ml{P:Program}{I:Pr}{n:Nat}{σ:DSt}{o:Oper}{op:BinOp}{tx ty:TypeId}{x y:Operand}{outs:List DSt}{q:List Seq}(ho:o.op= .binOp op tx x y ty)(h:Mk P σ o op tx x y=some (outs,q)):aS P I n o σ outs:=by
 have step:∀(f g:BF),zG P σ tx x y=some f→(op= .eql∨op= .neq)→g.vars=f.vars→(∀ρ,g.v ρ=opB op (f.v ρ))→aS P I n o σ [σ.put o.dst (.p (.bl g) true)]:=by
  intro f g hf kU wZ hg
  refine aS.of (fun hs=>?_) fun hs ρ ab C E a w hC hh hd=>?_
  ·intro σ' a7
   simp only[List.mem_singleton]at a7;subst a7
   exact⟨hs.put o.dst (by simp only[DV.vars,DP.vars,wZ];exact Q4 hs hf),by rw[di];exact Nat.le_refl _⟩
  ·refine⟨_,ZW ..,ρ,_,au.refl _ _,ab.put _ _,TA ho kU hf hC hh hd,?_⟩
   rw[eF];simp only[DV.v,DP.v,hg];exact cq.refl _
 unfold Mk at h
 split at h
 ·rename_i f hf
  simp only[ZS,ZT]at h;obtain⟨rfl,rfl⟩:=h
  exact step _ _ hf (.inl rfl) rfl fun _=>rfl
 ·rename_i f hf
  simp only[ZS,ZT]at h;obtain⟨rfl,rfl⟩:=h
  exact step _ (.not _) hf (.inr rfl) rfl fun _=>rfl
 ·cases h
def eqK(P:Program)(t:TypeId)(x y:DV):Bool:=
 match P.underlying t,x,y with
 |some (.int _),.p (.int k _) _,.p (.int k' _) _=>HB k k'
 |some .string,.p (.st _) _,.p (.st _) _=>true
 |some .bool,.p (.bl _) _,.p (.bl _) _=>true
 |_,_,_=>false
def Mm(P:Program)(xs ys:List DV):List Field→Bool
 | []=>true
 |f::r=>match decide (f.name= "_"),P.plainKey f.type,xs[f.offset]?,ys[f.offset]? with
  |false,true,some x,some y=>match eqK P f.type x y with|true=>Mm P xs ys r|false=>false
  |_,_,_,_=>false
theorem TB{P:Program}{w:World}{E:Env}{lo:Nat}{ρ:Ro}{t:TypeId}{x y:DV}(d:Nat)(h:eqK P t x y=true){u v:Value}(hu:VR w E lo (x.v ρ) u)(hv:VR w E lo (y.v ρ) v):
  ∃b,(Op.equalIn (d+1) t u v).run P w= .ok b w:=by
 unfold eqK at h
 split at h
 ·rename_i ht
  have:=of_decide_eq_true h;subst this
  rw[dh hu,dh hv];exact⟨_,run_equalIn_int w d t _ _ _ _ ht⟩
 ·rename_i ht
  rw[dh hu,dh hv];exact⟨_,run_equalIn_string w d t _ _ ht⟩
 ·rename_i ht
  rw[dh hu,dh hv];exact⟨_,run_equalIn_bool' w d t _ _ ht⟩
 ·cases h
theorem Iq{P:Program}{w:World}{E:Env}{lo:Nat}{ρ:Ro}{xs ys:List DV}{us vs:List Value}(d:Nat)(hu:VRs w E lo (xs.map (·.v ρ)) us)(hv:VRs w E lo (ys.map (·.v ρ)) vs):
  ∀fs,Mm P xs ys fs=true→∃b,(Op.eqFields (d+1) us.toArray vs.toArray fs).run P w= .ok b w
 | [],_=>⟨true,rfl⟩
 |f::r,h=>by
  simp only[Mm]at h
  split at h
  ·rename_i x y h1 h2 h3 h4
   split at h
   ·rename_i h5
    obtain⟨u,e1,u1⟩:=mX (n:=f.offset) (x:=x.v ρ) hu (by simp[h3])
    obtain⟨v,e2,v1⟩:=mX (n:=f.offset) (x:=y.v ρ) hv (by simp[h4])
    obtain⟨b,hb⟩:=TB d h5 u1 v1
    have p1:=run_part_plain (w:=w) h2 (xs:=us.toArray) (off:=f.offset) (v:=u) (by simpa using e1)
    have p2:=run_part_plain (w:=w) h2 (xs:=vs.toArray) (off:=f.offset) (v:=v) (by simpa using e2)
    unfold Op.eqFields
    rw[if_pos (of_decide_eq_false h1)]
    simp only[Sem.run_bind,p1,p2,hb,Result.andThen_ok]
    cases b with
    |false=>exact⟨false,by simp⟩
    |true=>simpa using Iq d hu hv r h
   ·cases h
  ·cases h
def Q5(P:Program)(t:TypeId)(xs ys:List DV):Bool:=
 match P.underlying t,P.stoodInHeld t,P.eqGuardType P.depth t with
 |some (.struct fs),false,false=>Mm P xs ys fs.toList
 |_,_,_=>false
def Q6(P:Program)(σ:DSt)(o:Oper)(op:BinOp)(t:TypeId)(x y:Operand):bj:=
 match dev σ x,dev σ y with
 | .agg xs,.agg ys=>match Q5 P t xs ys,op with
  |true,.eql=>some ([(σ.grow 1 [] [] []).put o.dst (.p (.bl (.var σ.nx)) true)],[])
  |true,.neq=>some ([(σ.grow 1 [] [] []).put o.dst (.p (.bl (.var σ.nx)) true)],[])
  |_,_=>none
 |_,_=>none
theorem OM{P:Program}{I:Pr}{n:Nat}{σ:DSt}{o:Oper}{op:BinOp}{tx ty:TypeId}{x y:Operand}{outs:List DSt}{q:List Seq}(ho:o.op= .binOp op tx x y ty)(h:Q6 P σ o op tx x y=some (outs,q)):aS P I n o σ outs:=by
 have step:∀xs ys,dev σ x= .agg xs→dev σ y= .agg ys→Q5 P tx xs ys=true→(op= .eql∨op= .neq)→aS P I n o σ [(σ.grow 1 [] [] []).put o.dst (.p (.bl (.var σ.nx)) true)]:=by
  intro xs ys hx hy hq kU
  have hg:jT (σ.nx+1) [] [] []:=⟨by simp,by simp,by simp⟩
  refine aS.of (fun hs=>?_) fun hs ρ ab C E a w hC hh hd=>?_
  ·intro σ' a7
   simp only[List.mem_singleton]at a7;subst a7
   exact⟨(hs.grow hg).put o.dst (by simp only[DV.vars,DP.vars,BF.vars,DSt.grow,Sc.cons];exact⟨Nat.lt_succ_self _,Sc.nil⟩),by rw[di];exact Nat.le_add_right _ _⟩
  ·have ex:=bO hh x
   have ey:=bO hh y
   rw[aK,hx]at ex
   rw[aK,hy]at ey
   simp only[DV.v,VR,gF]at ex ey
   obtain⟨us,eu,ru⟩:=ex
   obtain⟨vs,ev,rv⟩:=ey
   have aW:∃b,(execOp a.eval o).run C.P w= .ok (.value (.bool b)) w:=by
    unfold Q5 at hq
    split at hq
    ·rename_i fs hu h1 h2
     have hf:P.fieldsOf tx=fs:=by simp[Program.fieldsOf,hu]
     obtain⟨b,hb⟩:=Iq 9998 ru rv fs.toList hq
     have hS:=run_equalIn_struct w 9999 tx us.toArray vs.toArray (by rw[hf];exact hu) h1
     rw[hf,hb]at hS
     have hG:=fun op=>run_eqGuard_agg w op tx x y us.toArray vs.toArray h2
     subst hC
     rcases kU with rfl|rfl
     ·refine⟨b,?_⟩
      have:=run_eql_struct (P:=C.P) w tx us.toArray vs.toArray
      rw[hS]at this
      unfold execOp
      simp only[ho,eu,ev,Sem.run_bind,hG,Result.andThen_ok,this,Sem.run_pure]
     ·refine⟨!b,?_⟩
      have:=run_neq_struct (P:=C.P) w tx us.toArray vs.toArray
      rw[hS]at this
      unfold execOp
      simp only[ho,eu,ev,Sem.run_bind,hG,Result.andThen_ok,this,Sem.run_pure]
    ·cases hq
   obtain⟨b,hb⟩:=aW
   have ag:=da ρ σ.nx σ.nx (vaB b) (Nat.le_refl _)
   have okk:(σ.grow 1 [] [] []).ok P I (up ρ σ.nx (vaB b)):=ab.grow hs ag (ab.g.up _ (uz b)) trivial trivial trivial
   refine⟨_,ZW ..,_,_,ag,okk.put _ _,cn hh hd (v:= .bool b) hb (dR true rfl),?_⟩
   rw[eF]
   simp only[DV.v,DP.v,BF.v,bg]
   exact cq.put (DSt.fX hs ag) _ _
 unfold Q6 at h
 split at h
 ·rename_i xs ys hx hy
  split at h
  ·rename_i hq
   simp only[ZS,ZT]at h;obtain⟨rfl,rfl⟩:=h
   exact step xs ys hx hy hq (.inl rfl)
  ·rename_i hq
   simp only[ZS,ZT]at h;obtain⟨rfl,rfl⟩:=h
   exact step xs ys hx hy hq (.inr rfl)
  ·cases h
 ·cases h
def mK(σ:DSt)(d:Option Nat)(b:Bool):DSt:=σ.put d (.p (.bl (.lit b)) true)
def Mn(P:Program)(σ:DSt)(o:Oper)(op:BinOp)(t:TypeId)(x y:Operand):bj:=
 match P.underlying t,dev σ x,dev σ y with
 |some (.slice _),.p (.sl l) _,.p .nl _=>match op with
  | .eql=>some ([mK {σ with lin:=bJ l::gL l::σ.lin} o.dst true,mK σ o.dst false],[])
  | .neq=>some ([mK {σ with lin:=bJ l::gL l::σ.lin} o.dst false,mK σ o.dst true],[])
  |_=>none
 |_,_,_=>none
theorem Mp{P:Program}{I:Pr}{n:Nat}{σ:DSt}{o:Oper}{op:BinOp}{tx ty:TypeId}{x y:Operand}{outs:List DSt}{q:List Seq}(ho:o.op= .binOp op tx x y ty)(h:Mn P σ o op tx x y=some (outs,q)):aS P I n o σ outs:=by
 unfold Mn at h
 split at h
 ·rename_i e l fr fr' hu hx hy
  have key:∀b1:Bool,(op= .eql∧b1=true∨op= .neq∧b1=false)→aS P I n o σ [mK {σ with lin:=bJ l::gL l::σ.lin} o.dst b1,mK σ o.dst !b1]:=by
   intro b1 kU
   have jd:σ.sc→Sc σ.nx (bJ l).vars:=fun hs=>by have:=hs.dev x;rw[hx]at this;exact dX (by simpa[DV.vars,DP.vars]using this)
   refine aS.of (fun hs=>?_) fun hs ρ ab C E a w hC hh hd=>?_
   ·intro σ' a7
    simp only[List.mem_cons,List.mem_nil_iff,or_false]at a7
    rcases a7 with rfl|rfl
    ·refine⟨DSt.sc.put (σ:={σ with lin:=bJ l::gL l::σ.lin}) ⟨hs.ah,hs.tab,hs.tys,?_,hs.prs⟩ o.dst Sc.nil,by rw[mK,di];exact Nat.le_refl _⟩
     intro e he
     rcases Z1 he with rfl|he
     ·exact jd hs
     ·rcases Z1 he with rfl|he
      ·have:=hs.dev x;rw[hx]at this;exact jN (by simpa[DV.vars,DP.vars]using this)
      ·exact hs.lin e he
    ·exact⟨hs.put o.dst Sc.nil,by rw[mK,di];exact Nat.le_refl _⟩
   ·have ex:=bO hh x
    rw[aK,hx]at ex
    simp only[DV.v,DP.v,VR]at ex
    have ey:a.eval y= .slice none 0 0:=kf hh (fr:=fr') (by rw[aK,hy];simp only[DV.v,DP.v])
    have run:∀(p:Option Addr) (m c:Nat),a.eval x= .slice p m c→bR C o ((σ.v ρ).put o.dst (.p (.v (.bool (p.isNone==b1))) true)) a w:=by
     intro p m c hv
     have h1:=Lib.run_equalIn_slice_nil (P:=C.P) w 9999 tx e p m c 0 0 (hC▸hu)
     have h2:(Op.equal tx (.slice p m c) (.slice none 0 0)).run C.P w= .ok p.isNone w:=h1
     rcases kU with⟨rfl,rfl⟩|⟨rfl,rfl⟩
     ·exact cn hh hd (v:= .bool (p.isNone==true)) (dV ho (by rw[hv,ey];simp[eqGuard]) (by rw[hv,ey];simp[binOp,h2])) (dR true rfl)
     ·exact cn hh hd (v:= .bool (p.isNone==false)) (dV ho (by rw[hv,ey];simp[eqGuard]) (by rw[hv,ey];simp[binOp,h2])) (dR true rfl)
    have some':∀(p:Addr) (m c:Nat),a.eval x= .slice (some p) m c→∃σ'∈ [mK {σ with lin:=bJ l::gL l::σ.lin} o.dst b1,mK σ o.dst !b1],∃ρ' s,au σ.nx ρ ρ'∧σ'.ok P I ρ'∧bR C o s a w∧cq s (σ'.v ρ'):=by
     intro p m c hv
     refine⟨_,ZV _ (ZW ..),ρ,_,au.refl _ _,ab.put _ _,run _ _ _ hv,?_⟩
     rw[mK,eF]
     simp only[DV.v,DP.v,BF.v,Option.isNone_some]
     cases b1<;>exact cq.refl _
    generalize hv:a.eval x=v at ex
    cases hl:lvV ρ l with
    |nil=>
     rw[hl]at ex
     cases ex with
     |nil p c=>
      cases p with
      |some p=>exact some' p 0 c hv
      |none=>
       refine⟨_,ZW ..,ρ,_,au.refl _ _,DSt.ok.put (σ:={σ with lin:=bJ l::gL l::σ.lin}) ⟨ab.g,ab.tys,⟨by rw[eG,hl];exact Int.le_refl _,by rw[nq,hl];exact Int.le_refl _,ab.lin⟩,ab.prs⟩ _ _,run _ _ _ hv,?_⟩
       rw[mK,eF]
       simp only[DV.v,DP.v,BF.v,Option.isNone_none]
       cases b1<;>exact cq.refl _
     |sl _ b off cap=>exact some' _ _ _ hv
    |cons r rs=>
     rw[hl]at ex
     cases ex with
     |sl _ b off cap=>exact some' _ _ _ hv
  split at h
  ·rename_i kU
   simp only[ZS,ZT]at h;obtain⟨rfl,rfl⟩:=h
   exact key true (.inl ⟨rfl,rfl⟩)
  ·simp only[ZS,ZT]at h;obtain⟨rfl,rfl⟩:=h
   exact key false (.inr ⟨rfl,rfl⟩)
  ·cases h
 ·cases h
def CU:List DV→List Co
 | []=>[]
 | .vec k::r=>jO (.fz k) (CU r)
 |_::r=>CU r
def Ge(P:Program)(n:Nat)(σ:DSt)(o:Oper)(t:TypeId)(m x v:Operand):bj:=
 match σ.cos n (match dev σ v with| .agg xs=>CU xs|_=>[])with
 |some σ1=>Q3 P σ1 o t m x v
 |none=>none
theorem Co1.step{P:Program}{I:Pr}{n:Nat}{o:Oper}{σ σ1:DSt}{outs:List DSt}(c:Co1 P n σ σ1)(h:aS P I n o σ1 outs):aS P I n o σ outs:=by
 intro hs
 obtain⟨h1,h2⟩:=h (c.sc hs)
 have hn:σ.nx=σ1.nx:=by rw[c.nx]
 refine⟨fun σ' a7=>⟨(h1 σ' a7).1,hn▸(h1 σ' a7).2⟩,?_⟩
 intro ρ ab K Q lo w0 E0 hK a w hh hd
 exact h2 ρ (c.ok ab) K Q lo w0 E0 (fun σ' a7 ρ' ha=>hK σ' a7 ρ' (hn▸ha)) a w (c.imp ρ lo w0 E0 a w hh) hd
theorem CV{P:Program}{I:Pr}{n:Nat}{σ:DSt}{o:Oper}{t:TypeId}{m x v:Operand}{outs:List DSt}{q:List Seq}(ho:o.op= .mapUpdate t m x v∨o.op= .insert t m x v)(h:Ge P n σ o t m x v=some (outs,q))(hV:Valid P I q):aS P I n o σ outs:=by
 unfold Ge at h
 split at h
 ·rename_i σ1 h1;exact(sD h1).step (OL ho h hV)
 ·cases h
def wG(σ:DSt):List (Nat×Operand)→List Co
 | []=>[]
 |(_,x)::r=>match dev σ x with
   | .agg xs=>CU xs++wG σ r
   | .vec k=>jO (.fz k) (wG σ r)
   |_=>wG σ r
def Em(P:Program)(n:Nat)(σ:DSt)(o:Oper)(ps:Array (Nat×Operand)):bj:=
 match wG σ ps.toList with
 | []=>none
 |c::cs=>match σ.cos n (c::cs)with
  |some σ1=>match dop P σ1 o with
   |some (σ',gs)=>some ([σ'],todo σ1 gs)
   |none=>none
  |none=>none
theorem Ir{P:Program}{I:Pr}{n:Nat}{σ:DSt}{o:Oper}{ps:Array (Nat×Operand)}{outs:List DSt}{q:List Seq}(h:Em P n σ o ps=some (outs,q))(hV:Valid P I q):aS P I n o σ outs:=by
 unfold Em at h
 split at h
 ·cases h
 ·split at h
  ·rename_i σ1 h1
   split at h
   ·rename_i σ' gs h2
    simp only[ZS,ZT]at h;obtain⟨rfl,rfl⟩:=h
    exact(sD h1).step (A9 h2 hV)
   ·cases h
  ·cases h
def Mq(P:Program)(n:Nat)(σ:DSt)(o:Oper):bj:=
 match o.op with
 | .lookup t m x c=>Mf P σ o t m x c
 | .makeMap t none=>Bk P σ o t
 | .mapUpdate t m x v=>Ge P n σ o t m x v
 | .insert t m x v=>Ge P n σ o t m x v
 | .box t x=>Ip P σ o t x
 | .buildSlice _ _ ps=>Em P n σ o ps
 | .nilCheck x=>Mi P σ o x
 | .binOp op t x y _=>match Mk P σ o op t x y with
  |some r=>some r
  |none=>match Mn P σ o op t x y with
   |some r=>some r
   |none=>Q6 P σ o op t x y
 |_=>none
theorem Mr{P:Program}{I:Pr}{n:Nat}:Handler P I n (Mq P n):=by
 intro σ o outs q h hV
 unfold Mq at h
 split at h
 ·rename_i ho;exact Mg ho h hV
 ·rename_i ho;exact FM ho h
 ·rename_i ho;exact CV (.inl ho) h hV
 ·rename_i ho;exact CV (.inr ho) h hV
 ·rename_i ho;exact Jo ho h hV
 ·exact Ir h hV
 ·rename_i ho;exact Mj ho h hV
 ·rename_i ho
  split at h
  ·rename_i r hr;cases h;exact Ml ho hr
  ·split at h
   ·rename_i r hr;cases h;exact Mp ho hr
   ·exact OM ho h
 ·cases h
end Go.TL
