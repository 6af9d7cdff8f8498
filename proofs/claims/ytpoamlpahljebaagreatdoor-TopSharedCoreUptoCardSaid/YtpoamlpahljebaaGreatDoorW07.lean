/- Operations that look at no memory; regions that draw their order. -/
import Derived.Test.YtpoamlpahljebaaGreatDoorW06
import Derived.Orders
import Derived.Still
namespace Go.TL
def sa(o:Oper):Bool:=
 match o.op with
 | .move _=>true
 | .assign _=>true
 | .pick _ _ _=>true
 | .nilCheck _=>true
 | .fieldAddr _ _ _=>true
 | .extract _ _=>true
 | .indexAddr _ _ _=>true
 | .binOp _ _ _ _ _=>true
 | .call c=>match c.callee,c.args.toList,c.argTypes.toList with
  | .builtin .len,[_],[_]=>true
  |_,_,_=>false
 |_=>false
theorem GK{C:Ctx}{H:Hint}{σ σ':St}{a:Act}{w:World}{o:Oper}{ps:List Prop}(lE:sa o=true)(hf:aop C.P H σ o=some (σ',ps))(hp:lM ps)(h:Holds C σ a w)(hd:bA C o):gX C o σ' a w:=by
 obtain⟨E,h⟩:=h
 unfold sa at lE
 unfold aop at hf
 split at lE
 ·rename_i ho;simp only[ho]at hf;obtain⟨_,hq⟩:=c6 hf;exact py (.inl ho) hq h hd
 ·rename_i ho;simp only[ho]at hf;obtain⟨_,hq⟩:=c6 hf;exact py (.inr ho) hq h hd
 ·rename_i ho;simp only[ho]at hf;obtain⟨_,hq⟩:=c6 hf;exact zZ ho hq h hd
 ·rename_i ho;simp only[ho]at hf;obtain⟨_,hq⟩:=c6 hf;exact tf ho hq h hd
 ·rename_i ho;simp only[ho]at hf;obtain⟨_,hq⟩:=c6 hf;exact rX ho hq h hd
 ·rename_i ho;simp only[ho]at hf;obtain⟨_,hq⟩:=c6 hf;exact ud ho hq h hd
 ·rename_i ho;simp only[ho]at hf
  split at hf
  ·rename_i he;obtain⟨_,hq⟩:=c6 hf;exact jD ho hq (rZ he hq) h hd
  ·obtain⟨_,hq,hv⟩:=gn hf hp;exact jD ho hq hv h hd
 ·rename_i ho;simp only[ho]at hf
  split at hf
  ·split at hf
   ·rename_i r hr
    obtain⟨_,hq,hv⟩:=gn hf hp
    rw[hq]at hr
    exact z6 ho hr hv h hd
   ·obtain⟨_,hq,hv⟩:=gn hf hp;exact qD ho hq hv h hd
  ·rename_i hn
   split at hf
   ·rename_i r hr
    obtain⟨_,hq⟩:=c6 hf
    rw[hq]at hr
    exact qD ho hr (BB hn hr) h hd
   ·obtain⟨_,hq⟩:=c6 hf;exact qE ho hq h hd
 ·rename_i c ho;simp only[ho]at hf
  split at lE
  ·rename_i x t hc ha ht
   simp only[hc,ha,ht]at hf
   have kT:o.op= .call {callee:= .builtin .len,args:= #[x],argTypes:= #[t]}:=by
    rw[ho];obtain⟨cc,ca,ct⟩:=c;simp only at hc ha ht;subst hc;rw[qF ha,qF ht]
   obtain⟨_,hq⟩:=c6 hf;exact BA kT hq h hd
  ·cases lE
 ·cases lE
def uh(o:Oper):Bool:=match sa o with
 |true=>true
 |false=>match o.op with| .load _ _=>true|_=>false
theorem Nz{C:Ctx}{H:Hint}{σ σ':St}{a:Act}{w:World}{o:Oper}{ps:List Prop}(hs:uh o=true)(hf:aop C.P H σ o=some (σ',ps))(hp:lM ps)(h:Holds C σ a w)(hd:bA C o):ub C o σ' a w:=by
 unfold uh at hs
 split at hs
 ·rename_i lE
  obtain⟨v,h1,h2⟩:=GK lE hf hp h hd
  exact⟨v,h1 w,h2⟩
 ·obtain⟨E,h⟩:=h
  split at hs
  ·rename_i t x ho
   unfold aop at hf
   simp only[ho]at hf
   split at hf
   ·obtain⟨_,hq,hv⟩:=gn hf hp;exact rR ho hq hv h hd
   ·rename_i hn;obtain⟨_,hq⟩:=c6 hf;exact rR ho hq (z7 (fun _ _ _ _ he=>hn _ _ _ _ he) hq) h hd
  ·cases hs
end Go.TL
namespace Go.TL
def jG(P:Program)(n:Nat)(ops:Array Oper)(fuel:Nat)(listed:Array Bool)(σ:St)(Q:Exit→St→Prop):Prop:=
 ∀lo w0 E0 a w,Holds (mkC P n lo w0 E0) σ a w→wpAny P .any ops (lift (mkC P n lo w0 E0) Q) fuel listed a w
theorem vL{C:Ctx}{σ:St}{a:Act}{w:World}(h:Holds C σ a w):Holds C σ a {w with drawn:=w.drawn+1}:=by
 obtain⟨E,h⟩:=h
 have hk:eL w E {w with drawn:=w.drawn+1} E:=⟨fun _ _ h=>⟨rfl,h⟩,rfl⟩
 refine⟨E,h.size,h.defers,fun t sv hl=>VR.mono hk (fun _ _ h=>h) sv _ (h.ah t sv hl),⟨?_,h.tab.dead,h.tab.own,h.tab.ext⟩,⟨h.fr.os,h.fr.tape,h.fr.output,h.fr.size,h.fr.keep,h.fr.ext⟩,h.lo,h.ids,h.lL⟩
 intro k ov hl
 exact OR.mono hk (fun _ _ h=>h) (fun _=>Iff.rfl) (fun _ _=>rfl) (h.tab.obj k ov hl)
theorem NA{P:Program}{n id:Nat}{ops:Array Oper}{σ:St}{Q:Exit→St→Prop}(k:Nat)(l:Array Bool)(hm:P.follows .mixedOrders=true)(hk:ops.size=k)(hl:Array.replicate k false=l)
  (h:jG P n ops k l σ Q):AWP P n (.region id ops true) σ Q:=by
 subst hk;subst hl
 exact fun lo w0 E0 a w hh=>wp_region_any hm (h lo w0 E0 a _ (vL hh))
theorem NC{P:Program}{n:Nat}{ops:Array Oper}{fuel:Nat}{listed:Array Bool}{σ:St}{Q:Exit→St→Prop}(hr:(Region.ready .any ops listed).isEmpty=true)(h:Q .normal σ):jG P n ops fuel listed σ Q:=
 fun _ _ _ _ _ hh=>wpAny_done (by simpa using hr) ⟨σ,h,hh⟩ fuel
theorem GL{P:Program}{n:Nat}{ops:Array Oper}{fuel:Nat}{listed:Array Bool}{σ σ':St}{Q:Exit→St→Prop}(h:Imp P n σ σ')(k:jG P n ops fuel listed σ' Q):jG P n ops fuel listed σ Q:=
 fun lo w0 E0 a w hh=>k lo w0 E0 a w (h lo w0 E0 a w hh)
def KV(P:Program)(n:Nat)(ops:Array Oper)(fuel:Nat)(listed:Array Bool)(σ:St)(Q:Exit→St→Prop):List Nat→Prop
 | []=>True
 |i::rs=>(∀lo w0 E0 a w,Holds (mkC P n lo w0 E0) σ a w→wpOp P ops (lift (mkC P n lo w0 E0) Q) i (wpAny P .any ops (lift (mkC P n lo w0 E0) Q) fuel (listed.setIfInBounds i true)) a w)∧KV P n ops fuel listed σ Q rs
theorem GM{P:Program}{n:Nat}{ops:Array Oper}{fuel:Nat}{listed:Array Bool}{σ:St}{Q:Exit→St→Prop}:∀{rs:List Nat},KV P n ops fuel listed σ Q rs→∀i∈rs,
  ∀lo w0 E0 a w,Holds (mkC P n lo w0 E0) σ a w→wpOp P ops (lift (mkC P n lo w0 E0) Q) i (wpAny P .any ops (lift (mkC P n lo w0 E0) Q) fuel (listed.setIfInBounds i true)) a w
 | [],_,i,hi=>by simp at hi
 |j::rs,h,i,hi=>by
  rcases Z1 hi with rfl|hi
  ·exact h.1
  ·exact GM h.2 i hi
theorem PW{P:Program}{n:Nat}{ops:Array Oper}{fuel:Nat}{listed:Array Bool}{σ:St}{Q:Exit→St→Prop}(rs:List Nat)(hr:Region.ready .any ops listed=rs)(gl:rs.isEmpty=false)
  (h:KV P n ops fuel listed σ Q rs):jG P n ops (fuel+1) listed σ Q:=by
 intro lo w0 E0 a w hh
 refine wpAny_all hr ?_ fun i hi=>GM h i hi lo w0 E0 a w hh
 intro e;rw[e]at gl;simp at gl
theorem ND{P:Program}{n:Nat}{H:Hint}{ops:Array Oper}{fuel:Nat}(i:Nat){listed vt:Array Bool}{σ σ':St}{Q:Exit→St→Prop}{o:Oper}{ps:List Prop}(ho:ops.toList[i]? =some o)(dN:ly n ops.toList=true)
  (lE:sa o=true)(hw:gE σ ops.toList o=some true)(hs:Region.noSelect ops=true)(fM:Region.free .any ops listed i=true)(hr:(Region.ready .any ops listed).contains i=true)
  (hQ:∀c s,Q (.panic c) s→False)(hf:aop P H σ o=some (σ',ps))(hp:lM ps)(hl:listed.setIfInBounds i true=vt)(h:jG P n ops fuel vt σ' Q):jG P n ops (fuel+1) listed σ Q:=by
 intro lo w0 E0 a w hh
 subst hl
 have kT:ops[i]? =some o:=by simpa using ho
 have hd:bA (mkC P n lo w0 E0) o:=fun d hd=>eX dN o (Z2 ho) d hd
 obtain⟨v,aW,fm⟩:=GK (C:=mkC P n lo w0 E0) lE hf hp hh hd
 refine wpAny_take (v:=v) kT hs fM hr ?_ (.inl ⟨gY hh (eX dN) hw,aW⟩) (h lo w0 E0 _ _ fm)
 rintro c a' w' ⟨s,hq,_⟩
 exact(hQ c s hq).elim
theorem FJ{P:Program}{n:Nat}{ops:Array Oper}{fuel:Nat}(i:Nat){listed:Array Bool}{σ:St}{Q:Exit→St→Prop}{o:Oper}(ho:ops.toList[i]? =some o)(dN:ly n ops.toList=true)
  (hw:gE σ ops.toList o=some false)(hs:Region.noSelect ops=true)(fM:Region.free .any ops listed i=true)(hr:(Region.ready .any ops listed).contains i=true)
  (hQ:∀c s,Q (.panic c) s→False)(h:jG P n ops fuel (listed.setIfInBounds i true) (σ.put o.dst (.bL [])) Q):jG P n ops (fuel+1) listed σ Q:=by
 intro lo w0 E0 a w hh
 have kT:ops[i]? =some o:=by simpa using ho
 refine wpAny_take (v:=undef) kT hs fM hr ?_ (.inr ⟨gY hh (eX dN) hw,rfl⟩) (h lo w0 E0 _ _ (JC hh fun d hd=>eX dN o (Z2 ho) d hd))
 rintro c a' w' ⟨s,hq,_⟩
 exact(hQ c s hq).elim
theorem SZ{P:Program}{n:Nat}{lo:Nat}{w0:World}{E0:Env}{a:Act}{w:World}{σ:St}{K:Act→World→Prop}{Q:Exit→Act→World→Prop}{o:Oper}{g:FuncId}{svs:List SV}{R:SV→Tab→Prop}(T0:Tab)
  (hd:∀d,o.dst=some d→d<n)(hc:r6 P σ o=some (g,svs))(ab:aP P g=true)
  (hs:∀k ov,lk T0 k=some ov→lk σ.tab k=some ov)(hsb:jE T0 T0=true)(gN:lN T0 svs=true)(zX:FnS P g svs T0 R)(hh:Holds (mkC P n lo w0 E0) σ a w)
  (ky:∀r T',R r T'→kB n T0 σ.tab T'=true∧∀a' w',Holds (mkC P n lo w0 E0) ((σ.after T0 T').put o.dst r) a' w'→K a' w'):o.wp P a w K Q:=by
 obtain⟨E,h⟩:=hh
 obtain⟨vals,fS,aW⟩:=KO (C:=mkC P n lo w0 E0) h hc ab
 have lF:=zX lo w (E.sub T0) _ ((h.lo.fr h.fr).sub T0) (h.tab.sub hs hsb) (VRs.sub _ _ gN fS)
 unfold Oper.wp
 rw[show(execOp a.eval o).run P w=_ from aW]
 show Calls P g _ w _
 refine lF.mono ?_
 rintro e w' ⟨r,v,T',E',rfl,hR,c8,ht,hr,hp⟩
 obtain⟨fy,hnx⟩:=ky r T' hR
 exact hnx _ _ (I5 (C:=mkC P n lo w0 E0) h hs c8 ht hr hp fy hd)
def lz(o:Oper)(k:Nat):Bool:=o.after.toList.any fun e=>match Region.binds .any e with|true=>Nat.beq e.on k|false=>false
def ui(ops:Array Oper)(o:Oper)(k:Nat):List Oper→Bool
 | []=>true
 |y::r=>match lz y k with
  |true=>ui ops o k r
  |false=>match o.apart ops y with|true=>ui ops o k r|false=>false
def Dy(ops:Array Oper):Nat→List Oper→Bool
 |_,[]=>true
 |k,o::r=>match o.after.toList.all fun e=>match Region.binds .any e with|true=>Nat.blt e.on k|false=>true with
  |true=>match ui ops o k r with|true=>Dy ops (k+1) r|false=>false
  |false=>false
theorem BJ{o:Oper}{k:Nat}(h:lz o k=true):(o.after.any fun e=>Region.binds .any e && e.on==k)=true:=by
 unfold lz at h
 rw[List.any_eq_true]at h
 obtain⟨e,he,hb⟩:=h
 split at hb
 ·rename_i h1
  rw[Array.any_eq_true']
  exact⟨e,by simpa using he,by simp[h1,ZU hb]⟩
 ·cases hb
theorem qK{ops:Array Oper}{o:Oper}{k:Nat}:∀{l:List Oper},ui ops o k l=true→∀y∈l,lz y k=true∨o.apart ops y=true
 | [],_,y,hy=>by simp at hy
 |x::r,h,y,hy=>by
  simp only[ui]at h
  rcases Z1 hy with rfl|hy
  ·split at h
   ·exact .inl (by assumption)
   ·split at h
    ·exact .inr (by assumption)
    ·cases h
  ·split at h
   ·exact qK h y hy
   ·split at h
    ·exact qK h y hy
    ·cases h
theorem JI{ops:Array Oper}:∀(l:List Oper) (k:Nat) (listed:Array Bool),(∀j,l[j]? =ops[k+j]?)→listed.size=ops.size→(∀j,j<ops.size→listed[j]? =some (decide (j<k)))→Dy ops k l=true→
  Region.lexFrom .any ops l.length k listed=true
 | [],k,listed,hl,hs,hd,_=>by
  have hk:ops.size≤k:=by
   have:=hl 0
   simp at this;exact this
  simp only[List.length_nil,Region.lexFrom,List.isEmpty_iff]
  cases hr:Region.ready .any ops listed with
  |nil=>rfl
  |cons j r=>
   obtain⟨h1,o,ho,_⟩:=mem_ready.1 (show j∈Region.ready .any ops listed by rw[hr];simp)
   have hj:=(Array.getElem?_eq_some_iff.1 ho).1
   rw[Array.getD_eq_getD_getElem?,hd j hj]at h1
   simp at h1;omega
 |o::l,k,listed,hl,hs,hd,h=>by
  have ho:ops[k]? =some o:=by simpa using(hl 0).symm
  have hk:=(Array.getElem?_eq_some_iff.1 ho).1
  simp only[Dy]at h
  split at h
  ·rename_i h1
   split at h
   ·rename_i h2
    have dC:∀j,j<ops.size→∀d,listed.getD j d=decide (j<k):=fun j hj d=>by rw[Array.getD_eq_getD_getElem?,hd j hj];rfl
    simp only[List.length_cons,Region.lexFrom,Bool.and_eq_true]
    refine⟨⟨?_,?_⟩,JI l (k+1) _ (fun j=>by have:=hl (j+1);simpa[Nat.add_assoc,Nat.add_comm 1 j]using this) (by simpa using hs) (fun j hj=>?_) h⟩
    ·refine List.contains_iff_mem.2 (mem_ready.2 ⟨by rw[dC k hk];simp,o,ho,fun e he hb=>?_⟩)
     have:=List.all_eq_true.1 h1 e (by simpa using he)
     rw[hb]at this
     have av:e.on<k:=by simpa[Nat.blt_eq]using this
     rw[dC e.on (by omega)];simpa using av
    ·simp only[Region.free,ho,List.all_eq_true,List.mem_range]
     intro j hj
     by_cases eI:j=k
     ·simp[eI]
     ·by_cases av:j<k
      ·simp[dC j hj,av]
      ·have lJ:ops[j]? =some ops[j]:=by simp[hj]
       have hm:ops[j]∈l:=by
        have:=hl (j - k)
        rw[show k+(j - k)=j by omega,lJ]at this
        have h3:(o::l)[j - k]? =l[j - k - 1]? :=by
         rw[show j - k=(j - k - 1)+1 by omega];rfl
        rw[h3]at this
        exact Z2 this
       simp only[lJ,Bool.or_eq_true]
       rcases qK h2 _ hm with h3|h3
       ·exact .inr (.inl (BJ h3))
       ·exact .inr (.inr h3)
    ·by_cases eI:j=k
     ·subst eI;simp[hs,hk]
     ·rw[Array.getElem?_setIfInBounds,if_neg (Ne.symm eI),hd j hj]
      congr 1
      simp only[decide_eq_decide];omega
   ·cases h
  ·cases h
theorem S3{ops:Array Oper}(hs:Region.noSelect ops=true)(h:Dy ops 0 ops.toList=true):Region.lexB .any ops=true:=by
 simp only[Region.lexB,hs,Bool.true_and]
 have:=JI ops.toList 0 (Array.replicate ops.size false) (fun j=>by simp) (by simp) (fun j hj=>by simp[hj]) h
 simpa using this
def GN(P:Program)(n:Nat)(ops:Array Oper)(rest:List Oper)(σ:St)(Q:Exit→St→Prop):Prop:=
 ∀lo w0 E0 a w,Holds (mkC P n lo w0 E0) σ a w→wpStill P ops w (fun a'=>lift (mkC P n lo w0 E0) Q .normal a' w) rest a
theorem NF{P:Program}{n id:Nat}{ops:Array Oper}{σ:St}{Q:Exit→St→Prop}(hm:P.follows .mixedOrders=true)(hs:Region.noSelect ops=true)(hq:Dy ops 0 ops.toList=true)
  (h:GN P n ops ops.toList σ Q):AWP P n (.region id ops true) σ Q:=
 fun lo w0 E0 a _w hh=>wp_region_still hm (S3 hs hq) (h lo w0 E0 a _ (vL hh))
end Go.TL
namespace Go.TL
inductive WR(P:Program):CK→PV→Prop
 |int (k:IntKind) (n:Int) (h1:k.min≤n) (h2:n≤k.max):WR P (.int k) (.v (.int k n))
 |bool (x:Bool):WR P .bool (.v (.bool x))
 |str (x:ByteArray) (h:x.size≤cu):WR P .str (.v (.string x))
 |rm (e:TypeId) (len:Nat) (rows:List (List PV)) (h:len≤rows.length) (hm:len≤dy) (hr:rows.length≤len+2) (hl:∀row∈rows,row.length=(cks P e).length)
   (hw:∀(row:List PV),row∈rows→∀(j:Nat) (ck:CK) (x:PV),(cks P e)[j]? =some ck→row[j]? =some x→WR P ck x):WR P (.sl e) (.rm len rows)
def WRs(P:Program):List CK→List PV→Prop
 | [],[]=>True
 |c::cs,x::xs=>WR P c x∧WRs P cs xs
 |_,_=>False
theorem fU{P:Program}:∀(cs:List CK) (xs:List PV),WRs P cs xs ↔ xs.length=cs.length∧∀(j:Nat) (ck:CK) (x:PV),cs[j]? =some ck→xs[j]? =some x→WR P ck x
 | [],[]=>by simp[WRs]
 |c::cs,x::xs=>by
  simp only[WRs]
  rw[fU cs xs]
  constructor
  ·rintro⟨h1,h2,h3⟩
   refine⟨by simp[h2],?_⟩
   intro j ck y hc hy
   cases j with
   |zero=>simp at hc hy;subst hc;subst hy;exact h1
   |succ j=>exact h3 j ck y (by simpa using hc) (by simpa using hy)
  ·rintro⟨h1,h2⟩
   exact⟨h2 0 c x rfl rfl,by simpa using h1,fun j ck y hc hy=>h2 (j+1) ck y (by simpa using hc) (by simpa using hy)⟩
 | [],_::_=>by simp[WRs]
 |_::_,[]=>by simp[WRs]
def TyR(P:Program)(t:TypeId)(row:List PV):Prop:=WRs P (cks P t) row
theorem TyR.of{P:Program}{t:TypeId}{cs:List CK}{row:List PV}(hc:cks P t=cs)(h:WRs P cs row):TyR P t row:=by unfold TyR;rw[hc];exact h
theorem TyR.to{P:Program}{t:TypeId}{cs:List CK}{row:List PV}(hc:cks P t=cs)(h:TyR P t row):WRs P cs row:=by unfold TyR at h;rw[hc]at h;exact h
mutual
def PV.er:PV→PV
 | .v x=> .v x
 | .sl rows=> .sl rows
 | .rm len rows=> .sl (fP len rows)
 | .ls rows=> .ls rows
 | .un=> .un
 | .mp a rows=> .mp a rows
def eN:List PV→List PV
 | []=>[]
 |x::xs=>PV.er x::eN xs
def fP:Nat→List (List PV)→List (List PV)
 |_,[]=>[]
 |0,_::_=>[]
 |n+1,r::rs=>eN r::fP n rs
end
theorem jv:∀(row:List PV) (j:Nat),(eN row)[j]? =(row[j]?).map PV.er
 | [],j=>by simp[eN]
 |x::xs,0=>by simp[eN]
 |x::xs,j+1=>by simp[eN,jv xs j]
theorem nQ(row:List PV):(eN row).length=row.length:=by
 induction row with
 |nil=>simp[eN]
 |cons x xs ih=>simp[eN,ih]
theorem qL:∀(n:Nat) (rows:List (List PV)) (i:Nat),(fP n rows)[i]? =if i<n then(rows[i]?).map eN else none
 |_,[],i=>by simp[fP]
 |0,_::_,i=>by simp[fP]
 |n+1,r::rs,0=>by simp[fP]
 |n+1,r::rs,i+1=>by simp[fP,qL n rs i]
theorem xg(n:Nat)(rows:List (List PV)):(fP n rows).length=min n rows.length:=by
 induction rows generalizing n with
 |nil=>simp[fP]
 |cons r rs ih=>cases n with
  |zero=>simp[fP]
  |succ n=>simp only[fP,List.length_cons,ih];omega
theorem Rep.er{w:World}{bad:Nat→Prop}{lo:Nat}{x:PV}{v:Value}(h:Rep w bad lo x v):Rep w bad lo x.er v:=by
 induction h with
 |v x hx=>exact .v x hx
 |nil b c=>exact .nil b c
 |sl rows b off cap cs t fz sz f eR hb bY aR gz hlen hc hr ih=>exact .sl rows b off cap cs t fz sz f eR hb bY aR gz hlen hc hr
 |tH=>simp only[PV.er,fP];exact .nil none 0
 |rm len rows b off cs t sz f eR hb bY aR hlen hc hr ih=>
  simp only[PV.er]
  have hl:(fP len rows).length=len:=by rw[xg];omega
  have dC:∀(i:Nat) (row:List PV),(fP len rows)[i]? =some row→∃r0,rows[i]? =some r0∧row=eN r0:=by
   intro i row hi
   rw[qL]at hi
   split at hi
   ·cases hq:rows[i]? with
    |none=>simp[hq]at hi
    |some r0=>simp[hq]at hi;exact⟨r0,rfl,hi.symm⟩
   ·cases hi
  have ku:∀(r0:List PV) (j:Nat) (x:PV),(eN r0)[j]? =some x→∃y,r0[j]? =some y∧x=y.er:=by
   intro r0 j x hj
   rw[jv]at hj
   cases hq:r0[j]? with
   |none=>simp[hq]at hj
   |some y=>simp[hq]at hj;exact⟨y,rfl,hj.symm⟩
  have:=Rep.sl (w:=w) (bad:=bad) (lo:=lo) (fP len rows) b off rows.length cs t (0,0) sz f (by rw[hl];exact eR) hb bY aR (fun _=>rfl)
   (fun i row hi=>by obtain⟨r0,h1,rfl⟩:=dC i row hi;rw[nQ];exact hlen i r0 h1)
   (fun i row j x hi hj=>by
    obtain⟨r0,h1,rfl⟩:=dC i row hi
    obtain⟨y,h2,rfl⟩:=ku r0 j x hj
    exact hc i r0 j y h1 h2)
   (fun i row j x hi hj=>by
    obtain⟨r0,h1,rfl⟩:=dC i row hi
    obtain⟨y,h2,rfl⟩:=ku r0 j x hj
    exact ih i r0 j y h1 h2)
  rw[hl]at this
  exact this
 |pN=>exact .pN
 |un x hx=>exact .un x hx
 |ls row rows b o cs t fz f hb bY aR hc hr ih=>exact .ls row rows b o cs t fz f hb bY aR hc hr
 |lD a=>exact .lD a
 |mp a rows b es clock f hb bY aR hc hr ih=>exact .mp a rows b es clock f hb bY aR hc hr
theorem WR.er{P:Program}{ck:CK}{x:PV}(h:WR P ck x):WT P ck x.er:=by
 induction h with
 |int k n h1 h2=>exact .int k n h1 h2
 |bool x=>exact .bool x
 |str x h=>exact .str x h
 |rm e len rows h hm hr hl hw ih=>
  simp only[PV.er]
  have dC:∀row∈fP len rows,∃r0∈rows,row=eN r0:=by
   intro row a6
   obtain⟨i,hi⟩:=List.getElem?_of_mem a6
   rw[qL]at hi
   split at hi
   ·cases hq:rows[i]? with
    |none=>simp[hq]at hi
    |some r0=>simp[hq]at hi;exact⟨r0,Z2 hq,hi.symm⟩
   ·cases hi
  refine .sl e _ (by rw[xg];have:=xG e;unfold dy at hm;omega) ?_ ?_
  ·intro row a6
   obtain⟨r0,h0,rfl⟩:=dC row a6
   rw[nQ];exact hl r0 h0
  ·intro row a6 j ck x hc hx
   obtain⟨r0,h0,rfl⟩:=dC row a6
   rw[jv]at hx
   cases hq:r0[j]? with
   |none=>simp[hq]at hx
   |some y=>simp[hq]at hx;subst hx;exact ih r0 h0 j ck y hc hq
theorem TyR.er{P:Program}{t:TypeId}{row:List PV}(h:TyR P t row):Ty P t (eN row):=by
 unfold TyR at h;unfold Ty
 rw[fU]at h;rw[ay]
 refine⟨by rw[nQ];exact h.1,?_⟩
 intro j ck x hc hx
 rw[jv]at hx
 cases hq:row[j]? with
 |none=>simp[hq]at hx
 |some y=>simp[hq]at hx;subst hx;exact(h.2 j ck y hc hq).er
def scalars:List CK→Bool
 | []=>true
 | .int _::r=>scalars r
 | .bool::r=>scalars r
 | .str::r=>scalars r
 |_=>false
theorem j4:∀{cs:List CK},scalars cs=true→∀c∈cs,(∃k,c= .int k)∨c= .bool∨c= .str
 | [],_,c,hc=>by simp at hc
 | .int k::r,h,c,hc=>by
  rcases Z1 hc with rfl|hc
  ·exact .inl ⟨k,rfl⟩
  ·exact j4 (cs:=r) (by simpa[scalars]using h) c hc
 | .bool::r,h,c,hc=>by
  rcases Z1 hc with rfl|hc
  ·exact .inr (.inl rfl)
  ·exact j4 (cs:=r) (by simpa[scalars]using h) c hc
 | .str::r,h,c,hc=>by
  rcases Z1 hc with rfl|hc
  ·exact .inr (.inr rfl)
  ·exact j4 (cs:=r) (by simpa[scalars]using h) c hc
 | .sl _::_,h,_,_=>by simp[scalars]at h
 | .other::_,h,_,_=>by simp[scalars]at h
 | .oy::_,h,_,_=>by simp[scalars]at h
 | .any::_,h,_,_=>by simp[scalars]at h
theorem xI{P:Program}{c:CK}{x:PV}(hs:(∃k,c= .int k)∨c= .bool∨c= .str)(h:WT P c x):(∃v,x= .v v)∧WR P c x:=by
 cases h with
 |int k n h1 h2=>exact⟨⟨_,rfl⟩,.int k n h1 h2⟩
 |bool x=>exact⟨⟨_,rfl⟩,.bool x⟩
 |str x h=>exact⟨⟨_,rfl⟩,.str x h⟩
 |oy x h=>rcases hs with⟨k,e⟩|e|e<;>cases e
 |any=>rcases hs with⟨k,e⟩|e|e<;>cases e
 |sl e rows=>rcases hs with⟨k,e⟩|e|e<;>cases e
theorem Ty.room{P:Program}{t:TypeId}{row:List PV}(hs:scalars (cks P t)=true)(h:Ty P t row):TyR P t row:=by
 unfold Ty at h;unfold TyR
 rw[ay]at h;rw[fU]
 exact⟨h.1,fun j ck x hc hx=>(xI (j4 hs ck (Z2 hc)) (h.2 j ck x hc hx)).2⟩
def FX:SV→Bool
 | .p (.v x) _=>gR x
 |_=>false
def St.Dz(k j K:Nat)(e:TypeId)(sz:Nat)(σ:St):Option St:=
 match lk σ.tab k with
 |some (.box t cells)=>match cells[j]? with
  |some c=>match FX c with
   |true=>some ⟨σ.ah,(K,.vec e sz [] true)::(k,.box t (cells.set j (.vec K)))::rm σ.tab k⟩
   |false=>none
  |none=>none
 |_=>none
theorem BK{w:World}{E:Env}{lo K:Nat}(hK:E.val K=some (.slice none 0 0)):∀(xs:List SV) (vs:List Value) (j:Nat) (c:SV),VRs w E lo xs vs→xs[j]? =some c→FX c=true→VRs w E lo (xs.set j (.vec K)) vs
 | [],_,j,c,_,hj,_=>by simp at hj
 |x::xs,[],j,c,h,_,_=>by simp[VRs]at h
 |x::xs,v::vs,0,c,h,hj,hc=>by
  simp at hj;subst hj
  have h1:=(aH.1 h).1
  refine bu ?_ (aH.1 h).2
  unfold FX at hc
  split at hc
  ·rename_i y fr
   have:=qC hc;subst this
   have:=dh h1;subst this
   simp only[VR]
   exact⟨hK,_,_,_,rfl⟩
  ·cases hc
 |x::xs,v::vs,j+1,c,h,hj,hc=>bu (aH.1 h).1 (BK hK xs vs j c (aH.1 h).2 (by simpa using hj) hc)
theorem I8{P:Program}{n:Nat}{σ σ':St}(k j K:Nat)(e:TypeId)(sz:Nat)(hf:(lk σ.tab K).isSome=false)(hi:Nat.ble (K+1) n=true)(hz:Nat.ble 1 sz=true)(h:σ.Dz k j K e sz=some σ'):Imp P n σ σ':=by
 unfold St.Dz at h
 split at h
 ·rename_i t cells hk
  split at h
  ·rename_i c hc
   split at h
   ·rename_i hn
    simp only[ZS]at h;subst h
    rintro lo w0 E0 a w ⟨E,h⟩
    have hK:K<n:=ZX hi
    have hf':lk σ.tab K=none:=by simpa using hf
    have hkK:k≠K:=fun e=>by subst e;rw[hf']at hk;cases hk
    let E':Env:=⟨fun k=>if k=K then some (.slice none 0 0)else E.val k,E.own,E.ext⟩
    have hkp:eL w E w E':=⟨fun _ _ h=>⟨rfl,h⟩,rfl⟩
    have hv:∀k x,E.val k=some x→E'.val k=some x:=by
     intro k x hx
     have:k≠K:=fun e=>by subst e;rw[h.tab.dead k hf']at hx;cases hx
     simp[E',this,hx]
    refine⟨E',h.size,h.defers,fun t' s hl=>VR.mono hkp hv s _ (h.ah t' s hl),⟨?_,?_,?_,h.tab.ext⟩,⟨h.fr.os,h.fr.tape,h.fr.output,h.fr.size,h.fr.keep,h.fr.ext⟩,h.lo,h.ids,?_⟩
    ·intro i ov hl
     by_cases he:i=K
     ·subst he
      rw[aB]at hl;cases hl
      exact⟨.slice none 0 0,[],by simp[E'],ZX hz,World.ownsRow_nil w 0 e sz,by simp[Value.ownBlock],fun _ _=>undef,by simp,by simp,by simp⟩
     ·rw[aw _ _ _ _ he]at hl
      by_cases hek:i=k
      ·subst hek
       rw[aB]at hl;cases hl
       obtain⟨b,vs,h1,h2,h3,h4⟩:=h.tab.obj i _ hk
       exact⟨b,vs,hv _ _ h1,h2,h3,BK (by simp[E']) cells vs j c (VRs.mono hkp hv cells vs h4) hc hn⟩
      ·rw[aw _ _ _ _ hek,cM _ _ _ hek]at hl
       exact OR.mono hkp hv (fun _=>Iff.rfl) (fun _ _=>rfl) (h.tab.obj i ov hl)
    ·intro i hl
     have he:i≠K:=fun e=>by subst e;rw[aB]at hl;cases hl
     rw[aw _ _ _ _ he]at hl
     have hek:i≠k:=fun e=>by subst e;rw[aB]at hl;cases hl
     rw[aw _ _ _ _ hek,cM _ _ _ hek]at hl
     simp[E',he,h.tab.dead i hl]
    ·intro b i ho
     have:=h.tab.own b i ho
     refine⟨this.1,this.2.1,?_⟩
     by_cases he:i=K
     ·subst he;rw[aB];simp
     ·rw[aw _ _ _ _ he]
      by_cases hek:i=k
      ·subst hek;rw[aB];simp
      ·rw[aw _ _ _ _ hek,cM _ _ _ hek];exact this.2.2
    ·intro i x hj
     have hid:n≤i:=h.ids i (by rw[hj];simp)
     have:i≠K:=by omega
     simpa[E',this]using h.lL i x hj
   ·cases h
  ·cases h
 ·cases h
end Go.TL
namespace Go.TL
abbrev bD:=Nat→Option Obj
inductive WF(P:Program)(room:Bool)(c:bD):Nat→CK→Value→Prop
 |int (d:Nat) (k:IntKind) (n:Int) (h1:k.min≤n) (h2:n≤k.max):WF P room c d (.int k) (.int k n)
 |bool (d:Nat) (x:Bool):WF P room c d .bool (.bool x)
 |str (d:Nat) (x:ByteArray) (h:x.size≤cu):WF P room c d .str (.string x)
 |nil (d:Nat) (e:TypeId):WF P room c d (.sl e) (.slice none 0 0)
 |sl (d:Nat) (e:TypeId) (b o len cap:Nat) (cs:Array Value) (t:TypeId) (g:Nat→Nat→Value) (hb:c b=some (.cells cs t (0,0))) (hle:len≤cap) (hl:len≤dy) (hm:room=true→cap≤len+2)
   (hc:∀i:Nat,i<(if room then cap else len)→∀(j:Nat) (ck:CK),(cks P e)[j]? =some ck→cs[o+i*(cks P e).length+j]? =some (g i j))
   (hw:∀i:Nat,i<(if room then cap else len)→∀(j:Nat) (ck:CK),(cks P e)[j]? =some ck→WF P room c d ck (g i j)):
   WF P room c (d+1) (.sl e) (.slice (some ⟨b,o,none⟩) len cap)
theorem WF.up{P:Program}{room:Bool}{c:bD}{d:Nat}{ck:CK}{v:Value}(h:WF P room c d ck v):∀d',d≤d'→WF P room c d' ck v:=by
 induction h with
 |int d k n h1 h2=>exact fun d' _=> .int d' k n h1 h2
 |bool d x=>exact fun d' _=> .bool d' x
 |str d x h=>exact fun d' _=> .str d' x h
 |nil d e=>exact fun d' _=> .nil d' e
 |sl d e b o len cap cs t g hb hle hl hm hc hw ih=>
  intro d' hd
  obtain⟨k,rfl⟩:∃k,d'=k+1:=⟨d' - 1,by omega⟩
  exact .sl k e b o len cap cs t g hb hle hl hm hc fun i hi j ck hj=>ih i hi j ck hj k (by omega)
def AB(v0 v:Value):Prop:=
 v=v0∨(∃k n m,v0= .int k n∧v= .int k m∧k.min≤m∧m≤k.max)∨(∃x y,v0= .bool x∧v= .bool y)∨(∃x y,v0= .string x∧v= .string y∧y.size≤cu)
def KEq(c0 c:bD):Prop:=
 (∀b,c0 b=none ↔ c b=none)∧∀b cs t fz,c0 b=some (.cells cs t fz)→∃cs',c b=some (.cells cs' t fz)∧cs'.size=cs.size∧∀(j:Nat) (v0:Value),cs[j]? =some v0→∃v,cs'[j]? =some v∧AB v0 v
theorem WF.KW{P:Program}{room:Bool}{c:bD}{d:Nat}{ck:CK}{v0 v:Value}(h:WF P room c d ck v0)(hk:AB v0 v):WF P room c d ck v:=by
 rcases hk with rfl|⟨k,n,m,rfl,rfl,h1,h2⟩|⟨x,y,rfl,rfl⟩|⟨x,y,rfl,rfl,h1⟩
 ·exact h
 ·cases h with|int=>exact .int _ _ _ h1 h2
 ·cases h with|bool=>exact .bool _ _
 ·cases h with|str=>exact .str _ _ h1
theorem WF.keq{P:Program}{room:Bool}{c0 c:bD}(hk:KEq c0 c){d:Nat}{ck:CK}{v:Value}(h:WF P room c0 d ck v):WF P room c d ck v:=by
 induction h with
 |int d k n h1 h2=>exact .int d k n h1 h2
 |bool d x=>exact .bool d x
 |str d x h=>exact .str d x h
 |nil d e=>exact .nil d e
 |sl d e b o len cap cs t g hb hle hl hm hc hw ih=>
  obtain⟨cs',h1,h2,h3⟩:=hk.2 b cs t (0,0) hb
  have key:∀i:Nat,i<(if room then cap else len)→∀(j:Nat) (ck:CK),(cks P e)[j]? =some ck→∃v,cs'[o+i*(cks P e).length+j]? =some v∧AB (g i j) v:=
   fun i hi j ck hj=>h3 _ _ (hc i hi j ck hj)
  refine .sl d e b o len cap cs' t (fun i j=>(cs'[o+i*(cks P e).length+j]?).getD undef) h1 hle hl hm (fun i hi j ck hj=>?_) fun i hi j ck hj=>?_
  ·obtain⟨v,q1,q2⟩:=key i hi j ck hj
   rw[q1];rfl
  ·obtain⟨v,q1,q2⟩:=key i hi j ck hj
   simp only[q1,Option.getD_some]
   exact(ih i hi j ck hj).KW q2
theorem kD{p:Nat→Nat→Prop}(hm:∀i d d',d≤d'→p i d→p i d'):∀(n:Nat),(∀i,i<n→∃d,p i d)→∃d,∀i,i<n→p i d
 |0,_=>⟨0,fun i hi=>absurd hi (Nat.not_lt_zero i)⟩
 |n+1,h=>by
  obtain⟨d1,h1⟩:=kD hm n fun i hi=>h i (by omega)
  obtain⟨d2,h2⟩:=h n (by omega)
  refine⟨max d1 d2,fun i hi=>?_⟩
  by_cases he:i=n
  ·subst he;exact hm i d2 _ (by omega) h2
  ·exact hm i d1 _ (by omega) (h1 i (by omega))
end Go.TL
namespace Go.TL.H
open Go
abbrev dp:=List (Nat×Value)
def fD:Option Nat→Value→dp→dp
 |some d,v,l=>(d,v)::l
 |none,_,l=>l
structure SL(n:Nat)(sl:dp)(a:Act):Prop where
 size:a.tmps.size=n
 defers:a.defers=[]
 ah:∀t v,lk sl t=some v→a.tmps.getD t undef=v
def dok(n:Nat):Option Nat→Bool
 |some d=>Nat.ble (d+1) n
 |none=>true
theorem SL.put{n:Nat}{sl:dp}{a:Act}(h:SL n sl a){dst:Option Nat}(hd:dok n dst=true)(v:Value):SL n (fD dst v sl) (a.put dst v):=by
 cases dst with
 |none=>exact h
 |some d=>
  have hdn:d<n:=ZX hd
  refine⟨by simp[Act.put,h.size],h.defers,?_⟩
  intro t x hl
  by_cases he:t=d
  ·subst he
   simp only[fD]at hl
   rw[aB]at hl;cases hl
   have:t<a.tmps.size:=by rw[h.size];exact hdn
   simp[Act.put,this]
  ·simp only[fD]at hl
   rw[aw _ _ _ _ he]at hl
   have:=h.ah t x hl
   simpa[Act.put,Array.getElem?_setIfInBounds,Ne.symm he]using this
theorem SL.U9{n:Nat}{sl:dp}{a:Act}(h:SL n sl a){dst:Option Nat}(hd:dok n dst=true):SL n (fD dst undef sl) (a.put dst undef):=h.put hd undef
theorem SL.keep{n:Nat}{sl:dp}{a:Act}(h:SL n sl a)(ks:List Nat):SL n (pick sl ks) a:=⟨h.size,h.defers,fun t v hl=>h.ah t v (jk _ _ _ _ hl)⟩
def slV:Nat→List Value→dp
 |_,[]=>[]
 |k,x::xs=>(k,x)::slV (k+1) xs
theorem NG:∀(xs:List Value) (k t:Nat),lk (slV k xs) t=if k≤t then xs[t - k]? else none
 | [],k,t=>by simp[slV,lk]
 |x::xs,k,t=>by
  simp only[slV,lk]
  cases hb:Nat.beq k t with
  |true=>have:=ZU hb;subst this;simp
  |false=>
   have gl:=beq_false hb
   simp only
   rw[NG xs (k+1) t]
   by_cases hle:k≤t
   ·rw[if_pos (by omega),if_pos hle,show t - k=(t - (k+1))+1 by omega];rfl
   ·rw[if_neg (by omega),if_neg hle]
theorem SL.init{n:Nat}(args:List Value)(h:Nat.ble args.length n=true):SL n (slV 0 args) {tmps:=args.toArray++Array.replicate (n - args.length) undef,defers:=[]}:=by
 have hn:=ZX h
 refine⟨by simp;omega,rfl,?_⟩
 intro t v hl
 rw[NG]at hl
 simp at hl
 have av:t<args.length:=(ZY hl).1
 simp only[Array.getD_eq_getD_getElem?,Array.getElem?_append,List.size_toArray,av,if_true,List.getElem?_toArray,hl,Option.getD_some]
def ev(sl:dp):Operand→Option Value
 | .tmp t=>lk sl t
 | .const v=>some v
 | .func f=>some (.func (.func f) #[] #[])
 | .global g=>some (.pointer (some ⟨g,0,none⟩))
theorem SL.ev{n:Nat}{sl:dp}{a:Act}(h:SL n sl a){x:Operand}{v:Value}(e:H.ev sl x=some v):a.eval x=v:=by
 cases x with
 |tmp t=>exact h.ah t v e
 |const u=>simpa[H.ev,Act.eval]using e
 |func f=>simpa[H.ev,Act.eval]using e
 |global g=>simpa[H.ev,Act.eval]using e
def evs(sl:dp):List Operand→Option (List Value)
 | []=>some []
 |x::xs=>match ev sl x,evs sl xs with
  |some v,some vs=>some (v::vs)
  |_,_=>none
theorem SL.evs{n:Nat}{sl:dp}{a:Act}(h:SL n sl a):∀{xs:List Operand} {vs:List Value},H.evs sl xs=some vs→xs.map a.eval=vs
 | [],vs,e=>by simp[H.evs]at e;subst e;rfl
 |x::xs,vs,e=>by
  simp only[H.evs]at e
  split at e
  ·rename_i v us h1 h2
   simp only[ZS]at e;subst e
   simp[h.ev h1,h.evs h2]
  ·cases e
section
variable {P:Program} {ops:Array Oper} {Q:Exit→Act→World→Prop} {rest:List Oper} {o:Oper} {n:Nat} {sl:dp} {a:Act} {w w':World} {v:Value}
theorem wg{j t:Nat}{want b:Bool}(h:SL n sl a)(hg:o.guard=some (j,want))(hj:(ops[j]?).bind (·.dst)=some t)(ht:lk sl t=some (.bool b))(htn:Nat.ble (t+1) n=true):
  Region.wanted o (yielded ops a.tmps)=(b==want):=by
 have av:t<a.tmps.size:=by rw[h.size];exact ZX htn
 have h1:=h.ah t _ ht
 have h2:a.tmps[t]? =some (.bool b):=by
  rw[Array.getD_eq_getD_getElem?]at h1
  rw[Array.getElem?_eq_getElem av]at h1 ⊢
  simpa using h1
 unfold Region.wanted
 rw[hg]
 simp only[yielded,hj,Option.bind_some,h2]
 cases b<;>cases want<;>rfl
theorem L(h:SL n sl a)(hw:Region.wanted o (yielded ops a.tmps)=true)(hd:dok n o.dst=true)(hr:(execOp a.eval o).run P w= .ok (.value v) w')
  (k:∀a',SL n (fD o.dst v sl) a'→wpList P ops Q rest a' w'):wpList P ops Q (o::rest) a w:=by
 unfold wpList
 rw[if_pos hw]
 refine .inl ?_
 unfold Oper.wp
 rw[hr]
 exact k _ (h.put hd v)
theorem Ls(h:SL n sl a)(hw:Region.wanted o (yielded ops a.tmps)=true)(hd:o.dst=none)(hr:(execOp a.eval o).run P w= .ok .skip w')
  (k:SL n sl a→wpList P ops Q rest a w'):wpList P ops Q (o::rest) a w:=by
 unfold wpList
 rw[if_pos hw]
 refine .inl ?_
 unfold Oper.wp
 rw[hr]
 have e:a.put o.dst undef=a:=by rw[hd];rfl
 show wpList P ops Q rest (a.put o.dst undef) w'
 rw[e];exact k h
theorem Lu(h:SL n sl a)(hw:Region.wanted o (yielded ops a.tmps)=false)(hd:dok n o.dst=true)
  (k:∀a',SL n (fD o.dst undef sl) a'→wpList P ops Q rest a' w):wpList P ops Q (o::rest) a w:=by
 unfold wpList
 rw[if_neg (by rw[hw];simp)]
 exact k _ (h.U9 hd)
theorem JJ{K:Act→World→Prop}{f:Operand}{args:Array Operand}{ts:Array TypeId}{g:FuncId}{first aQ:Array Value}{vs:List Value}{R:Value→World→Prop}(h:SL n sl a)(hd:dok n o.dst=true)
  (ho:o.op= .call ⟨.value f,args,ts⟩)(hf:ev sl f=some (.func (.func g) first aQ))(ha:evs sl args.toList=some vs)(ab:aP P g=true)
  (hret:Ret P g (first.toList++(vs++aQ.toList)) w R)(k:∀v w' a',R v w'→SL n (fD o.dst v sl) a'→K a' w'):o.wp P a w K Q:=by
 have hfv:=h.ev hf
 have hav:=h.evs ha
 have aW:(execOp a.eval o).run P w= .ok (.enter g (first.toList++(vs++aQ.toList)).toArray) w:=by
  unfold execOp
  simp only[ho,resolve,hfv,Deferred.ofValue,pure_bind,invoke]
  have e:(first++Array.map a.eval args)++aQ=(first.toList++(vs++aQ.toList)).toArray:=by
   rw[←hav]
   apply Array.ext';simp
  rw[e]
  exact nP ab
 unfold Oper.wp
 rw[aW]
 show Calls P g _ w _
 refine Calls.mono hret ?_
 rintro e w' ⟨v,rfl,hR⟩
 exact k v w' _ hR (h.put hd v)
theorem Lc{f:Operand}{args:Array Operand}{ts:Array TypeId}{g:FuncId}{first aQ:Array Value}{vs:List Value}{R:Value→World→Prop}(h:SL n sl a)(hw:Region.wanted o (yielded ops a.tmps)=true)(hd:dok n o.dst=true)
  (ho:o.op= .call ⟨.value f,args,ts⟩)(hf:ev sl f=some (.func (.func g) first aQ))(ha:evs sl args.toList=some vs)(ab:aP P g=true)
  (hret:Ret P g (first.toList++(vs++aQ.toList)) w R)(k:∀v w' a',R v w'→SL n (fD o.dst v sl) a'→wpList P ops Q rest a' w'):wpList P ops Q (o::rest) a w:=by
 unfold wpList
 rw[if_pos hw]
 exact .inl (JJ h hd ho hf ha ab hret k)
theorem Le(h:Q .normal a w):wpList P ops Q [] a w:=h
theorem T{Q:Act→Prop}(h:SL n sl a)(hw:Region.wanted o (yielded ops a.tmps)=true)(hd:dok n o.dst=true)(hr:(execOp a.eval o).run P w= .ok (.value v) w)
  (k:∀a',SL n (fD o.dst v sl) a'→wpStill P ops w Q rest a'):wpStill P ops w Q (o::rest) a:=by
 unfold wpStill
 rw[if_pos hw]
 unfold Oper.still
 rw[hr,Oper.stillUpon_value]
 exact k _ (h.put hd v)
theorem Tu{Q:Act→Prop}(h:SL n sl a)(hw:Region.wanted o (yielded ops a.tmps)=false)(hd:dok n o.dst=true)
  (k:∀a',SL n (fD o.dst undef sl) a'→wpStill P ops w Q rest a'):wpStill P ops w Q (o::rest) a:=by
 unfold wpStill
 rw[if_neg (by rw[hw];simp)]
 exact k _ (h.U9 hd)
theorem Te{Q:Act→Prop}(h:Q a):wpStill P ops w Q [] a:=h
theorem Y{fuel i:Nat}{listed:Array Bool}(h:SL n sl a)(hi:ops[i]? =some o)(hg:o.guard=none)(hd:dok n o.dst=true)(hs:Region.noSelect ops=true)(hf:Region.free .any ops listed i=true)
  (hr:(Region.ready .any ops listed).contains i=true)(hQ:∀c a w,Q (.panic c) a w→False)(hx:∀w,(execOp a.eval o).run P w= .ok (.value v) w)
  (k:∀a',SL n (fD o.dst v sl) a'→wpAny P .any ops Q fuel (listed.setIfInBounds i true) a' w):wpAny P .any ops Q (fuel+1) listed a w:=
 wpAny_take hi hs hf hr (fun c a w h=>(hQ c _ _ h).elim) (.inl ⟨by unfold Region.wanted;rw[hg],hx⟩) (k _ (h.put hd v))
theorem ak{i:Nat}{K:Act→World→Prop}(h:SL n sl a)(hi:ops[i]? =some o)(hg:o.guard=none)(hd:dok n o.dst=true)(hr:(execOp a.eval o).run P w= .ok (.value v) w')
  (k:∀a',SL n (fD o.dst v sl) a'→K a' w'):wpOp P ops Q i K a w:=by
 unfold wpOp
 simp only[hi]
 rw[if_pos (by unfold Region.wanted;rw[hg])]
 refine .inl ?_
 unfold Oper.wp
 rw[hr]
 exact k _ (h.put hd v)
theorem th{i:Nat}{K:Act→World→Prop}(h:SL n sl a)(hi:ops[i]? =some o)(hg:o.guard=none)(hd:o.dst=none)(hr:(execOp a.eval o).run P w= .ok .skip w')
  (k:SL n sl a→K a w'):wpOp P ops Q i K a w:=by
 unfold wpOp
 simp only[hi]
 rw[if_pos (by unfold Region.wanted;rw[hg])]
 refine .inl ?_
 unfold Oper.wp
 rw[hr]
 have e:a.put o.dst undef=a:=by rw[hd];rfl
 show K (a.put o.dst undef) w'
 rw[e];exact k h
theorem Y1{fuel:Nat}(i:Nat){listed:Array Bool}(hr:Region.ready .any ops listed=[i])(k:wpOp P ops Q i (wpAny P .any ops Q fuel (listed.setIfInBounds i true)) a w):wpAny P .any ops Q (fuel+1) listed a w:=
 wpAny_all hr (by simp) fun j hj=>by simp at hj;subst hj;exact k
theorem Y2{fuel:Nat}(i j:Nat){listed:Array Bool}(hr:Region.ready .any ops listed=[i,j])(k1:wpOp P ops Q i (wpAny P .any ops Q fuel (listed.setIfInBounds i true)) a w)
  (k2:wpOp P ops Q j (wpAny P .any ops Q fuel (listed.setIfInBounds j true)) a w):wpAny P .any ops Q (fuel+1) listed a w:=
 wpAny_all hr (by simp) fun l hl=>by
  simp at hl
  rcases hl with rfl|rfl
  ·exact k1
  ·exact k2
theorem Ye{fuel:Nat}{listed:Array Bool}(hr:Region.ready .any ops listed=[])(h:Q .normal a w):wpAny P .any ops Q fuel listed a w:=wpAny_done hr h fuel
end
structure Ch(S:Nat→Prop)(w w':World):Prop where
 os:w'.os=w.os
 tape:w'.tape=w.tape
 output:w'.output=w.output
 size:w.heap.size≤w'.heap.size
 keep:∀b,b<w.heap.size→¬ S b→w'.heap[b]? =w.heap[b]?
theorem Ch.refl(S:Nat→Prop)(w:World):Ch S w w:=⟨rfl,rfl,rfl,Nat.le_refl _,fun _ _ _=>rfl⟩
theorem Ch.drew(S:Nat→Prop)(w:World):Ch S w {w with drawn:=w.drawn+1}:=⟨rfl,rfl,rfl,Nat.le_refl _,fun _ _ _=>rfl⟩
theorem Ch.trans{S:Nat→Prop}{w w1 w2:World}(h:Ch S w w1)(k:Ch S w1 w2):Ch S w w2:=
 ⟨k.os.trans h.os,k.tape.trans h.tape,k.output.trans h.output,Nat.le_trans h.size k.size,fun b hb hn=>(k.keep b (Nat.lt_of_lt_of_le hb h.size) hn).trans (h.keep b hb hn)⟩
theorem Ch.mono{S S':Nat→Prop}{w w':World}(h:Ch S w w')(hs:∀b,b<w.heap.size→S b→S' b):Ch S' w w':=
 ⟨h.os,h.tape,h.output,h.size,fun b hb hn=>h.keep b hb fun hS=>hn (hs b hb hS)⟩
theorem Ch.trans'{S S':Nat→Prop}{w w1 w2:World}(h:Ch S w w1)(k:Ch S' w1 w2)(hs:∀b,b<w.heap.size→S' b→S b):Ch S w w2:=
 ⟨k.os.trans h.os,k.tape.trans h.tape,k.output.trans h.output,Nat.le_trans h.size k.size,fun b hb hn=>(k.keep b (Nat.lt_of_lt_of_le hb h.size) fun hS=>hn (hs b hb hS)).trans (h.keep b hb hn)⟩
theorem Ch.at{S:Nat→Prop}{w w':World}(h:Ch S w w'){b:Nat}{o:Obj}(hb:w.heap[b]? =some o)(hn:¬ S b):w'.heap[b]? =some o:=by rw[h.keep b (an hb) hn];exact hb
theorem Ch.alloc(S:Nat→Prop)(w:World)(o:Obj):Ch S w (w.alloc o):=⟨rfl,rfl,rfl,by simp,fun b hb _=>heap_alloc_old w o b hb⟩
theorem Ch.setRow(w:World)(b:Nat)(cs:Array Value):Ch (· =b) w (w.setRow b cs):=⟨rfl,rfl,rfl,by simp,fun c _ hn=>setRow_other w b c cs hn⟩
theorem Ch.ownsRow{S:Nat→Prop}{w w':World}(h:Ch S w w'){base e size n:Nat}{v:Value}{xs:List Value}(ho:w.ownsRow base e size v n xs)(hn:∀g,v.ownBlock=some g→¬ S g):w'.ownsRow base e size v n xs:=by
 refine⟨ho.1,?_⟩
 rcases ho.2 with h1|⟨g,cap,cur,h1,h2,h3,h4⟩
 ·exact .inl h1
 ·exact .inr ⟨g,cap,cur,h1,h2,h.at h3 (hn g (by rw[h1];rfl)),h4⟩
end Go.TL.H
