/- What one operation makes of the state: appends, literals, lengths, slices, numbers. -/
import Derived.Test.YtpoamlpahljebaaGreatDoorW02
import Derived.ArgAppend
namespace Go.TL
def gy(P:Program)(t:TypeId):Option (TypeId×TypeInfo):=
 match P.underlying t with
 |some (.slice e)=>match P.info? e with
  |some i=>some (e,i)
  |none=>none
 |_=>none
theorem nM{P:Program}{t e:TypeId}{i:TypeInfo}(h:gy P t=some (e,i)):P.underlying t=some (.slice e)∧P.info? e=some i:=by
 unfold gy at h
 split at h
 ·rename_i e' hu
  split at h
  ·rename_i i' hi
   simp only[ZS,ZT]at h;obtain⟨rfl,rfl⟩:=h;exact⟨hu,hi⟩
  ·cases h
 ·cases h
def xu(T:Tab)(d:Nat):SV→Option (List (List PV)×Bool×Nat×Option (TypeId×Nat))
 | .vec k=>match lk T k with
  |some (.vec t sz rows fr)=>some (rows,fr,k,some (t,sz))
  |_=>none
 | .p (.v (.slice none 0 0)) _=>some ([],true,d,none)
 |_=>none
def vA(P:Program)(σ:St)(o:Oper)(s x:Operand)(t:TypeId):Option (St×Prop):=
 match o.dst,gy P t with
 |some d,some (e,i)=>match xu σ.tab d (ev σ s),qz σ.tab (ev σ x),i.zero with
  |some (rows,fr,k,ts),some (dc,jX),some z=>match lk (rm σ.tab k) d,Nat.beq z.cells.size i.size,Nat.beq i.size 0,(match ts with|some (t',sz)=>Nat.beq t' e && Nat.beq sz i.size|none=>(lk σ.tab d).isNone)with
   |none,true,false,true=>some (σ.re k d (.vec e i.size (rows++dc) (fr && jX)),(∀row∈dc,row.length=i.size)∧(rows.length+dc.length)*max i.bytes 1≤140737488355328)
   |_,_,_,_=>none
  |_,_,_=>none
 |_,_=>none
theorem Dm{C:Ctx}{E:Env}{σ σ':St}{a:Act}{w:World}{o:Oper}{s x:Operand}{t:TypeId}{vc:Prop}(ho:o.op= .call {callee:= .builtin .append,args:= #[s,x],argTypes:= #[t,t]})
  (hf:vA C.P σ o s x t=some (σ',vc))(cU:vc)(h:aC C E σ a w)(hd:bA C o):bR C o σ' a w:=by
 unfold vA at hf
 split at hf
 ·rename_i d e i dm oh
  obtain⟨hu,hi⟩:=nM oh
  split at hf
  ·rename_i rows fr k ts dc jX z jQ hsrc hz
   split at hf
   ·rename_i dt mu bf hts
    have hzs':=ZU mu
    have eS:0<i.size:=by
     rcases Nat.eq_zero_or_pos i.size with h0|h0
     ·rw[h0]at bf;simp at bf
     ·exact h0
    simp only[ZS,ZT]at hf;obtain⟨rfl,rfl⟩:=hf
    obtain⟨hrows2,kx⟩:=cU
    have hm1:(rows.length+dc.length)*1≤(rows.length+dc.length)*max i.bytes 1:=Nat.mul_le_mul_left _ (by omega)
    have hm2:(rows.length+dc.length)*i.bytes≤(rows.length+dc.length)*max i.bytes 1:=Nat.mul_le_mul_left _ (by omega)
    have oq:∀(n:Nat) (row:List PV),dc[n]? =some row→row.length=i.size:=fun n row hn=>hrows2 row (Z2 hn)
    have hsr:=Dl h hsrc (bO h x) oq eS
    have hb:∃xs,w.ownsRow 0 e i.size (a.eval s) rows.length xs∧de w E.bad (flo C.lo fr) i.size rows xs∧∀g,(a.eval s).ownBlock=some g→E.own g=some k:=by
     have az:=bO h s
     unfold xu at jQ
     split at jQ
     ·rename_i k' he
      split at jQ
      ·rename_i t' gm cC fr' hl
       simp only[ZS,ZT]at jQ;obtain⟨rfl,rfl,rfl,rfl⟩:=jQ
       simp only[Bool.and_eq_true]at hts
       have e1:=ZU hts.1
       have e2:=ZU hts.2
       subst e1
       obtain⟨v,xs,h1,h2,h3,h4,h5⟩:=h.tab.obj _ _ hl
       rw[he]at az;simp only[VR]at az
       rw[az.1]at h1;cases h1
       rw[e2]at h3 h5
       exact⟨xs,h3,h5,h4⟩
      ·cases jQ
     ·rename_i he
      simp only[ZS,ZT]at jQ;obtain⟨rfl,rfl,rfl,rfl⟩:=jQ
      rw[he]at az
      have:=dh az
      rw[this]
      exact⟨[],World.ownsRow_nil w 0 e i.size,⟨fun _ _=>undef,by simp,by simp,by simp⟩,by simp[Value.ownBlock]⟩
     ·cases jQ
    obtain⟨xs,cD,hrr,hblk⟩:=hb
    have hxx:∃news,((dc.length=0∧news=[]∧∃b c,a.eval x= .slice b 0 c)∨∃(ad:Addr) (c:Nat),a.eval x= .slice (some ad) dc.length c∧news.length=dc.length*i.size∧
      (∀(j:Nat) u,news[j]? =some u→w.cell? (ad.add j)=some u)∧(∀u∈news,u.oneCell'=true))∧de w E.bad (flo C.lo jX) i.size dc news:=by
     rcases hsr.out with⟨rfl,b,c,hx⟩|⟨ad,c,news,hx,hl,hn,h1,hr⟩
     ·exact⟨[],.inl ⟨rfl,rfl,b,c,hx⟩,⟨fun _ _=>undef,by simp,by simp,by simp⟩⟩
     ·exact⟨news,.inr ⟨ad,c,hx,hl,hn,h1⟩,hr⟩
    obtain⟨news,hcase,hrr2⟩:=hxx
    obtain⟨v',w',aW,hown',hgb,zW,dM⟩:=nL (P:=C.P) (w:=w) t o.type e i z hu hi hz hzs' eS (a.eval s) rows.length xs cD (a.eval x) dc.length news hcase (by omega) (by omega)
    refine Gv h hd dm dt (x:=v') (w':=w') ?_ hgb.os hgb.tape hgb.output hgb.size ?_ ?_ dM ?_
    ·unfold execOp
     simp only[ho,resolve,invoke,builtin,Sem.run_bind,Sem.run_pure,Result.andThen_ok,List.map_toArray,List.map_cons,List.map_nil,aW]
    ·intro b av gl
     exact hgb.block b av (fun e=>gl (hblk b e.symm))
    ·intro g hg
     obtain⟨h1,h2⟩:=zW g hg
     exact⟨h1.imp (hblk g) id,h2⟩
    ·intro db
     refine⟨v',xs++news,by simp[Env.re],eS,by simpa using hown',?_,?_⟩
     ·intro g hg;simp[Env.re,hg]
     ·exact de.append (hrr.mono (jg _ _ _).1 db.rep) cD.1 (hrr2.mono (jg _ _ _).2 db.rep)
   ·cases hf
  ·cases hf
 ·cases hf
def PI:SV→Bool
 | .pc _ _=>true
 |_=>false
def s8(P:Program)(σ:St)(o:Oper)(s x:Operand)(t:TypeId):Option (St×Prop):=
 match o.dst,gy P t with
 |some d,some (e,i)=>match ev σ s,qz σ.tab (ev σ x),i.zero with
  | .pc rows fr,some (dc,jX),some z=>match lk σ.tab d,Nat.beq z.cells.size i.size,Nat.beq i.size 0 with
   |none,true,false=>some (σ.re d d (.vec e i.size (rows++dc) (fr && jX)),(∀row∈rows,row.length=i.size)∧(∀row∈dc,row.length=i.size)∧0<dc.length∧(rows.length+dc.length)*max i.bytes 1≤140737488355328)
   |_,_,_=>none
  |_,_,_=>none
 |_,_=>none
theorem Bu{C:Ctx}{E:Env}{σ σ':St}{a:Act}{w:World}{o:Oper}{s x:Operand}{t:TypeId}{vc:Prop}(ho:o.op= .call {callee:= .builtin .append,args:= #[s,x],argTypes:= #[t,t]})
  (hf:s8 C.P σ o s x t=some (σ',vc))(cU:vc)(h:aC C E σ a w)(hd:bA C o):bR C o σ' a w:=by
 unfold s8 at hf
 split at hf
 ·rename_i d e i dm oh
  obtain⟨hu,hi⟩:=nM oh
  split at hf
  ·rename_i rows fr dc jX z jQ hsrc hz
   split at hf
   ·rename_i hfresh0 mu bf
    have dt:lk (rm σ.tab d) d=none:=lp _ _
    have hzs':=ZU mu
    have eS:0<i.size:=by
     rcases Nat.eq_zero_or_pos i.size with h0|h0
     ·rw[h0]at bf;simp at bf
     ·exact h0
    simp only[ZS,ZT]at hf;obtain⟨rfl,rfl⟩:=hf
    obtain⟨eb,hrows2,gl,kx⟩:=cU
    have hm1:(rows.length+dc.length)*1≤(rows.length+dc.length)*max i.bytes 1:=Nat.mul_le_mul_left _ (by omega)
    have hm2:(rows.length+dc.length)*i.bytes≤(rows.length+dc.length)*max i.bytes 1:=Nat.mul_le_mul_left _ (by omega)
    have hmax:rows.length+dc.length≤maxLen:=by simp only[maxLen];omega
    have hok1:∀(n:Nat) (row:List PV),rows[n]? =some row→row.length=i.size:=fun n row hn=>eb row (Z2 hn)
    have oq:∀(n:Nat) (row:List PV),dc[n]? =some row→row.length=i.size:=fun n row hn=>hrows2 row (Z2 hn)
    have az:=bO h s
    have hsr1:=Dl (rows:=rows) (fr:=fr) h (by rw[jQ];rfl) az hok1 eS
    have hsr:=Dl h hsrc (bO h x) oq eS
    rw[jQ]at az;simp only[VR]at az
    obtain⟨ad0,dB,_⟩:=az
    obtain⟨ad2,c2,news,hx,hnl,hn,h1,hrr2⟩:∃(ad:Addr) (c:Nat) (news:List Value),a.eval x= .slice (some ad) dc.length c∧news.length=dc.length*i.size∧
      (∀(j:Nat) u,news[j]? =some u→w.cell? (ad.add j)=some u)∧(∀u∈news,u.oneCell'=true)∧de w E.bad (flo C.lo jX) i.size dc news:=by
     rcases hsr.out with⟨rfl,_⟩|hh
     ·simp at gl
     ·exact hh
    have key:∃ou v' w',(Builtin.append_ #[t,t] o.type #[a.eval s,a.eval x]).run C.P w= .ok v' w'∧ou.length=rows.length*i.size∧de w E.bad (flo C.lo fr) i.size rows ou∧w'.ownsRow 0 e i.size v' (rows.length+dc.length) (ou++news)∧w.grownBy w' none∧
      (∀g,v'.ownBlock=some g→w.heap.size≤g∧g<w'.heap.size)∧∃p n c,v'= .slice p n c:=by
     have grow:∀(b:Addr) (ou:List Value),a.eval s= .slice (some b) rows.length rows.length→ou.length=rows.length*i.size→(∀j u,ou[j]? =some u→w.cell? (b.add j)=some u)→
       ∃v' w',(Builtin.append_ #[t,t] o.type #[a.eval s,a.eval x]).run C.P w= .ok v' w'∧w'.ownsRow 0 e i.size v' (rows.length+dc.length) (ou++news)∧w.grownBy w' none∧(∀g,v'.ownBlock=some g→w.heap.size≤g∧g<w'.heap.size)∧∃p n c,v'= .slice p n c:=by
      intro b ou hs1 hol hoc
      obtain⟨v',w',r1,r2,r3⟩:=run_append_arg_grows (P:=C.P) w t o.type e i z i.size i.bytes hu hi hz rfl rfl hzs' eS b rows.length rows.length ou hol hoc ad2 dc.length c2 news hnl hn (by omega) hmax (by omega)
      rw[hs1,hx]
      refine⟨v',w',r1,⟨r2.1,?_⟩,r3,?_,?_⟩
      ·rcases r2.2 with q|⟨g,cap,cur,q1,q2,q3⟩
       ·exact .inl q
       ·exact .inr ⟨g,cap,cur,q1,Nat.zero_le _,q3⟩
      ·intro g hg
       rcases r2.2 with⟨q,_⟩|⟨g',cap,cur,q1,q2,q3,_⟩
       ·rw[q]at hg;simp[Value.ownBlock]at hg
       ·rw[q1]at hg;simp[Value.ownBlock]at hg;subst hg;exact⟨q2,an q3⟩
      ·rcases r2.2 with⟨q,_⟩|⟨g',cap,cur,q1,_⟩
       ·exact⟨_,_,_,q⟩
       ·exact⟨_,_,_,q1⟩
     rcases hsr1.out with⟨rfl,b,c,hs1⟩|⟨ad,c,ou,hs1,hol,hoc,_,hr⟩
     ·simp only[List.length_nil]at dB
      cases ad0 with
      |none=>
       obtain⟨v',w',r1,r2,r3,r4,r5⟩:=nL (P:=C.P) (w:=w) t o.type e i z hu hi hz hzs' eS (.slice none 0 0) 0 [] (World.ownsRow_nil w 0 e i.size) (a.eval x) dc.length news (.inr ⟨ad2,c2,hx,hnl,hn,h1⟩) (by simp only[List.length_nil]at hm2 kx;omega) (by simp only[List.length_nil]at hm1 kx;omega)
       rw[dB]
       refine⟨[],v',w',r1,by simp,⟨fun _ _=>undef,by simp,by simp,by simp⟩,by simpa using r2,?_,fun g hg=>⟨(r4 g hg).1.resolve_left (by simp[Value.ownBlock]),(r4 g hg).2⟩,r5⟩
       exact r3
      |some b=>
       obtain⟨v',w',r⟩:=grow b [] (by simpa using dB) (by simp) (by simp)
       exact⟨[],v',w',r.1,by simp,⟨fun _ _=>undef,by simp,by simp,by simp⟩,r.2⟩
     ·rw[dB]at hs1
      simp only[Value.slice.injEq]at hs1
      obtain⟨rfl,_,rfl⟩:=hs1
      obtain⟨v',w',r⟩:=grow ad ou dB hol hoc
      exact⟨ou,v',w',r.1,hol,hr,r.2⟩
    obtain⟨ou,v',w',aW,hol,hrr,hown',hgb,zW,dM⟩:=key
    refine Gv h hd dm dt (x:=v') (w':=w') ?_ hgb.os hgb.tape hgb.output hgb.size ?_ ?_ dM ?_
    ·unfold execOp
     simp only[ho,resolve,invoke,builtin,Sem.run_bind,Sem.run_pure,Result.andThen_ok,List.map_toArray,List.map_cons,List.map_nil,aW]
    ·intro b av _
     exact hgb.block b av (by simp)
    ·intro g hg
     obtain⟨h1,h2⟩:=zW g hg
     exact⟨.inr h1,h2⟩
    ·intro db
     refine⟨v',ou++news,by simp[Env.re],eS,by simpa using hown',?_,?_⟩
     ·intro g hg;simp[Env.re,hg]
     ·exact de.append (hrr.mono (jg _ _ _).1 db.rep) hol (hrr2.mono (jg _ _ _).2 db.rep)
   ·cases hf
  ·cases hf
 ·cases hf
def chunk(sz:Nat):Nat→List PV→List (List PV)
 |0,_=>[]
 |n+1,xs=>xs.take sz::chunk sz n (xs.drop sz)
theorem xv(sz:Nat):∀(n:Nat) (xs:List PV),(chunk sz n xs).length=n
 |0,_=>rfl
 |n+1,xs=>by simp[chunk,xv sz n]
theorem s9(sz:Nat):∀(n:Nat) (xs:List PV) (i:Nat),i<n→(chunk sz n xs)[i]? =some ((xs.drop (i*sz)).take sz)
 |n+1,xs,0,_=>by simp[chunk]
 |n+1,xs,i+1,h=>by
  simp only[chunk,List.getElem?_cons_succ]
  rw[s9 sz n _ i (by omega),List.drop_drop]
  congr 3;rw[Nat.add_mul];omega
 |0,_,_,h=>by omega
def ir(zs:List SV):Nat→List SV
 |0=>[]
 |n+1=>zs++ir zs n
def nN(P:Program)(σ:St)(o:Oper)(t:TypeId)(len:Nat)(parts:Array (Nat×Operand)):Option (St×Prop):=
 match o.dst,gy P t with
 |some d,some (e,i)=>match i.zero,lk σ.tab d with
  |some z,none=>match pn z with
   |some zs=>match Nat.beq zs.length i.size,Nat.beq i.size 0,Nat.ble (len*i.size) 16777216,lr (fun n=>some (n*i.size,i.size)) (ir zs len) (gQ σ parts.toList)with
    |true,false,true,some cells=>match lq cells with
     |some (xs,fr)=>some (⟨(d,.vec d)::σ.ah,(d,.vec e i.size (chunk i.size len xs) fr)::σ.tab⟩,True)
     |none=>none
    |_,_,_,_=>none
   |none=>none
  |_,_=>none
 |_,_=>none
theorem xw{w:World}{E:Env}{lo:Nat}{zs:List SV}{vs:List Value}(h:VRs w E lo zs vs):∀n:Nat,VRs w E lo (ir zs n) (List.replicate n vs).flatten
 |0=>by simpa[ir]using df
 |n+1=>by
  simp only[ir,List.replicate_succ,List.flatten_cons]
  exact jC h (xw h n)
theorem KJ(vs:Array Value)(h:0<vs.size):∀n:Nat,((Array.range (n*vs.size)).map (vs[· % vs.size]!)).toList=(List.replicate n vs.toList).flatten:=by
 intro n
 apply List.ext_getElem?
 intro j
 have hl:(List.replicate n vs.toList).flatten.length=n*vs.size:=by simp
 by_cases hj:j<n*vs.size
 ·have hm:j % vs.size<vs.size:=Nat.mod_lt _ h
  have hq:j / vs.size<n:=(Nat.div_lt_iff_lt_mul h).2 hj
  have e1:((Array.range (n*vs.size)).map (vs[· % vs.size]!)).toList[j]? =some vs[j % vs.size]:=by
   simp[hj,getElem!_pos,hm]
  rw[e1]
  symm
  clear e1 hl
  induction n generalizing j with
  |zero=>simp at hj
  |succ n ih=>
   simp only[List.replicate_succ,List.flatten_cons,List.getElem?_append,Array.length_toList]
   by_cases hjs:j<vs.size
   ·rw[if_pos hjs];simp[Nat.mod_eq_of_lt hjs,hjs]
   ·rw[if_neg hjs]
    have ow:j - vs.size<n*vs.size:=by rw[Nat.add_mul,Nat.one_mul]at hj;omega
    have hmod:(j - vs.size) % vs.size=j % vs.size:=by
     conv=>rhs;rw[show j=j - vs.size+vs.size by omega]
     rw[Nat.add_mod_right]
    have:=ih (j - vs.size) ow (Nat.mod_lt _ h) ((Nat.div_lt_iff_lt_mul h).2 ow)
    rw[this]
    simp only[hmod]
 ·rw[List.getElem?_eq_none (by simpa using hj),List.getElem?_eq_none (by omega)]
theorem xx{C:Ctx}{E:Env}{σ σ':St}{a:Act}{w:World}{o:Oper}{t:TypeId}{len:Nat}{parts:Array (Nat×Operand)}{vc:Prop}(ho:o.op= .buildSlice t len parts)
  (hf:nN C.P σ o t len parts=some (σ',vc))(h:aC C E σ a w)(hd:bA C o):bR C o σ' a w:=by
 unfold nN at hf
 split at hf
 ·rename_i d e i dm oh
  obtain⟨hu,hi⟩:=nM oh
  split at hf
  ·rename_i z hz dt
   split at hf
   ·rename_i zs mu
    split at hf
    ·rename_i cells hzl bf hle hfill
     split at hf
     ·rename_i xs fr hx
      have qu:=ZX hle
      have hzl':=ZU hzl
      have eS:0<i.size:=by
       rcases Nat.eq_zero_or_pos i.size with h0|h0
       ·rw[h0]at bf;simp at bf
       ·exact h0
      simp only[ZS,ZT]at hf;obtain⟨rfl,_⟩:=hf
      have hzr:=s7 (w:=w) (E:=E) (lo:=C.lo) mu
      have hzsz:z.cells.size=i.size:=by have:=cX hzr;simp at this;omega
      have hp:=tN h parts.toList
      have jQ:VRs w E C.lo (ir zs len) ((Array.range (len*i.size)).map (z.cells[· % z.cells.size]!)).toList:=by
       rw[←hzsz,KJ z.cells (by omega) len]
       exact xw hzr len
      obtain⟨r,hr,hv⟩:=vx _ _ _ _ _ _ hp.1 hp.2 jQ hfill
      obtain⟨g1,g2,f,f1,f2⟩:=mW cells xs fr hx _ hv
      have hrsz:r.toList.length=len*i.size:=by
       rw[←cX hv]
       have:∀(ps:List (Nat×SV)) (cs out:List SV),lr (fun n=>some (n*i.size,i.size)) cs ps=some out→out.length=cs.length:=by
        intro ps
        induction ps with
        |nil=>intro cs out hf;simp[lr]at hf;subst hf;rfl
        |cons p ps ih=>
         intro cs out hf
         obtain⟨n,y⟩:=p
         simp only[lr]at hf
         split at hf
         ·rename_i off size ys fI hcy
          split at hf
          ·rename_i q1 q2
           rw[ih _ _ hf]
           exact gW _ _ _ (ZX q2)
          ·cases hf
         ·cases hf
       rw[this _ _ _ hfill,cX jQ];simp
      have hxl:xs.length=len*i.size:=by rw[←hrsz];exact g2.symm
      have aW:(execOp a.eval o).run C.P w= .ok (.value (.slice (some ⟨w.heap.size,0,none⟩) len len)) (w.alloc (.cells r e)):=by
       by_cases hn:len*i.size=0
       ·have bB:len=0:=by rcases Nat.mul_eq_zero.1 hn with h0|h0<;>omega
        subst bB
        have gb:Instr.fill (fun n=>some (n*i.size,i.size)) #[] (parts.toList.map fun(i,x)=>(i,a.eval x))=some r:=by simpa[Array.range_zero']using hr
        simp[execOp,ho,Instr.buildSlice,run_underlying hu,sizeOf,typeInfo,hi,Array.range_zero',gb,newRow]
       ·have hnle:¬ 16777216<len*i.size:=by omega
        have gb:Instr.fill (fun n=>some (n*i.size,i.size)) ((Array.range (len*i.size)).map (z.cells[· % z.cells.size]!)) (parts.toList.map fun(i,x)=>(i,a.eval x))=some r:=hr
        simp[execOp,ho,Instr.buildSlice,run_underlying hu,sizeOf,typeInfo,zeroValue,hi,hz,newRow,hnle,gb]
        intro h0;exact absurd h0 hn
      have hb:∀b,b<w.heap.size→(w.alloc (.cells r e)).heap[b]? =w.heap[b]? :=fun b hb=>heap_alloc_old w _ b hb
      have aR:C.lo≤w.heap.size:=Nat.le_trans h.lo.le h.fr.size
      have c8:Fr w E (w.alloc (.cells r e)) (E.add d (.slice (some ⟨w.heap.size,0,none⟩) len len) w.heap.size):=Fr.add rfl rfl rfl (by simp) hb (Nat.le_refl _)
      have dB:=Env.ua (w:=w) (b0:=w.heap.size) (x:= .slice (some ⟨w.heap.size,0,none⟩) len len) h.tab dt
      have hlm:len≤maxLen:=by
       have:len*1≤len*i.size:=Nat.mul_le_mul_left _ eS
       simp only[maxLen];omega
      have bp:=xv i.size len xs
      have lQ:=bV.add (w':=w.alloc (.cells r e)) (x:= .slice (some ⟨w.heap.size,0,none⟩) len len) (b0:=w.heap.size) (ov:= .vec e i.size (chunk i.size len xs) fr) h.tab dt (by simp) hb (Nat.le_refl _) (by simp) aR
       ⟨.slice (some ⟨w.heap.size,0,none⟩) len len,r.toList,by simp[Env.add],eS,
        ⟨by rw[bp];exact hrsz,.inr ⟨w.heap.size,len,r,by rw[bp],Nat.zero_le _,heap_alloc_new w _,by rw[bp];exact Nat.le_refl _,hlm,by simpa using hrsz,by rw[bp, ←hrsz];exact List.take_length⟩⟩,
        by intro g hg;simp[Value.ownBlock]at hg;subst hg;simp[Env.add],fun n j=>f (n*i.size+j),?_,?_,?_⟩
      ·refine⟨_,_,.inl aW,E.add d (.slice (some ⟨w.heap.size,0,none⟩) len len) w.heap.size,?_⟩
       have hdn: @LT.lt Nat instLTNat d C.n:=hd d dm
       have:=h.upd c8 dB (fun k hk hn=>by simp only[Env.add];rw[if_neg (by omega)];exact hn) lQ o.dst hd (sv:= .vec d) (v:= .slice (some ⟨w.heap.size,0,none⟩) len len) (fun _ _=>by simp only[VR];exact⟨by simp[Env.add],_,_,_,rfl⟩)
       rw[dm]at this ⊢
       exact this
      ·intro n row a6
       have hn:n<len:=by have:=(ZY a6).1;omega
       rw[s9 _ _ _ _ hn]at a6;simp at a6;subst a6
       have:(n+1)*i.size≤len*i.size:=Nat.mul_le_mul_right _ (by omega)
       rw[Nat.add_mul,Nat.one_mul]at this
       simp;omega
      ·intro n row j x a6 hj
       have hn:n<len:=by have:=(ZY a6).1;omega
       rw[s9 _ _ _ _ hn]at a6;simp at a6;subst a6
       rw[List.getElem?_take]at hj
       split at hj
       ·rw[List.getElem?_drop]at hj;exact f1 _ x hj
       ·cases hj
      ·intro n row j x a6 hj
       have hn:n<len:=by have:=(ZY a6).1;omega
       rw[s9 _ _ _ _ hn]at a6;simp at a6;subst a6
       rw[List.getElem?_take]at hj
       split at hj
       ·rw[List.getElem?_drop]at hj;exact(f2 _ x hj).mono (Nat.le_refl _) c8.keeps.rep
       ·cases hj
     ·cases hf
    ·cases hf
   ·cases hf
  ·cases hf
 ·cases hf
end Go.TL
namespace Go.TL
theorem fO{a:Act}{o:Oper}{b:Builtin}{args:Array Operand}{ts:Array TypeId}(ho:o.op= .call {callee:= .builtin b,args:=args,argTypes:=ts}):
  execOp a.eval o=builtin b ts o.type (args.map fun| .const _=>true|_=>false) (args.map a.eval):=by
 unfold execOp
 simp only[ho,resolve,pure_bind,invoke]
 rfl
def lenOf(P:Program)(T:Tab)(t:TypeId):SV→Option Nat
 | .vec k=>match lk T k,P.underlying t with
  |some (.vec _ _ rows _),some (.slice _)=>some rows.length
  |_,_=>none
 | .p (.sl rows) _=>match P.underlying t with
  |some (.slice _)=>some rows.length
  |_=>none
 | .pc rows _=>match P.underlying t with
  |some (.slice _)=>some rows.length
  |_=>none
 | .p (.v (.slice none 0 0)) _=>match P.underlying t with
  |some (.slice _)=>some 0
  |_=>none
 | .p (.v (.string s)) _=>match P.underlying t with
  |some .string=>some s.size
  |_=>none
 |_=>none
def FV(P:Program)(σ:St)(o:Oper)(x:Operand)(t:TypeId):Option (St×Prop):=
 match lenOf P σ.tab t (ev σ x)with
 |some n=>some (σ.put o.dst (.p (.v (.int .i64 (n:Int))) true),True)
 |none=>none
theorem rU{w:World}{bad:Nat→Prop}{lo:Nat}{rows:List (List PV)}{v:Value}(h:Rep w bad lo (.sl rows) v):∃p c,v= .slice p rows.length c:=by
 cases h with
 |nil b c=>exact⟨b,c,rfl⟩
 |sl _ b off cap=>exact⟨_,cap,rfl⟩
def intOf:SV→Option Int
 | .p (.v (.int _ n)) _=>some n
 |_=>none
theorem oG{C:Ctx}{E:Env}{σ:St}{a:Act}{w:World}{x:Operand}{n:Int}(h:aC C E σ a w)(hn:intOf (ev σ x)=some n):∃k,a.eval x= .int k n:=by
 unfold intOf at hn
 split at hn
 ·rename_i k m fr he
  simp only[ZS]at hn;subst hn
  exact⟨k,kf h he⟩
 ·cases hn
def lV(σ:St):Option Operand→Option (Option Int)
 |none=>some none
 |some x=>match intOf (ev σ x)with
  |some n=>some (some n)
  |none=>none
theorem pO{P:Program}{w:World}{v:Value}{k:IntKind}{n:Int}{y:Nat}{code:BoundsCode}(hv:v= .int k n)(h0:0≤n)(h1:n≤y):(Instr.sliceBound v y code).run P w= .ok n.toNat w:=by
 subst hv
 simp[Instr.sliceBound,asIntOf,h0,h1]
def cd(l:Option Int):Nat:=match l with|some n=>n.toNat|none=>0
def dE(len:Nat)(h:Option Int):Nat:=match h with|some n=>n.toNat|none=>len
def kj(len:Nat)(l h:Option Int):Prop:=
 (match l with|some n=>0≤n|none=>True)∧(match h with|some n=>0≤n∧n≤(len:Int)|none=>True)∧
 (match l,h with|some a,some b=>a≤b|some a,none=>a≤(len:Int)|none,_=>True)
theorem qA{P:Program}{w:World}{len cap:Nat}(isSlice:Bool){lo hi:Option Value}{l h:Option Int}(aR:∀n,l=some n→∃k,lo=some (.int k n))(hlo0:l=none→lo=none)
  (hhi:∀n,h=some n→∃k,hi=some (.int k n))(hhi0:h=none→hi=none)(ab:kj len l h)(eR:len≤cap):
  (Instr.sliceBounds isSlice len cap lo hi none).run P w= .ok (cd l,dE len h,cap) w∧cd l≤dE len h∧dE len h≤len:=by
 obtain⟨h1,h2,h3⟩:=ab
 have hle:dE len h≤len:=by
  cases h with
  |none=>exact Nat.le_refl _
  |some n=>have:=h2.2;have:=h2.1;simp only[dE];omega
 have hle2:cd l≤dE len h:=by
  cases l with
  |none=>exact Nat.zero_le _
  |some m=>
   cases h with
   |none=>simp only[cd,dE];have:=h1;simp only at h3;omega
   |some n=>simp only[cd,dE];simp only at h3;omega
 refine⟨?_,hle2,hle⟩
 have e2:(match lo with|some v=>Instr.sliceBound v (dE len h) .sliceB|none=>(pure 0:Sem Nat)).run P w= .ok (cd l) w:=by
  cases l with
  |none=>rw[hlo0 rfl];rfl
  |some m=>
   obtain⟨k,hk⟩:=aR m rfl
   rw[hk]
   refine pO (k:=k) rfl h1 ?_
   simp only[cd]at hle2
   have:=h1
   simp only at this
   omega
 have e1':(match hi with|some v=>Instr.sliceBound v cap (if isSlice then .sliceAcap else .sliceAlen)|none=>(pure len:Sem Nat)).run P w= .ok (dE len h) w:=by
  cases h with
  |none=>rw[hhi0 rfl];rfl
  |some n=>
   obtain⟨k,hk⟩:=hhi n rfl
   rw[hk]
   exact pO (k:=k) rfl h2.1 (by have:=h2.2;omega)
 have key:∀(A B:Sem Nat),A.run P w= .ok (dE len h) w→B.run P w= .ok (cd l) w→
   (do let h ←A;let l ←B;pure (l,h,cap):Sem (Nat×Nat×Nat)).run P w= .ok (cd l,dE len h,cap) w:=by
  intro A B hA hB
  rw[Sem.run_bind,hA,Result.andThen_ok,Sem.run_bind,hB]
  rfl
 cases hi with
 |none=>
  have q1:len=dE len h:=by injection e1'
  cases lo with
  |none=>
   have q2:0=cd l:=by injection e2
   rw[←q1, ←q2]
   rfl
  |some v=>
   have:=key (pure len) (Instr.sliceBound v (dE len h) .sliceB) e1' e2
   rw[←q1]at this ⊢
   exact this
 |some u=>
  cases lo with
  |none=>
   have q2:0=cd l:=by injection e2
   have:=key (Instr.sliceBound u cap (if isSlice then .sliceAcap else .sliceAlen)) (pure 0) e1' e2
   exact this
  |some v=>
   have e3:(do let h ←(Instr.sliceBound u cap (if isSlice then .sliceAcap else .sliceAlen));let l ←Instr.sliceBound v h .sliceB;pure (l,h,cap):Sem (Nat×Nat×Nat)).run P w= .ok (cd l,dE len h,cap) w:=by
    rw[Sem.run_bind,e1',Result.andThen_ok,Sem.run_bind,e2]
    rfl
   exact e3
def jj(P:Program)(σ:St)(o:Oper)(t:TypeId)(x:Operand)(lo hi mx:Option Operand):Option (St×Prop):=
 match lV σ lo,lV σ hi,mx with
 |some l,some h,none=>match ev σ x,P.underlying t with
  | .p (.sl rows) fr,some (.slice e)=>match P.info? e with
   |some i=>some (σ.put o.dst (.p (.sl ((rows.take (dE rows.length h)).drop (cd l))) fr),kj rows.length l h∧∀row∈rows,row.length=i.size)
   |none=>none
  | .pc rows fr,some (.slice e)=>match P.info? e with
   |some i=>some (σ.put o.dst (.p (.sl ((rows.take (dE rows.length h)).drop (cd l))) fr),kj rows.length l h∧∀row∈rows,row.length=i.size)
   |none=>none
  | .p (.v (.slice none 0 0)) _,some (.slice e)=>match P.info? e with
   |some _=>some (σ.put o.dst (.p (.v (.slice none 0 0)) true),kj 0 l h)
   |none=>none
  | .p (.v (.string s)) _,some .string=>some (σ.put o.dst (.p (.v (.string (s.extract (cd l) (dE s.size h)))) true),kj s.size l h)
  |_,_=>none
 |_,_,_=>none
theorem EC{w:World}{bad:Nat→Prop}{lo:Nat}{rows:List (List PV)}{p:Option Addr}{n c:Nat}(h:Rep w bad lo (.sl rows) (.slice p n c))(l hh sz:Nat)(h1:l≤hh)(h2:hh≤rows.length)(m:Nat)(hmm:hh≤m)
  (bf:∀(i:Nat) (row:List PV),rows[i]? =some row→row.length=sz)(hnl:m≠l∨l=hh):
  Rep w bad lo (.sl ((rows.take hh).drop l)) (.slice (if m=l then p else p.map (·.add (l*sz))) (hh - l) (m - l)):=by
 have hlen:((rows.take hh).drop l).length=hh - l:=by simp;omega
 by_cases he:l=hh
 ·subst he
  have:(rows.take l).drop l=[]:=List.eq_nil_of_length_eq_zero (by omega)
  rw[this,Nat.sub_self]
  exact .nil _ _
 ·have hm:m≠l:=hnl.resolve_right he
  rw[if_neg hm]
  cases h with
  |nil b c=>simp at h2;omega
  |sl _ b off cap cs t fz gm f eR hb bY aR gz hlen' hc hr=>
   have hs:gm=sz:=by
    have gl:0<rows.length:=by omega
    have h0:rows[0]? =some rows[0]:=by simp[gl]
    rw[←hlen' 0 _ h0,bf 0 _ h0]
   subst hs
   have:=Rep.sl (w:=w) (bad:=bad) (lo:=lo) ((rows.take hh).drop l) b (off+l*gm) (m - l) cs t fz gm (fun i j=>f (l+i) j) (by rw[hlen];omega) hb bY aR gz ?_ ?_ ?_
   ·rw[hlen]at this
    simpa[Addr.add_lit]using this
   ·intro i row hi
    rw[List.getElem?_drop,List.getElem?_take]at hi
    split at hi
    ·exact hlen' _ row hi
    ·cases hi
   ·intro i row j x hi hj
    rw[List.getElem?_drop,List.getElem?_take]at hi
    split at hi
    ·have:=hc _ row j x hi hj
     rw[show off+l*gm+i*gm+j=off+(l+i)*gm+j by rw[Nat.add_mul];omega]
     exact this
    ·cases hi
   ·intro i row j x hi hj
    rw[List.getElem?_drop,List.getElem?_take]at hi
    split at hi
    ·exact hr _ row j x hi hj
    ·cases hi
theorem dY{C:Ctx}{E:Env}{σ:St}{a:Act}{w:World}{x:Option Operand}{l:Option Int}(h:aC C E σ a w)(hl:lV σ x=some l):
  (∀n,l=some n→∃k,x.map a.eval=some (.int k n))∧(l=none→x.map a.eval=none):=by
 cases x with
 |none=>simp only[lV,ZS]at hl;subst hl;exact⟨fun _ h=>(by cases h),fun _=>rfl⟩
 |some y=>
  simp only[lV]at hl
  split at hl
  ·rename_i n hn
   simp only[ZS]at hl;subst hl
   obtain⟨k,hk⟩:=oG h hn
   exact⟨fun m hm=>⟨k,by simp at hm;subst hm;simp[hk]⟩,fun h=>by cases h⟩
  ·cases hl
theorem xb{w:World}{bad:Nat→Prop}{lo:Nat}{rows:List (List PV)}{p:Option Addr}{n c:Nat}(h:Rep w bad lo (.sl rows) (.slice p n c)):n≤c:=by
 cases h with
 |nil=>exact Nat.zero_le _
 |sl=>assumption
theorem xy{C:Ctx}{E:Env}{σ:St}{a:Act}{w:World}{o:Oper}{t e:TypeId}{i:TypeInfo}{x:Operand}{lo hi:Option Operand}{l hh:Option Int}{rows:List (List PV)}{fr:Bool}
  (ho:o.op= .slice t x lo hi none)(h:aC C E σ a w)(hd:bA C o)(hl:lV σ lo=some l)(hh':lV σ hi=some hh)(hu:C.P.underlying t=some (.slice e))(ea:C.P.info? e=some i)
  (hr:Rep w E.bad (flo C.lo fr) (.sl rows) (a.eval x))(ab:kj rows.length l hh)(bf:∀row∈rows,row.length=i.size):
  bR C o (σ.put o.dst (.p (.sl ((rows.take (dE rows.length hh)).drop (cd l))) fr)) a w:=by
 obtain⟨p,c,hv⟩:=rU hr
 rw[hv]at hr
 have eR:=xb hr
 have hb:=qA (P:=C.P) (w:=w) true (dY h hl).1 (dY h hl).2 (dY h hh').1 (dY h hh').2 ab eR
 obtain⟨bq,bz,hb3⟩:=hb
 have hrs:=EC hr (cd l) (dE rows.length hh) i.size bz hb3 c (by omega) (fun n row hn=>bf row (Z2 hn)) (by
  by_cases hc:c=cd l
  ·exact .inr (by omega)
  ·exact .inl hc)
 refine cn h hd (v:= .slice (if c=cd l then p else p.map (·.add (cd l*i.size))) (dE rows.length hh - cd l) (c - cd l)) ?_ (by simpa only[VR]using hrs)
 unfold execOp
 simp only[ho,hv,Instr.sliceAt,Sem.run_bind,run_underlying hu,Result.andThen_ok,Instr.slice,Option.map_none,bq,sizeOf,typeInfo,run_program,ea,Sem.run_pure]
end Go.TL
namespace Go.TL
theorem xc{C:Ctx}{E:Env}{σ σ':St}{a:Act}{w:World}{o:Oper}{t:TypeId}{x:Operand}{lo hi mx:Option Operand}{vc:Prop}(ho:o.op= .slice t x lo hi mx)
  (hf:jj C.P σ o t x lo hi mx=some (σ',vc))(cU:vc)(h:aC C E σ a w)(hd:bA C o):bR C o σ' a w:=by
 have az:=bO h x
 unfold jj at hf
 split at hf
 ·rename_i l hh hl hh'
  split at hf
  ·rename_i rows fr e he hu
   split at hf
   ·rename_i i ea
    simp only[ZS,ZT]at hf;obtain⟨rfl,rfl⟩:=hf
    rw[he]at az;simp only[VR]at az
    exact xy ho h hd hl hh' hu ea az cU.1 cU.2
   ·cases hf
  ·rename_i rows fr e he hu
   split at hf
   ·rename_i i ea
    simp only[ZS,ZT]at hf;obtain⟨rfl,rfl⟩:=hf
    rw[he]at az;simp only[VR]at az
    obtain⟨_,_,az⟩:=az
    exact xy ho h hd hl hh' hu ea az cU.1 cU.2
   ·cases hf
  ·rename_i fr e he hu
   split at hf
   ·rename_i i ea
    simp only[ZS,ZT]at hf;obtain⟨rfl,rfl⟩:=hf
    have hv:=kf h he
    have hb:=qA (P:=C.P) (w:=w) (cap:=0) true (dY h hl).1 (dY h hl).2 (dY h hh').1 (dY h hh').2 cU (Nat.le_refl _)
    obtain⟨bq,bz,hb3⟩:=hb
    refine cn h hd (v:= .slice none 0 0) ?_ (dR true rfl)
    unfold execOp
    have e1:dE 0 hh - cd l=0:=by omega
    have e2:0 - cd l=0:=by omega
    simp only[ho,hv,Instr.sliceAt,Sem.run_bind,run_underlying hu,Result.andThen_ok,Instr.slice,Option.map_none,bq,sizeOf,typeInfo,run_program,ea,Sem.run_pure,e1,e2,ite_self]
   ·cases hf
  ·rename_i s fr he hu
   simp only[ZS,ZT]at hf;obtain⟨rfl,rfl⟩:=hf
   have hv:=kf h he
   have hb:=qA (P:=C.P) (w:=w) (cap:=s.size) false (dY h hl).1 (dY h hl).2 (dY h hh').1 (dY h hh').2 cU (Nat.le_refl _)
   obtain⟨bq,bz,hb3⟩:=hb
   refine cn h hd (v:= .string (s.extract (cd l) (dE s.size hh))) ?_ (dR true rfl)
   unfold execOp
   simp only[ho,hv,Instr.sliceAt,Sem.run_bind,run_underlying hu,Result.andThen_ok,Instr.slice,Option.map_none,Option.isSome_none,Bool.false_eq_true,if_false,Sem.run_pure,bq]
  ·cases hf
 ·cases hf
def qB(P:Program)(σ:St)(o:Oper)(t:TypeId)(x hi:Operand):Option (St×Prop):=
 match ev σ x,intOf (ev σ hi),o.dst,P.underlying t with
 | .vec k,some n,some d,some (.slice e)=>match lk σ.tab k,P.info? e,lk (rm σ.tab k) d with
  |some (.vec t' sz rows fr),some _i,none=>some (σ.re k d (.vec t' sz (rows.take n.toNat) fr),0≤n∧n≤(rows.length:Int))
  |_,_,_=>none
 |_,_,_,_=>none
theorem Az{C:Ctx}{E:Env}{σ σ':St}{a:Act}{w:World}{o:Oper}{t:TypeId}{x hi:Operand}{vc:Prop}(ho:o.op= .slice t x none (some hi) none)
  (hf:qB C.P σ o t x hi=some (σ',vc))(cU:vc)(h:aC C E σ a w)(hd:bA C o):bR C o σ' a w:=by
 have az:=bO h x
 unfold qB at hf
 split at hf
 ·rename_i k n d e he hn dm hu
  split at hf
  ·rename_i t' sz rows fr i hl ea dt
   simp only[ZS,ZT]at hf;obtain⟨rfl,rfl⟩:=hf
   rw[he]at az;simp only[VR]at az
   obtain⟨v,xs,h1,h2,h3,h4,h5⟩:=h.tab.obj _ _ hl
   rw[az.1]at h1;cases h1
   obtain⟨kk,hkk⟩:=oG h hn
   have hnl:n.toNat≤rows.length:=by have:=cU.1;have:=cU.2;omega
   have htl:(rows.take n.toNat).length=n.toNat:=by simp;omega
   have hshape:∃p c,a.eval x= .slice p rows.length c∧rows.length≤c:=by
    rcases h3.2 with⟨e,hz⟩|⟨g,cap,cur,e,_,_,hle,_⟩
    ·exact⟨none,0,by rw[e,hz],by rw[hz];exact Nat.le_refl _⟩
    ·exact⟨_,cap,e,hle⟩
   obtain⟨p,c,hv,hle⟩:=hshape
   have hb:=qA (P:=C.P) (w:=w) (len:=rows.length) (cap:=c) true (lo:=none) (l:=none) (hi:=some (.int kk n)) (h:=some n) (fun _ h=>by cases h) (fun _=>rfl) (fun m hm=>⟨kk,by simp at hm;subst hm;rfl⟩) (fun h=>by cases h)
    ⟨trivial,cU,trivial⟩ hle
   obtain⟨bq,bz,hb3⟩:=hb
   have hp:(if c=0 then p else p.map (·.add (0*i.size)))=p:=by cases p<;>simp[Addr.add]
   refine Gv h hd dm dt (x:= .slice p n.toNat c) (w':=w) ?_ rfl rfl rfl (Nat.le_refl _) (fun _ _ _=>rfl) ?_ ⟨_,_,_,rfl⟩ ?_
   ·unfold execOp
    simp only[cd,dE]at bq
    simp only[ho,hv,hkk,Instr.sliceAt,Sem.run_bind,run_underlying hu,Result.andThen_ok,Instr.slice,Option.map_none,Option.map_some,bq,sizeOf,typeInfo,run_program,ea,Sem.run_pure,Nat.sub_zero,hp]
   ·intro g hg
    have:(a.eval x).ownBlock=some g:=by rw[hv];cases p with
     |none=>simp[Value.ownBlock]at hg
     |some p=>simpa[Value.ownBlock]using hg
    have:=h4 g this
    exact⟨.inl this,(h.tab.own g k this).1⟩
   ·intro db
    refine⟨.slice p n.toNat c,xs.take (n.toNat*sz),by simp[Env.re],h2,⟨?_,?_⟩,?_,?_⟩
    ·rw[htl,List.length_take,h3.1];exact Nat.min_eq_left (Nat.mul_le_mul_right _ hnl)
    ·rw[htl]
     rcases h3.2 with⟨e,hz⟩|⟨g,cap,cur,e,hb,hg,qu,hcm,fZ,htk⟩
     ·rw[hv]at e;simp at e
      obtain⟨rfl,_,rfl⟩:=e
      have:n.toNat=0:=by omega
      exact .inl ⟨by rw[this],this⟩
     ·rw[hv]at e;simp at e
      obtain⟨rfl,rfl⟩:=e
      exact .inr ⟨g,c,cur,rfl,hb,hg,by omega,hcm,fZ,by rw[←htk,List.take_take,Nat.min_eq_left (Nat.mul_le_mul_right _ hnl)]⟩
    ·intro g hg;simp[Env.re,hg]
    ·obtain⟨f,r1,r2,r3⟩:=h5
     have dC:∀(i:Nat) (row:List PV),(rows.take n.toNat)[i]? =some row→rows[i]? =some row∧i<n.toNat:=by
      intro i row hi
      rw[List.getElem?_take]at hi
      split at hi
      ·exact⟨hi,by assumption⟩
      ·cases hi
     refine⟨f,fun i row hi=>r1 i row (dC i row hi).1,fun i row j y hi hj=>?_,fun i row j y hi hj=>(r3 i row j y (dC i row hi).1 hj).mono (Nat.le_refl _) db.rep⟩
     have hh:=dC i row hi
     have fo:j<sz:=by rw[←r1 i row hh.1];exact(ZY hj).1
     have:i*sz+j<n.toNat*sz:=by
      have:(i+1)*sz≤n.toNat*sz:=Nat.mul_le_mul_right _ (by omega)
      rw[Nat.add_mul,Nat.one_mul]at this;omega
     rw[List.getElem?_take,if_pos this]
     exact r2 i row j y hh.1 hj
  ·cases hf
 ·cases hf
def rV(P:Program)(σ:St)(o:Oper)(t:TypeId)(x:Operand)(lo:Option Operand)(hi mx:Operand):Option (St×Prop):=
 match ev σ x,lV σ lo,intOf (ev σ hi),intOf (ev σ mx)with
 | .p (.sl rows) fr,some l,some n,some m=>match P.underlying t with
  |some (.slice e)=>match P.info? e with
   |some i=>some (σ.put o.dst (.pc ((rows.take n.toNat).drop (cd l)) fr),n=m∧kj rows.length l (some n)∧∀row∈rows,row.length=i.size)
   |none=>none
  |_=>none
 |_,_,_,_=>none
theorem Dn{C:Ctx}{E:Env}{σ σ':St}{a:Act}{w:World}{o:Oper}{t:TypeId}{x:Operand}{lo:Option Operand}{hi mx:Operand}{vc:Prop}(ho:o.op= .slice t x lo (some hi) (some mx))
  (hf:rV C.P σ o t x lo hi mx=some (σ',vc))(cU:vc)(h:aC C E σ a w)(hd:bA C o):bR C o σ' a w:=by
 have az:=bO h x
 unfold rV at hf
 split at hf
 ·rename_i rows fr l n m he hl hn hm
  split at hf
  ·rename_i e hu
   split at hf
   ·rename_i i ea
    simp only[ZS,ZT]at hf;obtain⟨rfl,rfl⟩:=hf
    obtain⟨rfl,ab,bf⟩:=cU
    rw[he]at az;simp only[VR]at az
    obtain⟨p,c,hv⟩:=rU az
    rw[hv]at az
    have eR:=xb az
    obtain⟨k1,hk1⟩:=oG h hn
    obtain⟨k2,hk2⟩:=oG h hm
    have h2:=ab.2.1
    simp only at h2
    have aR:cd l≤n.toNat:=by
     cases l with
     |none=>exact Nat.zero_le _
     |some b=>have:=ab.2.2;have:=ab.1;simp only at this;simp only[cd];omega
    have e1:=pO (P:=C.P) (w:=w) (y:=c) (code:= .slice3Acap) hk2 h2.1 (by omega)
    have e2:=pO (P:=C.P) (w:=w) (y:=n.toNat) (code:= .slice3B) hk1 h2.1 (by omega)
    have e3:(match lo.map a.eval with|some v=>Instr.sliceBound v n.toNat .slice3C|none=>(pure 0:Sem Nat)).run C.P w= .ok (cd l) w:=by
     cases l with
     |none=>rw[(dY h hl).2 rfl];rfl
     |some b=>
      obtain⟨k3,hk3⟩:=(dY h hl).1 b rfl
      rw[hk3]
      have:=ab.1
      simp only at this
      refine pO (k:=k3) rfl this ?_
      simp only[cd]at aR;omega
    have e4:(Instr.sliceBounds true rows.length c (lo.map a.eval) (some (a.eval hi)) (some (a.eval mx))).run C.P w= .ok (cd l,n.toNat,n.toNat) w:=by
     cases nH:lo.map a.eval with
     |none=>
      rw[nH]at e3
      have:(do let m ←Instr.sliceBound (a.eval mx) c .slice3Acap;let h ←Instr.sliceBound (a.eval hi) m .slice3B;let l ←(pure 0:Sem Nat);pure (l,h,m):Sem (Nat×Nat×Nat)).run C.P w= .ok (cd l,n.toNat,n.toNat) w:=by
       rw[Sem.run_bind,e1,Result.andThen_ok,Sem.run_bind,e2,Result.andThen_ok,Sem.run_bind,e3]
       rfl
      exact this
     |some v=>
      rw[nH]at e3
      have:(do let m ←Instr.sliceBound (a.eval mx) c .slice3Acap;let h ←Instr.sliceBound (a.eval hi) m .slice3B;let l ←Instr.sliceBound v h .slice3C;pure (l,h,m):Sem (Nat×Nat×Nat)).run C.P w= .ok (cd l,n.toNat,n.toNat) w:=by
       rw[Sem.run_bind,e1,Result.andThen_ok,Sem.run_bind,e2,Result.andThen_ok,Sem.run_bind]
       simp only at e3
       rw[e3]
       rfl
      exact this
    have hrs:=EC az (cd l) n.toNat i.size aR (by omega) n.toNat (Nat.le_refl _) (fun n row hn=>bf row (Z2 hn)) (by
     by_cases hc:n.toNat=cd l
     ·exact .inr hc.symm
     ·exact .inl hc)
    have hlen:((rows.take n.toNat).drop (cd l)).length=n.toNat - cd l:=by simp;omega
    refine cn h hd (v:= .slice (if n.toNat=cd l then p else p.map (·.add (cd l*i.size))) (n.toNat - cd l) (n.toNat - cd l)) ?_ ?_
    ·unfold execOp
     simp only[ho,hv,Instr.sliceAt,Sem.run_bind,run_underlying hu,Result.andThen_ok,Instr.slice,Option.map_some,e4,sizeOf,typeInfo,run_program,ea,Sem.run_pure]
    ·simp only[VR]
     exact⟨_,by rw[hlen],hrs⟩
   ·cases hf
  ·cases hf
 ·cases hf
end Go.TL
namespace Go.TL
def uc:Int→Option Nat
 | .ofNat n=>some n
 |_=>none
def dP(P:Program)(H:Hint)(σ:St)(o:Oper)(t:TypeId)(x ix:Operand):Option (St×Prop):=
 match intOf (ev σ ix),o.dst with
 |some n,some d=>match ev σ x,P.underlying t with
  | .p (.sl rows) fr,some (.slice e)=>match lk H.ld d,P.info? e with
   |some row,some i=>match Nat.beq row.length i.size with
    |true=>some (σ.put o.dst (.pd row 0 fr),0≤n∧rows[n.toNat]? =some row)
    |false=>none
   |_,_=>none
  | .vec k,some (.slice e)=>match lk σ.tab k,P.info? e with
   |some (.vec _ sz rows _),some i=>match Nat.beq sz i.size with
    |true=>some (σ.put o.dst (.bn k sz n.toNat 0),0≤n∧n<(rows.length:Int))
    |false=>none
   |_,_=>none
  | .ptr k off,some (.array len e)=>match P.info? e,uc n with
   |some i,some m=>match Nat.ble (m+1) len with
    |true=>some (σ.put o.dst (.ptr k (off+m*i.size)),True)
    |false=>none
   |_,_=>none
  |_,_=>none
 |_,_=>none
theorem run_indexAt_slice{P:Program}{w:World}{t e:TypeId}{i:TypeInfo}{a:Addr}{len cap:Nat}{k:IntKind}{n:Int}(hu:P.underlying t=some (.slice e))(hi:P.info? e=some i)(h0:0≤n)(h1:n<(len:Int)):
  (Instr.indexAt t (.slice (some a) len cap) (.int k n)).run P w= .ok (.pointer (some (a.add (n.toNat*i.size)))) w:=by
 simp[Instr.indexAt,asIntOf,run_underlying hu,h0,h1,sizeOf,typeInfo,hi]
def rp(P:Program)(t:TypeId)(off:Nat)(cells:List SV):Option SV:=j0 P t off cells
theorem Gw{P:Program}{w:World}{E:Env}{lo:Nat}{t:TypeId}{off:Nat}{cells:List SV}{vs:List Value}{sv:SV}(hv:VRs w E lo cells vs)(hf:rp P t off cells=some sv):
  ∃v,(part t vs.toArray off).run P w= .ok v w∧VR w E lo sv v:=by
 unfold rp j0 at hf
 split at hf
 ·rename_i i ha hi
  split at hf
  ·rename_i hle
   have qu:=ZX hle
   simp only[ZS]at hf;subst hf
   have hlen:=cX hv
   refine⟨.agg ((vs.drop off).take i.size).toArray,?_,by simp only[VR];exact⟨_,rfl,oD _ (oE off hv)⟩⟩
   have hr:=xq ha w
   have e:vs.toArray.extract off (off+i.size)=((vs.drop off).take i.size).toArray:=by
    apply Array.ext';simp[List.extract_eq_take_drop]
   simp[part,hr,sizeOf,typeInfo,hi]
  ·cases hf
 ·rename_i i ha hi
  split at hf
  ·rename_i x xs bf hdr
   simp only[ZS]at hf;subst hf
   have hd:=oE off hv
   rw[hdr]at hd
   cases hvd:vs.drop off with
   |nil=>rw[hvd]at hd;simp[VRs]at hd
   |cons v rest=>
    rw[hvd]at hd
    have hr:=xq ha w
    have hg:vs[off]? =some v:=by
     have:(vs.drop off)[0]? =some v:=by rw[hvd];rfl
     simpa[List.getElem?_drop]using this
    refine⟨v,?_,(aH.1 hd).1⟩
    simp[part,hr,hg]
  ·cases hf
 ·cases hf
def xz(P:Program)(s:TypeId)(f:Nat):Option (Nat×TypeId):=
 match P.underlying s with
 |some (.struct fields)=>match fields.toList[f]? with
  |some fd=>some (fd.offset,fd.type)
  |none=>none
 |_=>none
def yQ(P:Program)(σ:St)(o:Oper)(t:TypeId)(x:Operand)(f:Nat):Option (St×Prop):=
 match ev σ x,xz P t f with
 | .agg xs,some (off,ft)=>match rp P ft off xs with
  |some sv=>some (σ.put o.dst sv,True)
  |none=>none
 |_,_=>none
theorem FH{C:Ctx}{E:Env}{σ σ':St}{a:Act}{w:World}{o:Oper}{t:TypeId}{x:Operand}{f:Nat}{vc:Prop}(ho:o.op= .field t x f)
  (hf:yQ C.P σ o t x f=some (σ',vc))(h:aC C E σ a w)(hd:bA C o):bR C o σ' a w:=by
 have az:=bO h x
 unfold yQ at hf
 split at hf
 ·rename_i xs off ft he hfo
  split at hf
  ·rename_i sv jW
   simp only[ZS,ZT]at hf;obtain⟨rfl,_⟩:=hf
   rw[he]at az;simp only[VR]at az
   obtain⟨vs,hx,gM⟩:=az
   obtain⟨v,hr,hv⟩:=Gw (P:=C.P) gM jW
   unfold xz at hfo
   split at hfo
   ·rename_i fields hu
    split at hfo
    ·rename_i fd hfd
     simp only[ZS,ZT]at hfo;obtain⟨rfl,rfl⟩:=hfo
     have hfd':fields[f]? =some fd:=by simpa using hfd
     refine cn h hd (v:=v) ?_ hv
     simp[execOp,ho,hx,Instr.field,run_underlying hu,hfd',asAgg,hr]
    ·cases hfo
   ·cases hfo
  ·cases hf
 ·cases hf
def mZ(P:Program)(σ:St)(o:Oper)(t:TypeId)(x ix:Operand):Option (St×Prop):=
 match intOf (ev σ ix)with
 |some n=>match ev σ x,P.underlying t with
  | .agg xs,some (.array len e)=>match uc n,P.info? e with
   |some m,some i=>match Nat.ble (m+1) len,rp P e (m*i.size) xs with
    |true,some sv=>some (σ.put o.dst sv,True)
    |_,_=>none
   |_,_=>none
  | .p (.v (.string s)) _,some .string=>some (σ.put o.dst (.p (.v (.int .u8 ((s.data.toList.getD n.toNat 0).toNat:Int))) true),0≤n∧n<(s.size:Int))
  |_,_=>none
 |none=>none
theorem xd{C:Ctx}{E:Env}{σ σ':St}{a:Act}{w:World}{o:Oper}{t:TypeId}{x ix:Operand}{vc:Prop}(ho:o.op= .index t x ix)
  (hf:mZ C.P σ o t x ix=some (σ',vc))(cU:vc)(h:aC C E σ a w)(hd:bA C o):bR C o σ' a w:=by
 have az:=bO h x
 unfold mZ at hf
 split at hf
 ·rename_i n hn
  obtain⟨kk,hix⟩:=oG h hn
  split at hf
  ·rename_i xs len e he hu
   split at hf
   ·rename_i m i hm hi
    split at hf
    ·rename_i sv hle jW
     have qu:=ZX hle
     simp only[ZS,ZT]at hf;obtain⟨rfl,_⟩:=hf
     rw[he]at az;simp only[VR]at az
     obtain⟨vs,hx,gM⟩:=az
     obtain⟨v,hr,hv⟩:=Gw (P:=C.P) gM jW
     have hnm:n=(m:Int):=by
      unfold uc at hm;split at hm
      ·simp only[ZS]at hm;subst hm;rfl
      ·cases hm
     subst hnm
     have av:m<len:=qu
     refine cn h hd (v:=v) ?_ hv
     simp[execOp,ho,hx,hix,Instr.index,asIntOf,run_underlying hu,av,sizeOf,typeInfo,hi,hr]
    ·cases hf
   ·cases hf
  ·rename_i s fr he hu
   simp only[ZS,ZT]at hf;obtain⟨rfl,rfl⟩:=hf
   have hx:=kf h he
   have av:n.toNat<s.size:=by have:=cU.1;have:=cU.2;omega
   refine cn h hd (v:= .int .u8 ((s.data.toList.getD n.toNat 0).toNat:Int)) ?_ (dR true rfl)
   have hg:s[n.toNat]? =some (s.data.toList.getD n.toNat 0):=by
    rw[getElem?_pos s n.toNat av]
    congr 1
    have tZ:n.toNat<s.data.size:=av
    have e2:s.data.toList.getD n.toNat 0=s.data[n.toNat]:=by
     rw[List.getD_eq_getElem?_getD,Array.getElem?_toList,Array.getElem?_eq_getElem tZ];rfl
    rw[e2];rfl
   simp[execOp,ho,hx,hix,Instr.index,asIntOf,run_underlying hu,cU.1,hg]
  ·cases hf
 ·cases hf
def tc(σ:St)(o:Oper)(x:Operand)(n:Nat):Option (St×Prop):=
 match ev σ x with
 | .bL xs=>match xs[n]? with
  |some sv=>some (σ.put o.dst sv,True)
  |none=>none
 |_=>none
def yR(P:Program)(σ:St)(o:Oper)(t:TypeId)(x:Operand):Option (St×Prop):=
 match P.underlying t with
 |some (.interface _)=>none
 |some _=>some (σ.put o.dst (.cL t (ev σ x)),True)
 |none=>none
theorem FI{C:Ctx}{E:Env}{σ σ':St}{a:Act}{w:World}{o:Oper}{t:TypeId}{x:Operand}{vc:Prop}(ho:o.op= .makeInterface t x)
  (hf:yR C.P σ o t x=some (σ',vc))(h:aC C E σ a w)(hd:bA C o):bR C o σ' a w:=by
 have az:=bO h x
 unfold yR at hf
 cases hu:C.P.underlying t with
 |none=>simp[hu]at hf
 |some d=>
  have:(execOp a.eval o).run C.P w= .ok (.value (.iface t (a.eval x))) w∧some (σ.put o.dst (.cL t (ev σ x)),True)=some (σ',vc):=by
   cases d<;>first|(simp[hu]at hf;done)|(simp only[hu]at hf;exact⟨by simp[execOp,ho,Instr.makeInterface,run_underlying hu],hf⟩)
  obtain⟨hr,hf'⟩:=this
  simp only[ZS,ZT]at hf';obtain⟨rfl,_⟩:=hf'
  exact cn h hd hr (by simp only[VR];exact⟨_,rfl,az⟩)
def evs(σ:St):List Operand→List SV
 | []=>[]
 |x::xs=>ev σ x::evs σ xs
theorem yS{C:Ctx}{E:Env}{σ:St}{a:Act}{w:World}(h:aC C E σ a w):∀xs:List Operand,VRs w E C.lo (evs σ xs) (xs.map a.eval)
 | []=>df
 |x::xs=>bu (bO h x) (yS h xs)
def Bv(σ:St)(o:Oper)(f:Fn)(first aQ:Array Operand):Option (St×Prop):=
 some (σ.put o.dst (.fn f (evs σ first.toList) (evs σ aQ.toList)),True)
theorem Gx{C:Ctx}{E:Env}{σ σ':St}{a:Act}{w:World}{o:Oper}{f:Fn}{first aQ:Array Operand}{vc:Prop}(ho:o.op= .makeFunc f first aQ)
  (hf:Bv σ o f first aQ=some (σ',vc))(h:aC C E σ a w)(hd:bA C o):bR C o σ' a w:=by
 simp only[Bv,ZS,ZT]at hf;obtain⟨rfl,_⟩:=hf
 refine cn h hd (v:= .func f (first.map a.eval) (aQ.map a.eval)) (by simp[execOp,ho,Instr.makeFunc]) ?_
 simp only[VR]
 refine⟨_,_,?_,yS h first.toList,yS h aQ.toList⟩
 congr 1<;>exact Array.ext' (by simp)
def arith(op:BinOp)(a b:Int):Option Int:=
 match op with
 | .add=>some (a+b)
 | .sub=>some (a - b)
 | .mul=>some (a*b)
 |_=>none
def vB(op:BinOp)(a b:Int):Option Bool:=
 match op with
 | .eql=>some (a==b)
 | .neq=>some (a !=b)
 | .lss=>some (decide (a<b))
 | .leq=>some (decide (a≤b))
 | .gtr=>some (decide (a>b))
 | .geq=>some (decide (a ≥ b))
 |_=>none
def qf(op:BinOp)(x y:ByteArray):Option Bool:=
 match op with
 | .eql=>some (x.toList==y.toList)
 | .neq=>some (!(x.toList==y.toList))
 | .lss=>some (Op.bytesLess x.toList y.toList)
 | .leq=>some (Op.bytesLess x.toList y.toList||x.toList==y.toList)
 | .gtr=>some (!(Op.bytesLess x.toList y.toList||x.toList==y.toList))
 | .geq=>some (!Op.bytesLess x.toList y.toList)
 |_=>none
def isInt:SV→Option (IntKind×Int)
 | .p (.v (.int k n)) _=>some (k,n)
 |_=>none
def isStr:SV→Option ByteArray
 | .p (.v (.string s)) _=>some s
 |_=>none
def lx(σ:St)(o:Oper)(op:BinOp)(x y:Operand):Option (St×Prop):=
 match isInt (ev σ x),isInt (ev σ y)with
 |some (k,a),some (k',b)=>match decide (k=k')with
  |true=>match arith op a b with
   |some n=>some (σ.put o.dst (.p (.v (.int k n)) true),k.wrap n=n)
   |none=>match vB op a b with
    |some c=>some (σ.put o.dst (.p (.v (.bool c)) true),True)
    |none=>match op with
     | .rem=>some (σ.put o.dst (.p (.v (.int k (a.tmod b))) true),b≠0)
     | .quo=>some (σ.put o.dst (.p (.v (.int k (a.tdiv b))) true),b≠0∧k.wrap (a.tdiv b)=a.tdiv b)
     |_=>none
  |false=>none
 |_,_=>match isStr (ev σ x),isStr (ev σ y)with
  |some s,some r=>match qf op s r with
   |some c=>some (σ.put o.dst (.p (.v (.bool c)) true),True)
   |none=>match op with
    | .add=>some (σ.put o.dst (.p (.v (.string (s++r))) true),s.size+r.size≤4611686018427387904)
    |_=>none
  |_,_=>none
theorem iu{C:Ctx}{E:Env}{σ:St}{a:Act}{w:World}{x:Operand}{k:IntKind}{n:Int}(h:aC C E σ a w)(hn:isInt (ev σ x)=some (k,n)):a.eval x= .int k n:=by
 unfold isInt at hn
 split at hn
 ·rename_i k' m fr he
  simp only[ZS,ZT]at hn;obtain⟨rfl,rfl⟩:=hn
  exact kf h he
 ·cases hn
theorem rW{C:Ctx}{E:Env}{σ:St}{a:Act}{w:World}{x:Operand}{s:ByteArray}(h:aC C E σ a w)(hn:isStr (ev σ x)=some s):a.eval x= .string s:=by
 unfold isStr at hn
 split at hn
 ·rename_i s' fr he
  simp only[ZS]at hn;subst hn
  exact kf h he
 ·cases hn
theorem dV{P:Program}{w:World}{a:Act}{o:Oper}{op:BinOp}{tx ty:TypeId}{x y:Operand}{r:Value}(ho:o.op= .binOp op tx x y ty)
  (hg:eqGuard op tx x y (a.eval x) (a.eval y)=pure ())(hr:(binOp op tx (a.eval x) (a.eval y)).run P w= .ok r w):(execOp a.eval o).run P w= .ok (.value r) w:=by
 unfold execOp
 simp only[ho,hg,Sem.run_bind,Sem.run_pure,Result.andThen_ok,hr]
end Go.TL
