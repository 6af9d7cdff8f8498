/- The finder: from, its walk. -/
import Derived.Test.YtbjmbhgbalmoaaaW36
set_option maxRecDepth 100000
namespace Go.TL.H.Gq
open Go Go.TL.Gr
variable {P:Program} {w:World} {R:Nat→Nat} {b N lo:Nat} {E:List (List Nat)} {k:Ks} {p:Pu}
theorem da{bad:Nat→Prop}{rows:List (List PV)}{v:Value}{i:Nat}{x:PV}(h:Rep w bad lo (.sl rows) v)(hi:rows[i]? =some [x]):∃g off cap cs t fz u,v= .slice (some ⟨g,off,none⟩) rows.length cap∧w.heap[g]? =some (.cells cs t fz)∧cs[off+i]? =some u∧Rep w bad lo x u:=by
 cases h with
 |nil=>simp at hi
 |sl rows b off cap cs t fz sz f dS hb bh aV dZ hlen hc hr=>
  have h1:sz=1:=(hlen i _ hi).symm
  subst h1
  have h2:=hc i _ 0 x hi rfl
  rw[Nat.mul_one,Nat.add_zero]at h2
  exact⟨b,off,cap,cs,t,fz,_,rfl,hb,h2,hr i _ 0 x hi rfl⟩
theorem vV{o:Oper}{n:Nat}{sl:aT}{a:Act}{x y:Operand}{ts:Array TypeId}{m l:Nat}(h:SL n sl a)(ho:o.op= .call ⟨.builtin .min, #[x,y],ts⟩)(ex:ev sl x=some (iv m))(ey:ev sl y=some (iv l)):(execOp a.eval o).run P w= .ok (.value (iv (min m l:Nat))) w:=by
 rw[xR h ho ex ey]
 congr 3
 show(if(l:Int)<(m:Int)then(l:Int)else(m:Int))=_
 split<;>omega
structure WF(N:Nat)(E:List (List Nat))(p:Pu):Prop where
 el:E.length=N
 eb:∀l∈E,∀x∈l,x<N
 ls:∀l∈E,l.length≤1000000
 nd:p.S.Nodup
 sb:∀s∈p.S,s<N∧∃x,p.I[s]? =some x∧x≠0
 nz:p.n+Gr.iK p.I=N
 fb:∀x∈p.F,x=0∨x<p.G.length
 gb:∀g∈p.G,g≠ []∧∀x∈g,x<N
 gw:(p.G.map List.length).sum+p.S.length≤p.n
 go:∀(g:Nat) l,p.G[g]? =some l→∀x∈l,p.F[x]? =some g∧x ∉ p.S∧p.I[x]? ≠some 0
theorem td:∀{G:List (List Nat)},(∀g∈G,g≠ [])→G.length≤(G.map List.length).sum
 | [],_=>Nat.le_refl _
 |g::G,h=>by
  have h1:=td (G:=G) fun x hx=>h x (Cx _ hx)
  have h2:0<g.length:=List.length_pos_iff.2 (h g Cy)
  simp only[List.length_cons,List.map_cons,List.sum_cons];omega
theorem WF.gl(h:WF N E p):p.G.length+p.S.length≤p.n:=by
 have h1:=td fun g hg=>(h.gb g hg).1
 have h2:=h.gw
 omega
abbrev Bx(p:Pu)(v:Nat):Pu:={p with n:=p.n+1,I:=p.I.set v (p.n+1),L:=p.L.set v (p.n+1),O:=p.O.set v true,S:=p.S++ [v]}
theorem WF.met{v:Nat}(h:WF N E p)(hI:p.I.length=N)(hv:p.I[v]? =some 0):WF N E (Bx p v):=by
 have t:TJ N [] p.S p.I:=⟨List.nil_sublist _,h.nd,h.sb⟩
 have t':=t.met (n:=p.n+1) hI hv (by omega)
 have hz:=Gr.qg (l:=p.I) (v:=v) (n:=p.n+1) hv (by omega)
 exact⟨h.el,h.eb,h.ls,t'.nd,t'.inb,by have:=h.nz;simp only;omega,h.fb,h.gb,by have:=h.gw;simp only[List.length_append,List.length_cons,List.length_nil];omega,fun g l hg x hx=>by
  obtain⟨h1,h2,h3⟩:=h.go g l hg x hx
  have gY:x≠v:=fun e=>h3 (by rw[e];exact hv)
  refine⟨h1,fun hm=>?_,?_⟩
  ·rcases CC hm with hm|hm
   ·exact h2 hm
   ·simp at hm;exact gY hm
  ·show(p.I.set v (p.n+1))[x]? ≠some 0
   rw[List.getElem?_set_ne (Ne.symm gY)];exact h3⟩
theorem WF.low{L:List Nat}(h:WF N E p):WF N E {p with L:=L}:=⟨h.el,h.eb,h.ls,h.nd,h.sb,h.nz,h.fb,h.gb,h.gw,h.go⟩
theorem WF.grp{i v:Nat}{ys:List Nat}{O':List Bool}{F':List Nat}(h:WF N E p)(hi:p.S[i]? =some v)(hp:ys.Perm (p.S.drop i))(hF:FG p ys F'):WF N E {p with S:=p.S.take i,O:=O',F:=F',G:=p.G++ [ys]}:=by
 have fh:i<p.S.length:=(CA hi).1
 refine⟨h.el,h.eb,h.ls,(List.take_sublist i p.S).nodup h.nd,fun s hs=>h.sb s (List.mem_of_mem_take hs),h.nz,fun x hx=>?_,fun g hg=>?_,?_,fun g l hg x hx=>?_⟩
 ·rcases hF.1 x hx with h1|h1
  ·rcases h.fb x h1 with h2|h2
   ·exact .inl h2
   ·right;simp only[List.length_append,List.length_cons,List.length_nil];omega
  ·right;simp only[List.length_append,List.length_cons,List.length_nil];omega
 ·rcases CC hg with hg|hg
  ·exact h.gb g hg
  ·simp at hg;subst hg
   refine⟨fun e=>?_,fun x hx=>(h.sb x (List.mem_of_mem_drop (hp.mem_iff.1 hx))).1⟩
   have:=hp.length_eq;rw[e]at this;simp at this;omega
 ·have:=h.gw
  have h2:=hp.length_eq
  simp only[List.length_drop]at h2
  simp only[List.map_append,List.map_cons,List.map_nil,List.sum_append,List.sum_cons,List.sum_nil,List.length_take];omega
 ·by_cases hgl:g<p.G.length
  ·rw[List.getElem?_append_left hgl]at hg
   obtain⟨h1,h2,h3⟩:=h.go g l hg x hx
   exact⟨((hF.2 x).2 fun hm=>h2 (List.mem_of_mem_drop (hp.mem_iff.1 hm))).trans h1,fun hm=>h2 (List.mem_of_mem_take hm),h3⟩
  ·rw[List.getElem?_append_right (by omega)]at hg
   obtain⟨hl,rfl⟩:g=p.G.length∧l=ys:=by
    cases hk:g - p.G.length with
    |zero=>rw[hk]at hg;simp at hg;exact⟨by omega,hg.symm⟩
    |succ k=>rw[hk]at hg;simp at hg
   have hxd:=hp.mem_iff.1 hx
   refine⟨by rw[hl];exact(hF.2 x).1 hx,fun hm=>?_,fun h0=>?_⟩
   ·have hnd:=h.nd
    rw[←List.take_append_drop i p.S]at hnd
    exact(List.nodup_append.1 hnd).2.2 x hm x hxd rfl
   ·obtain⟨_,y,hy,hy0⟩:=h.sb x (List.mem_of_mem_drop hxd)
    rw[h0]at hy;cases hy;exact hy0 rfl
def FI(b N lo:Nat)(E:List (List Nat))(R:Nat→Nat)(w w1:World)(R1:Nat→Nat)(k:Ks)(p:Pu)(vw:Value)(W:List (Nat×Nat)):Prop:=
 Wy w1 R1 vw W∧Fs w1 R1 b N lo E k p∧WF N E p∧TJ N (W.map Prod.fst) p.S p.I∧Up [1,2,3,4,5,6,7,8] R R1 w w1
theorem zd{W:List (Nat×Nat)}(h:TJ N (W.map Prod.fst) p.S p.I)(hW:WF N E p):W.length≤N:=by
 have h1:=h.sub.length_le
 have h2:=hW.gl
 have h3:=hW.nz
 simp at h1;omega
set_option maxHeartbeats 1000000 in
theorem xx(G:GT P)(B:GB P)(H:GS P)(hF:Fs w R b N lo E k p)(hW:WF N E p){v:Nat}(hv:p.I[v]? =some 0)(hN:N≤1000000)(aV:lo≤w.heap.size):
  Ret P 28 [Ptr b 0,iv v] w fun _ w'=>∃R' k' p',Up [1,2,3,4,5,6,7,8] R R' w w'∧Fs w' R' b N lo E k' p'∧WF N E p':=by
 have hvN:v<N:=by have:=(CA hv).1;rw[hF.lI]at this;exact this
 have hn:=hW.nz
 have hg:=hW.gl
 refine aJ B.b28 ?_
 have h0:=SL.init (n:=168) [Ptr b 0,iv v] rfl
 (revert h0;generalize({tmps:=_,defers:=[]}:Act)=a;intro h0)
 refine ah (ae ?_)
 (first|refine L h0 rfl rfl (aa h0 (.inl rfl) rfl) fun a h0=>?_|refine L h0 rfl rfl (aa h0 (.inr rfl) rfl) fun a h0=>?_|refine L h0 rfl rfl (ab h0 rfl rfl) fun a h0=>?_);(first|refine L h0 rfl rfl (aa h0 (.inl rfl) rfl) fun a h0=>?_|refine L h0 rfl rfl (aa h0 (.inr rfl) rfl) fun a h0=>?_|refine L h0 rfl rfl (ab h0 rfl rfl) fun a h0=>?_)
 refine Lc (vs:=[Ptr b 0,iv v]) h0 rfl rfl rfl rfl rfl B.b39.ok (s6 G B hF hvN (by omega) (by omega)) fun r w1 a hr h0=>?_
 obtain⟨rfl,R1,vs,u1,F1⟩:=hr
 refine L h0 rfl rfl (yo h0 rfl rfl G.u86 G.b84) fun a h0=>?_
 have u2:=Up.alloc [] R1 w1 (.cells #[iv v,iv 0] 84) 8
 have F2:=F1.up u2 (by simp)
 have y2:Wy (w1.alloc (.cells #[iv v,iv 0] 84)) (ext R1 w1.heap.size 8) (.slice (some ⟨w1.heap.size,0,none⟩) 1 1) [(v,0)]:=
  Wy.of (W:=[(v,0)]) (Cl.new w1 R1 8 84 [iv v,iv 0]) rfl (Nat.le_refl _) (by simp[maxLen]) rfl
 (first|refine L h0 rfl rfl (aa h0 (.inl rfl) rfl) fun a h0=>?_|refine L h0 rfl rfl (aa h0 (.inr rfl) rfl) fun a h0=>?_|refine L h0 rfl rfl (ab h0 rfl rfl) fun a h0=>?_)
 have W1:=hW.met hF.lI hv
 have T1:TJ N [v] (p.S++ [v]) (p.I.set v (p.n+1)):=(⟨List.nil_sublist _,hW.nd,hW.sb⟩:TJ N [] p.S p.I).met hF.lI hv (by omega)
 refine Le (au (aW (fun m a w2=>∃R2 k2 p2 vw W,m=unm E p2.I+kc E W∧SL 168 [(0,Ptr b 0),(4,vw)] a∧FI b N lo E R w w2 R2 k2 p2 vw W) _ ⟨_,_,_,_,_,rfl,h0.keep [0,4],y2,F2,W1,T1,(u1.mono (by simp)).trans (u2.mono (by simp))⟩ ?_))
 rintro m a w3 ⟨R3,k3,p3,vw,W,hm,h0,y3,F3,W3,T3,u3⟩
 have hwl:=zd T3 W3
 have hn3:=W3.nz
 have hg3:=W3.gl
 refine ah (ah (ae ?_))
 (first|refine L h0 rfl rfl (aa h0 (.inl rfl) rfl) fun a h0=>?_|refine L h0 rfl rfl (aa h0 (.inr rfl) rfl) fun a h0=>?_|refine L h0 rfl rfl (ab h0 rfl rfl) fun a h0=>?_)
 refine L h0 rfl rfl (ir h0 rfl rfl y3.1 G.u86) fun a h0=>?_
 refine L h0 rfl rfl (aG h0 rfl rfl rfl rfl) fun a h0=>?_
 refine Le (ar (h0.ev rfl) (fun hc=>aw ?_) (fun hc=>aN ?_))
 rotate_left
 ·exact⟨h0.defers,.tuple #[],⟨[],rfl,rfl⟩,R3,k3,p3,u3,F3,W3⟩
 have jQ:0<W.length:=by simpa using hc
 obtain⟨V,⟨x,kx⟩,rfl⟩:=(List.eq_nil_or_concat W).resolve_left (fun e=>by subst e;simp at jQ)
 rw[List.concat_eq_append]at*
 obtain⟨g,cap,cs,rfl,hcp,hmx,cw,dR,ht⟩:=y3.mem (by simp)
 obtain⟨gx1,gx2⟩:=ta ht
 have hVN:V.length+1≤N:=by simpa using hwl
 have hVc:V.length+1≤cap:=by simpa using hcp
 have h0:SL 168 [(0,Ptr b 0),(4,.slice (some ⟨g,0,none⟩) (V++ [(x,kx)]).length cap)] a:=h0.keep [0,4]
 have hxS:x∈p3.S:=T3.sub.subset (by simp)
 obtain⟨hxN,ix3,hix,hix0⟩:=W3.sb x hxS
 obtain⟨l,hl⟩:∃l,E[x]? =some l:=⟨_,List.getElem?_eq_getElem (by rw[W3.el];exact hxN)⟩
 have gz:=W3.ls l (CE hl)
 have hlN:∀y∈l,y<N:=W3.eb l (CE hl)
 refine au (ah (ae ?_))
 (first|refine L h0 rfl rfl (aa h0 (.inl rfl) rfl) fun a h0=>?_|refine L h0 rfl rfl (aa h0 (.inr rfl) rfl) fun a h0=>?_|refine L h0 rfl rfl (ab h0 rfl rfl) fun a h0=>?_);(first|refine L h0 rfl rfl (aa h0 (.inl rfl) rfl) fun a h0=>?_|refine L h0 rfl rfl (aa h0 (.inr rfl) rfl) fun a h0=>?_|refine L h0 rfl rfl (ab h0 rfl rfl) fun a h0=>?_)
 refine L h0 rfl rfl (aM h0 rfl rfl G.u86) fun a h0=>?_
 refine L h0 rfl rfl (iu (V.length:Nat) h0 rfl rfl rfl (by simp) (by omega) (by omega)) fun a h0=>?_
 refine L h0 rfl rfl (yn h0 rfl rfl rfl G.u86 G.b84 rfl (by simp)) fun a h0=>?_
 (first|refine L h0 rfl rfl (aa h0 (.inl rfl) rfl) fun a h0=>?_|refine L h0 rfl rfl (aa h0 (.inr rfl) rfl) fun a h0=>?_|refine L h0 rfl rfl (ab h0 rfl rfl) fun a h0=>?_)
 have h0:SL 168 [(0,Ptr b 0),(4,.slice (some ⟨g,0,none⟩) (V++ [(x,kx)]).length cap),(5,Ptr g (V.length*2))] a:=h0.keep [0,4,5]
 refine Le (ah (ah (j0 (R:=R3) G.mix (by kernel_rfl) fun w4 u4=>?_)))
 have F4:=F3.up u4 (by simp)
 have c4:=cw.up u4 (by decide)
 obtain⟨ge,oe,ce,cse,te,fze,ue,hke,he1,he2,he3⟩:=da (x:= .sl (eZ l)) (i:=x) F4.ed (by simp[hl])
 obtain⟨pe,dT,rfl⟩:=aZ he3
 have hEl:(cM E).length=N:=by simp[W3.el]
 rw[hEl]at hke
 have hgx1:cs.toArray[V.length*2+0]? =some (iv x):=by simpa using gx1
 have hgx2:cs.toArray[V.length*2+1]? =some (iv kx):=by simpa using gx2
 (first|refine T h0 rfl rfl (aa h0 (.inl rfl) rfl) fun a h0=>?_|refine T h0 rfl rfl (aa h0 (.inr rfl) rfl) fun a h0=>?_|refine T h0 rfl rfl (ab h0 rfl rfl) fun a h0=>?_|refine T h0 rfl rfl (ak h0 rfl rfl (by first|exact G.fa _ (by decide)|exact G.g0|exact G.g1)) fun a h0=>?_|refine T h0 rfl rfl (ai h0 rfl rfl (by first|exact G.o24|exact G.o3|exact G.o63|exact G.o32) (F4.box).1 rfl) fun a h0=>?_);(first|refine T h0 rfl rfl (aa h0 (.inl rfl) rfl) fun a h0=>?_|refine T h0 rfl rfl (aa h0 (.inr rfl) rfl) fun a h0=>?_|refine T h0 rfl rfl (ab h0 rfl rfl) fun a h0=>?_|refine T h0 rfl rfl (ak h0 rfl rfl (by first|exact G.fa _ (by decide)|exact G.g0|exact G.g1)) fun a h0=>?_|refine T h0 rfl rfl (ai h0 rfl rfl (by first|exact G.o24|exact G.o3|exact G.o63|exact G.o32) (F4.box).1 rfl) fun a h0=>?_);(first|refine T h0 rfl rfl (aa h0 (.inl rfl) rfl) fun a h0=>?_|refine T h0 rfl rfl (aa h0 (.inr rfl) rfl) fun a h0=>?_|refine T h0 rfl rfl (ab h0 rfl rfl) fun a h0=>?_|refine T h0 rfl rfl (ak h0 rfl rfl (by first|exact G.fa _ (by decide)|exact G.g0|exact G.g1)) fun a h0=>?_|refine T h0 rfl rfl (ai h0 rfl rfl (by first|exact G.o24|exact G.o3|exact G.o63|exact G.o32) (F4.box).1 rfl) fun a h0=>?_)
 refine T h0 rfl rfl (ai h0 rfl rfl G.o3 c4.1 hgx2) fun a h0=>?_
 (first|refine T h0 rfl rfl (aa h0 (.inl rfl) rfl) fun a h0=>?_|refine T h0 rfl rfl (aa h0 (.inr rfl) rfl) fun a h0=>?_|refine T h0 rfl rfl (ab h0 rfl rfl) fun a h0=>?_|refine T h0 rfl rfl (ak h0 rfl rfl (by first|exact G.fa _ (by decide)|exact G.g0|exact G.g1)) fun a h0=>?_|refine T h0 rfl rfl (ai h0 rfl rfl (by first|exact G.o24|exact G.o3|exact G.o63|exact G.o32) (F4.box).1 rfl) fun a h0=>?_);(first|refine T h0 rfl rfl (aa h0 (.inl rfl) rfl) fun a h0=>?_|refine T h0 rfl rfl (aa h0 (.inr rfl) rfl) fun a h0=>?_|refine T h0 rfl rfl (ab h0 rfl rfl) fun a h0=>?_|refine T h0 rfl rfl (ak h0 rfl rfl (by first|exact G.fa _ (by decide)|exact G.g0|exact G.g1)) fun a h0=>?_|refine T h0 rfl rfl (ai h0 rfl rfl (by first|exact G.o24|exact G.o3|exact G.o63|exact G.o32) (F4.box).1 rfl) fun a h0=>?_);(first|refine T h0 rfl rfl (aa h0 (.inl rfl) rfl) fun a h0=>?_|refine T h0 rfl rfl (aa h0 (.inr rfl) rfl) fun a h0=>?_|refine T h0 rfl rfl (ab h0 rfl rfl) fun a h0=>?_|refine T h0 rfl rfl (ak h0 rfl rfl (by first|exact G.fa _ (by decide)|exact G.g0|exact G.g1)) fun a h0=>?_|refine T h0 rfl rfl (ai h0 rfl rfl (by first|exact G.o24|exact G.o3|exact G.o63|exact G.o32) (F4.box).1 rfl) fun a h0=>?_);(first|refine T h0 rfl rfl (aa h0 (.inl rfl) rfl) fun a h0=>?_|refine T h0 rfl rfl (aa h0 (.inr rfl) rfl) fun a h0=>?_|refine T h0 rfl rfl (ab h0 rfl rfl) fun a h0=>?_|refine T h0 rfl rfl (ak h0 rfl rfl (by first|exact G.fa _ (by decide)|exact G.g0|exact G.g1)) fun a h0=>?_|refine T h0 rfl rfl (ai h0 rfl rfl (by first|exact G.o24|exact G.o3|exact G.o63|exact G.o32) (F4.box).1 rfl) fun a h0=>?_);(first|refine T h0 rfl rfl (aa h0 (.inl rfl) rfl) fun a h0=>?_|refine T h0 rfl rfl (aa h0 (.inr rfl) rfl) fun a h0=>?_|refine T h0 rfl rfl (ab h0 rfl rfl) fun a h0=>?_|refine T h0 rfl rfl (ak h0 rfl rfl (by first|exact G.fa _ (by decide)|exact G.g0|exact G.g1)) fun a h0=>?_|refine T h0 rfl rfl (ai h0 rfl rfl (by first|exact G.o24|exact G.o3|exact G.o63|exact G.o32) (F4.box).1 rfl) fun a h0=>?_);(first|refine T h0 rfl rfl (aa h0 (.inl rfl) rfl) fun a h0=>?_|refine T h0 rfl rfl (aa h0 (.inr rfl) rfl) fun a h0=>?_|refine T h0 rfl rfl (ab h0 rfl rfl) fun a h0=>?_|refine T h0 rfl rfl (ak h0 rfl rfl (by first|exact G.fa _ (by decide)|exact G.g0|exact G.g1)) fun a h0=>?_|refine T h0 rfl rfl (ai h0 rfl rfl (by first|exact G.o24|exact G.o3|exact G.o63|exact G.o32) (F4.box).1 rfl) fun a h0=>?_);(first|refine T h0 rfl rfl (aa h0 (.inl rfl) rfl) fun a h0=>?_|refine T h0 rfl rfl (aa h0 (.inr rfl) rfl) fun a h0=>?_|refine T h0 rfl rfl (ab h0 rfl rfl) fun a h0=>?_|refine T h0 rfl rfl (ak h0 rfl rfl (by first|exact G.fa _ (by decide)|exact G.g0|exact G.g1)) fun a h0=>?_|refine T h0 rfl rfl (ai h0 rfl rfl (by first|exact G.o24|exact G.o3|exact G.o63|exact G.o32) (F4.box).1 rfl) fun a h0=>?_)
 refine T h0 rfl rfl (ai h0 rfl rfl G.o3 c4.1 hgx1) fun a h0=>?_
 refine T h0 rfl rfl (aH (t:=32) (b:=ge) (o':=oe) (m:=N) (c:=ce) h0 rfl (by rw[←hke];rfl) rfl G.u32 G.o24 hxN) fun a h0=>?_
 refine T h0 rfl rfl (ai h0 rfl rfl G.o24 he1 he2) fun a h0=>?_
 refine T h0 rfl rfl (aM h0 rfl rfl G.u24) fun a h0=>?_
 refine T h0 rfl rfl (aG h0 rfl rfl rfl rfl) fun a h0=>?_
 have u34:=u3.trans (u4.mono (by simp))
 refine Te (ar (h0.ev rfl) (fun hc=>?_) (fun hc=>aw ?_))
 ·-- on
  have hkl:kx<l.length:=by simpa using hc
  have h0:SL 168 [(0,Ptr b 0),(4,.slice (some ⟨g,0,none⟩) (V++ [(x,kx)]).length cap),(5,Ptr g (V.length*2))] a:=h0.keep [0,4,5]
  refine ah (j0 (R:=R3) G.mix (by kernel_rfl) fun w5 u5=>?_)
  have F5:=F4.up u5 (by simp)
  have c5:=c4.up u5 (by decide)
  have he1:=u5.1.at he1 (by simp)
  have he3:=(show Fz w4 R3 0 _ _ from he3).up u5 (by simp)
  obtain⟨gi,oi,ci,csi,ti,fzi,ui,hki,hi1,hi2,hi3⟩:=da (x:= .v (iv (l[kx]:Nat))) (i:=kx) he3 (by simp[hkl])
  have hui:ui=iv (l[kx]:Nat):=by cases hi3;rfl
  subst hui
  cases hki
  (first|refine T h0 rfl rfl (aa h0 (.inl rfl) rfl) fun a h0=>?_|refine T h0 rfl rfl (aa h0 (.inr rfl) rfl) fun a h0=>?_|refine T h0 rfl rfl (ab h0 rfl rfl) fun a h0=>?_|refine T h0 rfl rfl (ak h0 rfl rfl (by first|exact G.fa _ (by decide)|exact G.g0|exact G.g1)) fun a h0=>?_|refine T h0 rfl rfl (ai h0 rfl rfl (by first|exact G.o24|exact G.o3|exact G.o63|exact G.o32) (F5.box).1 rfl) fun a h0=>?_);(first|refine T h0 rfl rfl (aa h0 (.inl rfl) rfl) fun a h0=>?_|refine T h0 rfl rfl (aa h0 (.inr rfl) rfl) fun a h0=>?_|refine T h0 rfl rfl (ab h0 rfl rfl) fun a h0=>?_|refine T h0 rfl rfl (ak h0 rfl rfl (by first|exact G.fa _ (by decide)|exact G.g0|exact G.g1)) fun a h0=>?_|refine T h0 rfl rfl (ai h0 rfl rfl (by first|exact G.o24|exact G.o3|exact G.o63|exact G.o32) (F5.box).1 rfl) fun a h0=>?_);(first|refine T h0 rfl rfl (aa h0 (.inl rfl) rfl) fun a h0=>?_|refine T h0 rfl rfl (aa h0 (.inr rfl) rfl) fun a h0=>?_|refine T h0 rfl rfl (ab h0 rfl rfl) fun a h0=>?_|refine T h0 rfl rfl (ak h0 rfl rfl (by first|exact G.fa _ (by decide)|exact G.g0|exact G.g1)) fun a h0=>?_|refine T h0 rfl rfl (ai h0 rfl rfl (by first|exact G.o24|exact G.o3|exact G.o63|exact G.o32) (F5.box).1 rfl) fun a h0=>?_);(first|refine T h0 rfl rfl (aa h0 (.inl rfl) rfl) fun a h0=>?_|refine T h0 rfl rfl (aa h0 (.inr rfl) rfl) fun a h0=>?_|refine T h0 rfl rfl (ab h0 rfl rfl) fun a h0=>?_|refine T h0 rfl rfl (ak h0 rfl rfl (by first|exact G.fa _ (by decide)|exact G.g0|exact G.g1)) fun a h0=>?_|refine T h0 rfl rfl (ai h0 rfl rfl (by first|exact G.o24|exact G.o3|exact G.o63|exact G.o32) (F5.box).1 rfl) fun a h0=>?_);(first|refine T h0 rfl rfl (aa h0 (.inl rfl) rfl) fun a h0=>?_|refine T h0 rfl rfl (aa h0 (.inr rfl) rfl) fun a h0=>?_|refine T h0 rfl rfl (ab h0 rfl rfl) fun a h0=>?_|refine T h0 rfl rfl (ak h0 rfl rfl (by first|exact G.fa _ (by decide)|exact G.g0|exact G.g1)) fun a h0=>?_|refine T h0 rfl rfl (ai h0 rfl rfl (by first|exact G.o24|exact G.o3|exact G.o63|exact G.o32) (F5.box).1 rfl) fun a h0=>?_);(first|refine T h0 rfl rfl (aa h0 (.inl rfl) rfl) fun a h0=>?_|refine T h0 rfl rfl (aa h0 (.inr rfl) rfl) fun a h0=>?_|refine T h0 rfl rfl (ab h0 rfl rfl) fun a h0=>?_|refine T h0 rfl rfl (ak h0 rfl rfl (by first|exact G.fa _ (by decide)|exact G.g0|exact G.g1)) fun a h0=>?_|refine T h0 rfl rfl (ai h0 rfl rfl (by first|exact G.o24|exact G.o3|exact G.o63|exact G.o32) (F5.box).1 rfl) fun a h0=>?_);(first|refine T h0 rfl rfl (aa h0 (.inl rfl) rfl) fun a h0=>?_|refine T h0 rfl rfl (aa h0 (.inr rfl) rfl) fun a h0=>?_|refine T h0 rfl rfl (ab h0 rfl rfl) fun a h0=>?_|refine T h0 rfl rfl (ak h0 rfl rfl (by first|exact G.fa _ (by decide)|exact G.g0|exact G.g1)) fun a h0=>?_|refine T h0 rfl rfl (ai h0 rfl rfl (by first|exact G.o24|exact G.o3|exact G.o63|exact G.o32) (F5.box).1 rfl) fun a h0=>?_)
  refine T h0 rfl rfl (ai h0 rfl rfl G.o3 c5.1 hgx1) fun a h0=>?_
  refine T h0 rfl rfl (aH (t:=32) (b:=ge) (o':=oe) (m:=N) (c:=ce) h0 rfl (by rw[←hke];rfl) rfl G.u32 G.o24 hxN) fun a h0=>?_
  refine T h0 rfl rfl (ai h0 rfl rfl G.o24 he1 he2) fun a h0=>?_
  (first|refine T h0 rfl rfl (aa h0 (.inl rfl) rfl) fun a h0=>?_|refine T h0 rfl rfl (aa h0 (.inr rfl) rfl) fun a h0=>?_|refine T h0 rfl rfl (ab h0 rfl rfl) fun a h0=>?_|refine T h0 rfl rfl (ak h0 rfl rfl (by first|exact G.fa _ (by decide)|exact G.g0|exact G.g1)) fun a h0=>?_|refine T h0 rfl rfl (ai h0 rfl rfl (by first|exact G.o24|exact G.o3|exact G.o63|exact G.o32) (F5.box).1 rfl) fun a h0=>?_);(first|refine T h0 rfl rfl (aa h0 (.inl rfl) rfl) fun a h0=>?_|refine T h0 rfl rfl (aa h0 (.inr rfl) rfl) fun a h0=>?_|refine T h0 rfl rfl (ab h0 rfl rfl) fun a h0=>?_|refine T h0 rfl rfl (ak h0 rfl rfl (by first|exact G.fa _ (by decide)|exact G.g0|exact G.g1)) fun a h0=>?_|refine T h0 rfl rfl (ai h0 rfl rfl (by first|exact G.o24|exact G.o3|exact G.o63|exact G.o32) (F5.box).1 rfl) fun a h0=>?_);(first|refine T h0 rfl rfl (aa h0 (.inl rfl) rfl) fun a h0=>?_|refine T h0 rfl rfl (aa h0 (.inr rfl) rfl) fun a h0=>?_|refine T h0 rfl rfl (ab h0 rfl rfl) fun a h0=>?_|refine T h0 rfl rfl (ak h0 rfl rfl (by first|exact G.fa _ (by decide)|exact G.g0|exact G.g1)) fun a h0=>?_|refine T h0 rfl rfl (ai h0 rfl rfl (by first|exact G.o24|exact G.o3|exact G.o63|exact G.o32) (F5.box).1 rfl) fun a h0=>?_)
  refine T h0 rfl rfl (ai h0 rfl rfl G.o3 c5.1 hgx2) fun a h0=>?_
  refine T h0 rfl rfl (aH h0 rfl rfl rfl G.u24 G.o3 (by simpa using hkl)) fun a h0=>?_
  refine T h0 rfl rfl (ai h0 rfl rfl G.o3 hi1 hi2) fun a h0=>?_
  (first|refine T h0 rfl rfl (aa h0 (.inl rfl) rfl) fun a h0=>?_|refine T h0 rfl rfl (aa h0 (.inr rfl) rfl) fun a h0=>?_|refine T h0 rfl rfl (ab h0 rfl rfl) fun a h0=>?_)
  have h0:SL 168 [(0,Ptr b 0),(4,.slice (some ⟨g,0,none⟩) (V++ [(x,kx)]).length cap),(5,Ptr g (V.length*2)),(6,iv (l[kx]:Nat))] a:=h0.keep [0,4,5,6]
  have u35:=u34.trans (u5.mono (by simp))
  refine Te (ah (ae ?_))
  (first|refine L h0 rfl rfl (aa h0 (.inl rfl) rfl) fun a h0=>?_|refine L h0 rfl rfl (aa h0 (.inr rfl) rfl) fun a h0=>?_|refine L h0 rfl rfl (ab h0 rfl rfl) fun a h0=>?_|refine L h0 rfl rfl (ak h0 rfl rfl (by first|exact G.fa _ (by decide)|exact G.g0|exact G.g1)) fun a h0=>?_|refine L h0 rfl rfl (ai h0 rfl rfl (by first|exact G.o24|exact G.o3|exact G.o63|exact G.o32) (F5.box).1 rfl) fun a h0=>?_);(first|refine L h0 rfl rfl (aa h0 (.inl rfl) rfl) fun a h0=>?_|refine L h0 rfl rfl (aa h0 (.inr rfl) rfl) fun a h0=>?_|refine L h0 rfl rfl (ab h0 rfl rfl) fun a h0=>?_|refine L h0 rfl rfl (ak h0 rfl rfl (by first|exact G.fa _ (by decide)|exact G.g0|exact G.g1)) fun a h0=>?_|refine L h0 rfl rfl (ai h0 rfl rfl (by first|exact G.o24|exact G.o3|exact G.o63|exact G.o32) (F5.box).1 rfl) fun a h0=>?_);(first|refine L h0 rfl rfl (aa h0 (.inl rfl) rfl) fun a h0=>?_|refine L h0 rfl rfl (aa h0 (.inr rfl) rfl) fun a h0=>?_|refine L h0 rfl rfl (ab h0 rfl rfl) fun a h0=>?_|refine L h0 rfl rfl (ak h0 rfl rfl (by first|exact G.fa _ (by decide)|exact G.g0|exact G.g1)) fun a h0=>?_|refine L h0 rfl rfl (ai h0 rfl rfl (by first|exact G.o24|exact G.o3|exact G.o63|exact G.o32) (F5.box).1 rfl) fun a h0=>?_)
  refine L h0 rfl rfl (ai h0 rfl rfl G.o3 c5.1 hgx2) fun a h0=>?_
  refine L h0 rfl rfl (cC (kx+1:Nat) h0 rfl rfl rfl (by omega) (by omega) (by omega)) fun a h0=>?_
  (first|refine L h0 rfl rfl (aa h0 (.inl rfl) rfl) fun a h0=>?_|refine L h0 rfl rfl (aa h0 (.inr rfl) rfl) fun a h0=>?_|refine L h0 rfl rfl (ab h0 rfl rfl) fun a h0=>?_|refine L h0 rfl rfl (ak h0 rfl rfl (by first|exact G.fa _ (by decide)|exact G.g0|exact G.g1)) fun a h0=>?_|refine L h0 rfl rfl (ai h0 rfl rfl (by first|exact G.o24|exact G.o3|exact G.o63|exact G.o32) (F5.box).1 rfl) fun a h0=>?_);(first|refine L h0 rfl rfl (aa h0 (.inl rfl) rfl) fun a h0=>?_|refine L h0 rfl rfl (aa h0 (.inr rfl) rfl) fun a h0=>?_|refine L h0 rfl rfl (ab h0 rfl rfl) fun a h0=>?_|refine L h0 rfl rfl (ak h0 rfl rfl (by first|exact G.fa _ (by decide)|exact G.g0|exact G.g1)) fun a h0=>?_|refine L h0 rfl rfl (ai h0 rfl rfl (by first|exact G.o24|exact G.o3|exact G.o63|exact G.o32) (F5.box).1 rfl) fun a h0=>?_)
  refine Lst h0 rfl rfl rfl rfl rfl G.o3 rfl rfl c5 (by omega) fun w6 c6 u6=>?_
  have F6:=F5.up u6 (by simp)
  have u36:=u35.trans (u6.mono (by simp))
  have c6:Cl w6 R3 8 g 84 (cs.set (V.length*2+1) (iv (kx+1:Nat))):=c6
  have y6:Wy w6 R3 (.slice (some ⟨g,0,none⟩) (V++ [(x,kx+1)]).length cap) (V++ [(x,kx+1)]):=Wy.of c6 (by simpa using dR) (by simpa using hVc) hmx (zb ht)
  have T6:TJ N ((V++ [(x,kx+1)]).map Prod.fst) p3.S p3.I:=by simpa using T3
  have M6:kc E (V++ [(x,kx+1)])+1=kc E (V++ [(x,kx)]):=by
   rw[iY,iY,List.getD_eq_getElem?_getD,hl];simp;omega
  have h0:SL 168 [(0,Ptr b 0),(4,.slice (some ⟨g,0,none⟩) (V++ [(x,kx+1)]).length cap),(5,Ptr g (V.length*2)),(6,iv (l[kx]:Nat))] a:=by
   rw[show(V++ [(x,kx+1)]).length=(V++ [(x,kx)]).length by simp];exact h0.keep [0,4,5,6]
  have fQ:l[kx]<N:=hlN _ (List.getElem_mem hkl)
  have hi3:=F6.lI
  have hl3:=F6.lL
  have ho3:=F6.lO
  refine Le (ah (au (ah (ae ?_))))
  (first|refine L h0 rfl rfl (aa h0 (.inl rfl) rfl) fun a h0=>?_|refine L h0 rfl rfl (aa h0 (.inr rfl) rfl) fun a h0=>?_|refine L h0 rfl rfl (ab h0 rfl rfl) fun a h0=>?_|refine L h0 rfl rfl (ak h0 rfl rfl (by first|exact G.fa _ (by decide)|exact G.g0|exact G.g1)) fun a h0=>?_|refine L h0 rfl rfl (ai h0 rfl rfl (by first|exact G.o24|exact G.o3|exact G.o63|exact G.o32) (F6.box).1 rfl) fun a h0=>?_);(first|refine L h0 rfl rfl (aa h0 (.inl rfl) rfl) fun a h0=>?_|refine L h0 rfl rfl (aa h0 (.inr rfl) rfl) fun a h0=>?_|refine L h0 rfl rfl (ab h0 rfl rfl) fun a h0=>?_|refine L h0 rfl rfl (ak h0 rfl rfl (by first|exact G.fa _ (by decide)|exact G.g0|exact G.g1)) fun a h0=>?_|refine L h0 rfl rfl (ai h0 rfl rfl (by first|exact G.o24|exact G.o3|exact G.o63|exact G.o32) (F6.box).1 rfl) fun a h0=>?_);(first|refine L h0 rfl rfl (aa h0 (.inl rfl) rfl) fun a h0=>?_|refine L h0 rfl rfl (aa h0 (.inr rfl) rfl) fun a h0=>?_|refine L h0 rfl rfl (ab h0 rfl rfl) fun a h0=>?_|refine L h0 rfl rfl (ak h0 rfl rfl (by first|exact G.fa _ (by decide)|exact G.g0|exact G.g1)) fun a h0=>?_|refine L h0 rfl rfl (ai h0 rfl rfl (by first|exact G.o24|exact G.o3|exact G.o63|exact G.o32) (F6.box).1 rfl) fun a h0=>?_);(first|refine L h0 rfl rfl (aa h0 (.inl rfl) rfl) fun a h0=>?_|refine L h0 rfl rfl (aa h0 (.inr rfl) rfl) fun a h0=>?_|refine L h0 rfl rfl (ab h0 rfl rfl) fun a h0=>?_|refine L h0 rfl rfl (ak h0 rfl rfl (by first|exact G.fa _ (by decide)|exact G.g0|exact G.g1)) fun a h0=>?_|refine L h0 rfl rfl (ai h0 rfl rfl (by first|exact G.o24|exact G.o3|exact G.o63|exact G.o32) (F6.box).1 rfl) fun a h0=>?_);(first|refine L h0 rfl rfl (aa h0 (.inl rfl) rfl) fun a h0=>?_|refine L h0 rfl rfl (aa h0 (.inr rfl) rfl) fun a h0=>?_|refine L h0 rfl rfl (ab h0 rfl rfl) fun a h0=>?_|refine L h0 rfl rfl (ak h0 rfl rfl (by first|exact G.fa _ (by decide)|exact G.g0|exact G.g1)) fun a h0=>?_|refine L h0 rfl rfl (ai h0 rfl rfl (by first|exact G.o24|exact G.o3|exact G.o63|exact G.o32) (F6.box).1 rfl) fun a h0=>?_)
  refine L h0 rfl rfl (aH h0 rfl rfl rfl G.u24 G.o3 fQ) fun a h0=>?_
  refine L h0 rfl rfl (ai (v:=iv ((p3.I[l[kx]]'(by omega)):Nat)) h0 rfl rfl G.o3 F6.idx.1 (by simp[hi3,fQ])) fun a h0=>?_
  refine L h0 rfl rfl (aG h0 rfl rfl rfl rfl) fun a h0=>?_
  (first|refine L h0 rfl rfl (aa h0 (.inl rfl) rfl) fun a h0=>?_|refine L h0 rfl rfl (aa h0 (.inr rfl) rfl) fun a h0=>?_|refine L h0 rfl rfl (ab h0 rfl rfl) fun a h0=>?_)
  refine Le (ar (h0.ev rfl) (fun hc=>ae ?_) (fun hc=>ah (ae ?_)))
  ·-- not met
   have hz:p3.I[l[kx]]? =some 0:=by
    rw[List.getElem?_eq_getElem (by omega)];simp at hc;rw[hc]
   (first|refine L h0 rfl rfl (aa h0 (.inl rfl) rfl) fun a h0=>?_|refine L h0 rfl rfl (aa h0 (.inr rfl) rfl) fun a h0=>?_|refine L h0 rfl rfl (ab h0 rfl rfl) fun a h0=>?_);(first|refine L h0 rfl rfl (aa h0 (.inl rfl) rfl) fun a h0=>?_|refine L h0 rfl rfl (aa h0 (.inr rfl) rfl) fun a h0=>?_|refine L h0 rfl rfl (ab h0 rfl rfl) fun a h0=>?_);(first|refine L h0 rfl rfl (aa h0 (.inl rfl) rfl) fun a h0=>?_|refine L h0 rfl rfl (aa h0 (.inr rfl) rfl) fun a h0=>?_|refine L h0 rfl rfl (ab h0 rfl rfl) fun a h0=>?_)
   refine Lc (vs:=[Ptr b 0,iv (l[kx]:Nat)]) h0 rfl rfl rfl rfl rfl B.b39.ok (s6 G B F6 fQ (by omega) (by omega)) fun r w7 a hr h0=>?_
   obtain⟨rfl,R7,vs7,u7,F7⟩:=hr
   have y7:=y6.up u7 (by decide)
   refine A5 h0 rfl rfl rfl rfl rfl rfl rfl rfl rfl (by simp) G.u86 G.b84 y7 (by simp;omega) fun vw8 w8 R8 a y8 u8 h0=>?_
   have F8:=F7.up u8 (by simp)
   (first|refine L h0 rfl rfl (aa h0 (.inl rfl) rfl) fun a h0=>?_|refine L h0 rfl rfl (aa h0 (.inr rfl) rfl) fun a h0=>?_|refine L h0 rfl rfl (ab h0 rfl rfl) fun a h0=>?_)
   have T8:=T6.met hi3 hz (n:=p3.n+1) (by omega)
   obtain⟨e',he'⟩:∃e',E[l[kx]]? =some e':=⟨_,List.getElem?_eq_getElem (by rw[W3.el];exact fQ)⟩
   have hu:=s9 (n:=p3.n+1) hz he' (by omega)
   have hw:=iY E l[kx] 0 (V++ [(x,kx+1)])
   rw[List.getD_eq_getElem?_getD,he']at hw
   refine Le (aN ⟨_,?_,R8,_,_,vw8,V++ [(x,kx+1)]++ [(l[kx],0)],rfl,h0.keep [0,4],y8,F8,W3.met hi3 hz,?_,u36.trans ((u7.mono (by simp)).trans (u8.mono (by simp)))⟩)
   ·rw[hm,hw];simp only[Option.getD_some];omega
   ·simpa using T8
  ·-- met before
   (first|refine L h0 rfl rfl (aa h0 (.inl rfl) rfl) fun a h0=>?_|refine L h0 rfl rfl (aa h0 (.inr rfl) rfl) fun a h0=>?_|refine L h0 rfl rfl (ab h0 rfl rfl) fun a h0=>?_|refine L h0 rfl rfl (ak h0 rfl rfl (by first|exact G.fa _ (by decide)|exact G.g0|exact G.g1)) fun a h0=>?_|refine L h0 rfl rfl (ai h0 rfl rfl (by first|exact G.o24|exact G.o3|exact G.o63|exact G.o32) (F6.box).1 rfl) fun a h0=>?_);(first|refine L h0 rfl rfl (aa h0 (.inl rfl) rfl) fun a h0=>?_|refine L h0 rfl rfl (aa h0 (.inr rfl) rfl) fun a h0=>?_|refine L h0 rfl rfl (ab h0 rfl rfl) fun a h0=>?_|refine L h0 rfl rfl (ak h0 rfl rfl (by first|exact G.fa _ (by decide)|exact G.g0|exact G.g1)) fun a h0=>?_|refine L h0 rfl rfl (ai h0 rfl rfl (by first|exact G.o24|exact G.o3|exact G.o63|exact G.o32) (F6.box).1 rfl) fun a h0=>?_);(first|refine L h0 rfl rfl (aa h0 (.inl rfl) rfl) fun a h0=>?_|refine L h0 rfl rfl (aa h0 (.inr rfl) rfl) fun a h0=>?_|refine L h0 rfl rfl (ab h0 rfl rfl) fun a h0=>?_|refine L h0 rfl rfl (ak h0 rfl rfl (by first|exact G.fa _ (by decide)|exact G.g0|exact G.g1)) fun a h0=>?_|refine L h0 rfl rfl (ai h0 rfl rfl (by first|exact G.o24|exact G.o3|exact G.o63|exact G.o32) (F6.box).1 rfl) fun a h0=>?_);(first|refine L h0 rfl rfl (aa h0 (.inl rfl) rfl) fun a h0=>?_|refine L h0 rfl rfl (aa h0 (.inr rfl) rfl) fun a h0=>?_|refine L h0 rfl rfl (ab h0 rfl rfl) fun a h0=>?_|refine L h0 rfl rfl (ak h0 rfl rfl (by first|exact G.fa _ (by decide)|exact G.g0|exact G.g1)) fun a h0=>?_|refine L h0 rfl rfl (ai h0 rfl rfl (by first|exact G.o24|exact G.o3|exact G.o63|exact G.o32) (F6.box).1 rfl) fun a h0=>?_);(first|refine L h0 rfl rfl (aa h0 (.inl rfl) rfl) fun a h0=>?_|refine L h0 rfl rfl (aa h0 (.inr rfl) rfl) fun a h0=>?_|refine L h0 rfl rfl (ab h0 rfl rfl) fun a h0=>?_|refine L h0 rfl rfl (ak h0 rfl rfl (by first|exact G.fa _ (by decide)|exact G.g0|exact G.g1)) fun a h0=>?_|refine L h0 rfl rfl (ai h0 rfl rfl (by first|exact G.o24|exact G.o3|exact G.o63|exact G.o32) (F6.box).1 rfl) fun a h0=>?_)
   refine L h0 rfl rfl (aH h0 rfl rfl rfl G.u63 G.o4 fQ) fun a h0=>?_
   refine L h0 rfl rfl (ai (v:= .bool (p3.O[l[kx]]'(by omega))) h0 rfl rfl G.o4 F6.on.1 (by simp[ho3,fQ])) fun a h0=>?_
   (first|refine L h0 rfl rfl (aa h0 (.inl rfl) rfl) fun a h0=>?_|refine L h0 rfl rfl (aa h0 (.inr rfl) rfl) fun a h0=>?_|refine L h0 rfl rfl (ab h0 rfl rfl) fun a h0=>?_)
   have h0:SL 168 [(0,Ptr b 0),(4,.slice (some ⟨g,0,none⟩) (V++ [(x,kx+1)]).length cap),(5,Ptr g (V.length*2)),(6,iv (l[kx]:Nat)),(75,.bool (p3.O[l[kx]]'(by omega)))] a:=h0.keep [0,4,5,6,75]
   refine Le (ar (h0.ev rfl) (fun hc=>jO (R:=R3) 27 G.mix (by kernel_rfl) fun w7 u7=>?_) (fun hc=>aw ?_))
   ·have F7:=F6.up u7 (by simp)
    have c7:=c6.up u7 (by decide)
    have y7:=y6.up u7 (by decide)
    have hgx1':(cs.set (V.length*2+1) (iv (kx+1:Nat))).toArray[V.length*2+0]? =some (iv x):=by
     rw[List.getElem?_toArray,List.getElem?_set_ne (by omega)];simpa using gx1
    (first|refine T h0 rfl rfl (aa h0 (.inl rfl) rfl) fun a h0=>?_|refine T h0 rfl rfl (aa h0 (.inr rfl) rfl) fun a h0=>?_|refine T h0 rfl rfl (ab h0 rfl rfl) fun a h0=>?_|refine T h0 rfl rfl (ak h0 rfl rfl (by first|exact G.fa _ (by decide)|exact G.g0|exact G.g1)) fun a h0=>?_|refine T h0 rfl rfl (ai h0 rfl rfl (by first|exact G.o24|exact G.o3|exact G.o63|exact G.o32) (F7.box).1 rfl) fun a h0=>?_);(first|refine T h0 rfl rfl (aa h0 (.inl rfl) rfl) fun a h0=>?_|refine T h0 rfl rfl (aa h0 (.inr rfl) rfl) fun a h0=>?_|refine T h0 rfl rfl (ab h0 rfl rfl) fun a h0=>?_|refine T h0 rfl rfl (ak h0 rfl rfl (by first|exact G.fa _ (by decide)|exact G.g0|exact G.g1)) fun a h0=>?_|refine T h0 rfl rfl (ai h0 rfl rfl (by first|exact G.o24|exact G.o3|exact G.o63|exact G.o32) (F7.box).1 rfl) fun a h0=>?_);(first|refine T h0 rfl rfl (aa h0 (.inl rfl) rfl) fun a h0=>?_|refine T h0 rfl rfl (aa h0 (.inr rfl) rfl) fun a h0=>?_|refine T h0 rfl rfl (ab h0 rfl rfl) fun a h0=>?_|refine T h0 rfl rfl (ak h0 rfl rfl (by first|exact G.fa _ (by decide)|exact G.g0|exact G.g1)) fun a h0=>?_|refine T h0 rfl rfl (ai h0 rfl rfl (by first|exact G.o24|exact G.o3|exact G.o63|exact G.o32) (F7.box).1 rfl) fun a h0=>?_);(first|refine T h0 rfl rfl (aa h0 (.inl rfl) rfl) fun a h0=>?_|refine T h0 rfl rfl (aa h0 (.inr rfl) rfl) fun a h0=>?_|refine T h0 rfl rfl (ab h0 rfl rfl) fun a h0=>?_|refine T h0 rfl rfl (ak h0 rfl rfl (by first|exact G.fa _ (by decide)|exact G.g0|exact G.g1)) fun a h0=>?_|refine T h0 rfl rfl (ai h0 rfl rfl (by first|exact G.o24|exact G.o3|exact G.o63|exact G.o32) (F7.box).1 rfl) fun a h0=>?_);(first|refine T h0 rfl rfl (aa h0 (.inl rfl) rfl) fun a h0=>?_|refine T h0 rfl rfl (aa h0 (.inr rfl) rfl) fun a h0=>?_|refine T h0 rfl rfl (ab h0 rfl rfl) fun a h0=>?_|refine T h0 rfl rfl (ak h0 rfl rfl (by first|exact G.fa _ (by decide)|exact G.g0|exact G.g1)) fun a h0=>?_|refine T h0 rfl rfl (ai h0 rfl rfl (by first|exact G.o24|exact G.o3|exact G.o63|exact G.o32) (F7.box).1 rfl) fun a h0=>?_);(first|refine T h0 rfl rfl (aa h0 (.inl rfl) rfl) fun a h0=>?_|refine T h0 rfl rfl (aa h0 (.inr rfl) rfl) fun a h0=>?_|refine T h0 rfl rfl (ab h0 rfl rfl) fun a h0=>?_|refine T h0 rfl rfl (ak h0 rfl rfl (by first|exact G.fa _ (by decide)|exact G.g0|exact G.g1)) fun a h0=>?_|refine T h0 rfl rfl (ai h0 rfl rfl (by first|exact G.o24|exact G.o3|exact G.o63|exact G.o32) (F7.box).1 rfl) fun a h0=>?_);(first|refine T h0 rfl rfl (aa h0 (.inl rfl) rfl) fun a h0=>?_|refine T h0 rfl rfl (aa h0 (.inr rfl) rfl) fun a h0=>?_|refine T h0 rfl rfl (ab h0 rfl rfl) fun a h0=>?_|refine T h0 rfl rfl (ak h0 rfl rfl (by first|exact G.fa _ (by decide)|exact G.g0|exact G.g1)) fun a h0=>?_|refine T h0 rfl rfl (ai h0 rfl rfl (by first|exact G.o24|exact G.o3|exact G.o63|exact G.o32) (F7.box).1 rfl) fun a h0=>?_)
    refine T h0 rfl rfl (ai h0 rfl rfl G.o3 c7.1 hgx1') fun a h0=>?_
    (first|refine T h0 rfl rfl (aa h0 (.inl rfl) rfl) fun a h0=>?_|refine T h0 rfl rfl (aa h0 (.inr rfl) rfl) fun a h0=>?_|refine T h0 rfl rfl (ab h0 rfl rfl) fun a h0=>?_|refine T h0 rfl rfl (ak h0 rfl rfl (by first|exact G.fa _ (by decide)|exact G.g0|exact G.g1)) fun a h0=>?_|refine T h0 rfl rfl (ai h0 rfl rfl (by first|exact G.o24|exact G.o3|exact G.o63|exact G.o32) (F7.box).1 rfl) fun a h0=>?_);(first|refine T h0 rfl rfl (aa h0 (.inl rfl) rfl) fun a h0=>?_|refine T h0 rfl rfl (aa h0 (.inr rfl) rfl) fun a h0=>?_|refine T h0 rfl rfl (ab h0 rfl rfl) fun a h0=>?_|refine T h0 rfl rfl (ak h0 rfl rfl (by first|exact G.fa _ (by decide)|exact G.g0|exact G.g1)) fun a h0=>?_|refine T h0 rfl rfl (ai h0 rfl rfl (by first|exact G.o24|exact G.o3|exact G.o63|exact G.o32) (F7.box).1 rfl) fun a h0=>?_);(first|refine T h0 rfl rfl (aa h0 (.inl rfl) rfl) fun a h0=>?_|refine T h0 rfl rfl (aa h0 (.inr rfl) rfl) fun a h0=>?_|refine T h0 rfl rfl (ab h0 rfl rfl) fun a h0=>?_|refine T h0 rfl rfl (ak h0 rfl rfl (by first|exact G.fa _ (by decide)|exact G.g0|exact G.g1)) fun a h0=>?_|refine T h0 rfl rfl (ai h0 rfl rfl (by first|exact G.o24|exact G.o3|exact G.o63|exact G.o32) (F7.box).1 rfl) fun a h0=>?_);(first|refine T h0 rfl rfl (aa h0 (.inl rfl) rfl) fun a h0=>?_|refine T h0 rfl rfl (aa h0 (.inr rfl) rfl) fun a h0=>?_|refine T h0 rfl rfl (ab h0 rfl rfl) fun a h0=>?_|refine T h0 rfl rfl (ak h0 rfl rfl (by first|exact G.fa _ (by decide)|exact G.g0|exact G.g1)) fun a h0=>?_|refine T h0 rfl rfl (ai h0 rfl rfl (by first|exact G.o24|exact G.o3|exact G.o63|exact G.o32) (F7.box).1 rfl) fun a h0=>?_);(first|refine T h0 rfl rfl (aa h0 (.inl rfl) rfl) fun a h0=>?_|refine T h0 rfl rfl (aa h0 (.inr rfl) rfl) fun a h0=>?_|refine T h0 rfl rfl (ab h0 rfl rfl) fun a h0=>?_|refine T h0 rfl rfl (ak h0 rfl rfl (by first|exact G.fa _ (by decide)|exact G.g0|exact G.g1)) fun a h0=>?_|refine T h0 rfl rfl (ai h0 rfl rfl (by first|exact G.o24|exact G.o3|exact G.o63|exact G.o32) (F7.box).1 rfl) fun a h0=>?_);(first|refine T h0 rfl rfl (aa h0 (.inl rfl) rfl) fun a h0=>?_|refine T h0 rfl rfl (aa h0 (.inr rfl) rfl) fun a h0=>?_|refine T h0 rfl rfl (ab h0 rfl rfl) fun a h0=>?_|refine T h0 rfl rfl (ak h0 rfl rfl (by first|exact G.fa _ (by decide)|exact G.g0|exact G.g1)) fun a h0=>?_|refine T h0 rfl rfl (ai h0 rfl rfl (by first|exact G.o24|exact G.o3|exact G.o63|exact G.o32) (F7.box).1 rfl) fun a h0=>?_);(first|refine T h0 rfl rfl (aa h0 (.inl rfl) rfl) fun a h0=>?_|refine T h0 rfl rfl (aa h0 (.inr rfl) rfl) fun a h0=>?_|refine T h0 rfl rfl (ab h0 rfl rfl) fun a h0=>?_|refine T h0 rfl rfl (ak h0 rfl rfl (by first|exact G.fa _ (by decide)|exact G.g0|exact G.g1)) fun a h0=>?_|refine T h0 rfl rfl (ai h0 rfl rfl (by first|exact G.o24|exact G.o3|exact G.o63|exact G.o32) (F7.box).1 rfl) fun a h0=>?_)
    refine T h0 rfl rfl (ai h0 rfl rfl G.o3 c7.1 hgx1') fun a h0=>?_
    refine T h0 rfl rfl (aH h0 rfl rfl rfl G.u24 G.o3 hxN) fun a h0=>?_
    refine T h0 rfl rfl (ai (v:=iv ((p3.L[x]'(by omega)):Nat)) h0 rfl rfl G.o3 F7.low.1 (by simp[hl3,hxN])) fun a h0=>?_
    (first|refine T h0 rfl rfl (aa h0 (.inl rfl) rfl) fun a h0=>?_|refine T h0 rfl rfl (aa h0 (.inr rfl) rfl) fun a h0=>?_|refine T h0 rfl rfl (ab h0 rfl rfl) fun a h0=>?_|refine T h0 rfl rfl (ak h0 rfl rfl (by first|exact G.fa _ (by decide)|exact G.g0|exact G.g1)) fun a h0=>?_|refine T h0 rfl rfl (ai h0 rfl rfl (by first|exact G.o24|exact G.o3|exact G.o63|exact G.o32) (F7.box).1 rfl) fun a h0=>?_);(first|refine T h0 rfl rfl (aa h0 (.inl rfl) rfl) fun a h0=>?_|refine T h0 rfl rfl (aa h0 (.inr rfl) rfl) fun a h0=>?_|refine T h0 rfl rfl (ab h0 rfl rfl) fun a h0=>?_|refine T h0 rfl rfl (ak h0 rfl rfl (by first|exact G.fa _ (by decide)|exact G.g0|exact G.g1)) fun a h0=>?_|refine T h0 rfl rfl (ai h0 rfl rfl (by first|exact G.o24|exact G.o3|exact G.o63|exact G.o32) (F7.box).1 rfl) fun a h0=>?_);(first|refine T h0 rfl rfl (aa h0 (.inl rfl) rfl) fun a h0=>?_|refine T h0 rfl rfl (aa h0 (.inr rfl) rfl) fun a h0=>?_|refine T h0 rfl rfl (ab h0 rfl rfl) fun a h0=>?_|refine T h0 rfl rfl (ak h0 rfl rfl (by first|exact G.fa _ (by decide)|exact G.g0|exact G.g1)) fun a h0=>?_|refine T h0 rfl rfl (ai h0 rfl rfl (by first|exact G.o24|exact G.o3|exact G.o63|exact G.o32) (F7.box).1 rfl) fun a h0=>?_);(first|refine T h0 rfl rfl (aa h0 (.inl rfl) rfl) fun a h0=>?_|refine T h0 rfl rfl (aa h0 (.inr rfl) rfl) fun a h0=>?_|refine T h0 rfl rfl (ab h0 rfl rfl) fun a h0=>?_|refine T h0 rfl rfl (ak h0 rfl rfl (by first|exact G.fa _ (by decide)|exact G.g0|exact G.g1)) fun a h0=>?_|refine T h0 rfl rfl (ai h0 rfl rfl (by first|exact G.o24|exact G.o3|exact G.o63|exact G.o32) (F7.box).1 rfl) fun a h0=>?_);(first|refine T h0 rfl rfl (aa h0 (.inl rfl) rfl) fun a h0=>?_|refine T h0 rfl rfl (aa h0 (.inr rfl) rfl) fun a h0=>?_|refine T h0 rfl rfl (ab h0 rfl rfl) fun a h0=>?_|refine T h0 rfl rfl (ak h0 rfl rfl (by first|exact G.fa _ (by decide)|exact G.g0|exact G.g1)) fun a h0=>?_|refine T h0 rfl rfl (ai h0 rfl rfl (by first|exact G.o24|exact G.o3|exact G.o63|exact G.o32) (F7.box).1 rfl) fun a h0=>?_)
    refine T h0 rfl rfl (aH h0 rfl rfl rfl G.u24 G.o3 fQ) fun a h0=>?_
    refine T h0 rfl rfl (ai (v:=iv ((p3.I[l[kx]]'(by omega)):Nat)) h0 rfl rfl G.o3 F7.idx.1 (by simp[hi3,fQ])) fun a h0=>?_
    refine T h0 rfl rfl (vV h0 rfl rfl rfl) fun a h0=>?_
    refine T h0 rfl rfl (aH h0 rfl rfl rfl G.u24 G.o3 hxN) fun a h0=>?_
    refine Te (Lst h0 rfl rfl rfl rfl rfl G.o3 rfl rfl F7.low (by simp;omega) fun w8 lx u8=>?_)
    have F8:Fs w8 R3 b N lo E k3 {p3 with L:=p3.L.set (0+x) (min (p3.L[x]'(by omega)) (p3.I[l[kx]]'(by omega)))}:=by
     obtain⟨bx,ix,_,ox,sx,rx,⟨xs,gl,gx,gr⟩,ed,hi,hl,ho,hf⟩:=F7
     ((try have bx:=bx.up u8 (by decide));(try have ix:=ix.up u8 (by decide));(try have lx:=lx.up u8 (by decide));(try have ox:=ox.up u8 (by decide));(try have sx:=sx.up u8 (by decide));(try have rx:=rx.up u8 (by decide));(try have gx:=gx.up u8 (by decide));(try have gr:=cD gr u8 (by decide));(try have ed:=ed.up u8 (by decide));(try have cx:=cx.up u8 (by decide)))
     exact⟨bx,ix,by rw[←xv];exact lx,ox,sx,rx,⟨xs,gl,gx,gr⟩,ed,hi,by simpa using hl,ho,hf⟩
    have y8:=y7.up u8 (by decide)
    refine Le (aN ⟨_,?_,R3,_,_,_,V++ [(x,kx+1)],rfl,h0.keep [0,4],y8,F8,W3.low,T6,u36.trans ((u7.mono (by simp)).trans (u8.mono (by simp)))⟩)
    rw[hm];simp only;omega
   ·refine aN ⟨_,?_,R3,_,_,_,V++ [(x,kx+1)],rfl,h0.keep [0,4],y6,F6,W3,T6,u36⟩
    rw[hm];omega
 ·-- done
  have h0:SL 168 [(0,Ptr b 0),(4,.slice (some ⟨g,0,none⟩) (V++ [(x,kx)]).length cap),(5,Ptr g (V.length*2))] a:=h0.keep [0,4,5]
  have hi3:=F4.lI
  have hl3:=F4.lL
  refine ah (ae ?_)
  (first|refine L h0 rfl rfl (aa h0 (.inl rfl) rfl) fun a h0=>?_|refine L h0 rfl rfl (aa h0 (.inr rfl) rfl) fun a h0=>?_|refine L h0 rfl rfl (ab h0 rfl rfl) fun a h0=>?_|refine L h0 rfl rfl (ak h0 rfl rfl (by first|exact G.fa _ (by decide)|exact G.g0|exact G.g1)) fun a h0=>?_|refine L h0 rfl rfl (ai h0 rfl rfl (by first|exact G.o24|exact G.o3|exact G.o63|exact G.o32) (F4.box).1 rfl) fun a h0=>?_);(first|refine L h0 rfl rfl (aa h0 (.inl rfl) rfl) fun a h0=>?_|refine L h0 rfl rfl (aa h0 (.inr rfl) rfl) fun a h0=>?_|refine L h0 rfl rfl (ab h0 rfl rfl) fun a h0=>?_|refine L h0 rfl rfl (ak h0 rfl rfl (by first|exact G.fa _ (by decide)|exact G.g0|exact G.g1)) fun a h0=>?_|refine L h0 rfl rfl (ai h0 rfl rfl (by first|exact G.o24|exact G.o3|exact G.o63|exact G.o32) (F4.box).1 rfl) fun a h0=>?_);(first|refine L h0 rfl rfl (aa h0 (.inl rfl) rfl) fun a h0=>?_|refine L h0 rfl rfl (aa h0 (.inr rfl) rfl) fun a h0=>?_|refine L h0 rfl rfl (ab h0 rfl rfl) fun a h0=>?_|refine L h0 rfl rfl (ak h0 rfl rfl (by first|exact G.fa _ (by decide)|exact G.g0|exact G.g1)) fun a h0=>?_|refine L h0 rfl rfl (ai h0 rfl rfl (by first|exact G.o24|exact G.o3|exact G.o63|exact G.o32) (F4.box).1 rfl) fun a h0=>?_)
  refine L h0 rfl rfl (ai h0 rfl rfl G.o3 c4.1 hgx1) fun a h0=>?_
  (first|refine L h0 rfl rfl (aa h0 (.inl rfl) rfl) fun a h0=>?_|refine L h0 rfl rfl (aa h0 (.inr rfl) rfl) fun a h0=>?_|refine L h0 rfl rfl (ab h0 rfl rfl) fun a h0=>?_)
  refine Le (ah (ae ?_))
  (first|refine L h0 rfl rfl (aa h0 (.inl rfl) rfl) fun a h0=>?_|refine L h0 rfl rfl (aa h0 (.inr rfl) rfl) fun a h0=>?_|refine L h0 rfl rfl (ab h0 rfl rfl) fun a h0=>?_);(first|refine L h0 rfl rfl (aa h0 (.inl rfl) rfl) fun a h0=>?_|refine L h0 rfl rfl (aa h0 (.inr rfl) rfl) fun a h0=>?_|refine L h0 rfl rfl (ab h0 rfl rfl) fun a h0=>?_)
  refine L h0 rfl rfl (aM h0 rfl rfl G.u86) fun a h0=>?_
  refine L h0 rfl rfl (iu (V.length:Nat) h0 rfl rfl rfl (by simp) (by omega) (by omega)) fun a h0=>?_
  refine L h0 rfl rfl (Av h0 rfl rfl rfl G.u86 G.b84 (by simp) hcp) fun a h0=>?_
  (first|refine L h0 rfl rfl (aa h0 (.inl rfl) rfl) fun a h0=>?_|refine L h0 rfl rfl (aa h0 (.inr rfl) rfl) fun a h0=>?_|refine L h0 rfl rfl (ab h0 rfl rfl) fun a h0=>?_)
  have h0:SL 168 [(0,Ptr b 0),(4,.slice (some ⟨g,0,none⟩) V.length cap),(7,iv x)] a:=h0.keep [0,4,7]
  have y4:Wy w4 R3 (.slice (some ⟨g,0,none⟩) V.length cap) V:=Wy.of c4 dR (by omega) hmx (tc ht)
  have hMV:kc E V+1≤kc E (V++ [(x,kx)]):=by rw[iY];omega
  refine Le (ah (NW.mono (Q:=fun e a w5=>e= .normal∧∃L',SL 168 [(0,Ptr b 0),(4,.slice (some ⟨g,0,none⟩) V.length cap),(7,iv x)] a∧Up [1,2,3,4,5,6,7,8] R R3 w w5∧Wy w5 R3 (.slice (some ⟨g,0,none⟩) V.length cap) V∧Fs w5 R3 b N lo E k3 {p3 with L:=L'}) ?_ ?_))
  ·refine ah (ae ?_)
   (first|refine L h0 rfl rfl (aa h0 (.inl rfl) rfl) fun a h0=>?_|refine L h0 rfl rfl (aa h0 (.inr rfl) rfl) fun a h0=>?_|refine L h0 rfl rfl (ab h0 rfl rfl) fun a h0=>?_)
   refine L h0 rfl rfl (aM h0 rfl rfl G.u86) fun a h0=>?_
   refine L h0 rfl rfl (aG h0 rfl rfl rfl rfl) fun a h0=>?_
   refine Le (ar (h0.ev rfl) (fun hc=>ah (ae ?_)) (fun hc=>aw ⟨rfl,p3.L,h0.keep [0,4,7],u34,y4,F4⟩))
   have hVp:0<V.length:=by simpa using hc
   obtain⟨V',⟨y,ky⟩,rfl⟩:=(List.eq_nil_or_concat V).resolve_left (fun e=>by subst e;simp at hVp)
   rw[List.concat_eq_append]at*
   obtain⟨gy1,_⟩:=ta (tc ht)
   have fQ:y<N:=(W3.sb y (T3.sub.subset (by simp))).1
   have hgy1:cs.toArray[V'.length*2+0]? =some (iv y):=by simpa using gy1
   (first|refine L h0 rfl rfl (aa h0 (.inl rfl) rfl) fun a h0=>?_|refine L h0 rfl rfl (aa h0 (.inr rfl) rfl) fun a h0=>?_|refine L h0 rfl rfl (ab h0 rfl rfl) fun a h0=>?_);(first|refine L h0 rfl rfl (aa h0 (.inl rfl) rfl) fun a h0=>?_|refine L h0 rfl rfl (aa h0 (.inr rfl) rfl) fun a h0=>?_|refine L h0 rfl rfl (ab h0 rfl rfl) fun a h0=>?_)
   refine L h0 rfl rfl (aM h0 rfl rfl G.u86) fun a h0=>?_
   refine L h0 rfl rfl (iu (V'.length:Nat) h0 rfl rfl rfl (by simp) (by omega) (by simp at hVN;omega)) fun a h0=>?_
   refine L h0 rfl rfl (yn h0 rfl rfl rfl G.u86 G.b84 rfl (by simp)) fun a h0=>?_
   (first|refine L h0 rfl rfl (aa h0 (.inl rfl) rfl) fun a h0=>?_|refine L h0 rfl rfl (aa h0 (.inr rfl) rfl) fun a h0=>?_|refine L h0 rfl rfl (ab h0 rfl rfl) fun a h0=>?_|refine L h0 rfl rfl (ak h0 rfl rfl (by first|exact G.fa _ (by decide)|exact G.g0|exact G.g1)) fun a h0=>?_|refine L h0 rfl rfl (ai h0 rfl rfl (by first|exact G.o24|exact G.o3|exact G.o63|exact G.o32) (F4.box).1 rfl) fun a h0=>?_)
   refine L h0 rfl rfl (ai h0 rfl rfl G.o3 c4.1 hgy1) fun a h0=>?_
   (first|refine L h0 rfl rfl (aa h0 (.inl rfl) rfl) fun a h0=>?_|refine L h0 rfl rfl (aa h0 (.inr rfl) rfl) fun a h0=>?_|refine L h0 rfl rfl (ab h0 rfl rfl) fun a h0=>?_)
   have h0:SL 168 [(0,Ptr b 0),(4,.slice (some ⟨g,0,none⟩) (V'++ [(y,ky)]).length cap),(7,iv x),(8,iv y)] a:=h0.keep [0,4,7,8]
   refine Le (jO (R:=R3) 21 G.mix (by kernel_rfl) fun w7 u7=>?_)
   have F7:=F4.up u7 (by simp)
   have y7:=y4.up u7 (by decide)
   (first|refine T h0 rfl rfl (aa h0 (.inl rfl) rfl) fun a h0=>?_|refine T h0 rfl rfl (aa h0 (.inr rfl) rfl) fun a h0=>?_|refine T h0 rfl rfl (ab h0 rfl rfl) fun a h0=>?_|refine T h0 rfl rfl (ak h0 rfl rfl (by first|exact G.fa _ (by decide)|exact G.g0|exact G.g1)) fun a h0=>?_|refine T h0 rfl rfl (ai h0 rfl rfl (by first|exact G.o24|exact G.o3|exact G.o63|exact G.o32) (F7.box).1 rfl) fun a h0=>?_);(first|refine T h0 rfl rfl (aa h0 (.inl rfl) rfl) fun a h0=>?_|refine T h0 rfl rfl (aa h0 (.inr rfl) rfl) fun a h0=>?_|refine T h0 rfl rfl (ab h0 rfl rfl) fun a h0=>?_|refine T h0 rfl rfl (ak h0 rfl rfl (by first|exact G.fa _ (by decide)|exact G.g0|exact G.g1)) fun a h0=>?_|refine T h0 rfl rfl (ai h0 rfl rfl (by first|exact G.o24|exact G.o3|exact G.o63|exact G.o32) (F7.box).1 rfl) fun a h0=>?_);(first|refine T h0 rfl rfl (aa h0 (.inl rfl) rfl) fun a h0=>?_|refine T h0 rfl rfl (aa h0 (.inr rfl) rfl) fun a h0=>?_|refine T h0 rfl rfl (ab h0 rfl rfl) fun a h0=>?_|refine T h0 rfl rfl (ak h0 rfl rfl (by first|exact G.fa _ (by decide)|exact G.g0|exact G.g1)) fun a h0=>?_|refine T h0 rfl rfl (ai h0 rfl rfl (by first|exact G.o24|exact G.o3|exact G.o63|exact G.o32) (F7.box).1 rfl) fun a h0=>?_);(first|refine T h0 rfl rfl (aa h0 (.inl rfl) rfl) fun a h0=>?_|refine T h0 rfl rfl (aa h0 (.inr rfl) rfl) fun a h0=>?_|refine T h0 rfl rfl (ab h0 rfl rfl) fun a h0=>?_|refine T h0 rfl rfl (ak h0 rfl rfl (by first|exact G.fa _ (by decide)|exact G.g0|exact G.g1)) fun a h0=>?_|refine T h0 rfl rfl (ai h0 rfl rfl (by first|exact G.o24|exact G.o3|exact G.o63|exact G.o32) (F7.box).1 rfl) fun a h0=>?_);(first|refine T h0 rfl rfl (aa h0 (.inl rfl) rfl) fun a h0=>?_|refine T h0 rfl rfl (aa h0 (.inr rfl) rfl) fun a h0=>?_|refine T h0 rfl rfl (ab h0 rfl rfl) fun a h0=>?_|refine T h0 rfl rfl (ak h0 rfl rfl (by first|exact G.fa _ (by decide)|exact G.g0|exact G.g1)) fun a h0=>?_|refine T h0 rfl rfl (ai h0 rfl rfl (by first|exact G.o24|exact G.o3|exact G.o63|exact G.o32) (F7.box).1 rfl) fun a h0=>?_);(first|refine T h0 rfl rfl (aa h0 (.inl rfl) rfl) fun a h0=>?_|refine T h0 rfl rfl (aa h0 (.inr rfl) rfl) fun a h0=>?_|refine T h0 rfl rfl (ab h0 rfl rfl) fun a h0=>?_|refine T h0 rfl rfl (ak h0 rfl rfl (by first|exact G.fa _ (by decide)|exact G.g0|exact G.g1)) fun a h0=>?_|refine T h0 rfl rfl (ai h0 rfl rfl (by first|exact G.o24|exact G.o3|exact G.o63|exact G.o32) (F7.box).1 rfl) fun a h0=>?_);(first|refine T h0 rfl rfl (aa h0 (.inl rfl) rfl) fun a h0=>?_|refine T h0 rfl rfl (aa h0 (.inr rfl) rfl) fun a h0=>?_|refine T h0 rfl rfl (ab h0 rfl rfl) fun a h0=>?_|refine T h0 rfl rfl (ak h0 rfl rfl (by first|exact G.fa _ (by decide)|exact G.g0|exact G.g1)) fun a h0=>?_|refine T h0 rfl rfl (ai h0 rfl rfl (by first|exact G.o24|exact G.o3|exact G.o63|exact G.o32) (F7.box).1 rfl) fun a h0=>?_);(first|refine T h0 rfl rfl (aa h0 (.inl rfl) rfl) fun a h0=>?_|refine T h0 rfl rfl (aa h0 (.inr rfl) rfl) fun a h0=>?_|refine T h0 rfl rfl (ab h0 rfl rfl) fun a h0=>?_|refine T h0 rfl rfl (ak h0 rfl rfl (by first|exact G.fa _ (by decide)|exact G.g0|exact G.g1)) fun a h0=>?_|refine T h0 rfl rfl (ai h0 rfl rfl (by first|exact G.o24|exact G.o3|exact G.o63|exact G.o32) (F7.box).1 rfl) fun a h0=>?_);(first|refine T h0 rfl rfl (aa h0 (.inl rfl) rfl) fun a h0=>?_|refine T h0 rfl rfl (aa h0 (.inr rfl) rfl) fun a h0=>?_|refine T h0 rfl rfl (ab h0 rfl rfl) fun a h0=>?_|refine T h0 rfl rfl (ak h0 rfl rfl (by first|exact G.fa _ (by decide)|exact G.g0|exact G.g1)) fun a h0=>?_|refine T h0 rfl rfl (ai h0 rfl rfl (by first|exact G.o24|exact G.o3|exact G.o63|exact G.o32) (F7.box).1 rfl) fun a h0=>?_);(first|refine T h0 rfl rfl (aa h0 (.inl rfl) rfl) fun a h0=>?_|refine T h0 rfl rfl (aa h0 (.inr rfl) rfl) fun a h0=>?_|refine T h0 rfl rfl (ab h0 rfl rfl) fun a h0=>?_|refine T h0 rfl rfl (ak h0 rfl rfl (by first|exact G.fa _ (by decide)|exact G.g0|exact G.g1)) fun a h0=>?_|refine T h0 rfl rfl (ai h0 rfl rfl (by first|exact G.o24|exact G.o3|exact G.o63|exact G.o32) (F7.box).1 rfl) fun a h0=>?_)
   refine T h0 rfl rfl (aH h0 rfl rfl rfl G.u24 G.o3 fQ) fun a h0=>?_
   refine T h0 rfl rfl (ai (v:=iv ((p3.L[y]'(by omega)):Nat)) h0 rfl rfl G.o3 F7.low.1 (by simp[hl3,fQ])) fun a h0=>?_
   (first|refine T h0 rfl rfl (aa h0 (.inl rfl) rfl) fun a h0=>?_|refine T h0 rfl rfl (aa h0 (.inr rfl) rfl) fun a h0=>?_|refine T h0 rfl rfl (ab h0 rfl rfl) fun a h0=>?_|refine T h0 rfl rfl (ak h0 rfl rfl (by first|exact G.fa _ (by decide)|exact G.g0|exact G.g1)) fun a h0=>?_|refine T h0 rfl rfl (ai h0 rfl rfl (by first|exact G.o24|exact G.o3|exact G.o63|exact G.o32) (F7.box).1 rfl) fun a h0=>?_);(first|refine T h0 rfl rfl (aa h0 (.inl rfl) rfl) fun a h0=>?_|refine T h0 rfl rfl (aa h0 (.inr rfl) rfl) fun a h0=>?_|refine T h0 rfl rfl (ab h0 rfl rfl) fun a h0=>?_|refine T h0 rfl rfl (ak h0 rfl rfl (by first|exact G.fa _ (by decide)|exact G.g0|exact G.g1)) fun a h0=>?_|refine T h0 rfl rfl (ai h0 rfl rfl (by first|exact G.o24|exact G.o3|exact G.o63|exact G.o32) (F7.box).1 rfl) fun a h0=>?_);(first|refine T h0 rfl rfl (aa h0 (.inl rfl) rfl) fun a h0=>?_|refine T h0 rfl rfl (aa h0 (.inr rfl) rfl) fun a h0=>?_|refine T h0 rfl rfl (ab h0 rfl rfl) fun a h0=>?_|refine T h0 rfl rfl (ak h0 rfl rfl (by first|exact G.fa _ (by decide)|exact G.g0|exact G.g1)) fun a h0=>?_|refine T h0 rfl rfl (ai h0 rfl rfl (by first|exact G.o24|exact G.o3|exact G.o63|exact G.o32) (F7.box).1 rfl) fun a h0=>?_);(first|refine T h0 rfl rfl (aa h0 (.inl rfl) rfl) fun a h0=>?_|refine T h0 rfl rfl (aa h0 (.inr rfl) rfl) fun a h0=>?_|refine T h0 rfl rfl (ab h0 rfl rfl) fun a h0=>?_|refine T h0 rfl rfl (ak h0 rfl rfl (by first|exact G.fa _ (by decide)|exact G.g0|exact G.g1)) fun a h0=>?_|refine T h0 rfl rfl (ai h0 rfl rfl (by first|exact G.o24|exact G.o3|exact G.o63|exact G.o32) (F7.box).1 rfl) fun a h0=>?_);(first|refine T h0 rfl rfl (aa h0 (.inl rfl) rfl) fun a h0=>?_|refine T h0 rfl rfl (aa h0 (.inr rfl) rfl) fun a h0=>?_|refine T h0 rfl rfl (ab h0 rfl rfl) fun a h0=>?_|refine T h0 rfl rfl (ak h0 rfl rfl (by first|exact G.fa _ (by decide)|exact G.g0|exact G.g1)) fun a h0=>?_|refine T h0 rfl rfl (ai h0 rfl rfl (by first|exact G.o24|exact G.o3|exact G.o63|exact G.o32) (F7.box).1 rfl) fun a h0=>?_)
   refine T h0 rfl rfl (aH h0 rfl rfl rfl G.u24 G.o3 hxN) fun a h0=>?_
   refine T h0 rfl rfl (ai (v:=iv ((p3.L[x]'(by omega)):Nat)) h0 rfl rfl G.o3 F7.low.1 (by simp[hl3,hxN])) fun a h0=>?_
   refine T h0 rfl rfl (vV h0 rfl rfl rfl) fun a h0=>?_
   refine T h0 rfl rfl (aH h0 rfl rfl rfl G.u24 G.o3 fQ) fun a h0=>?_
   refine Te (Lst h0 rfl rfl rfl rfl rfl G.o3 rfl rfl F7.low (by simp;omega) fun w8 lx u8=>?_)
   have F8:Fs w8 R3 b N lo E k3 {p3 with L:=p3.L.set (0+y) (min (p3.L[y]'(by omega)) (p3.L[x]'(by omega)))}:=by
    obtain⟨bx,ix,_,ox,sx,rx,⟨xs,gl,gx,gr⟩,ed,hi,hl,ho,hf⟩:=F7
    ((try have bx:=bx.up u8 (by decide));(try have ix:=ix.up u8 (by decide));(try have lx:=lx.up u8 (by decide));(try have ox:=ox.up u8 (by decide));(try have sx:=sx.up u8 (by decide));(try have rx:=rx.up u8 (by decide));(try have gx:=gx.up u8 (by decide));(try have gr:=cD gr u8 (by decide));(try have ed:=ed.up u8 (by decide));(try have cx:=cx.up u8 (by decide)))
    exact⟨bx,ix,by rw[←xv];exact lx,ox,sx,rx,⟨xs,gl,gx,gr⟩,ed,hi,by simpa using hl,ho,hf⟩
   exact Le ⟨rfl,_,h0.keep [0,4,7],u34.trans ((u7.mono (by simp)).trans (u8.mono (by simp))),y7.up u8 (by decide),F8⟩
  rintro _ a w5 ⟨rfl,L',h0,u5,y5,F5⟩
  have hl5:L'.length=N:=F5.lL
  refine ah (j0 (R:=R3) G.mix (by kernel_rfl) fun w6 u6=>?_)
  have F6:=F5.up u6 (by simp)
  have y6:=y5.up u6 (by decide)
  have u56:=u5.trans (u6.mono (by simp))
  (first|refine T h0 rfl rfl (aa h0 (.inl rfl) rfl) fun a h0=>?_|refine T h0 rfl rfl (aa h0 (.inr rfl) rfl) fun a h0=>?_|refine T h0 rfl rfl (ab h0 rfl rfl) fun a h0=>?_|refine T h0 rfl rfl (ak h0 rfl rfl (by first|exact G.fa _ (by decide)|exact G.g0|exact G.g1)) fun a h0=>?_|refine T h0 rfl rfl (ai h0 rfl rfl (by first|exact G.o24|exact G.o3|exact G.o63|exact G.o32) (F6.box).1 rfl) fun a h0=>?_);(first|refine T h0 rfl rfl (aa h0 (.inl rfl) rfl) fun a h0=>?_|refine T h0 rfl rfl (aa h0 (.inr rfl) rfl) fun a h0=>?_|refine T h0 rfl rfl (ab h0 rfl rfl) fun a h0=>?_|refine T h0 rfl rfl (ak h0 rfl rfl (by first|exact G.fa _ (by decide)|exact G.g0|exact G.g1)) fun a h0=>?_|refine T h0 rfl rfl (ai h0 rfl rfl (by first|exact G.o24|exact G.o3|exact G.o63|exact G.o32) (F6.box).1 rfl) fun a h0=>?_);(first|refine T h0 rfl rfl (aa h0 (.inl rfl) rfl) fun a h0=>?_|refine T h0 rfl rfl (aa h0 (.inr rfl) rfl) fun a h0=>?_|refine T h0 rfl rfl (ab h0 rfl rfl) fun a h0=>?_|refine T h0 rfl rfl (ak h0 rfl rfl (by first|exact G.fa _ (by decide)|exact G.g0|exact G.g1)) fun a h0=>?_|refine T h0 rfl rfl (ai h0 rfl rfl (by first|exact G.o24|exact G.o3|exact G.o63|exact G.o32) (F6.box).1 rfl) fun a h0=>?_);(first|refine T h0 rfl rfl (aa h0 (.inl rfl) rfl) fun a h0=>?_|refine T h0 rfl rfl (aa h0 (.inr rfl) rfl) fun a h0=>?_|refine T h0 rfl rfl (ab h0 rfl rfl) fun a h0=>?_|refine T h0 rfl rfl (ak h0 rfl rfl (by first|exact G.fa _ (by decide)|exact G.g0|exact G.g1)) fun a h0=>?_|refine T h0 rfl rfl (ai h0 rfl rfl (by first|exact G.o24|exact G.o3|exact G.o63|exact G.o32) (F6.box).1 rfl) fun a h0=>?_);(first|refine T h0 rfl rfl (aa h0 (.inl rfl) rfl) fun a h0=>?_|refine T h0 rfl rfl (aa h0 (.inr rfl) rfl) fun a h0=>?_|refine T h0 rfl rfl (ab h0 rfl rfl) fun a h0=>?_|refine T h0 rfl rfl (ak h0 rfl rfl (by first|exact G.fa _ (by decide)|exact G.g0|exact G.g1)) fun a h0=>?_|refine T h0 rfl rfl (ai h0 rfl rfl (by first|exact G.o24|exact G.o3|exact G.o63|exact G.o32) (F6.box).1 rfl) fun a h0=>?_)
  refine T h0 rfl rfl (aH h0 rfl rfl rfl G.u24 G.o3 hxN) fun a h0=>?_
  refine T h0 rfl rfl (ai (v:=iv ((L'[x]'(by omega)):Nat)) h0 rfl rfl G.o3 F6.low.1 (by simp[hl5,hxN])) fun a h0=>?_
  (first|refine T h0 rfl rfl (aa h0 (.inl rfl) rfl) fun a h0=>?_|refine T h0 rfl rfl (aa h0 (.inr rfl) rfl) fun a h0=>?_|refine T h0 rfl rfl (ab h0 rfl rfl) fun a h0=>?_|refine T h0 rfl rfl (ak h0 rfl rfl (by first|exact G.fa _ (by decide)|exact G.g0|exact G.g1)) fun a h0=>?_|refine T h0 rfl rfl (ai h0 rfl rfl (by first|exact G.o24|exact G.o3|exact G.o63|exact G.o32) (F6.box).1 rfl) fun a h0=>?_);(first|refine T h0 rfl rfl (aa h0 (.inl rfl) rfl) fun a h0=>?_|refine T h0 rfl rfl (aa h0 (.inr rfl) rfl) fun a h0=>?_|refine T h0 rfl rfl (ab h0 rfl rfl) fun a h0=>?_|refine T h0 rfl rfl (ak h0 rfl rfl (by first|exact G.fa _ (by decide)|exact G.g0|exact G.g1)) fun a h0=>?_|refine T h0 rfl rfl (ai h0 rfl rfl (by first|exact G.o24|exact G.o3|exact G.o63|exact G.o32) (F6.box).1 rfl) fun a h0=>?_);(first|refine T h0 rfl rfl (aa h0 (.inl rfl) rfl) fun a h0=>?_|refine T h0 rfl rfl (aa h0 (.inr rfl) rfl) fun a h0=>?_|refine T h0 rfl rfl (ab h0 rfl rfl) fun a h0=>?_|refine T h0 rfl rfl (ak h0 rfl rfl (by first|exact G.fa _ (by decide)|exact G.g0|exact G.g1)) fun a h0=>?_|refine T h0 rfl rfl (ai h0 rfl rfl (by first|exact G.o24|exact G.o3|exact G.o63|exact G.o32) (F6.box).1 rfl) fun a h0=>?_);(first|refine T h0 rfl rfl (aa h0 (.inl rfl) rfl) fun a h0=>?_|refine T h0 rfl rfl (aa h0 (.inr rfl) rfl) fun a h0=>?_|refine T h0 rfl rfl (ab h0 rfl rfl) fun a h0=>?_|refine T h0 rfl rfl (ak h0 rfl rfl (by first|exact G.fa _ (by decide)|exact G.g0|exact G.g1)) fun a h0=>?_|refine T h0 rfl rfl (ai h0 rfl rfl (by first|exact G.o24|exact G.o3|exact G.o63|exact G.o32) (F6.box).1 rfl) fun a h0=>?_);(first|refine T h0 rfl rfl (aa h0 (.inl rfl) rfl) fun a h0=>?_|refine T h0 rfl rfl (aa h0 (.inr rfl) rfl) fun a h0=>?_|refine T h0 rfl rfl (ab h0 rfl rfl) fun a h0=>?_|refine T h0 rfl rfl (ak h0 rfl rfl (by first|exact G.fa _ (by decide)|exact G.g0|exact G.g1)) fun a h0=>?_|refine T h0 rfl rfl (ai h0 rfl rfl (by first|exact G.o24|exact G.o3|exact G.o63|exact G.o32) (F6.box).1 rfl) fun a h0=>?_)
  refine T h0 rfl rfl (aH h0 rfl rfl rfl G.u24 G.o3 hxN) fun a h0=>?_
  refine T h0 rfl rfl (ai (v:=iv ((p3.I[x]'(by omega)):Nat)) h0 rfl rfl G.o3 F6.idx.1 (by simp[hi3,hxN])) fun a h0=>?_
  refine T h0 rfl rfl (aG h0 rfl rfl rfl rfl) fun a h0=>?_
  refine Te (ar (h0.ev rfl) (fun hc=>ae ?_) (fun hc=>aw ?_))
  ·(first|refine L h0 rfl rfl (aa h0 (.inl rfl) rfl) fun a h0=>?_|refine L h0 rfl rfl (aa h0 (.inr rfl) rfl) fun a h0=>?_|refine L h0 rfl rfl (ab h0 rfl rfl) fun a h0=>?_);(first|refine L h0 rfl rfl (aa h0 (.inl rfl) rfl) fun a h0=>?_|refine L h0 rfl rfl (aa h0 (.inr rfl) rfl) fun a h0=>?_|refine L h0 rfl rfl (ab h0 rfl rfl) fun a h0=>?_)
   refine Lc (vs:=[Ptr b 0,iv x]) h0 rfl rfl rfl rfl rfl B.b40.ok (vT G B H F6 hxS (fun s hs=>(W3.sb s hs).1) (by have:=u56.1.size;omega) (by simp only;omega) (by simp only;omega)) fun r w7 a hr h0=>?_
   obtain⟨R7,s7,g7,i7,ys,O',F',u7,hi7,hp7,hF7,F7⟩:=hr
   refine Le ⟨_,?_,R7,_,_,_,V,rfl,h0.keep [0,4],y6.up u7 (by decide),F7,W3.low.grp hi7 hp7 hF7,?_,u56.trans (u7.mono (by simp))⟩
   ·rw[hm];simp only;omega
   ·have:TJ N (V.map Prod.fst++ [x]) p3.S p3.I:=by simpa using T3
    exact this.cut hi7
  ·refine⟨_,?_,R3,_,_,_,V,rfl,h0.keep [0,4],y6,F6,W3.low,?_,u56⟩
   ·rw[hm];simp only;omega
   ·have:TJ N (V.map Prod.fst++ [x]) p3.S p3.I:=by simpa using T3
    exact this.pop
end Go.TL.H.Gq
