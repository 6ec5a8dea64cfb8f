/- The layer: Go code as conditions, and that they are sound. No condition. -/
import Derived.Test.YtdmbjejhifjhbaaGreatDoorT01
import Derived.Laws.BytesString
import Derived.Laws.IdiomCopy
import Derived.Lib.ConvBytes
import Derived.Lib.FrozenHead
import Derived.Lib.TrimByte
import Derived.MapKept
set_option linter.all false
set_option maxRecDepth 100000
section
namespace Go.AL
variable [Tabs]
section
variable {P:Program} {C:Cfg} {o:Oper}
theorem pM(w:World)(g:Nat)(cs:Array Value):(w.setRow g cs).os=w.os/\(w.setRow g cs).tape=w.tape/\(w.setRow g cs).output=w.output/\(w.setRow g cs).heap.size=w.heap.size:=by simp[World.setRow]
theorem lT(b:Nat):∀(vs:List Value)(o:Nat)(w:World),(w.setCells b o vs).os=w.os/\(w.setCells b o vs).tape=w.tape/\(w.setCells b o vs).output=w.output/\
  (w.setCells b o vs).heap.size=w.heap.size/\(∀i,i≠b->(w.setCells b o vs).heap[i]?=w.heap[i]?)/\∀i,(w.setCells b o vs).shape? i=w.shape? i
 |[],_,_=>⟨rfl,rfl,rfl,rfl,fun _ _=>rfl,fun _=>rfl⟩
 |v::r,o,w=>by
  obtain⟨h1,h2,h3,h4,h5,h6⟩:=lT b r (o+1) (w.setCell ⟨b,o,none⟩ v);refine⟨h1,h2,h3,h4.trans (by simp[World.setCell]),fun i hi=>(h5 i hi).trans ?_,fun i=>(h6 i).trans ?_⟩
  ·simp only[World.setCell];rw[Oj,N3 (fun e=>hi e.symm)]
  ·simp only[World.setCell,World.shape?];rw[Oj];by_cases e:b=i
   ·subst e;rw[N6 rfl]
    cases hb:w.heap[b]? with
    |none=>rfl
    |some x=>cases x<;>simp
   ·rw[N3 e]
theorem oE{r:TR}{c v c':AV}{off:Nat}(h:w6 r c off v=some c') :
  (aa v).all ng=true/\(aa v).length=r.size/\∃ds,splice (aa c) off (aa v)=some ds/\aa c'=ds:=by
 unfold w6 at h;split at h
 ·rename_i hl;simp only[N4]at hl;refine⟨hl.1,cD _ _ hl.2,?_⟩
  have gy:∀{off:Nat},(match splice (aa c) off (aa v)with|some cs=>some (AV.agg cs)|none=>none)=some c'->
    ∃ds,splice (aa c) off (aa v)=some ds/\aa c'=ds:=by
   intro off h;split at h
   ·rename_i cs hcs;simp only[Xs]at h;subst h;exact⟨cs,hcs,rfl⟩
   ·cases h
  split at h
  ·split at h
   ·rename_i hcl;simp only[Xs]at h;subst h;refine⟨_,?_,rfl⟩;have e:(aa c).length=(aa v).length:=by rw[cD _ _ hcl,cD _ _ hl.2]
    have ov:∀(xs ys:List AV),xs.length=ys.length->lK xs ys=some ys:=by
     intro xs
     induction xs with
     |nil=>intro ys hy;cases ys with
      |nil=>rfl
      |cons _ _=>cases hy
     |cons x xs ih=>intro ys hy;cases ys with
      |nil=>cases hy
      |cons y ys=>simp[lK,ih ys (by simpa using hy)]
    have:=ov _ _ e;generalize aa c=cs at *
    cases cs<;>simpa[splice]using this
   ·exact gy h
  ·exact gy h
 ·cases h
theorem bH.rd{Ω:Om}{own:Nat->Nat->Prop}{id:Nat}{c d:AV}(h:bH Ω own id (.box c))(r:RdL (aa c) (aa d)):bH Ω own id (.box d):=by
 obtain⟨b,off,e1,e2⟩:=h;refine⟨b,off,by rw[<-r.1];exact e1,fun j d' hd'=>?_⟩
 have hj:j<(aa c).length:=by
  rw[r.1];rcases Nv j (aa d).length with k|k
  ·exact k
  ·rw[Nd k]at hd';cases hd'
 obtain⟨k1,k2,k3,v,k4,k5⟩:=e2 j _ (N9 hj);exact⟨k1,k2,k3,v,k4,r.2 j _ d' (N9 hj) hd' _ _ k5⟩
theorem RdL.append{as bs cs ds:List AV}(h:RdL as bs)(k:RdL cs ds):RdL (as++cs) (bs++ds):=by
 refine⟨by simp[h.1,k.1],fun j c d hc hd=>?_⟩;by_cases hj:j<as.length
 ·rw[Nq hj]at hc;rw[Nq (by rw[<-h.1];exact hj)]at hd;exact h.2 j c d hc hd
 ·rw[Nr (by omega)]at hc;rw[Nr (by rw[<-h.1];omega),<-h.1]at hd;exact k.2 _ c d hc hd
theorem y9:∀(xs ys zs ds:List AV),lK xs ys=some ds->lK (xs++zs) ys=some (ds++zs)
 |xs,[],zs,ds,h=>by simp[lK]at h;subst h;cases xs<;>simp[lK]
 |[],y::ys,zs,ds,h=>by simp[lK]at h
 |x::xs,y::ys,zs,ds,h=>by
  simp only[lK]at h;split at h
  ·rename_i l hl;simp at h;subst h;simp[lK,y9 xs ys zs l hl]
  ·cases h
theorem rY:∀(xs:List AV)(n:Nat)(ys zs ds:List AV),splice xs n ys=some ds->splice (xs++zs) n ys=some (ds++zs)
 |xs,0,ys,zs,ds,h=>by
  have e:∀xs:List AV,splice xs 0 ys=lK xs ys:=by intro xs;cases xs<;>rfl
  rw[e]at h⊢;exact y9 _ _ _ _ h
 |[],n+1,ys,zs,ds,h=>by simp[splice]at h
 |x::xs,n+1,ys,zs,ds,h=>by
  simp only[splice]at h;split at h
  ·rename_i l hl;simp at h;subst h;simp[splice,rY xs n ys zs l hl]
  ·cases h
theorem rZ:∀(as xs bs ys ds:List AV)(n m:Nat),splice xs n ys=some ds->as.length=m->splice (as++xs++bs) (m+n) ys=some (as++ds++bs)
 |[],xs,bs,ys,ds,n,m,h,hm=>by simp at hm;subst hm;simpa using rY xs n ys bs ds h
 |a::as,xs,bs,ys,ds,n,m,h,hm=>by
  cases m with|zero=>simp at hm|succ m=>have:=rZ as xs bs ys ds n m h (by simpa using hm);rw[show m+1+n=(m+n)+1 by omega];simp only[NY,splice,this]
theorem Holds.store{F:Fr}{s:AS}{a:Act}{Ω:Om}(h:Holds F s a Ω){id g bo len off:Nat}{c c':AV}{pv ds:List AV}{vs:List Value}{dst:Option Nat}
 (hcs:s.B id=some (.box c))(hxb:Ω.e id=some (.box g bo len))(hds:splice (aa c) off pv=some ds)(hvl:VL Ω pv vs)(hlf:pv.all ng=true)
 (hrd:RdL ds (aa c'))(hpos:0<pv.length)(hd:∀d,dst=some d->d<F.n) :
  (storeCells ⟨g,bo+off,none⟩ vs 0).run P Ω.w=.ok () (Ω.w.setCells g (bo+off) vs)/\
   Holds F ⟨dY s.T dst .undef,updB s.B [(id,.box c')]⟩ (a.put dst undef) ⟨Ω.e,Ω.w.setCells g (bo+off) vs,Ω.pub⟩:=by
 obtain⟨g',bo',e1,e2⟩:=h.slots id _ hcs;rw[hxb]at e1;simp only[Xs,CObj.box.injEq]at e1;obtain⟨rfl,rfl,rfl⟩:=e1;obtain⟨s1,s2⟩:=gd _ _ _ _ hds;have hyl:vs.length=pv.length:=hvl.1.symm;have hin:∀j,j<vs.length->off+j<(aa c).length:=by intro j hj;rw[hyl]at hj;omega
 have hsome:∀j,j<vs.length->(Ω.w.cell? ⟨g,bo+off+j,none⟩).isSome=true:=by intro j hj;obtain⟨_,_,_,v,hv,_⟩:=e2 (off+j) _ (N9 (hin j hj));rw[OR,hv];rfl
 have hfrz:∀j,j<vs.length->Ω.w.frozen? ⟨g,bo+off+j,none⟩=false:=by intro j hj;rw[OR];exact(e2 (off+j) _ (N9 (hin j hj))).2.2.1
 have hst:=run_storeCells_cells (P:=P) g (bo+off) vs 0 Ω.w (by simpa using hsome) (by simpa using hfrz) (hvl.leaf_one hlf);simp only[P5]at hst;obtain⟨q1,q2,q3,q4,q5,q6⟩:=lT g vs (bo+off) Ω.w
 have hout:∀b o',(b=g->o'<bo+off∨bo+off+pv.length<=o')->(Ω.w.setCells g (bo+off) vs).cell? ⟨b,o',none⟩=Ω.w.cell? ⟨b,o',none⟩:=
  fun b o' hb=>World.cell?_setCells_out g _ _ _ _ (fun e _=>by rw[hyl];exact hb e)
 have hrange:∀b o',b=g->¬(o'<bo+off∨bo+off+pv.length<=o')->∃j c0,o'=bo+j/\(aa c)[j]?=some c0:=by
  intro b o' _ hno;have hlt:o'-bo<(aa c).length:=by omega
  exact⟨o'-bo,_,by omega,N9 hlt⟩
 have hpubout:∀b o',Ω.pub b o'->(Ω.w.setCells g (bo+off) vs).cell? ⟨b,o',none⟩=Ω.w.cell? ⟨b,o',none⟩:=by
  intro b o' p;refine hout b o' (fun e=>?_);subst e;rcases Decidable.em (o'<bo+off∨bo+off+pv.length<=o')with k|k
  ·exact k
  ·obtain⟨j,c0,rfl,hj⟩:=hrange b o' rfl k;exact absurd p (e2 j c0 hj).2.1
 have hx':Ext Ω ⟨Ω.e,Ω.w.setCells g (bo+off) vs,Ω.pub⟩:=
  ⟨fun i c hc=>⟨c,hc,CLe.refl c⟩,fun _ _ p=>p,hpubout⟩
 have hplen:ds.length=(aa c).length:=by rw[s2];simp;omega
 have hh:Holds F ⟨dY s.T dst .undef,updB s.B [(id,.box c')]⟩ (a.put dst undef) ⟨Ω.e,Ω.w.setCells g (bo+off) vs,Ω.pub⟩:=h.step hx' (.undef undef) hd
  (fun id' o' ho'=>by
   simp only[jc]at ho';by_cases hid:id=id'
   ·subst hid;simp at ho';subst ho';refine bH.rd (c:=.agg ds) ?_ hrd;refine⟨g,bo,by show _=some (CObj.box g bo ds.length);rw[hplen];exact hxb,fun j d hd'=>?_⟩;have hd':ds[j]?=some d:=hd'
    have hj:j<ds.length:=by
     rcases Nv j ds.length with k|k
     ·exact k
     ·rw[Nd k]at hd';cases hd'
    have hj2:j<(aa c).length:=by omega
    obtain⟨k1,k2,k3,v,k4,k5⟩:=e2 j _ (N9 hj2);refine⟨k1,k2,(World.frozen?_setCells g _ _ _ _).trans k3,?_⟩;rw[s2]at hd';by_cases hlo:j<off
    ·refine⟨v,(hout g (bo+j) (fun _=>Or.inl (by omega))).trans k4,?_⟩;rw[Nl,Nq (by simp;omega),NP,N6 hlo,N9 hj2]at hd';simp only[Xs]at hd';subst hd';exact k5.ext hx'
    ·by_cases hhi:j<off+pv.length
     ·have hjl:j-off<vs.length:=by omega
      have hcell:=World.cell?_setCells_in g vs (bo+off) Ω.w hsome (j-off) hjl;rw[show bo+off+(j-off)=bo+j by omega]at hcell;refine⟨_,hcell,?_⟩;have htl:(List.take off (aa c)).length=off:=by simp;omega
      rw[Nl,Nr (by omega),htl,Nq (by omega)]at hd';exact(hvl.2 (j-off) d _ hd' (N9 hjl)).ext hx'
     ·refine⟨v,(hout g (bo+j) (fun _=>Or.inr (by omega))).trans k4,?_⟩;have htl:(List.take off (aa c)++pv).length=off+pv.length:=by simp;omega
      rw[Nr (by omega),htl,O6,show off+pv.length+(j-(off+pv.length))=j by omega,N9 hj2]at hd';simp only[Xs]at hd';subst hd';exact k5.ext hx'
   ·rw[N3 hid]at ho';refine(h.slots id' o' ho').keep hx' rfl (fun c0 hc0=>?_)
    cases c0 with
    |box b2 o2 l2=>
     intro oo h1 h2;refine⟨hout b2 oo (fun e=>?_),World.frozen?_setCells g _ _ _ _,fun p=>p⟩;subst e;rcases Decidable.em (oo<bo+off∨bo+off+pv.length<=oo)with k|k
     ·exact k
     ·exact absurd (h.inj id id' _ _ b2 oo hxb hc0 ⟨rfl,by omega,by omega⟩ ⟨rfl,h1,h2⟩) hid
    |tail n base cap=>intro b2 hb2;refine⟨q5 b2 (fun e=>?_),fun _ p=>p⟩;subst e;exact hid (h.inj id id' _ _ b2 bo hxb hc0 ⟨rfl,Nf _,by omega⟩ hb2)
    |bld b2 g=>
     intro b3 hb3;refine⟨q5 b3 (fun e=>?_),fun _ p=>p⟩;subst e;exact hid (h.inj id id' _ _ b3 bo hxb hc0 ⟨rfl,Nf _,by omega⟩ hb3))
  (fun id' hid'=>by
   simp only[jc]at hid';by_cases hid:id=id'
   ·simp[hid]at hid'
   ·rw[N3 hid]at hid';exact h.dom id' hid')
  h.inj
  (fun b o' p=>by
   obtain⟨v,hv⟩:=h.pubok b o' p;exact⟨v,by rw[hx'.cell b o' p,hv]⟩)
  ⟨q1.trans h.frame.os,q2.trans h.frame.tape,q3.trans h.frame.output,by rw[q4];exact h.frame.size,
   fun b hb hnb=>(q5 b (fun e=>by
    subst e;have:=(e2 off _ (N9 (by omega))).1;rcases this with k|k
    ·omega
    ·exact hnb _ k)).trans (h.frame.block b hb hnb),
   fun b o' hb hnb=>(hout b o' (fun e=>by
    subst e;rcases Decidable.em (o'<bo+off∨bo+off+pv.length<=o')with k|k
    ·exact k
    ·obtain⟨j,c0,rfl,hj⟩:=hrange b o' rfl k;rcases(e2 j c0 hj).1 with k2|k2
     ·omega
     ·exact absurd k2 hnb)).trans (h.frame.cell b o' hb hnb),
   fun b hb hnb=>⟨(q6 b).trans (h.frame.kind b hb hnb).1,fun o'=>(World.frozen?_setCells g _ _ _ _).trans ((h.frame.kind b hb hnb).2 o')⟩,
   h.frame.pub,h.frame.old,fun b o hp=>(hx'.cell b o (h.frame.old b o hp)).trans (h.frame.pcell b o hp)⟩
 exact⟨hst,hh⟩
theorem E7(hT:cq P C.tbl){t:Nat}{x y:Operand}(hop:o.op=.store t x y){r:TR}(hr:bE C.tbl t=some r){id i w off:Nat}{F:Fr}{s:AS}{a:Act}{Ω:Om}{eff:Eff}
 {next:Act->World->Prop}{Q:Exit->Act->World->Prop}(hopd:opd s.T x=.aptr id i w off){τ:Ty}{xs:List (den τ)}(hcs:s.B id=some (.box (.row τ xs)))
 (h:Holds F s a Ω)(hpos:0<r.size)(hd:∀d,o.dst=some d->d<F.n)(he:rK r id τ xs i w off (opd s.T y)=some eff)(ho:eff.asks)
 (hn:∀a' Ω',Holds F (s.put o.dst eff) a' Ω'->next a' Ω'.w):o.wp P a Ω.w next Q:=by
 have hx:=ct h x;have hy:=ct h y;rw[hopd]at hx;obtain⟨g,bo,len,hxv,hxb⟩:=hx.aptr_inv;unfold rK at he;split at he
 ·rename_i hw;subst hw;split at he
  ·rename_i c2 hst;split at he
   ·rename_i x' hx';simp only[Xs]at he;subst he;have hi:i<xs.length:=ho;obtain⟨hlf,hlen,ds,hds,hpc⟩:=oE hst;have hyp:=hy.parts hlf;have hyl':(a.eval y).cells.size=r.size:=by have:=hyp.1;rw[hlen]at this;simpa using this.symm
    rw[mM]at hds;have hsplit:∀z:den τ,bD τ (xs.set i z)=bD τ (xs.take i)++cells τ z++bD τ (xs.drop (i+1)):=by intro z;rw[PH,N6 hi,fO];simp[bD]
    have hself:bD τ xs=bD τ (xs.take i)++cells τ (xs.getD i (dfl τ))++bD τ (xs.drop (i+1)):=by rw[<-hsplit];congr 1;simp[Nb,hi]
    have htl:(bD τ (xs.take i)).length=i *ag τ:=by rw[cp,OP,Nat.min_eq_left (Nat.le_of_lt hi)]
    have hbig:splice (aa (.row τ xs)) (i *ag τ+off) (aa (opd s.T y))=some (bD τ (xs.take i)++ds++bD τ (xs.drop (i+1))):=by show splice (bD τ xs) _ _=_;rw[hself];exact rZ _ _ _ _ _ _ _ hds htl
    have hrd:RdL (bD τ (xs.take i)++ds++bD τ (xs.drop (i+1))) (aa (.row τ (xs.set i x'))):=by show RdL _ (bD τ (xs.set i x'));rw[hsplit];exact((RdL.refl _).append (by rw[<-hpc];exact dA τ hx')).append (RdL.refl _)
    obtain⟨hst,hh⟩:=h.store (P:=P) (dst:=o.dst) (c':=.row τ (xs.set i x')) hcs hxb hbig hyp hlf hrd (by omega) hd;refine oz (w':=Ω.w.setCells g (bo+(i *ag τ+off)) (a.eval y).cells.toList) ?_ (hn _ _ hh);simp only[execOp,hop,hxv,Instr.storeAt,Instr.sureAddr,storeVar,NA,NN,Nh,(hT t r hr).tf.size,hyl'];simp only[ne_eq,PI,ND,hst,Nh]
   ·simp at he
  ·simp at he
 ·simp at he
theorem Holds.tell{F:Fr}{s:AS}{a:Act}{Ω:Om}(h:Holds F s a Ω){k m b cap:Nat}{τ:Ty}{x0 x:den τ}{vs:List Value}{dst:Option Nat}
 (hB:s.B k=some (.tailp τ m x0))(he:Ω.e k=some (.tail (m+1) (some b) cap))(hvl:VL Ω (cells τ x) vs)(hd:∀d,dst=some d->d<F.n) :
  ∃Ω',(storeCells ⟨b,m *ag τ,none⟩ vs 0).run P Ω.w=.ok () Ω'.w/\Holds F ⟨dY s.T dst .undef,updB s.B [(k,.tailp τ m x)]⟩ (a.put dst undef) Ω':=by
 obtain⟨b',cap',e1,e2,e3,hown,⟨cur,ty,fz,hg,hfz,hfit⟩,hpub,_⟩:=h.slots k _ hB;rw[he]at e1;simp only[Xs,CObj.tail.injEq,NZ]at e1;obtain⟨rfl,rfl⟩:=e1;have hvn:vs.length=ag τ:=by rw[<-hvl.1,bG]
 have hmul:(m+1) *ag τ<=cap *ag τ:=O8 _ e2;rw[NT,PD]at hmul;have hst:=Q8 P b (m *ag τ) ty fz vs 0 cur Ω.w hg (by omega) (by simp;omega) (hvl.leaf_one (rN τ x));simp only[P5]at hst;have hg':=setRow_heap Ω.w b cur (cur.toList.take (m *ag τ)++vs++cur.toList.drop (m *ag τ+vs.length)).toArray ty fz hg;have hsz:(cur.toList.take (m *ag τ)++vs++cur.toList.drop (m *ag τ+vs.length)).toArray.size=cur.size:=by simp;omega
 obtain⟨q1,q2,q3,q4⟩:=pM Ω.w b (cur.toList.take (m *ag τ)++vs++cur.toList.drop (m *ag τ+vs.length)).toArray
 have hcellold:∀b' o,Ω.pub b' o->(Ω.w.setRow b (cur.toList.take (m *ag τ)++vs++cur.toList.drop (m *ag τ+vs.length)).toArray).cell? ⟨b',o,none⟩=Ω.w.cell? ⟨b',o,none⟩:=by
  intro b' o hp;by_cases hb:b'=b
  ·subst hb;rw[aT hg',aT hg]
   have hlt:o<m *ag τ:=by
    rcases Nv o (m *ag τ)with k|k
    ·exact k
    ·exact absurd hp (hpub o k)
   simp only[Oi];rw[Nl,Nq (by simp;omega),NP,N6 hlt,NH]
  ·exact aF (Oe _ _ _ _ hb) o
 have hx:Ext Ω ⟨fun i=>if k=i then some (.tail (m+1) (some b) cap)else Ω.e i,
   Ω.w.setRow b (cur.toList.take (m *ag τ)++vs++cur.toList.drop (m *ag τ+vs.length)).toArray,Ω.pub⟩:=by
  refine⟨fun i c hc=>?_,fun _ _ p=>p,hcellold⟩;by_cases hi:k=i
  ·subst hi;rw[he]at hc;simp at hc;subst hc;exact⟨_,by simp,CLe.refl _⟩
  ·exact⟨c,by simp[hi,hc],CLe.refl c⟩
 refine⟨_,hst,h.slot hx ?_ (fun i c' hi hc=>pK.of_blocks fun b' o hb=>?_) (fun i c' b' o hi hc hb hb'=>hi (h.inj i k _ _ b' o hc he hb hb')) (fun b' o hp=>?_) ?_ (.undef _) hd⟩
 ·refine⟨b,cap,by simp,e2,e3,hown,⟨_,ty,fz,hg',hfz,by rw[hsz];exact hfit⟩,hpub,fun j c hc=>?_⟩
  have hj:j<vs.length:=by
   rw[<-hvl.1];rcases Nv j (cells τ x).length with q|q
   ·exact q
   ·rw[Nd q]at hc;cases hc
  refine⟨vs[j],?_,(hvl.2 j c _ hc (N9 hj)).ext hx⟩;show World.cell? _ _=_;rw[aT hg'];have htl:(List.take (m *ag τ) cur.toList).length=m *ag τ:=by simp;omega
  simp only[Oi];rw[Nl,Nr (by omega),htl,PE,Nq hj,N9 hj]
 ·have hbg:b'≠b:=fun e=>by subst e;exact hi (h.inj i k _ _ b' o hc he hb rfl)
  exact⟨Oe _ _ _ _ hbg,fun o ho'=>ho'⟩
 ·obtain⟨v,hv⟩:=h.pubok b' o hp;exact⟨v,by rw[hcellold b' o hp,hv]⟩
 ·have hnotold:∀b',b'<F.w0.heap.size->(¬∀o,F.br b' o)->b'≠b:=by
   intro b' hb hnb e;subst e;refine hnb (fun o=>?_);rcases hown o with ho'|ho'
   ·omega
   ·exact ho'
  refine⟨q1.trans h.frame.os,q2.trans h.frame.tape,q3.trans h.frame.output,by rw[q4];exact h.frame.size,fun b' hb hnb=>?_,fun b' o hb hnb=>?_,fun b' hb=>?_,h.frame.pub,h.frame.old,fun b' o hp=>(hx.cell b' o (h.frame.old b' o hp)).trans (h.frame.pcell b' o hp)⟩
  ·exact(Oe _ _ _ _ (hnotold b' hb (fun k=>hnb 0 (k 0)))).trans (h.frame.block b' hb hnb)
  ·exact(aF (Oe _ _ _ _ (hnotold b' hb (fun k=>hnb (k o)))) o).trans (h.frame.cell b' o hb hnb)
  ·intro hnb;have hbg:=hnotold b' hb hnb;exact⟨(bZ (Oe _ _ _ _ hbg)).trans (h.frame.kind b' hb hnb).1,fun o=>(bC (Oe _ _ _ _ hbg) o).trans ((h.frame.kind b' hb hnb).2 o)⟩
theorem H0(hT:cq P C.tbl){t:Nat}{x y:Operand}(hop:o.op=.store t x y):dq P C o:=by
 intro F s a Ω eff next Q h hd he ho hn
 simp only[aQ,hop]at he;have hx:=ct h x;have hy:=ct h y;split at he
 ·rename_i r hr;split at he
  ·rename_i hz;split at he
   ·rename_i id off hopd hpa;simp only[Xs]at he;subst he;rw[hopd]at hx;obtain⟨g,bo,len,hxv,hxb⟩:=hx.ptr_inv;have hp:=hy.parts (by rw[hpa];rfl);have hnil:(a.eval y).cells.toList=[]:=by have:=hp.1;rw[hpa]at this;exact OT.1 this.symm
    have hsz:(a.eval y).cells.size=r.size:=by rw[hz,<-Pb,hnil];rfl
    refine oz (w':=Ω.w) ?_ (hn _ _ (h.pure (.undef _) hd));simp only[execOp,hop,hxv,Instr.storeAt,Instr.sureAddr,storeVar,NA,NN,Nh,(hT t r hr).tf.size,hsz];simp only[ne_eq,PI,ND,hnil];rfl
   ·simp at he
  rename_i hsz0;have hpos:0<r.size:=by rw[hsz0];exact Nat.succ_pos _
  split at he
  ·rename_i id off hopd;rw[hopd]at hx;obtain⟨g,bo,len,hxv,hxb⟩:=hx.ptr_inv;split at he
   ·rename_i c hcs;split at he
    ·rename_i c' hst;simp only[Xs]at he;subst he;obtain⟨hlf,hlen,ds,hds,hpc⟩:=oE hst;have hyp:=hy.parts hlf;have hyl':(a.eval y).cells.size=r.size:=by have:=hyp.1;rw[hlen]at this;simpa using this.symm
     obtain⟨hst,hh⟩:=h.store (P:=P) (dst:=o.dst) hcs hxb hds hyp hlf (by rw[hpc];exact RdL.refl _) (by omega) hd;refine oz (w':=Ω.w.setCells g (bo+off) (a.eval y).cells.toList) ?_ (hn _ _ hh);simp only[execOp,hop,hxv,Instr.storeAt,Instr.sureAddr,storeVar,NA,NN,Nh,(hT t r hr).tf.size,hyl'];simp only[ne_eq,PI,ND,hst,Nh]
    ·simp at he
   ·simp at he
  ·rename_i id i w off hopd;split at he
   ·rename_i τ xs hcs;exact E7 hT hop hr hopd hcs h hpos hd he ho hn
   ·simp at he
  ·rename_i τ n k hopd;rw[hopd]at hx;split at he
   ·rename_i τ' m x0 hB;split at he
    ·rename_i hτ;subst hτ;split at he
     ·rename_i v hv;split at he
      ·rename_i hck;simp only[Xs]at he;subst he;have hnm:n=m:=ho;subst hnm;simp only[N4,Nat.beq_eq]at hck;obtain⟨hlf,hln,hrw⟩:=hck;have hlen:=cD _ _ hln;have hyp:=hy.parts hlf;have hyl':(a.eval y).cells.size=r.size:=by have:=hyp.1;rw[hlen]at this;simpa using this.symm
       generalize hxe:a.eval x=xv at hx
       cases hx with
       |tptr _ _ _ p hp=>obtain⟨b',cap',e1,e2,_⟩:=h.slots k _ hB;obtain⟨m',base,cap2,r1,r2,r3⟩:=hp;rw[e1]at r1;simp only[Xs,CObj.tail.injEq]at r1;obtain⟨rfl,rfl,rfl⟩:=r1;obtain⟨b2,g1,rfl⟩:=r3 rfl;simp only[Xs]at g1;subst g1;obtain⟨Ω',hst,hh⟩:=h.tell (P:=P) (dst:=o.dst) hB e1 (hyp.rd (dA _ hv)) hd;refine oz (w':=Ω'.w) ?_ (hn _ _ hh);simp only[execOp,hop,hxe,Instr.storeAt,Instr.sureAddr,storeVar,NA,NN,Nh,(hT t r hr).tf.size,hyl'];simp only[ne_eq,PI,ND,hst,Nh]
      ·simp at he
     ·simp at he
    ·simp at he
   ·simp at he
  ·simp at he
 ·simp at he
theorem yb(w:World)(t ty e:Nat)(i:TypeInfo)(ht:P.underlying t=some (.slice e))(hi:P.info? e=some i)
 (g sLen sCap bt:Nat)(cur:Array Value)(fz:Nat×Nat)(hg:w.heap[g]?=some (.cells cur bt fz))(hfz:fz.2<=sLen *i.size)
 (a:Addr)(m c:Nat)(news:List Value)(hl:news.length=m *i.size)(hnews:∀j u,news[j]?=some u->w.cell? (a.add j)=some u)(h1:∀u∈news,u.oneCell'=true)
 (hroom:sLen+m<=sCap)(hfit:sLen *i.size+news.length<=cur.size) :
  (Builtin.append_ #[t,t] ty #[.slice (some ⟨g,0,none⟩) sLen sCap,.slice (some a) m c]).run P w=
   .ok (.slice (some ⟨g,0,none⟩) (sLen+m) sCap) (w.setRow g (cur.toList.take (sLen *i.size)++news++cur.toList.drop (sLen *i.size+news.length)).toArray):=by
 have hf:=Q0 (P:=P) w i.size m a m c news hl hnews;have hst:=Q8 P g (sLen *i.size) bt fz news 0 cur w hg (by simpa using hfz) (by simpa using hfit) h1;simp only[P5]at hst;simp[Builtin.append_,Ny ht,sizeOf,typeInfo,hi,Builtin.lenOf,hroom,hf,Addr.add_lit,hst]
theorem kf(w:World)(t ty e:Nat)(i:TypeInfo)(ht:P.underlying t=some (.slice e))(hi:P.info? e=some i)
 (x:Option Addr)(sLen sCap:Nat)(h:sLen<=sCap) :
  (Builtin.append_ #[t,t] ty #[.slice x sLen sCap,.slice none 0 0]).run P w=.ok (.slice x sLen sCap) w:=by
 cases x<;>simp[Builtin.append_,Ny ht,sizeOf,typeInfo,hi,Builtin.lenOf,h,Builtin.firstCells,storeCells]
theorem nt(w:World)(t ty e:Nat)(i:TypeInfo)(ht:P.underlying t=some (.slice e))(hi:P.info? e=some i)(a:Addr)(c:Nat) :
  (Builtin.append_ #[t,t] ty #[.slice none 0 0,.slice (some a) 0 c]).run P w=.ok (.slice none 0 0) w:=by
 have hf:=Q0 (P:=P) w i.size 0 a 0 c [] (by simp) (fun j v h=>by simp at h);simp[Builtin.append_,Ny ht,sizeOf,typeInfo,hi,Builtin.lenOf,hf]
theorem mO(b off j:Nat):(⟨b,off,none⟩:Addr).add j=⟨b,off+j,none⟩:=by unfold Addr.add;split<;>simp_all
theorem V.src{Ω:Om}{τ:Ty}{ys:List (den τ)}{o:Option Nat}{v:Value}(h:V Ω (.lst τ ys o) v) :
  (v=.slice none 0 0/\ys=[])∨∃a c us,v=.slice (some a) ys.length c/\us.length=ys.length *ag τ/\VL Ω (bD τ ys) us/\
   (∀j u,us[j]?=some u->Ω.w.cell? (a.add j)=some u)/\(∀u∈us,u.oneCell'=true):=by
 rcases h.lst_inv with⟨h1,hv,_⟩|⟨h1,_,a0,hv⟩|⟨b,off,cap,vals,hv,h1,h2,h3,h4,h5⟩
 ·exact Or.inl ⟨hv,h1⟩
 ·subst h1;exact Or.inr ⟨a0,0,[],hv,by simp,⟨rfl,fun j c v hc=>by simp[bD]at hc⟩,fun j u hj=>by simp at hj,fun u hu=>by simp at hu⟩
 ·obtain⟨us,u1,u2,u3⟩:=V.row_cells h4 h5;refine Or.inr ⟨⟨b,off,none⟩,cap,us,hv,u1,u2,fun j u hj=>?_,u2.leaf_one (DZ τ ys)⟩;rw[mO];exact u3 j u hj
theorem iz(w:World)(bq old e:Nat)(h:bq<=cm):bq<=grownCap w bq old e/\grownCap w bq old e<=cm:=by have h1:=grownCap_ge w bq old e;have h2:=grownCap_le_maxLen w bq old e (by unfold cm at h;unfold maxLen;omega);unfold maxLen at h2;unfold cm;exact⟨h1,by omega⟩
theorem Holds.grow{F:Fr}{s:AS}{a:Act}{Ω:Om}{k bq old e:Nat}{τ:Ty}{zs:List (den τ)}{rest:List Value}{us:List Value}{dst:Option Nat}
 (h:Holds F s a Ω)(hn:Ω.e k=none∨∃n base cap,Ω.e k=some (.tail n base cap)/\n<zs.length)(hz:zs.length=bq)(hneed:bq<=cm)
 (hu:VL Ω (bD τ zs) us)(hrest:rest.length=(grownCap Ω.w bq old e-bq) *ag τ)(hd:∀d,dst=some d->d<F.n) :
  ∃Ω',Ω'.w=Ω.w.drew.alloc (.cells (us++rest).toArray e)/\
   Holds F ⟨dY s.T dst (.lst τ zs (some k)),updB s.B [(k,.tail τ zs.length)]⟩ (a.put dst (.slice (some ⟨Ω.w.heap.size,0,none⟩) bq (grownCap Ω.w bq old e))) Ω':=by
 subst hz;obtain⟨g1,g2⟩:=iz Ω.w zs.length old e hneed;have hul:us.length=zs.length *ag τ:=by rw[<-hu.1,cp]
 have hx0:Ext Ω ⟨Ω.e,Ω.w.drew,Ω.pub⟩:=⟨fun _ c hc=>⟨c,hc,CLe.refl c⟩,fun _ _ p=>p,fun _ _ _=>rfl⟩;have h':=h.drew
 refine⟨_,rfl,h'.alloc (d:=k) (c:=.tail zs.length (some Ω.w.heap.size) (grownCap Ω.w zs.length old e)) (x:=.cells (us++rest).toArray e) (p:=fun o=>o<zs.length *ag τ) ?_ (fun b o hb=>by simpa[occ]using hb.symm)
  (fun hx=>?_) (fun o ho=>?_) (fun hx=>?_) hd⟩
 ·rcases hn with hn|⟨n,base,cap,hn,hlt⟩
  ·exact Or.inl hn
  ·exact Or.inr ⟨_,hn,by simp[CLe];omega⟩
 ·refine⟨some Ω.w.heap.size,grownCap Ω.w zs.length old e,by simp,g1,g2,by simp,fun b hb=>?_⟩;simp at hb;subst hb;refine⟨fun _=>Or.inl h.frame.size,_,e,(0,0),dt _ _,rfl,?_,fun o ho hp=>?_⟩
  ·simp[hul,hrest,<-NT];rw[show zs.length+(grownCap Ω.w zs.length old e-zs.length)=grownCap Ω.w zs.length old e from by omega];exact Nf _
  ·rcases hp with hp|⟨_,hp⟩
   ·have:=h.cell_lt hp;omega
   ·omega
 ·have hc:=aT (dt Ω.w.drew (.cells (us++rest).toArray e)) o;exact⟨us[o]'(by omega),hc.trans (by simp[PU,hul,ho])⟩
 ·refine rX (vs:=us) (dt _ _) (by rw[<-hul];simp) ((hu.ext hx0).ext hx) g1 g2 (fun i hi=>Or.inr ⟨rfl,hi⟩) ?_;intro id hid;simp at hid;subst hid;exact⟨zs.length,some Ω.w.heap.size,_,by simp,Nf _,fun _=>rfl⟩
theorem Holds.same{F:Fr}{s:AS}{a:Act}{Ω:Om}{k:Nat}{τ:Ty}{xs:List (den τ)}{n:Nat}{v:Value}{dst:Option Nat}
 (h:Holds F s a Ω)(hB:s.B k=some (.tail τ n))(hn:xs.length=n)(hv:V Ω (.lst τ xs (some k)) v)(hd:∀d,dst=some d->d<F.n) :
  Holds F ⟨dY s.T dst (.lst τ (xs++[]) (some k)),updB s.B [(k,.tail τ (xs++[]).length)]⟩ (a.put dst v) Ω:=by
 have e:updB s.B [(k,.tail τ (xs++[]).length)]=s.B:=by
  funext j;rw[jc];by_cases hj:k=j
  ·subst hj;simp[hB,hn]
  ·simp[hj]
 rw[e,OD];exact h.pure hv hd
theorem Holds.room{F:Fr}{s:AS}{a:Act}{Ω:Om}{k g cap ty:Nat}{τ:Ty}{xs ys:List (den τ)}{cur:Array Value}{olds news:List Value}{dst:Option Nat}
 (h:Holds F s a Ω)(he:Ω.e k=some (.tail xs.length (some g) cap))(hown:∀o,F.own g o){fz:Nat×Nat}(hg:Ω.w.heap[g]?=some (.cells cur ty fz))(hfz:fz.2=0)
 (hfit:cap *ag τ<=cur.size)(hpub:∀o,xs.length *ag τ<=o->¬Ω.pub g o)(hroom:xs.length+ys.length<=cap)(hcap:cap<=cm)
 (ho:VL Ω (bD τ xs) olds)(hoc:∀j u,olds[j]?=some u->Ω.w.cell? ⟨g,j,none⟩=some u)(hnw:VL Ω (bD τ ys) news)
 (hxp:∀i,i<xs.length *ag τ->Ω.pub g i)(hd:∀d,dst=some d->d<F.n) :
  ∃Ω',Ω'.w=Ω.w.setRow g (cur.toList.take (xs.length *ag τ)++news++cur.toList.drop (xs.length *ag τ+news.length)).toArray/\
   Holds F ⟨dY s.T dst (.lst τ (xs++ys) (some k)),updB s.B [(k,.tail τ (xs++ys).length)]⟩ (a.put dst (.slice (some ⟨g,0,none⟩) (xs.length+ys.length) cap)) Ω':=by
 have hol:olds.length=xs.length *ag τ:=by rw[<-ho.1,cp]
 have hnl:news.length=ys.length *ag τ:=by rw[<-hnw.1,cp]
 have hmul:(xs.length+ys.length) *ag τ<=cap *ag τ:=O8 _ hroom;rw[NT]at hmul
 have htake:cur.toList.take (xs.length *ag τ)=olds:=by
  apply Qf;intro j;rw[NP];split
  ·rename_i hj;obtain⟨u,hu⟩:∃u,olds[j]?=some u:=⟨_,N9 (by omega)⟩;have:=hoc j u hu;rw[aT hg]at this;rw[hu,NH,this]
  ·rename_i hj;rw[Nd (by omega)]
 have hg':=setRow_heap Ω.w g cur (cur.toList.take (xs.length *ag τ)++news++cur.toList.drop (xs.length *ag τ+news.length)).toArray ty fz hg;have hsz:(cur.toList.take (xs.length *ag τ)++news++cur.toList.drop (xs.length *ag τ+news.length)).toArray.size=cur.size:=by simp;omega
 obtain⟨q1,q2,q3,q4⟩:=pM Ω.w g (cur.toList.take (xs.length *ag τ)++news++cur.toList.drop (xs.length *ag τ+news.length)).toArray
 have hcellold:∀b o,Ω.pub b o->(Ω.w.setRow g (cur.toList.take (xs.length *ag τ)++news++cur.toList.drop (xs.length *ag τ+news.length)).toArray).cell? ⟨b,o,none⟩=Ω.w.cell? ⟨b,o,none⟩:=by
  intro b o hp;by_cases hb:b=g
  ·subst hb;rw[aT hg',aT hg]
   have hlt:o<xs.length *ag τ:=by
    rcases Nv o (xs.length *ag τ)with k|k
    ·exact k
    ·exact absurd hp (hpub o k)
   simp only[Oi];rw[Nl,Nq (by simp;omega),NP,N6 hlt,NH]
  ·exact aF (Oe _ _ _ _ hb) o
 have hx:Ext Ω ⟨fun i=>if k=i then some (.tail (xs.length+ys.length) (some g) cap)else Ω.e i,
   Ω.w.setRow g (cur.toList.take (xs.length *ag τ)++news++cur.toList.drop (xs.length *ag τ+news.length)).toArray,
   fun b o=>Ω.pub b o∨(b=g/\o<(xs.length+ys.length) *ag τ)⟩:=by
  refine⟨fun i c hc=>?_,fun _ _ p=>Or.inl p,hcellold⟩;by_cases hi:k=i
  ·subst hi;rw[he]at hc;simp at hc;subst hc;exact⟨_,by simp;rfl,by simp[CLe]⟩
  ·exact⟨c,by simp[hi,hc],CLe.refl c⟩
 have hzl:(xs++ys).length=xs.length+ys.length:=N5;refine⟨_,rfl,h.slot hx ?_ (fun i c' hi hc=>pK.of_blocks fun b o hb=>?_) (fun i c' b o hi hc hb hb'=>?_) (fun b o hp=>?_) ?_ ?_ hd⟩
 ·rw[hzl];refine⟨some g,cap,by simp,hroom,hcap,by simp,fun b hb=>?_⟩;simp at hb;subst hb;refine⟨hown,_,ty,fz,hg',hfz,by rw[hsz];exact hfit,fun o ho' hp=>?_⟩;rw[NT]at ho';rcases hp with hp|⟨_,hp⟩
  ·exact hpub o (by omega) hp
  ·rw[NT]at hp;omega
 ·have hbg:b≠g:=fun e=>by subst e;exact hi (h.inj i k _ _ b o hc he hb rfl)
  exact⟨Oe _ _ _ _ hbg,fun o ho'=>ho'.resolve_right (fun e=>hbg e.1)⟩
 ·exact hi (h.inj i k _ _ b o hc he hb hb')
 ·rcases hp with hp|⟨rfl,hp⟩
  ·obtain⟨v,hv⟩:=h.pubok b o hp;exact⟨v,by rw[hcellold b o hp,hv]⟩
  ·rw[aT hg'];rw[NT]at hp;exact⟨_,P1 (by rw[hsz];omega)⟩
 ·have hnotold:∀b,b<F.w0.heap.size->(¬∀o,F.br b o)->b≠g:=by
   intro b hb hnb e;subst e;refine hnb (fun o=>?_);rcases hown o with ho'|ho'
   ·omega
   ·exact ho'
  refine⟨q1.trans h.frame.os,q2.trans h.frame.tape,q3.trans h.frame.output,by rw[q4];exact h.frame.size,fun b hb hnb=>?_,fun b o hb hnb=>?_,fun b hb=>?_,fun b o hp=>?_,fun b o hp=>Or.inl (h.frame.old b o hp),fun b o hp=>(hx.cell b o (h.frame.old b o hp)).trans (h.frame.pcell b o hp)⟩
  ·exact(Oe _ _ _ _ (hnotold b hb (fun k=>hnb 0 (k 0)))).trans (h.frame.block b hb hnb)
  ·exact(aF (Oe _ _ _ _ (hnotold b hb (fun k=>hnb (k o)))) o).trans (h.frame.cell b o hb hnb)
  ·intro hnb;have hbg:=hnotold b hb hnb;exact⟨(bZ (Oe _ _ _ _ hbg)).trans (h.frame.kind b hb hnb).1,fun o=>(bC (Oe _ _ _ _ hbg) o).trans ((h.frame.kind b hb hnb).2 o)⟩
  ·rcases hp with hp|⟨rfl,_⟩
   ·exact h.frame.pub b o hp
   ·exact Or.inr (hown o)
 ·have:=rX (Ω:=⟨fun i=>if k=i then some (.tail (xs.length+ys.length) (some g) cap)else Ω.e i,
   Ω.w.setRow g (cur.toList.take (xs.length *ag τ)++news++cur.toList.drop (xs.length *ag τ+news.length)).toArray,
   fun b o=>Ω.pub b o∨(b=g/\o<(xs.length+ys.length) *ag τ)⟩) (τ:=τ) (xs:=xs++ys) (o:=some k) (cap:=cap) (vs:=olds++news) hg'
   (by
    rw[hzl,htake];rw[Pj (by simp[hol,hnl,NT]),OJ (by simp[hol,hnl,NT])])
   (by rw[fO];exact(ho.ext hx).append (hnw.ext hx)) (by rw[hzl];exact hroom) hcap
   (fun i hi=>by
    rw[hzl]at hi;exact Or.inr ⟨rfl,hi⟩)
   (by
    intro id hid;simp at hid;subst hid;exact⟨xs.length+ys.length,some g,cap,by simp,by rw[hzl];exact Nf _,fun _=>by rw[hzl];rfl⟩)
  rw[hzl]at this;exact this
theorem aX{w w':World}{a:Act}{x y:Operand}{t t':Nat}{v:Value}(hop:o.op=.call {callee:=.builtin .append,args:=#[x,y],argTypes:=#[t,t']})
 (h:(Builtin.append_ #[t,t'] o.type #[a.eval x,a.eval y]).run P w=.ok v w'):(execOp a.eval o).run P w=.ok (.value v) w':=by
 simp[execOp,hop,resolve,invoke,builtin,h]
theorem V.mkP{Ω:Om}{τ:Ty}{xs:List (den τ)}{k g cap:Nat}(hv:V Ω (.lst τ xs none) (.slice (some ⟨g,0,none⟩) xs.length cap))(hc:xs.length+1<=cap)
 (ht:ie Ω (some k) (xs.length+1) (.slice (some ⟨g,0,none⟩) (xs.length+1) cap)):V Ω (.lstp τ xs k) (.slice (some ⟨g,0,none⟩) (xs.length+1) cap):=by
 rcases hv.lst_inv with⟨_,hv,_⟩|⟨_,_,a0,hv⟩|⟨b,off,cap',vals,hv,h1,h2,h3,h4,h5⟩
 ·cases hv
 ·simp only[Od]at hv;omega
 ·simp only[Od,Xs,OX,NZ,NX]at hv;obtain⟨⟨rfl,rfl⟩,rfl⟩:=hv;exact .lstp τ xs k g 0 cap vals hc h2 ht h4 h5
theorem Holds.growP{F:Fr}{s:AS}{a:Act}{Ω:Om}{k bq old e:Nat}{τ:Ty}{xs:List (den τ)}{z:den τ}{rest us:List Value}{dst:Option Nat}
 (h:Holds F s a Ω)(hn:Ω.e k=none∨∃n base cap,Ω.e k=some (.tail n base cap)/\n<xs.length+1)(hz:bq=xs.length+1)(hneed:bq<=cm)
 (hu:VL Ω (bD τ (xs++[z])) us)(hrest:rest.length=(grownCap Ω.w bq old e-bq) *ag τ)(hd:∀d,dst=some d->d<F.n) :
  ∃Ω',Ω'.w=Ω.w.drew.alloc (.cells (us++rest).toArray e)/\
   Holds F ⟨dY s.T dst (.lstp τ xs k),updB s.B [(k,.tailp τ xs.length z)]⟩ (a.put dst (.slice (some ⟨Ω.w.heap.size,0,none⟩) bq (grownCap Ω.w bq old e))) Ω':=by
 subst hz;obtain⟨g1,g2⟩:=iz Ω.w (xs.length+1) old e hneed;have hul:us.length=(xs.length+1) *ag τ:=by rw[<-hu.1,cp];simp
 have hmul:(xs.length+1) *ag τ=xs.length *ag τ+ag τ:=by rw[NT,PD]
 have hx0:Ext Ω ⟨Ω.e,Ω.w.drew,Ω.pub⟩:=⟨fun _ c hc=>⟨c,hc,CLe.refl c⟩,fun _ _ p=>p,fun _ _ _=>rfl⟩;have h':=h.drew;have hflat:bD τ (xs++[z])=bD τ xs++cells τ z:=by rw[fO];simp[bD]
 have hfl:(bD τ xs).length=xs.length *ag τ:=cp τ xs
 have hua:VL Ω (bD τ xs) (us.take (xs.length *ag τ)):=by
  have:=hu;rw[hflat]at this;refine⟨by simp;omega,fun j c v hc hv=>?_⟩
  have hj:j<(bD τ xs).length:=by
   rcases Nv j (bD τ xs).length with q|q
   ·exact q
   ·rw[Nd q]at hc;cases hc
  refine this.2 j c v (by rw[Nq hj];exact hc) ?_;rw[NP]at hv;split at hv
  ·exact hv
  ·cases hv
 have hsize:xs.length *ag τ+ag τ<=(us++rest).toArray.size:=by simp;omega
 refine⟨_,rfl,h'.alloc (d:=k) (c:=.tail (xs.length+1) (some Ω.w.heap.size) (grownCap Ω.w (xs.length+1) old e)) (x:=.cells (us++rest).toArray e) (p:=fun o=>o<xs.length *ag τ) ?_ (fun b o hb=>by simpa[occ]using hb.symm)
  (fun hx=>?_) (fun o ho=>?_) (fun hx=>?_) hd⟩
 ·rcases hn with hn|⟨n,base,cap,hn,hlt⟩
  ·exact Or.inl hn
  ·exact Or.inr ⟨_,hn,by simp[CLe];omega⟩
 ·refine⟨Ω.w.heap.size,grownCap Ω.w (xs.length+1) old e,by simp,g1,g2,fun _=>Or.inl h.frame.size,⟨_,e,(0,0),dt _ _,rfl,?_⟩,fun o ho hp=>?_,fun j c hc=>?_⟩
  ·simp[hul,hrest,<-NT];rw[show xs.length+1+(grownCap Ω.w (xs.length+1) old e-(xs.length+1))=grownCap Ω.w (xs.length+1) old e from by omega];exact Nf _
  ·rcases hp with hp|⟨_,hp⟩
   ·have:=h.cell_lt hp;omega
   ·omega
  ·have hj:j<ag τ:=by
    rw[<-bG τ z];rcases Nv j (cells τ z).length with q|q
    ·exact q
    ·rw[Nd q]at hc;cases hc
   have hjl:xs.length *ag τ+j<us.length:=by omega
   refine⟨us[xs.length *ag τ+j],?_,?_⟩
   ·have hcell:=aT (dt Ω.w.drew (.cells (us++rest).toArray e)) (xs.length *ag τ+j);exact hcell.trans (by simp[PU,hjl])
   ·refine((hu.2 (xs.length *ag τ+j) c _ ?_ (N9 hjl)).ext hx0).ext hx;rw[hflat,Nr (by omega),hfl,PE];exact hc
 ·have hc:=aT (dt Ω.w.drew (.cells (us++rest).toArray e)) o;exact⟨us[o]'(by omega),hc.trans (by simp[PU,show o<us.length by omega])⟩
 ·have hv:=rX (τ:=τ) (xs:=xs) (o:=none) (cap:=grownCap Ω.w (xs.length+1) old e) (vs:=us.take (xs.length *ag τ)) (dt Ω.w.drew (.cells (us++rest).toArray e)) (by
    rw[Pj (by omega)]) ((hua.ext hx0).ext hx) (by omega) g2 (fun i hi=>Or.inr ⟨rfl,hi⟩) (fun id hid=>by cases hid)
  refine V.mkP hv g1 ?_;intro id hid;simp at hid;subst hid;exact⟨xs.length+1,some Ω.w.heap.size,_,by simp,Nf _,fun _=>rfl⟩
theorem Holds.roomP{F:Fr}{s:AS}{a:Act}{Ω:Om}{k g cap ty:Nat}{τ:Ty}{xs:List (den τ)}{z:den τ}{cur:Array Value}{olds news:List Value}{dst:Option Nat}
 (h:Holds F s a Ω)(he:Ω.e k=some (.tail xs.length (some g) cap))(hown:∀o,F.own g o){fz:Nat×Nat}(hg:Ω.w.heap[g]?=some (.cells cur ty fz))(hfz:fz.2=0)
 (hfit:cap *ag τ<=cur.size)(hpub:∀o,xs.length *ag τ<=o->¬Ω.pub g o)(hroom:xs.length+1<=cap)(hcap:cap<=cm)
 (ho:VL Ω (bD τ xs) olds)(hoc:∀j u,olds[j]?=some u->Ω.w.cell? ⟨g,j,none⟩=some u)(hnw:VL Ω (cells τ z) news)
 (hxp:∀i,i<xs.length *ag τ->Ω.pub g i)(hd:∀d,dst=some d->d<F.n) :
  ∃Ω',Ω'.w=Ω.w.setRow g (cur.toList.take (xs.length *ag τ)++news++cur.toList.drop (xs.length *ag τ+news.length)).toArray/\
   Holds F ⟨dY s.T dst (.lstp τ xs k),updB s.B [(k,.tailp τ xs.length z)]⟩ (a.put dst (.slice (some ⟨g,0,none⟩) (xs.length+1) cap)) Ω':=by
 have hol:olds.length=xs.length *ag τ:=by rw[<-ho.1,cp]
 have hnl:news.length=ag τ:=by rw[<-hnw.1,bG]
 have hmul:(xs.length+1) *ag τ<=cap *ag τ:=O8 _ hroom;rw[NT,PD]at hmul
 have htake:cur.toList.take (xs.length *ag τ)=olds:=by
  apply Qf;intro j;rw[NP];split
  ·rename_i hj;obtain⟨u,hu⟩:∃u,olds[j]?=some u:=⟨_,N9 (by omega)⟩;have:=hoc j u hu;rw[aT hg]at this;rw[hu,NH,this]
  ·rename_i hj;rw[Nd (by omega)]
 have hg':=setRow_heap Ω.w g cur (cur.toList.take (xs.length *ag τ)++news++cur.toList.drop (xs.length *ag τ+news.length)).toArray ty fz hg;have hsz:(cur.toList.take (xs.length *ag τ)++news++cur.toList.drop (xs.length *ag τ+news.length)).toArray.size=cur.size:=by simp;omega
 obtain⟨q1,q2,q3,q4⟩:=pM Ω.w g (cur.toList.take (xs.length *ag τ)++news++cur.toList.drop (xs.length *ag τ+news.length)).toArray
 have hcellold:∀b o,Ω.pub b o->(Ω.w.setRow g (cur.toList.take (xs.length *ag τ)++news++cur.toList.drop (xs.length *ag τ+news.length)).toArray).cell? ⟨b,o,none⟩=Ω.w.cell? ⟨b,o,none⟩:=by
  intro b o hp;by_cases hb:b=g
  ·subst hb;rw[aT hg',aT hg]
   have hlt:o<xs.length *ag τ:=by
    rcases Nv o (xs.length *ag τ)with k|k
    ·exact k
    ·exact absurd hp (hpub o k)
   simp only[Oi];rw[Nl,Nq (by simp;omega),NP,N6 hlt,NH]
  ·exact aF (Oe _ _ _ _ hb) o
 have hx:Ext Ω ⟨fun i=>if k=i then some (.tail (xs.length+1) (some g) cap)else Ω.e i,
   Ω.w.setRow g (cur.toList.take (xs.length *ag τ)++news++cur.toList.drop (xs.length *ag τ+news.length)).toArray,Ω.pub⟩:=by
  refine⟨fun i c hc=>?_,fun _ _ p=>p,hcellold⟩;by_cases hi:k=i
  ·subst hi;rw[he]at hc;simp at hc;subst hc;exact⟨_,by simp;rfl,by simp[CLe]⟩
  ·exact⟨c,by simp[hi,hc],CLe.refl c⟩
 refine⟨_,rfl,h.slot hx ?_ (fun i c' hi hc=>pK.of_blocks fun b o hb=>?_) (fun i c' b o hi hc hb hb'=>hi (h.inj i k _ _ b o hc he hb hb')) (fun b o hp=>?_) ?_ ?_ hd⟩
 ·refine⟨g,cap,by simp,hroom,hcap,hown,⟨_,ty,fz,hg',hfz,by rw[hsz];exact hfit⟩,hpub,fun j c hc=>?_⟩
  have hj:j<news.length:=by
   rw[<-hnw.1];rcases Nv j (cells τ z).length with q|q
   ·exact q
   ·rw[Nd q]at hc;cases hc
  refine⟨news[j],?_,(hnw.2 j c _ hc (N9 hj)).ext hx⟩;show World.cell? _ _=_;rw[aT hg'];have htl:(List.take (xs.length *ag τ) cur.toList).length=xs.length *ag τ:=by simp;omega
  simp only[Oi];rw[Nl,Nr (by omega),htl,PE,Nq hj,N9 hj]
 ·have hbg:b≠g:=fun e=>by subst e;exact hi (h.inj i k _ _ b o hc he hb rfl)
  exact⟨Oe _ _ _ _ hbg,fun o ho'=>ho'⟩
 ·obtain⟨v,hv⟩:=h.pubok b o hp;exact⟨v,by rw[hcellold b o hp,hv]⟩
 ·have hnotold:∀b,b<F.w0.heap.size->(¬∀o,F.br b o)->b≠g:=by
   intro b hb hnb e;subst e;refine hnb (fun o=>?_);rcases hown o with ho'|ho'
   ·omega
   ·exact ho'
  refine⟨q1.trans h.frame.os,q2.trans h.frame.tape,q3.trans h.frame.output,by rw[q4];exact h.frame.size,fun b hb hnb=>?_,fun b o hb hnb=>?_,fun b hb=>?_,h.frame.pub,h.frame.old,fun b o hp=>(hx.cell b o (h.frame.old b o hp)).trans (h.frame.pcell b o hp)⟩
  ·exact(Oe _ _ _ _ (hnotold b hb (fun k=>hnb 0 (k 0)))).trans (h.frame.block b hb hnb)
  ·exact(aF (Oe _ _ _ _ (hnotold b hb (fun k=>hnb (k o)))) o).trans (h.frame.cell b o hb hnb)
  ·intro hnb;have hbg:=hnotold b hb hnb;exact⟨(bZ (Oe _ _ _ _ hbg)).trans (h.frame.kind b hb hnb).1,fun o=>(bC (Oe _ _ _ _ hbg) o).trans ((h.frame.kind b hb hnb).2 o)⟩
 ·have hv:=rX (Ω:=⟨fun i=>if k=i then some (.tail (xs.length+1) (some g) cap)else Ω.e i,
   Ω.w.setRow g (cur.toList.take (xs.length *ag τ)++news++cur.toList.drop (xs.length *ag τ+news.length)).toArray,Ω.pub⟩) (τ:=τ) (xs:=xs) (o:=none) (cap:=cap) (vs:=olds) hg'
   (by
    rw[htake,Nl];rw[Pj (by omega),OJ (by omega)])
   (ho.ext hx) (by omega) hcap hxp (fun id hid=>by cases hid)
  refine V.mkP hv hroom ?_;intro id hid;simp at hid;subst hid;exact⟨xs.length+1,some g,cap,by simp,Nf _,fun _=>rfl⟩
theorem ye(hT:cq P C.tbl){x y:Operand}{t d:Nat}(hop:o.op=.call {callee:=.builtin .append,args:=#[x,y],argTypes:=#[t,t]})(hdst:o.dst=some d)
 {F:Fr}{s:AS}{a:Act}{Ω:Om}{eff:Eff}{next:Act->World->Prop}{Q:Exit->Act->World->Prop}(h:Holds F s a Ω)(hd:∀d,o.dst=some d->d<F.n)
 (he:ri C t d (opd s.T x) (opd s.T y) s.B=some eff)(ho:eff.asks)(hn:∀a' Ω',Holds F (s.put o.dst eff) a' Ω'->next a' Ω'.w):o.wp P a Ω.w next Q:=by
 have hx:=ct h x;have hy:=ct h y;unfold ri at he;split at he
 ·rename_i e sz by' z0 ty hr
  obtain⟨dd,hd1,hd2⟩:=bJ hT hr rfl;cases dd<;>simp[bS]at hd2;subst hd2;split at he
  ·rename_i re hre;obtain⟨i,zz,i1,i2,i3,i4,i5⟩:=(hT _ _ hre).info;have hzl:zz.cells.size=re.size:=by have p1:=(hT _ _ hre).zlen;rw[<-i5]at p1;simpa using p1
   split at he
   ·
    rename_i τ xs k σ ys o2 hxe hye;split at he
    ·rename_i z τ' n hcast hB;split at he
     ·rename_i hτ;obtain⟨hτ1,hτ2⟩:=hτ;subst hτ1;obtain⟨hστ,hys⟩:=ke hcast;subst hστ;simp only at hys;subst hys;simp only[Xs]at he;subst he;obtain⟨hcount,hbytes⟩:=ho;subst hcount;rw[hxe]at hx;rw[hye]at hy;have hw:=((hT _ _ hre).ty _ hτ2).1;have hiw:i.size=ag σ:=by rw[i2,hw]
      have hpos:=kd σ;have hby1:(xs.length+1) *i.bytes<=140737488355328:=by rw[i3];exact hbytes
      obtain⟨base,cap,q1,q2,q3,q4,q5⟩:=h.slots k _ hB
      have hxtok:∃v,a.eval x=v/\v=.slice (eK base) xs.length cap:=by
       refine⟨_,rfl,?_⟩
       have ht:ie Ω (some k) xs.length (a.eval x):=by
        rcases hx.lst_inv with⟨h1,hv,ht⟩|⟨_,ho,_⟩|⟨b,off,cap,vals,hv,h1,h2,h3,h4,h5⟩
        ·rw[h1];exact ht
        ·cases ho
        ·exact h3
       obtain⟨m,base',cap',r1,r2,r3⟩:=ht k rfl;rw[q1]at r1;simp only[Xs,CObj.tail.injEq]at r1;obtain⟨rfl,rfl,rfl⟩:=r1;rw[r3 rfl]
      obtain⟨_,rfl,hxv⟩:=hxtok;have hmaxn:xs.length+1<=cm:=by have:(xs.length+1) *1<=(xs.length+1) *re.bytes:=OK _ ((hT _ _ hre).bps ‹_›);unfold cm;omega
      rcases hy.src with⟨_,hy0⟩|⟨ya,yc,us,hyv,hyl,hyvl,hyc,hy1⟩
      ·cases hy0
      ·simp only[Nc,PD]at hyv hyl;have hyvl':VL Ω (cells σ z) us:=by simpa[bD]using hyvl
       have hzc:∀n,(Builtin.zeroCells zz.cells n).toList.length=n *ag σ:=by intro n;simp[PJ,hzl,hw]
       by_cases hroom:xs.length+1<=cap
       ·cases base with
        |none=>have hc0:=q4 rfl;omega
        |some g=>
         obtain⟨p1,cur,bt,fz,p2,pf,p3,p4⟩:=q5 g rfl
         obtain⟨olds,ho1,ho2,ho3,hxp⟩:∃olds:List Value,olds.length=xs.length *ag σ/\VL Ω (bD σ xs) olds/\(∀j u,olds[j]?=some u->Ω.w.cell? ⟨g,j,none⟩=some u)/\∀i,i<xs.length *ag σ->Ω.pub g i:=by
          rcases hx.lst_inv with⟨h1,hv,_⟩|⟨_,ho,_⟩|⟨b,off,cap',vals,hv,h1,h2,h3,h4,h5⟩
          ·rw[hxv]at hv;simp[eK]at hv
          ·cases ho
          ·rw[hxv]at hv;simp only[eK,Od,Xs,OX,NZ,NX]at hv;obtain⟨⟨rfl,rfl⟩,rfl⟩:=hv;obtain⟨us',u1,u2,u3⟩:=V.row_cells h4 h5;refine⟨us',u1,u2,fun j u hj=>by have:=u3 j u hj;simpa using this,fun i hi=>?_⟩;have hdiv:i/ag σ<xs.length:=PV (by rw[Pv];exact hi);have hmod:i%ag σ<(cells σ xs[i/ag σ]).length:=by rw[bG];exact Nat.mod_lt _ hpos
           have:=(h4 (i/ag σ) _ (N9 hdiv) (i%ag σ) _ (N9 hmod)).1;have e':0+(i/ag σ *ag σ+i%ag σ)=i:=by rw[Pv];have:=Nat.div_add_mod i (ag σ);omega
           rw[e']at this;exact this
         obtain⟨Ω',hw',hh⟩:=h.roomP (dst:=o.dst) (z:=z) q1 p1 p2 pf p3 p4 hroom q3 ho2 ho3 hyvl' hxp hd;refine bx (aX hop (v:=.slice (some ⟨g,0,none⟩) (xs.length+1) cap) (w':=Ω'.w) ?_) (hn _ _ hh);rw[hyv,hxv,hw'];have hmul:(xs.length+1) *ag σ<=cap *ag σ:=O8 _ hroom;rw[NT,PD]at hmul;have:=yb (P:=P) Ω.w t o.type e i hd1 i1 g xs.length cap bt cur fz p2 (by omega) ya 1 yc us (by rw[hiw];omega) hyc hy1 hroom (by rw[hiw,hyl];omega);rw[hiw]at this;exact this
       ·cases base with
        |none=>
         have hc0:=q4 rfl;have hx0:xs=[]:=Ni (by omega);subst hx0;subst hc0
         obtain⟨Ω',hw',hh⟩:=h.growP (k:=k) (bq:=1) (old:=0) (e:=e) (xs:=[]) (z:=z) (us:=us) (rest:=(Builtin.zeroCells zz.cells (grownCap Ω.w 1 0 e-1)).toList) (dst:=o.dst)
          (Or.inr ⟨_,_,_,q1,by simp⟩) (by simp) (by simpa using hmaxn) (by simpa using hyvl) (by rw[hzc]) hd
         refine bx (aX hop (v:=.slice (some ⟨Ω.w.heap.size,0,none⟩) 1 (grownCap Ω.w 1 0 e)) (w':=Ω'.w) ?_) (hn _ _ hh);rw[hyv,hxv,hw'];have:=Q9 (P:=P) Ω.w t o.type e i zz hd1 i1 i4 ya 1 yc us (by rw[hiw];omega) hyc (by omega) (by unfold cm at hmaxn;simp at hmaxn;omega) (by simp at hby1;omega);have e':(us++(Builtin.zeroCells zz.cells (grownCap Ω.w 1 0 e-1)).toList).toArray=us.toArray++Builtin.zeroCells zz.cells (grownCap Ω.w 1 0 e-1):=by apply Ob;simp
         rw[e'];exact this
        |some g=>
         obtain⟨olds,ho1,ho2,ho3⟩:∃olds:List Value,olds.length=xs.length *ag σ/\VL Ω (bD σ xs) olds/\(∀j u,olds[j]?=some u->Ω.w.cell? ((⟨g,0,none⟩:Addr).add j)=some u):=by
          rcases hx.lst_inv with⟨h1,hv,_⟩|⟨_,ho,_⟩|⟨b,off,cap',vals,hv,h1,h2,h3,h4,h5⟩
          ·rw[hxv]at hv;simp[eK]at hv
          ·cases ho
          ·rw[hxv]at hv;simp only[eK,Od,Xs,OX,NZ,NX]at hv;obtain⟨⟨rfl,rfl⟩,rfl⟩:=hv;obtain⟨us',u1,u2,u3⟩:=V.row_cells h4 h5;exact⟨us',u1,u2,fun j u hj=>by rw[mO];exact u3 j u hj⟩
         obtain⟨Ω',hw',hh⟩:=h.growP (k:=k) (bq:=xs.length+1) (old:=cap) (e:=e) (xs:=xs) (z:=z) (us:=olds++us) (rest:=(Builtin.zeroCells zz.cells (grownCap Ω.w (xs.length+1) cap e-(xs.length+1))).toList) (dst:=o.dst)
          (Or.inr ⟨_,_,_,q1,by simp⟩) rfl hmaxn (by rw[fO];exact ho2.append hyvl) (by rw[hzc]) hd
         refine bx (aX hop (v:=.slice (some ⟨Ω.w.heap.size,0,none⟩) (xs.length+1) (grownCap Ω.w (xs.length+1) cap e)) (w':=Ω'.w) ?_) (hn _ _ hh);rw[hyv,hxv,hw'];have:=run_append_grow (P:=P) Ω.w t o.type e i zz hd1 i1 i4 ⟨g,0,none⟩ xs.length cap olds (by rw[hiw];exact ho1) ho3 ya 1 yc us (by rw[hiw];omega) hyc (by omega) (by unfold cm at hmaxn;omega) (PK (by omega) hby1);have e':(olds++us++(Builtin.zeroCells zz.cells (grownCap Ω.w (xs.length+1) cap e-(xs.length+1))).toList).toArray=olds.toArray++us.toArray++Builtin.zeroCells zz.cells (grownCap Ω.w (xs.length+1) cap e-(xs.length+1)):=by apply Ob;simp
         rw[e'];exact this
     ·simp at he
    ·simp at he
   ·
    rename_i σ z o2 hxe hye;split at he
    ·rename_i hB;split at he
     ·rename_i hτ2;simp only[Xs]at he;subst he;have hbytes:1 *re.bytes<=140737488355328:=ho;rw[hxe]at hx;rw[hye]at hy;have hw:=((hT _ _ hre).ty _ hτ2).1;have hiw:i.size=ag σ:=by rw[i2,hw]
      have hzc:∀n,(Builtin.zeroCells zz.cells n).toList.length=n *ag σ:=by intro n;simp[PJ,hzl,hw]
      rcases hy.src with⟨_,hy0⟩|⟨ya,yc,us,hyv,hyl,hyvl,hyc,hy1⟩
      ·cases hy0
      ·simp only[Nc,PD]at hyv hyl
       obtain⟨Ω',hw',hh⟩:=h.growP (k:=d) (bq:=1) (old:=0) (e:=e) (xs:=[]) (z:=z) (us:=us) (rest:=(Builtin.zeroCells zz.cells (grownCap Ω.w 1 0 e-1)).toList) (dst:=o.dst)
        (Or.inl (h.dom d hB)) (by simp) (by unfold cm;omega) (by simpa using hyvl) (by rw[hzc]) hd
       refine bx (aX hop (v:=.slice (some ⟨Ω.w.heap.size,0,none⟩) 1 (grownCap Ω.w 1 0 e)) (w':=Ω'.w) ?_) (hn _ _ hh);rw[hyv,hx.nils_inv,hw'];have:=Q9 (P:=P) Ω.w t o.type e i zz hd1 i1 i4 ya 1 yc us (by rw[hiw];omega) hyc (by omega) (by omega) (by rw[i3];omega);have e':(us++(Builtin.zeroCells zz.cells (grownCap Ω.w 1 0 e-1)).toList).toArray=us.toArray++Builtin.zeroCells zz.cells (grownCap Ω.w 1 0 e-1):=by apply Ob;simp
       rw[e'];exact this
     ·simp at he
    ·simp at he
   ·simp at he
  ·simp at he
 ·simp at he
theorem fK(w:World)(size:Nat)(s:Str):(Builtin.firstCells size s.length (.string ⟨s.toArray⟩)).run P w=.ok (s.map fun b=>Value.int .u8 b.toNat).toArray w:=by
 have e:(⟨s.toArray⟩:ByteArray).extract 0 s.length=⟨s.toArray⟩:=by rw[Lib.extract_mk,List.drop_zero,PL,O4]
 simp[Builtin.firstCells,NN,e]
theorem wv(w:World)(t u ty e:Nat)(i:TypeInfo)(ht:P.underlying t=some (.slice e))(hu:P.underlying u=some .string)(hi:P.info? e=some i)
 (g sLen sCap bt:Nat)(cur:Array Value)(fz:Nat×Nat)(hg:w.heap[g]?=some (.cells cur bt fz))(hfz:fz.2<=sLen *i.size)(s:Str)
 (hroom:sLen+s.length<=sCap)(hfit:sLen *i.size+s.length<=cur.size) :
  (Builtin.append_ #[t,u] ty #[.slice (some ⟨g,0,none⟩) sLen sCap,.string ⟨s.toArray⟩]).run P w=
   .ok (.slice (some ⟨g,0,none⟩) (sLen+s.length) sCap) (w.setRow g (cur.toList.take (sLen *i.size)++(s.map fun b=>Value.int .u8 b.toNat)++cur.toList.drop (sLen *i.size+s.length)).toArray):=by
 have hf:=fK (P:=P) w i.size s;have hst:=Q8 P g (sLen *i.size) bt fz (s.map fun b=>Value.int .u8 b.toNat) 0 cur w hg (by simpa using hfz) (by simpa using hfit) (fun u hu=>by simp at hu;obtain⟨b,_,rfl⟩:=hu;rfl);simp only[P5,Oc]at hst;have hsz:(⟨s.toArray⟩:ByteArray).size=s.length:=by simp[ByteArray.size]
 simp[Builtin.append_,Ny ht,Ny hu,sizeOf,typeInfo,hi,Builtin.lenOf,hroom,hf,Addr.add_lit,hst,hsz]
theorem yf(w:World)(t u ty e:Nat)(i:TypeInfo)(ht:P.underlying t=some (.slice e))(hu:P.underlying u=some .string)(hi:P.info? e=some i) :
  (Builtin.append_ #[t,u] ty #[.slice none 0 0,.string ⟨([]:Str).toArray⟩]).run P w=.ok (.slice none 0 0) w:=by
 have hf:=fK (P:=P) w i.size [];simp only[Na,P6]at hf;have hsz:(⟨#[]⟩:ByteArray).size=0:=rfl;simp[Builtin.append_,Ny ht,Ny hu,sizeOf,typeInfo,hi,Builtin.lenOf,hsz,hf]
theorem wx(w:World)(t u ty e:Nat)(i:TypeInfo)(z:Value)(ht:P.underlying t=some (.slice e))(hu:P.underlying u=some .string)(hi:P.info? e=some i)(hz:i.zero=some z)
 (b:Option Addr)(sLen sCap:Nat)(olds:List Value)(hb:(b=none/\sLen=0/\olds=[])∨∃a,b=some a/\olds.length=sLen *i.size/\∀j v,olds[j]?=some v->w.cell? (a.add j)=some v)
 (s:Str)(hg:sCap<sLen+s.length)(h63:((sLen+s.length:Nat):Int)<=9223372036854775807)(hfit:Builtin.nextslicecap (sLen+s.length) sCap *i.bytes<=281474976710656) :
  (Builtin.append_ #[t,u] ty #[.slice b sLen sCap,.string ⟨s.toArray⟩]).run P w=
   .ok (.slice (some ⟨w.heap.size,0,none⟩) (sLen+s.length) (grownCap w (sLen+s.length) sCap e))
    (w.drew.alloc (.cells (olds.toArray++(s.map fun b=>Value.int .u8 b.toNat).toArray++Builtin.zeroCells z.cells (grownCap w (sLen+s.length) sCap e-(sLen+s.length))) e)):=by
 have hn:¬(sLen+s.length<=sCap):=by omega
 have h63':¬(9223372036854775807<((sLen:Int)+(s.length:Int))):=by omega
 have h48':¬(281474976710656<Builtin.nextslicecap (sLen+s.length) sCap *i.bytes):=by omega
 have hf:=fK (P:=P) w.drew i.size s;have hsz:(⟨s.toArray⟩:ByteArray).size=s.length:=by simp[ByteArray.size]
 have hfo:(Builtin.firstCells i.size sLen (.slice b sLen sCap)).run P w.drew=.ok olds.toArray w.drew:=by
  rcases hb with⟨rfl,rfl,rfl⟩|⟨a,rfl,h1,h2⟩
  ·exact run_firstCells_none w.drew i.size 0 0 sCap
  ·exact Q0 (P:=P) w.drew i.size sLen a sLen sCap olds h1 (by simpa using h2)
 simp[Builtin.append_,Ny ht,Ny hu,sizeOf,typeInfo,zeroValue,hi,hz,Builtin.lenOf,hn,h63',h48',Question.forced,hf,hfo,newRow,grownCap,hsz];congr 2;apply Ob;simp[Nl]
theorem Dh(Ω:Om)(s:Str):VL Ω (bD (.int .u8) (b9 s)) (s.map fun b=>Value.int .u8 b.toNat):=by
 have e:bD (.int .u8) (b9 s)=s.map fun b=>AV.int .u8 (b.toNat:Int):=by unfold bD b9;rw[List.flatMap_map,Q1];rfl
 refine⟨by rw[e];simp,fun j c v hc hv=>?_⟩;rw[e,NM,NB]at hc;rw[NM,NB]at hv;obtain⟨b,hb,rfl⟩:=hc;obtain⟨b',hb',rfl⟩:=hv;rw[hb]at hb';cases hb';have:=b.toNat_lt;exact .int .u8 _ (by show(0:Int)<=_;omega) (by show _<=(255:Int);omega)
theorem Bb(hT:cq P C.tbl){x y:Operand}{t t':Nat}{s':Str}(hop:o.op=.call {callee:=.builtin .append,args:=#[x,y],argTypes:=#[t,t']})
 {F:Fr}{s:AS}{a:Act}{Ω:Om}{eff:Eff}{next:Act->World->Prop}{Q:Exit->Act->World->Prop}(h:Holds F s a Ω)(hd:∀d,o.dst=some d->d<F.n)(hye:opd s.T y=.str s')
 (he:rj C t t' (opd s.T x) s' s.B=some eff)(ho:eff.asks)(hn:∀a' Ω',Holds F (s.put o.dst eff) a' Ω'->next a' Ω'.w):o.wp P a Ω.w next Q:=by
 have hx:=ct h x;have hy:=ct h y;rw[hye]at hy;obtain⟨hyv,hyl⟩:=hy.str_inv;unfold rj at he;split at he
 ·rename_i e sz by' z0 ty sz1 by1 z1 ty1 hr hr'
  obtain⟨dd,hd1,hd2⟩:=bJ hT hr rfl;cases dd<;>simp[bS]at hd2;subst hd2;obtain⟨dd,hd3,hd4⟩:=bJ hT hr' rfl;cases dd<;>simp[bS]at hd4;split at he
  ·rename_i sz2 bytes z2 hre;obtain⟨i,zz,i1,i2,i3,i4,i5⟩:=(hT _ _ hre).info;split at he
   ·rename_i xs k hxe;split at he
    ·rename_i n hB;simp only[Xs]at he;subst he;obtain⟨hcount,hbytes⟩:=ho;subst hcount;rw[hxe]at hx;have hw:ag (.int .u8)=sz2:=((hT _ _ hre).ty _ rfl).1;have hw1:sz2=1:=hw.symm;have hiw:i.size=1:=by rw[i2];exact hw1
     have hzl:zz.cells.size=1:=by have p1:=(hT _ _ hre).zlen;rw[<-i5]at p1;simp at p1;omega
     have hbl:(b9 s').length=s'.length:=by simp[b9]
     have hby1:(xs.length+s'.length) *i.bytes<=140737488355328:=by rw[i3];exact hbytes
     have hmaxn:xs.length+s'.length<=cm:=by have hbp:0<bytes:=(hT _ _ hre).bpos (by show 0<sz2;omega);have:(xs.length+s'.length) *1<=(xs.length+s'.length) *bytes:=OK _ hbp;unfold cm;omega
     obtain⟨base,cap,q1,q2,q3,q4,q5⟩:=h.slots k _ hB
     have hxtok:∃v,a.eval x=v/\v=.slice (eK base) xs.length cap:=by
      refine⟨_,rfl,?_⟩
      have ht:ie Ω (some k) xs.length (a.eval x):=by
       rcases hx.lst_inv with⟨h1,hv,ht⟩|⟨_,ho,_⟩|⟨b,off,cap,vals,hv,h1,h2,h3,h4,h5⟩
       ·rw[h1];exact ht
       ·cases ho
       ·exact h3
      obtain⟨m,base',cap',r1,r2,r3⟩:=ht k rfl;rw[q1]at r1;simp only[Xs,CObj.tail.injEq]at r1;obtain⟨rfl,rfl,rfl⟩:=r1;rw[r3 rfl]
     obtain⟨_,rfl,hxv⟩:=hxtok;have hyvl:=Dh Ω s';have hzc:∀n,(Builtin.zeroCells zz.cells n).toList.length=n *1:=by intro n;simp[PJ,hzl]
     by_cases hroom:xs.length+s'.length<=cap
     ·cases base with
      |none=>have hc0:=q4 rfl;have hy0:s'=[]:=Ni (by omega);have hx0:xs=[]:=Ni (by omega);subst hy0 hx0;have hh:=h.same hB rfl hx hd;refine bx (aX hop (v:=a.eval x) (w':=Ω.w) ?_) (hn _ _ hh);rw[hyv,hxv,hc0];exact yf Ω.w t t' _ e i hd1 hd3 i1
      |some g=>
       obtain⟨p1,cur,bt,fz,p2,pf,p3,p4⟩:=q5 g rfl
       obtain⟨olds,ho1,ho2,ho3,hxp⟩:∃olds:List Value,olds.length=xs.length *ag (.int .u8)/\VL Ω (bD (.int .u8) xs) olds/\(∀j u,olds[j]?=some u->Ω.w.cell? ⟨g,j,none⟩=some u)/\∀i,i<xs.length *ag (.int .u8)->Ω.pub g i:=by
        rcases hx.lst_inv with⟨h1,hv,_⟩|⟨_,ho,_⟩|⟨b,off,cap',vals,hv,h1,h2,h3,h4,h5⟩
        ·rw[hxv]at hv;simp[eK]at hv
        ·cases ho
        ·rw[hxv]at hv;simp only[eK,Od,Xs,OX,NZ,NX]at hv;obtain⟨⟨rfl,rfl⟩,rfl⟩:=hv;obtain⟨us',u1,u2,u3⟩:=V.row_cells h4 h5;refine⟨us',u1,u2,fun j u hj=>by have:=u3 j u hj;simpa using this,fun i hi=>?_⟩;have hpos:=kd (.int .u8);have hdiv:i/ag (.int .u8)<xs.length:=PV (by rw[Pv];exact hi);have hmod:i%ag (.int .u8)<(cells (.int .u8) xs[i/ag (.int .u8)]).length:=by rw[bG];exact Nat.mod_lt _ hpos
         have:=(h4 (i/ag (.int .u8)) _ (N9 hdiv) (i%ag (.int .u8)) _ (N9 hmod)).1;have e':0+(i/ag (.int .u8) *ag (.int .u8)+i%ag (.int .u8))=i:=by rw[Pv];have:=Nat.div_add_mod i (ag (.int .u8));omega
         rw[e']at this;exact this
       have hroom':xs.length+(b9 s').length<=cap:=by rw[hbl];exact hroom
       obtain⟨Ω',hw',hh⟩:=h.room (dst:=o.dst) (τ:=.int .u8) (ys:=b9 s') (news:=s'.map fun b=>Value.int .u8 b.toNat) q1 p1 p2 pf p3 p4 hroom' q3 ho2 ho3 hyvl hxp hd;refine bx (aX hop (v:=.slice (some ⟨g,0,none⟩) (xs.length+(b9 s').length) cap) (w':=Ω'.w) ?_) (hn _ _ hh);rw[hyv,hxv,hw',hbl];have hmul:(xs.length+s'.length) *ag (.int .u8)<=cap *ag (.int .u8):=O8 _ hroom;have w1:ag (.int .u8)=1:=rfl;rw[w1]at hmul p3;have:=wv (P:=P) Ω.w t t' o.type e i hd1 hd3 i1 g xs.length cap bt cur fz p2 (by omega) s' hroom (by rw[hiw];omega);rw[hiw]at this;simpa[w1,eK]using this
     ·have hm:0<s'.length:=by
       rcases PC s'.length with h0|h0
       ·omega
       ·exact h0
      have hlen:(xs++b9 s').length=xs.length+s'.length:=by rw[N5,hbl]
      obtain⟨olds,ho2,hob⟩:∃olds:List Value,VL Ω (bD (.int .u8) xs) olds/\((eK base=none/\xs.length=0/\olds=[])∨∃a,eK base=some a/\olds.length=xs.length *i.size/\∀j v,olds[j]?=some v->Ω.w.cell? (a.add j)=some v):=by
       rcases hx.lst_inv with⟨h1,hv,_⟩|⟨_,ho,_⟩|⟨b,off,cap',vals,hv,h1,h2,h3,h4,h5⟩
       ·rw[hxv]at hv;simp only[Od]at hv;refine⟨[],?_,.inl ⟨hv.1,hv.2.1,rfl⟩⟩;rw[h1];exact⟨rfl,fun j c v hc=>by simp[bD]at hc⟩
       ·cases ho
       ·rw[hxv]at hv;simp only[Od]at hv;obtain⟨us',u1,u2,u3⟩:=V.row_cells h4 h5;exact⟨us',u2,.inr ⟨_,hv.1,by rw[u1,hiw];rfl,fun j u hj=>by rw[mO];exact u3 j u hj⟩⟩
      obtain⟨Ω',hw',hh⟩:=h.grow (k:=k) (bq:=xs.length+s'.length) (old:=cap) (e:=e) (τ:=.int .u8) (zs:=xs++b9 s') (us:=olds++s'.map fun b=>Value.int .u8 b.toNat) (rest:=(Builtin.zeroCells zz.cells (grownCap Ω.w (xs.length+s'.length) cap e-(xs.length+s'.length))).toList) (dst:=o.dst)
       (Or.inr ⟨_,_,_,q1,by rw[hlen];omega⟩) hlen hmaxn (by rw[fO];exact ho2.append hyvl) (by rw[hzc];rfl) hd
      refine bx (aX hop (v:=.slice (some ⟨Ω.w.heap.size,0,none⟩) (xs.length+s'.length) (grownCap Ω.w (xs.length+s'.length) cap e)) (w':=Ω'.w) ?_) (hn _ _ hh);rw[hyv,hxv,hw'];have:=wx (P:=P) Ω.w t t' o.type e i zz hd1 hd3 i1 i4 (eK base) xs.length cap olds hob s' (by omega) (by unfold cm at hmaxn;omega) (PK (by omega) hby1);have e':(olds++(s'.map fun b=>Value.int .u8 b.toNat)++(Builtin.zeroCells zz.cells (grownCap Ω.w (xs.length+s'.length) cap e-(xs.length+s'.length))).toList).toArray=olds.toArray++(s'.map fun b=>Value.int .u8 b.toNat).toArray++Builtin.zeroCells zz.cells (grownCap Ω.w (xs.length+s'.length) cap e-(xs.length+s'.length)):=by apply Ob;simp
      rw[e'];exact this
    ·simp at he
   ·simp at he
  ·simp at he
 ·simp at he
theorem E8(hT:cq P C.tbl){args:Array Operand}{ts:Array Nat}(hop:o.op=.call {callee:=.builtin .append,args:=args,argTypes:=ts}):dq P C o:=by
 intro F s a Ω eff next Q h hd he ho hn
 simp only[aQ,hop]at he;split at he
 ·rename_i x y t t' d hargs hts hdst;have ha:args=#[x,y]:=by apply Ob;simpa using hargs
  have ht:ts=#[t,t']:=by apply Ob;simpa using hts
  subst ha ht;split at he;rotate_left
  ·split at he
   ·rename_i s' hye;exact Bb hT hop h hd hye he ho hn
   ·cases he
  ·rename_i htt;simp at htt;subst htt;split at he
   ·exact ye hT hop hdst h hd he ho hn
   have hx:=ct h x;have hy:=ct h y;unfold w7 at he;split at he
   ·rename_i e sz by' z ty hr
    obtain⟨dd,hd1,hd2⟩:=bJ hT hr rfl;cases dd<;>simp[bS]at hd2;subst hd2;split at he
    ·rename_i re hre;obtain⟨i,zz,i1,i2,i3,i4,i5⟩:=(hT _ _ hre).info;have hzl:zz.cells.size=re.size:=by have p1:=(hT _ _ hre).zlen;rw[<-i5]at p1;simpa using p1
     split at he
     ·
      rename_i hxe hye;simp only[Xs]at he;subst he;rw[hxe]at hx;rw[hye]at hy;refine bx (aX hop (v:=.slice none 0 0) (w':=Ω.w) ?_) (hn _ _ ?_)
      ·rw[hx.nils_inv,hy.nils_inv];exact kf Ω.w t _ e i hd1 i1 none 0 0 (Nf _)
      ·have:=h.pure (dst:=o.dst) (v:=.slice none 0 0) .nils hd;simpa[AS.put,updB,Eff.pure]using this
     ·
      rename_i τ xs o' hxe hye;simp only[Xs]at he;subst he;rw[hxe]at hx;rw[hye]at hy
      have hrun:(Builtin.append_ #[t,t] o.type #[a.eval x,a.eval y]).run P Ω.w=.ok (a.eval x) Ω.w:=by
       rw[hy.nils_inv];rcases hx.lst_inv with⟨h1,hv,_⟩|⟨h1,_,a0,hv⟩|⟨b,off,cap,vals,hv,h1,h2,h3,h4,h5⟩
       ·rw[hv];exact kf Ω.w t _ e i hd1 i1 none 0 0 (Nf _)
       ·rw[hv];exact kf Ω.w t _ e i hd1 i1 _ _ _ (Nf _)
       ·rw[hv];exact kf Ω.w t _ e i hd1 i1 _ _ _ h1
      refine bx (aX hop hrun) (hn _ _ ?_);have:=h.pure (dst:=o.dst) (v:=a.eval x) hx hd;simpa[AS.put,updB,Eff.pure]using this
     ·
      rename_i τ xs k σ ys o2 hxe hye;split at he
      ·rename_i ys' τ' n hcast hB;split at he
       ·rename_i hτ;obtain⟨hτ1,hτ2⟩:=hτ;subst hτ1;obtain⟨hστ,hys⟩:=ke hcast;subst hστ;simp only at hys;subst hys;simp only[Xs]at he;subst he;obtain⟨hcount,hbytes⟩:=ho;rw[hxe]at hx;rw[hye]at hy;have hw:=((hT _ _ hre).ty _ hτ2).1;have hiw:i.size=ag σ:=by rw[i2,hw]
        have hpos:=kd σ;have hby1:(xs.length+ys.length) *i.bytes<=140737488355328:=by rw[i3];exact hbytes
        obtain⟨base,cap,q1,q2,q3,q4,q5⟩:=h.slots k _ hB
        have hxtok:∃v,a.eval x=v/\v=.slice (eK base) n cap:=by
         refine⟨_,rfl,?_⟩
         have ht:ie Ω (some k) xs.length (a.eval x):=by
          rcases hx.lst_inv with⟨h1,hv,ht⟩|⟨_,ho,_⟩|⟨b,off,cap,vals,hv,h1,h2,h3,h4,h5⟩
          ·rw[h1];exact ht
          ·cases ho
          ·exact h3
         obtain⟨m,base',cap',r1,r2,r3⟩:=ht k rfl;rw[q1]at r1;simp only[Xs,CObj.tail.injEq]at r1;obtain⟨rfl,rfl,rfl⟩:=r1;rw[r3 hcount,hcount]
        obtain⟨_,rfl,hxv⟩:=hxtok;have hmaxn:xs.length+ys.length<=cm:=by have:(xs.length+ys.length) *1<=(xs.length+ys.length) *re.bytes:=OK _ ((hT _ _ hre).bps ‹_›);unfold cm;omega
        subst hcount;rcases hy.src with⟨hyv,hy0⟩|⟨ya,yc,us,hyv,hyl,hyvl,hyc,hy1⟩
        ·subst hy0;refine bx (aX hop (v:=a.eval x) (w':=Ω.w) ?_) (hn _ _ (h.same hB rfl hx hd));rw[hyv,hxv];exact kf Ω.w t _ e i hd1 i1 _ _ _ q2
        ·by_cases hroom:xs.length+ys.length<=cap
         ·cases base with
          |none=>have hc0:=q4 rfl;have hy0:ys=[]:=Ni (by omega);have hx0:xs=[]:=Ni (by omega);subst hy0 hx0;refine bx (aX hop (v:=a.eval x) (w':=Ω.w) ?_) (hn _ _ (h.same hB rfl hx hd));rw[hyv,hxv,hc0];exact nt Ω.w t _ e i hd1 i1 ya yc
          |some g=>
           obtain⟨p1,cur,bt,fz,p2,pf,p3,p4⟩:=q5 g rfl
           obtain⟨olds,ho1,ho2,ho3,hxp⟩:∃olds:List Value,olds.length=xs.length *ag σ/\VL Ω (bD σ xs) olds/\(∀j u,olds[j]?=some u->Ω.w.cell? ⟨g,j,none⟩=some u)/\∀i,i<xs.length *ag σ->Ω.pub g i:=by
            rcases hx.lst_inv with⟨h1,hv,_⟩|⟨_,ho,_⟩|⟨b,off,cap',vals,hv,h1,h2,h3,h4,h5⟩
            ·rw[hxv]at hv;simp[eK]at hv
            ·cases ho
            ·rw[hxv]at hv;simp only[eK,Od,Xs,OX,NZ,NX]at hv;obtain⟨⟨rfl,rfl⟩,rfl⟩:=hv;obtain⟨us',u1,u2,u3⟩:=V.row_cells h4 h5;refine⟨us',u1,u2,fun j u hj=>by have:=u3 j u hj;simpa using this,fun i hi=>?_⟩;have hdiv:i/ag σ<xs.length:=PV (by rw[Pv];exact hi);have hmod:i%ag σ<(cells σ xs[i/ag σ]).length:=by rw[bG];exact Nat.mod_lt _ hpos
             have:=(h4 (i/ag σ) _ (N9 hdiv) (i%ag σ) _ (N9 hmod)).1;have e':0+(i/ag σ *ag σ+i%ag σ)=i:=by rw[Pv];have:=Nat.div_add_mod i (ag σ);omega
             rw[e']at this;exact this
           obtain⟨Ω',hw',hh⟩:=h.room (dst:=o.dst) q1 p1 p2 pf p3 p4 hroom q3 ho2 ho3 hyvl hxp hd;refine bx (aX hop (v:=.slice (some ⟨g,0,none⟩) (xs.length+ys.length) cap) (w':=Ω'.w) ?_) (hn _ _ hh);rw[hyv,hxv,hw'];have hmul:(xs.length+ys.length) *ag σ<=cap *ag σ:=O8 _ hroom;rw[NT]at hmul;have:=yb (P:=P) Ω.w t o.type e i hd1 i1 g xs.length cap bt cur fz p2 (by omega) ya ys.length yc us (by rw[hiw];exact hyl) hyc hy1 hroom (by rw[hiw,hyl];omega);rw[hiw]at this;exact this
         ·have hm:0<ys.length:=by omega
          have hlen:(xs++ys).length=xs.length+ys.length:=N5;have hzc:∀n,(Builtin.zeroCells zz.cells n).toList.length=n *ag σ:=by intro n;simp[PJ,hzl,hw]
          cases base with
          |none=>
           have hc0:=q4 rfl;have hx0:xs=[]:=Ni (by omega);subst hx0;subst hc0
           obtain⟨Ω',hw',hh⟩:=h.grow (k:=k) (bq:=ys.length) (old:=0) (e:=e) (zs:=[]++ys) (us:=us) (rest:=(Builtin.zeroCells zz.cells (grownCap Ω.w ys.length 0 e-ys.length)).toList) (dst:=o.dst)
            (Or.inr ⟨_,_,_,q1,by simpa using hm⟩) (by simp) (by simpa using hmaxn) hyvl (by rw[hzc]) hd
           refine bx (aX hop (v:=.slice (some ⟨Ω.w.heap.size,0,none⟩) ys.length (grownCap Ω.w ys.length 0 e)) (w':=Ω'.w) ?_) (hn _ _ hh);rw[hyv,hxv,hw'];have:=Q9 (P:=P) Ω.w t o.type e i zz hd1 i1 i4 ya ys.length yc us (by rw[hiw];exact hyl) hyc hm (by unfold cm at hmaxn;simp at hmaxn;omega) (by simp at hby1;omega);have e':(us++(Builtin.zeroCells zz.cells (grownCap Ω.w ys.length 0 e-ys.length)).toList).toArray=us.toArray++Builtin.zeroCells zz.cells (grownCap Ω.w ys.length 0 e-ys.length):=by apply Ob;simp
           rw[e'];exact this
          |some g=>
           obtain⟨olds,ho1,ho2,ho3⟩:∃olds:List Value,olds.length=xs.length *ag σ/\VL Ω (bD σ xs) olds/\(∀j u,olds[j]?=some u->Ω.w.cell? ((⟨g,0,none⟩:Addr).add j)=some u):=by
            rcases hx.lst_inv with⟨h1,hv,_⟩|⟨_,ho,_⟩|⟨b,off,cap',vals,hv,h1,h2,h3,h4,h5⟩
            ·rw[hxv]at hv;simp[eK]at hv
            ·cases ho
            ·rw[hxv]at hv;simp only[eK,Od,Xs,OX,NZ,NX]at hv;obtain⟨⟨rfl,rfl⟩,rfl⟩:=hv;obtain⟨us',u1,u2,u3⟩:=V.row_cells h4 h5;exact⟨us',u1,u2,fun j u hj=>by rw[mO];exact u3 j u hj⟩
           obtain⟨Ω',hw',hh⟩:=h.grow (k:=k) (bq:=xs.length+ys.length) (old:=cap) (e:=e) (zs:=xs++ys) (us:=olds++us) (rest:=(Builtin.zeroCells zz.cells (grownCap Ω.w (xs.length+ys.length) cap e-(xs.length+ys.length))).toList) (dst:=o.dst)
            (Or.inr ⟨_,_,_,q1,by simpa using hm⟩) (by simp) hmaxn (by rw[fO];exact ho2.append hyvl) (by rw[hzc]) hd
           refine bx (aX hop (v:=.slice (some ⟨Ω.w.heap.size,0,none⟩) (xs.length+ys.length) (grownCap Ω.w (xs.length+ys.length) cap e)) (w':=Ω'.w) ?_) (hn _ _ hh);rw[hyv,hxv,hw'];have:=run_append_grow (P:=P) Ω.w t o.type e i zz hd1 i1 i4 ⟨g,0,none⟩ xs.length cap olds (by rw[hiw];exact ho1) ho3 ya ys.length yc us (by rw[hiw];exact hyl) hyc (by omega) (by unfold cm at hmaxn;omega) (PK (by omega) hby1);have e':(olds++us++(Builtin.zeroCells zz.cells (grownCap Ω.w (xs.length+ys.length) cap e-(xs.length+ys.length))).toList).toArray=olds.toArray++us.toArray++Builtin.zeroCells zz.cells (grownCap Ω.w (xs.length+ys.length) cap e-(xs.length+ys.length)):=by apply Ob;simp
           rw[e'];exact this
       ·simp at he
      ·simp at he
     ·
      rename_i σ ys o2 hxe hye;split at he
      ·rename_i hB;split at he
       ·rename_i hτ;simp only[Xs]at he;subst he;rw[hxe]at hx;rw[hye]at hy;have hbytes:ys.length *re.bytes<=140737488355328:=ho;have hw:=((hT _ _ hre).ty _ hτ).1;have hiw:i.size=ag σ:=by rw[i2,hw]
        have hmaxn:ys.length<=cm:=by have:ys.length *1<=ys.length *re.bytes:=OK _ ((hT _ _ hre).bps ‹_›);unfold cm;omega
        have hed:=h.dom d hB
        have empty:ys=[]->Holds F ⟨dY s.T o.dst (.lst σ ys (some d)),updB s.B [(d,.tail σ ys.length)]⟩ (a.put o.dst (.slice none 0 0)) ⟨fun i=>if d=i then some (.tail 0 none 0)else Ω.e i,Ω.w,Ω.pub⟩:=by
         intro hy0;subst hy0
         have hx':Ext Ω ⟨fun i=>if d=i then some (.tail 0 none 0)else Ω.e i,Ω.w,Ω.pub⟩:=by
          refine⟨fun id c hc=>⟨c,?_,CLe.refl c⟩,fun _ _ p=>p,fun _ _ _=>rfl⟩;have:d≠id:=fun e=>by subst e;rw[hed]at hc;cases hc
          simp[this,hc]
         refine h.slot hx' ⟨none,0,by simp,Nf _,by unfold cm;omega,fun _=>rfl,fun b hb=>by simp at hb⟩ (fun _ _ _ _=>pK.of_blocks fun _ _ _=>⟨rfl,fun _ p=>p⟩) (fun _ _ _ _ _ _ _ hb=>by cases hb) h.pubok
          ⟨h.frame.os,h.frame.tape,h.frame.output,h.frame.size,h.frame.block,h.frame.cell,h.frame.kind,h.frame.pub,h.frame.old,h.frame.pcell⟩ ?_ hd
         refine .lstNil σ _ ?_;intro id hid;simp at hid;subst hid;exact⟨0,none,0,by simp,Nf _,fun _=>rfl⟩
        rcases hy.src with⟨hyv,hy0⟩|⟨ya,yc,us,hyv,hyl,hyvl,hyc,hy1⟩
        ·have hq:=hn _ _ (empty hy0);refine bx (aX hop (v:=.slice none 0 0) (w':=Ω.w) ?_) hq;rw[hyv,hx.nils_inv];exact kf Ω.w t _ e i hd1 i1 _ _ _ (Nf _)
        ·by_cases hm:ys.length=0
         ·have hy0:=Ni hm;have hq:=hn _ _ (empty hy0);refine bx (aX hop (v:=.slice none 0 0) (w':=Ω.w) ?_) hq;rw[hyv,hx.nils_inv,hm];exact nt Ω.w t _ e i hd1 i1 ya yc
         ·have hzc:∀n,(Builtin.zeroCells zz.cells n).toList.length=n *ag σ:=by intro n;simp[PJ,hzl,hw]
          obtain⟨Ω',hw',hh⟩:=h.grow (k:=d) (bq:=ys.length) (old:=0) (e:=e) (zs:=ys) (us:=us) (rest:=(Builtin.zeroCells zz.cells (grownCap Ω.w ys.length 0 e-ys.length)).toList) (dst:=o.dst)
           (Or.inl hed) rfl hmaxn hyvl (by rw[hzc]) hd
          refine bx (aX hop (v:=.slice (some ⟨Ω.w.heap.size,0,none⟩) ys.length (grownCap Ω.w ys.length 0 e)) (w':=Ω'.w) ?_) (hn _ _ hh);rw[hyv,hx.nils_inv,hw'];have:=Q9 (P:=P) Ω.w t o.type e i zz hd1 i1 i4 ya ys.length yc us (by rw[hiw];exact hyl) hyc (by omega) (by unfold cm at hmaxn;omega) (by rw[i3];omega);have e':(us++(Builtin.zeroCells zz.cells (grownCap Ω.w ys.length 0 e-ys.length)).toList).toArray=us.toArray++Builtin.zeroCells zz.cells (grownCap Ω.w ys.length 0 e-ys.length):=by apply Ob;simp
          rw[e'];exact this
       ·simp at he
      ·simp at he
     ·simp at he
    ·simp at he
   ·simp at he
 ·simp at he
end
end Go.AL
end
section
namespace Go.AL
variable [Tabs]
section
variable {K V:Type} [DecidableEq K]
end
section
variable {P:Program} {C:Cfg} {o:Oper}
theorem Ls(hT:cq P C.tbl){e:Nat}{re:TR}(hre:bE C.tbl e=some re){τ:Ty}(hty:re.ty=some τ){z:den τ}(hz:AM τ re.zero=some z)(Ω:Om) :
  ∃i v,P.info? e=some i/\i.zero=some v/\V Ω (inj τ z) v/\VL Ω (cells τ z) v.cells.toList:=by
 obtain⟨i,v,i1,i2,i3,i4,i5⟩:=(hT _ _ hre).info;have hag:=(hT _ _ hre).zagg i v i1 i4;have hst:=((hT _ _ hre).ty τ hty).2;have hvl:VL Ω (cells τ z) v.cells.toList:=by have:=rP Ω v.cells.toList;rw[i5]at this;exact this.rd (kS τ hz)
 refine⟨i,v,i1,i4,?_,hvl⟩
 cases τ with
 |st n=>
  have:AZ v=true:=by rw[hag,<-hst];rfl
  cases v<;>simp[AZ]at this;rename_i cs;have e:(Value.agg cs).cells.toList.toArray=cs:=by simp[Value.cells]
  have:=V.st (Ω:=Ω) n z (.agg (Value.agg cs).cells.toList.toArray) (V.of_agg hvl);rw[e]at this;exact this
 |_=>
  have:AZ v=false:=by rw[hag,<-hst];rfl
  have hc:v.cells.toList=[v]:=by cases v<;>simp[AZ]at this<;>rfl
  rw[hc]at hvl;exact hvl.head
theorem yg{f:Fn}{first caps:Array Operand}(hop:o.op=.makeFunc f first caps):dq P C o:=by
 refine dq.pure fun F s a Ω eff h he ho=>?_
 cases f with
 |func f=>
  simp only[aQ,hop]at he;split at he
  ·rename_i hem;simp only[Xs]at he;subst he;have hf0:first=#[]:=by simpa using hem
   subst hf0;refine⟨rfl,.func (.func f) #[] (caps.map a.eval),by simp[execOp,hop,Instr.makeFunc],?_⟩;have:(caps.map a.eval)=(caps.toList.map a.eval).toArray:=by apply Ob;simp
   rw[this];refine V.fn f _ _ (by simp) (fun j c v hc hv=>?_);simp only[NM,NB]at hc hv;obtain⟨y,hy,rfl⟩:=hc;obtain⟨y',hy',rfl⟩:=hv;rw[hy]at hy';simp at hy';subst hy';exact ct h y
  ·simp at he
 |_=>simp[aQ,hop]at he
theorem pN(hT:cq P C.tbl){t:Nat}{x:Operand}(hop:o.op=.makeInterface t x):dq P C o:=by
 refine dq.pure fun F s a Ω eff h he ho=>?_;simp only[aQ,hop]at he;split at he
 ·rename_i r hr;split at he
  ·cases he
  ·rename_i hti;simp only[Xs]at he;subst he;obtain⟨d,hd1,hd2⟩:=bJ hT hr rfl;refine⟨rfl,.iface t (a.eval x),?_,.iface t _ _ (ct h x)⟩;have hn:∀ms,d≠.interface ms:=by intro ms e;subst e;generalize r.ti=ti at hti hd2;cases ti<;>first|exact hti rfl|cases hd2
   simp only[execOp,hop,Instr.makeInterface,NA,bQ hd1,Nh];cases d<;>first|exact absurd rfl (hn _)|rfl
 ·simp at he
theorem ur(hT:cq P C.tbl){t t':Nat}{b:Bool}{x:Operand}(hop:o.op=.typeAssert x t' t b):dq P C o:=by
 refine dq.pure fun F s a Ω eff h he ho=>?_
 cases b with
 |false=>simp[aQ,hop]at he
 |true=>
  simp only[aQ,hop]at he;split at he
  ·rename_i t1 c r hx0 hr;have hx:=ct h x;rw[hx0]at hx;split at he
   ·cases he
   ·rename_i hti;split at he
    ·rename_i et;subst et;simp only[Xs]at he;subst he;obtain⟨d,hd1,hd2⟩:=bJ hT hr rfl;have hn:∀ms,d≠.interface ms:=by intro ms e;subst e;generalize r.ti=ti at hti hd2;cases ti<;>first|exact hti rfl|cases hd2
     generalize hxv:a.eval x=xv at hx
     cases hx with
     |iface _ _ v hv=>
      refine⟨rfl,.tuple #[v,.bool true],?_,?_⟩
      ·simp only[execOp,hop,hxv,Instr.typeAssert,NA,bQ hd1,Nh];cases d<;>first|exact absurd rfl (hn _)|simp
      ·exact .tup [c,.bool true] [v,.bool true] rfl (VL.cons hv (VL.cons (.bool true) .nil)).2
    ·cases he
  ·simp at he
theorem H2{k:IntKind}{m n:Int}{w:World}:(Builtin.min2 (.int k m) (.int k n)).run P w=.ok (.int k (min m n)) w:=by simp only[Builtin.min2,NN];congr 2;split<;>omega
theorem H3{k:IntKind}{m n:Int}{w:World}:(Builtin.max2 (.int k m) (.int k n)).run P w=.ok (.int k (max m n)) w:=by simp only[Builtin.max2,NN];congr 2;split<;>omega
theorem Lt{args:Array Operand}{ts:Array Nat}(hop:o.op=.call {callee:=.builtin .max,args:=args,argTypes:=ts}):dq P C o:=by
 refine dq.pure fun F s a Ω eff h he ho=>?_;simp only[aQ,hop]at he;split at he
 ·rename_i x y hargs;have ha:args=#[x,y]:=by apply Ob;simpa using hargs
  subst ha;have hx:=ct h x;have hy:=ct h y;split at he
  ·rename_i k m k' n hm hn;rw[hm]at hx;rw[hn]at hy;split at he
   ·rename_i hk;subst hk;simp only[Xs]at he;subst he;obtain⟨hx1,hx2,hx3⟩:=hx.int_inv;obtain⟨hy1,hy2,hy3⟩:=hy.int_inv;refine⟨rfl,.int k (max m n),?_,.int k _ (by omega) (by omega)⟩;simp[execOp,hop,resolve,invoke,builtin,hx1,hy1,Builtin.max_,H3]
   ·cases he
  ·cases he
 ·cases he
theorem Lu{args:Array Operand}{ts:Array Nat}(hop:o.op=.call {callee:=.builtin .min,args:=args,argTypes:=ts}):dq P C o:=by
 refine dq.pure fun F s a Ω eff h he ho=>?_;simp only[aQ,hop]at he;split at he
 ·rename_i x y hargs;have ha:args=#[x,y]:=by apply Ob;simpa using hargs
  subst ha;have hx:=ct h x;have hy:=ct h y;split at he
  ·rename_i k m k' n hm hn;rw[hm]at hx;rw[hn]at hy;split at he
   ·rename_i hk;subst hk;simp only[Xs]at he;subst he;obtain⟨hx1,hx2,hx3⟩:=hx.int_inv;obtain⟨hy1,hy2,hy3⟩:=hy.int_inv;refine⟨rfl,.int k (min m n),?_,.int k _ (by omega) (by omega)⟩;simp[execOp,hop,resolve,invoke,builtin,hx1,hy1,Builtin.min_,H2]
   ·cases he
  ·cases he
 ·cases he
theorem yh(τ:Ty):∀(xs:List (den τ))(q:Nat)(c:AV),(bD τ xs)[q]?=some c->∃i x j,xs[i]?=some x/\(cells τ x)[j]?=some c/\q=i *ag τ+j/\j<ag τ
 |[],q,c,h=>by simp[bD]at h
 |x::xs,q,c,h=>by
  simp only[bD,O9]at h;by_cases hq:q<(cells τ x).length
  ·rw[Nq hq]at h;exact⟨0,x,q,rfl,h,by simp,by rw[<-bG τ x];exact hq⟩
  ·rw[Nr (by omega)]at h;obtain⟨i,y,j,h1,h2,h3,h4⟩:=yh τ xs _ c h;rw[bG]at h3 hq;exact⟨i+1,y,j,by simpa using h1,h2,by rw[NT];omega,h4⟩
theorem E9{k:IntKind}{n:Int}{w:World}:(Go.asInt (.int k n)).run P w=.ok n w:=by simp[Go.asInt,asIntOf]
theorem nu{t e:Nat}{i:TypeInfo}{z:Value}{a b:Int}{w:World}(hu:P.underlying t=some (.slice e))(hi:P.info? e=some i)(hz:i.zero=some z)
 (h0:0<=a)(h1:a<=b)(h2:b *i.bytes<=140737488355328)(hb:0<i.bytes) :
  ∃cs:Array Value,(Instr.makeSlice t (.int .i64 a) (.int .i64 b)).run P w=.ok (.slice (some ⟨w.heap.size,0,none⟩) a.toNat b.toNat) (w.alloc (.cells cs e))/\
   cs.size=b.toNat *i.size/\∀q,q<cs.size->cs[q]?=some (z.cells[q%z.cells.size]!):=by
 have hbb:b<=140737488355328:=by have:b *1<=b *i.bytes:=Int.mul_le_mul_of_nonneg_left (by omega) (by omega);omega
 have w1:IntKind.i64.wrap a=a:=jH _ _ (by simp[IntKind.min,IntKind.signed,IntKind.bits];omega) (by simp[IntKind.max,IntKind.signed,IntKind.bits];omega);have w2:IntKind.i64.wrap b=b:=jH _ _ (by simp[IntKind.min,IntKind.signed,IntKind.bits];omega) (by simp[IntKind.max,IntKind.signed,IntKind.bits];omega);have hmul:(i.bytes:Int) *b=b *i.bytes:=Int.mul_comm _ _;have c1:¬(2 ^ 48<(i.bytes:Int) *b):=by rw[hmul];omega
 have c2:¬(b<0):=by omega
 have c3:¬(a<0):=by omega
 have c4:¬(b<a):=by omega
 have hask:(askRoom (b.toNat *i.bytes)).run P w=.ok () w:=by
  have:¬(140737488355328<b.toNat *i.bytes):=by
   have e:((b.toNat *i.bytes:Nat):Int)=b *i.bytes:=by rw[Int.natCast_mul,Int.toNat_of_nonneg (by omega)]
   omega
  simp[askRoom,roomBytes,this]
 refine⟨(Array.range (b.toNat *i.size)).map fun q=>(if b.toNat *i.size=0 then #[]else z.cells)[q%(if b.toNat *i.size=0 then #[]else z.cells).size]!,?_,by simp,fun q hq=>?_⟩
 ·simp only[Instr.makeSlice,NA,bQ hu,Nh,E9,rQ hi,w1,w2];simp only[gt_iff_lt,c1,c2,c3,c4,OA,Bool.or_false,Bool.or_self,NC,ND,hask,Nh,NA,NN,eE hi];by_cases hn:b.toNat *i.size=0
  ·simp only[hn,NS,NN,Nh,newRow,NA];rfl
  ·simp only[hn,ND,NA,lN hi hz,NN,Nh,newRow];rfl
 ·have hq':q<b.toNat *i.size:=by simpa using hq
  have hn:¬b.toNat *i.size=0:=by omega
  simp[hq',hn]
theorem wy(hT:cq P C.tbl){t:Nat}{x y:Operand}(hop:o.op=.makeSlice t x y):dq P C o:=by
 intro F s a Ω eff next Q h hd he ho hn
 simp only[aQ,hop]at he;split at he
 ·rename_i d e sz by' z0 ty m n hdst hr hxe hye
  have hx:=ct h x;have hy:=ct h y;rw[hxe]at hx;rw[hye]at hy;obtain⟨hx1,_⟩:=hx.int_inv;obtain⟨hy1,_⟩:=hy.int_inv;split at he
  ·rename_i ti size bytes zero τ hre hB;split at he
   ·rename_i z hz;obtain⟨dd,hd1,hd2⟩:=bJ hT hr rfl;cases dd<;>simp[bS]at hd2;subst hd2;obtain⟨i,zv,i1,i4,zV,zvl⟩:=Ls hT hre rfl hz Ω;obtain⟨i',zv',j1,j2,j3,j4,_⟩:=(hT _ _ hre).info;rw[i1]at j1;simp at j1;subst j1;have hw:ag τ=size:=((hT _ _ hre).ty τ rfl).1;have hpos:=(hT _ _ hre).pos rfl;have hbpos:0<i.bytes:=by rw[j3];exact(hT _ _ hre).bps rfl
    have hsz:i.size=ag τ:=by rw[j2,hw]
    have hzs:zv.cells.size=ag τ:=by have:=zvl.1;rw[bG]at this;simpa using this.symm
    have hmax:0<=n->n *bytes<=140737488355328->n.toNat<=cm:=by intro h0 h1;have:n *1<=n *bytes:=Int.mul_le_mul_of_nonneg_left (by have:=(hT _ _ hre).bps rfl;simp at this;omega) h0;unfold cm;omega
    split at he
    ·rename_i kk;simp only[Xs]at he;subst he;obtain⟨h0,h1⟩:=ho
     have hm0:m=0:=by
      have:opd s.T (.const (.int kk (.ofNat 0)))=.int .i64 m:=hxe;simp only[opd,rf,cQ]at this;split at this
      ·simp at this;exact this.2.symm
      ·cases this
     subst hm0;obtain⟨cs,r1,r2,r3⟩:=nu (P:=P) (w:=Ω.w) hd1 i1 i4 (OE 0) h0 (by rw[j3];exact h1) hbpos
     have hh:Holds F ⟨dY s.T o.dst (.lst τ [] (some d)),updB s.B [(d,.tail τ 0)]⟩ (a.put o.dst (.slice (some ⟨Ω.w.heap.size,0,none⟩) 0 n.toNat))
       ⟨fun i=>if d=i then some (.tail 0 (some Ω.w.heap.size) n.toNat)else Ω.e i,Ω.w.alloc (.cells cs e),fun b o=>Ω.pub b o∨(b=Ω.w.heap.size/\False)⟩:=by
      refine h.alloc (p:=fun _=>False) (Or.inl (h.dom d hB)) (fun b o hb=>by simp[occ]at hb;exact hb.symm) (fun hx=>?_) (fun _ hf=>hf.elim) (fun hx=>?_) hd
      ·refine⟨some Ω.w.heap.size,n.toNat,by simp,Nt _,hmax h0 h1,by simp,fun b hb=>?_⟩;simp at hb;subst hb;refine⟨fun _=>Or.inl h.frame.size,cs,e,(0,0),dt _ _,rfl,by rw[r2,hsz];exact Nf _,fun o _ hp=>?_⟩;rcases hp with hp|⟨_,hp⟩
       ·have:=h.cell_lt hp;omega
       ·exact hp
      ·refine .lst τ [] (some d) _ 0 n.toNat (fun _ _=>undef) (Nt _) (hmax h0 h1) ?_ (fun i x hx=>by simp at hx) (fun i x hx=>by simp at hx);intro id hid;simp at hid;subst hid;exact⟨0,some Ω.w.heap.size,n.toNat,by simp,Nf _,fun _=>rfl⟩
     exact bx (by simp only[execOp,hop,hx1,hy1,NA,r1,Nh,NN];rfl) (hn _ _ hh)
    ·simp only[Xs]at he;subst he;obtain⟨h0,h1,h2⟩:=ho;obtain⟨cs,r1,r2,r3⟩:=nu (P:=P) (w:=Ω.w) hd1 i1 i4 h0 h1 (by rw[j3];exact h2) hbpos;have hmn:m.toNat<=n.toNat:=by omega
     have hmulle:m.toNat *ag τ<=n.toNat *ag τ:=O8 _ hmn
     have hh:Holds F ⟨dY s.T o.dst (.arr d m.toNat size),updB s.B [(d,.box (.row τ (List.replicate m.toNat z)))]⟩ (a.put o.dst (.slice (some ⟨Ω.w.heap.size,0,none⟩) m.toNat n.toNat))
       ⟨fun i=>if d=i then some (.box Ω.w.heap.size 0 (m.toNat *ag τ))else Ω.e i,Ω.w.alloc (.cells cs e),fun b o=>Ω.pub b o∨(b=Ω.w.heap.size/\False)⟩:=by
      refine h.alloc (p:=fun _=>False) (Or.inl (h.dom d hB)) (fun b o hb=>hb.1) (fun hx=>?_) (fun _ hf=>hf.elim) (fun hx=>?_) hd
      ·refine⟨Ω.w.heap.size,0,by simp[aa,cp],fun q c hc=>?_⟩;obtain⟨i2,x2,j,q1,q2,q3,q4⟩:=yh τ _ q c hc;have hxz:x2=z:=by have:=NQ q1;exact(List.mem_replicate.1 this).2
       subst hxz
       have hi2:i2<m.toNat:=by
        rcases Nv i2 m.toNat with k|k
        ·exact k
        ·rw[Nd (by simpa using k)]at q1;cases q1
       have hqlt:q<cs.size:=by have:(i2+1) *ag τ<=m.toNat *ag τ:=O8 _ hi2;rw[NT]at this;rw[r2,hsz,q3];omega
       have hmod:q%ag τ=j:=by rw[q3,Pv,Nat.mul_add_mod,Nat.mod_eq_of_lt q4]
       have hcells:(Ω.w.alloc (.cells cs e)).heap[Ω.w.heap.size]?=some (.cells cs e (0,0)):=dt _ _;refine⟨Or.inl h.frame.size,fun hp=>?_,fG hcells _,zv.cells[j]!,?_,?_⟩
       ·rcases hp with hp|⟨_,hp⟩
        ·have:=h.cell_lt hp;omega
        ·exact hp
       ·rw[aT hcells,OQ,r3 q hqlt,hzs,hmod]
       ·have hj:j<zv.cells.toList.length:=by simp[hzs,q4]
        refine V.ext hx (zvl.2 j c _ q2 ?_);rw[N9 hj];simp[hzs,q4]
      ·refine .arr d m.toNat size Ω.w.heap.size (m.toNat *ag τ) n.toNat _ (by simp) (Nat.le_of_eq (OH (m.toNat * ·) hw.symm)) hmn (hmax (by omega) h2) (.inl rfl)
     exact bx (by simp only[execOp,hop,hx1,hy1,NA,r1,Nh,NN]) (hn _ _ hh)
   ·cases he
  ·cases he
 ·cases he
theorem kg{w:World}:∀(xs:List Int)(b:List UInt8),xs.foldl (fun(r:ByteArray) n=>r.push (UInt8.ofNat n.toNat)) ⟨b.toArray⟩=⟨(b++kM xs).toArray⟩
 |[],b=>by simp[kM]
 |n::r,b=>by
  rw[PY];have e:(⟨b.toArray⟩:ByteArray).push (UInt8.ofNat n.toNat)=⟨(b++[UInt8.ofNat n.toNat]).toArray⟩:=by simp[ByteArray.push]
  rw[e,kg (w:=w) r];simp[kM]
theorem Holds.row{F:Fr}{s:AS}{a:Act}{Ω:Om}{w':World}{p:Nat->Prop}{dst:Option Nat}{val:AV}{v:Value}
 (h:Holds F s a Ω)(os:w'.os=Ω.w.os)(tape:w'.tape=Ω.w.tape)(output:w'.output=Ω.w.output)(size:Ω.w.heap.size<=w'.heap.size)(old:∀b,b<Ω.w.heap.size->w'.heap[b]?=Ω.w.heap[b]?)
 (hcell:∀o,p o->∃v,w'.cell? ⟨Ω.w.heap.size,o,none⟩=some v)
 (hv:Ext Ω ⟨Ω.e,w',fun b o=>Ω.pub b o∨(b=Ω.w.heap.size/\p o)⟩->V ⟨Ω.e,w',fun b o=>Ω.pub b o∨(b=Ω.w.heap.size/\p o)⟩ val v)(hd:∀d,dst=some d->d<F.n) :
  Holds F ⟨dY s.T dst val,s.B⟩ (a.put dst v) ⟨Ω.e,w',fun b o=>Ω.pub b o∨(b=Ω.w.heap.size/\p o)⟩:=by
 have hx:Ext Ω ⟨Ω.e,w',fun b o=>Ω.pub b o∨(b=Ω.w.heap.size/\p o)⟩:=⟨fun _ c hc=>⟨c,hc,CLe.refl c⟩,fun _ _ p=>.inl p,fun b o hp=>aF (old b (h.cell_lt hp)) o⟩;refine h.step hx (hv hx) hd (fun id o ho=>(h.slots id o ho).keep hx rfl (fun c hc=>pK.of_blocks fun b o hb=>?_)) h.dom h.inj (fun b o hp=>?_) ?_
 ·have hlt:=h.blk hc hb;exact⟨old b hlt,fun o ho=>ho.resolve_right (fun e=>by omega)⟩
 ·rcases hp with hp|⟨rfl,hp⟩
  ·obtain⟨v,hv⟩:=h.pubok b o hp;exact⟨v,by rw[aF (old b (h.cell_lt hp)),hv]⟩
  ·exact hcell o hp
 ·have hsz:=h.frame.size;refine⟨os.trans h.frame.os,tape.trans h.frame.tape,output.trans h.frame.output,NG hsz size,fun b hb hnb=>(old b (by omega)).trans (h.frame.block b hb hnb),fun b o hb hnb=>(aF (old b (by omega)) o).trans (h.frame.cell b o hb hnb),fun b hb=>?_,fun b o hp=>?_,fun b o hp=>Or.inl (h.frame.old b o hp),fun b o hp=>(hx.cell b o (h.frame.old b o hp)).trans (h.frame.pcell b o hp)⟩
  ·intro hnb;obtain⟨k1,k2⟩:=h.frame.kind b hb hnb;exact⟨(bZ (old b (by omega))).trans k1,fun o=>(bC (old b (by omega)) o).trans (k2 o)⟩
  ·rcases hp with hp|⟨rfl,hp⟩
   ·exact h.frame.pub b o hp
   ·exact Or.inr (Or.inl h.frame.size)
theorem Bc(hT:cq P C.tbl){t t':Nat}{x:Operand}(hop:o.op=.convert t t' x):dq P C o:=by
 intro F s a Ω eff next Q h hd he ho hn
 simp only[aQ,hop]at he;have hx:=ct h x;split at he
 ·rename_i r k sz by' z ty k' n h1 h2 hn'
  rw[hn']at hx;simp only[Xs]at he;subst he;obtain⟨d,hd1,hd2⟩:=bJ hT h2 rfl;cases d<;>simp[bS]at hd2;subst hd2;obtain⟨d',hd3,hd4⟩:=(hT _ _ h1).desc;obtain⟨h3,h4⟩:=ho;refine bx (v:=.int k n) ?_ (hn _ _ (h.pure (.int k _ h3 h4) hd));simp[execOp,hop,hx.int_inv.1,convert,bQ hd1,bQ hd3,Conv.intToInt,jH k _ h3 h4]
 ·rename_i r sz by' z ty s' h1 h2 hn'
  rw[hn']at hx;simp only[Xs]at he;subst he;obtain⟨d,hd1,hd2⟩:=bJ hT h2 rfl;cases d<;>simp[bS]at hd2;obtain⟨d',hd3,hd4⟩:=(hT _ _ h1).desc;refine bx ?_ (hn _ _ (h.pure hx hd));simp[execOp,hop,hx.str_inv.1,convert,bQ hd1,bQ hd3]
 ·unfold L2 at he;split at he
  ·rename_i e sz1 by1 z1 ty1 sz2 by2 z2 ty2 xs o' h1 h2 hn';rw[hn']at hx;split at he
   ·rename_i sz3 by3 z3 h3;simp only[Xs]at he;subst he;obtain⟨d,hd1,hd2⟩:=bJ hT h1 rfl;cases d<;>simp[bS]at hd2;subst hd2;obtain⟨d',hd3,hd4⟩:=bJ hT h2 rfl;cases d'<;>simp[bS]at hd4;obtain⟨d2,hd5,hd6⟩:=bJ hT h3 rfl;cases d2<;>simp[bS]at hd6;subst hd6
    have hlen:xs.length<=cm:=by
     rcases hx.lst_inv with⟨h1,hv,_⟩|⟨h1,_,a0,hv⟩|⟨b,off,cap,vals,hv,h1,h2,h3,h4,h5⟩
     ·rw[h1];exact Nt _
     ·rw[h1];exact Nt _
     ·omega
    have hval:V Ω (.str (kM xs)) (.string ⟨(kM xs).toArray⟩):=.str _ (by simpa[kM]using hlen);refine bx (v:=.string ⟨(kM xs).toArray⟩) ?_ (hn _ _ (h.pure hval hd));rcases hx.src with⟨hxv,hx0⟩|⟨ya,yc,us,hxv,hxl,hxvl,hxc,hx1⟩
    ·simp only[execOp,hop,hxv,NA,run_convert_bytes_string Ω.w t t' e _ _ _ hd1 hd5 hd3];rw[hx0];simp[Conv.bytesToString,kM,NN];rfl
    ·have hus:us=xs.map (Value.int .u8):=by
      have e1:bD (.int .u8) xs=xs.map (AV.int .u8):=by unfold bD;rw[Q1];rfl
      rw[e1]at hxvl;obtain⟨l1,l2⟩:=hxvl;refine Qf fun j=>?_;rcases Nv j xs.length with hj|hj
      ·have hj':j<us.length:=by rw[<-l1];simpa using hj
       have:=l2 j (.int .u8 xs[j]) us[j] (by simp[hj]) (by simp[hj']);rw[N9 hj',this.int_inv.1];simp[hj]
      ·rw[Nd (by rw[<-l1];simpa using hj),Nd (by simpa using hj)]
     have hld:(loadCells ya xs.length).run P Ω.w=.ok (xs.map (Value.int .u8)).toArray Ω.w:=by have:=run_loadCells_list (P:=P) Ω.w ya us hxc;rw[hus]at this;simpa using this
     have hr:=run_bytesToString (P:=P) Ω.w ya xs.length yc xs hld;have e0:=kg (w:=Ω.w) xs [];simp only[Nk]at e0;have e2:(ByteArray.empty:ByteArray)=⟨([]:List UInt8).toArray⟩:=rfl;rw[e2,e0]at hr;simp only[execOp,hop,hxv,NA,run_convert_bytes_string Ω.w t t' e _ _ _ hd1 hd5 hd3,hr,Nh,NN]
   ·cases he
  ·rename_i sz1 by1 z1 ty1 e sz2 by2 z2 ty2 s' h1 h2 hn';rw[hn']at hx;split at he
   ·rename_i sz3 by3 z3 h3;simp only[Xs]at he;subst he;obtain⟨d,hd1,hd2⟩:=bJ hT h1 rfl;cases d<;>simp[bS]at hd2;obtain⟨d',hd3,hd4⟩:=bJ hT h2 rfl;cases d'<;>simp[bS]at hd4;subst hd4;obtain⟨d2,hd5,hd6⟩:=bJ hT h3 rfl;cases d2<;>simp[bS]at hd6;subst hd6;obtain⟨hxv,hlen⟩:=hx.str_inv;have hr:=Lib.run_convert_string_bytes (P:=P) Ω.w t t' e ⟨s'.toArray⟩ hd1 hd3 hd5;have hcap:=iz Ω.w (⟨s'.toArray⟩:ByteArray).size 0 e (by simpa[ByteArray.size]using hlen);have hsz:(⟨s'.toArray⟩:ByteArray).size=s'.length:=by simp[ByteArray.size]
    have hcellat:∀j,j<s'.length->(Lib.bytesWorld Ω.w e ⟨s'.toArray⟩).cell? ⟨Ω.w.heap.size,j,none⟩=some (.int .u8 (s'.getD j 0).toNat):=by intro j hj;have:=Lib.bytesWorld_cell Ω.w e ⟨s'.toArray⟩ j (by rw[hsz];exact hj);simpa using this
    have hh:=h.row (w':=Lib.bytesWorld Ω.w e ⟨s'.toArray⟩) (p:=fun o=>o<s'.length) (dst:=o.dst) (val:=.lst (.int .u8) (b9 s') none) (v:=.slice (some ⟨Ω.w.heap.size,0,none⟩) s'.length (grownCap Ω.w s'.length 0 e))
     rfl rfl rfl (by rw[Lib.bytesWorld_size];omega) (fun b hb=>Lib.bytesWorld_at_old Ω.w e _ b hb) (fun o ho=>⟨_,hcellat o ho⟩) (fun hx=>by
      have hb1:(b9 s').length=s'.length:=by simp[b9]
      have:=rX (Ω:=⟨Ω.e,Lib.bytesWorld Ω.w e ⟨s'.toArray⟩,fun b o=>Ω.pub b o∨(b=Ω.w.heap.size/\o<s'.length)⟩) (τ:=.int .u8) (xs:=b9 s') (o:=none) (cap:=grownCap Ω.w s'.length 0 e) (vs:=s'.map fun b=>Value.int .u8 b.toNat)
       (Lib.bytesWorld_at_new Ω.w e ⟨s'.toArray⟩)
       (by
        have e1:(b9 s').length *ag (.int .u8)=s'.length:=by rw[hb1];exact Qg _
        rw[e1];unfold Lib.bytesCells;simp)
       (Dh _ s') (by rw[hb1];rw[hsz]at hcap;exact hcap.1) (by rw[hsz]at hcap;exact hcap.2) (fun i hi=>Or.inr ⟨rfl,by rw[hb1]at hi;simpa[ag]using hi⟩) (fun id hid=>by cases hid)
      rw[hb1]at this;exact this) hd
    refine bx (v:=.slice (some ⟨Ω.w.heap.size,0,none⟩) s'.length (grownCap Ω.w s'.length 0 e)) (w':=Lib.bytesWorld Ω.w e ⟨s'.toArray⟩) ?_ (hn _ _ hh);rw[hsz]at hr;simp only[execOp,hop,hxv,NA,hr,Nh,NN]
   ·cases he
  ·cases he
end
end Go.AL
end
section
namespace Go.AL
variable [Tabs]
section
variable {fp:Nat->Nat->Option (Nat×Nat)} {fi ft:Nat->Option Nat}
theorem kT:∀{cs ds:List AV},mapVs fp fi ft cs=some ds->cs.length=ds.length/\∀(j:Nat)(c d:AV),cs[j]?=some c->ds[j]?=some d->mapV fp fi ft c=some d
 |[],ds,h=>by simp[mapVs]at h;subst h;exact⟨rfl,fun j c d hc=>by simp at hc⟩
 |a::r,ds,h=>by
  simp only[mapVs]at h;split at h
  ·rename_i a' r' ha hr;simp at h;subst h;obtain⟨h1,h2⟩:=kT hr;refine⟨by simp[h1],fun j c d hc hd=>?_⟩
   cases j with|zero=>simp at hc hd;subst hc hd;exact ha|succ j=>exact h2 j c d (by simpa using hc) (by simpa using hd)
  ·cases h
theorem kU(τ:Ty)(x:den τ):∀c∈cells τ x,mapV fp fi ft c=some c:=by
 cases τ with
 |st n=>cases n<;>simp[cells,ej,iL,fN,gB,gD,gE,dH,gF,jX,iM,iN,iO,jY,jZ,j6,iP,mK,gG,k0,mL,ka,kb,iQ,mapV]
 |_=>simp[cells,mapV]
theorem Ea(τ:Ty)(xs:List (den τ)):∀c∈bD τ xs,mapV fp fi ft c=some c:=by intro c hc;simp only[bD,OF]at hc;obtain⟨x,_,hx⟩:=hc;exact kU τ x c hx
theorem kV{c c':AV}(h:mapV fp fi ft c=some c'):(aa c).length=(aa c').length/\
  ∀(j:Nat)(a b:AV),(aa c)[j]?=some a->(aa c')[j]?=some b->mapV fp fi ft a=some b:=by
 have one:∀{a b:AV},aa a=[a]->aa b=[b]->mapV fp fi ft a=some b->(aa a).length=(aa b).length/\
   ∀(j:Nat)(x y:AV),(aa a)[j]?=some x->(aa b)[j]?=some y->mapV fp fi ft x=some y:=by
  intro a b ha hb h;rw[ha,hb];refine⟨rfl,fun j x y hx hy=>?_⟩
  cases j with|zero=>simp at hx hy;subst hx hy;exact h|succ j=>simp at hx
 cases c with
 |agg cs=>
  simp only[mapV]at h;split at h
  ·rename_i ds hds;simp at h;subst h;exact kT hds
  ·cases h
 |st n x=>simp only[mapV,Xs]at h;subst h;exact⟨rfl,fun j a b ha hb=>by rw[ha]at hb;simp at hb;subst hb;exact kU (.st n) x a (NQ ha)⟩
 |row τ xs=>simp only[mapV,Xs]at h;subst h;exact⟨rfl,fun j a b ha hb=>by rw[ha]at hb;simp at hb;subst hb;exact Ea τ xs a (NQ ha)⟩
 |ptr i o=>
  have h0:=h;simp only[mapV]at h;split at h
  ·simp at h;subst h;exact one rfl rfl h0
  ·cases h
 |lst τ xs o=>
  have h0:=h;simp only[mapV]at h;split at h
  ·simp at h;subst h;exact one rfl rfl h0
  ·simp at h;subst h;exact one rfl rfl h0
 |cptr c=>
  have h0:=h;simp only[mapV]at h;split at h
  ·simp at h;subst h;exact one rfl rfl h0
  ·cases h
 |tup cs=>
  have h0:=h;simp only[mapV]at h;split at h
  ·simp at h;subst h;exact one rfl rfl h0
  ·cases h
 |fn f cs=>
  have h0:=h;simp only[mapV]at h;split at h
  ·simp at h;subst h;exact one rfl rfl h0
  ·cases h
 |arr i n w=>
  have h0:=h;simp only[mapV]at h;split at h
  ·simp at h;subst h;exact one rfl rfl h0
  ·cases h
 |aptr i n w o=>
  have h0:=h;simp only[mapV]at h;split at h
  ·simp at h;subst h;exact one rfl rfl h0
  ·cases h
 |bptr i=>
  have h0:=h;simp only[mapV]at h;split at h
  ·simp at h;subst h;exact one rfl rfl h0
  ·cases h
 |iface t a=>
  have h0:=h;simp only[mapV]at h;split at h
  ·simp at h;subst h;exact one rfl rfl h0
  ·cases h
 |lstp τ xs k=>simp[mapV]at h
 |tptr τ n k=>simp[mapV]at h
 |_=>simp only[mapV,Xs]at h;subst h;exact one rfl rfl (by simp[mapV])
structure Names(fp:Nat->Nat->Option (Nat×Nat))(fi ft:Nat->Option Nat)(e e':Nat->Option CObj):Prop where
 p:∀i o i' o',fp i o=some (i',o')->∀b p l,e i=some (.box b p l)->∃p' l',e' i'=some (.box b p' l')/\p+o=p'+o'
 i:∀i i',fi i=some i'->∀c,e i=some c->e' i'=some c
 t:∀i i',ft i=some i'->∀c,e i=some c->e' i'=some c
theorem V.mapV{Ω:Om}{e':Nat->Option CObj}(hn:Names fp fi ft Ω.e e'){a:AV}{v:Value}(h:V Ω a v):∀{a':AV},AL.mapV fp fi ft a=some a'->V ⟨e',Ω.w,Ω.pub⟩ a' v:=by
 have tok:∀{o:Option Nat} {n:Nat} {v:Value},ie Ω o n v->ie ⟨e',Ω.w,Ω.pub⟩ (o.bind ft) n v:=by
  intro o n v ht id hid
  cases o with
  |none=>simp at hid
  |some k=>obtain⟨m,base,cap,h1,h2,h3⟩:=ht k rfl;exact⟨m,base,cap,hn.t k id hid _ h1,h2,h3⟩
 have many:∀{cs ds:List AV} {vs:List Value},cs.length=vs.length->(∀(j:Nat)(c:AV)(v:Value),cs[j]?=some c->vs[j]?=some v->∀{a':AV},AL.mapV fp fi ft c=some a'->V ⟨e',Ω.w,Ω.pub⟩ a' v)->
   mapVs fp fi ft cs=some ds->ds.length=vs.length/\∀(j:Nat)(c:AV)(v:Value),ds[j]?=some c->vs[j]?=some v->V ⟨e',Ω.w,Ω.pub⟩ c v:=by
  intro cs ds vs hl ih hm;obtain⟨m1,m2⟩:=kT hm;refine⟨by omega,fun j d v hd hv=>?_⟩
  have hj:j<cs.length:=by
   rw[m1];rcases Nv j ds.length with k|k
   ·exact k
   ·rw[Nd k]at hd;cases hd
  exact ih j _ v (N9 hj) hv (m2 j _ d (N9 hj) hd)
 induction h with
 |undef v=>intro a' h;simp[AL.mapV]at h;subst h;exact .undef v
 |int k n h1 h2=>intro a' h;simp[AL.mapV]at h;subst h;exact .int k n h1 h2
 |bool b=>intro a' h;simp[AL.mapV]at h;subst h;exact .bool b
 |str s h1=>intro a' h;simp[AL.mapV]at h;subst h;exact .str s h1
 |lstNil τ o ht=>
  intro a' h
  cases o with|none=>simp[AL.mapV]at h;subst h;exact .lstNil τ none (fun id hid=>by simp at hid)|some k=>simp[AL.mapV]at h;subst h;exact .lstNil τ _ (tok ht)
 |lstVoid τ a=>intro a' h;simp[AL.mapV]at h;subst h;exact .lstVoid τ a
 |lst τ xs o b off cap vals h1 h2 h3 h4 h5 ih=>
  intro a' h
  have hc:∀(i:Nat)(x:den τ),xs[i]?=some x->∀(j:Nat)(c:AV),(cells τ x)[j]?=some c->V ⟨e',Ω.w,Ω.pub⟩ c (vals i j):=
   fun i x hx j c hcj=>ih i x hx j c hcj (kU τ x c (NQ hcj))
  cases o with|none=>simp[AL.mapV]at h;subst h;exact .lst τ xs none b off cap vals h1 h2 (fun id hid=>by simp at hid) h4 hc|some k=>simp[AL.mapV]at h;subst h;exact .lst τ xs _ b off cap vals h1 h2 (tok h3) h4 hc
 |nils=>intro a' h;simp[AL.mapV]at h;subst h;exact .nils
 |ptr id off b o len he=>
  intro a' h;simp only[AL.mapV]at h;split at h
  ·rename_i j p hj;simp at h;subst h;obtain⟨p',l',q1,q2⟩:=hn.p _ _ _ _ hj _ _ _ he;rw[q2];exact .ptr j p b p' l' q1
  ·cases h
 |cptr c b off vals h1 h2 ih=>
  intro a' h;simp only[AL.mapV]at h;split at h
  ·rename_i d hd;simp at h;subst h;obtain⟨m1,m2⟩:=kV hd
   have hj:∀(j:Nat)(d':AV),(aa d)[j]?=some d'->∃c',(aa c)[j]?=some c':=by
    intro j d' hd'
    have:j<(aa c).length:=by
     rw[m1];rcases Nv j (aa d).length with k|k
     ·exact k
     ·rw[Nd k]at hd';cases hd'
    exact⟨_,N9 this⟩
   refine .cptr d b off vals (fun j d' hd'=>?_) (fun j d' hd'=>?_)
   ·obtain⟨c',hc'⟩:=hj j d' hd';exact h1 j c' hc'
   ·obtain⟨c',hc'⟩:=hj j d' hd';exact ih j c' hc' (m2 j c' d' hc' hd')
  ·cases h
 |nilp=>intro a' h;simp[AL.mapV]at h;subst h;exact .nilp
 |ptNone n=>intro a' h;simp[AL.mapV]at h;subst h;exact .ptNone n
 |ptSome n x v _ ih=>intro a' h;simp[AL.mapV]at h;subst h;exact .ptSome n x v (ih (by simp[AL.mapV]))
 |arr id n w b len cap a he h1 h2 h3 h4=>
  intro a' h;simp only[AL.mapV]at h;split at h
  ·rename_i j hj;simp at h;subst h;exact .arr j n w b len cap a (hn.i _ _ hj _ he) h1 h2 h3 h4
  ·cases h
 |aptr id i w off b o len he=>
  intro a' h;simp only[AL.mapV]at h;split at h
  ·rename_i j hj;simp at h;subst h;exact .aptr j i w off b o len (hn.i _ _ hj _ he)
  ·cases h
 |bptr id b g he=>
  intro a' h;simp only[AL.mapV]at h;split at h
  ·rename_i j hj;simp at h;subst h;exact .bptr j b g (hn.i _ _ hj _ he)
  ·cases h
 |lstp τ xs k b off cap vals h1 h2 h3 h4 h5 _=>intro a' h;simp[AL.mapV]at h
 |tptr τ n k p hp=>intro a' h;simp[AL.mapV]at h
 |iface t a v _ ih=>
  intro a' h;simp only[AL.mapV]at h;split at h
  ·rename_i d hd;simp at h;subst h;exact .iface t d v (ih hd)
  ·cases h
 |nilif=>intro a' h;simp[AL.mapV]at h;subst h;exact .nilif
 |st n x v _ ih=>
  intro a' h;simp only[AL.mapV,Xs]at h;subst h;refine .st n x v (ih ?_)
  have:∀cs:List AV,(∀c∈cs,AL.mapV fp fi ft c=some c)->mapVs fp fi ft cs=some cs:=by
   intro cs
   induction cs with
   |nil=>intro _;rfl
   |cons c r ih=>intro hc;simp only[mapVs,hc c (by simp),ih (fun d hd=>hc d (by simp[hd]))]
  simp only[AL.mapV,this _ (kU (.st n) x)]
 |agg cs vs hl _ ih=>
  intro a' h;simp only[AL.mapV]at h;split at h
  ·rename_i ds hds;simp at h;subst h;obtain⟨q1,q2⟩:=many hl ih hds;exact .agg ds vs q1 q2
  ·cases h
 |tup cs vs hl _ ih=>
  intro a' h;simp only[AL.mapV]at h;split at h
  ·rename_i ds hds;simp at h;subst h;obtain⟨q1,q2⟩:=many hl ih hds;exact .tup ds vs q1 q2
  ·cases h
 |fn f cs vs hl _ ih=>
  intro a' h;simp only[AL.mapV]at h;split at h
  ·rename_i ds hds;simp at h;subst h;obtain⟨q1,q2⟩:=many hl ih hds;exact .fn f ds vs q1 q2
  ·cases h
theorem VL.mapVs{Ω:Om}{e':Nat->Option CObj}(hn:Names fp fi ft Ω.e e'){cs ds:List AV}{vs:List Value}(h:VL Ω cs vs)(hm:AL.mapVs fp fi ft cs=some ds):VL ⟨e',Ω.w,Ω.pub⟩ ds vs:=by
 obtain⟨m1,m2⟩:=kT hm;refine⟨by rw[<-m1,h.1],fun j d v hd hv=>?_⟩
 have hj:j<cs.length:=by
  rw[m1];rcases Nv j ds.length with k|k
  ·exact k
  ·rw[Nd k]at hd;cases hd
 exact(h.2 j _ v (N9 hj) hv).mapV hn (m2 j _ d (N9 hj) hd)
end
def kh(w:World)(pub:Nat->Nat->Prop):Prop:=∀b o,pub b o->∃v,w.cell? ⟨b,o,none⟩=some v
def Inj(e:Nat->Option CObj):Prop:=∀i j c d b o,e i=some c->e j=some d->occ c b o->occ d b o->i=j
structure After(w:World)(pub:Nat->Nat->Prop)(e:Nat->Option CObj)(B:Nat->Option SObj)(w':World)(pub':Nat->Nat->Prop)(e':Nat->Option CObj):Prop where
 os:w'.os=w.os
 tape:w'.tape=w.tape
 output:w'.output=w.output
 size:w.heap.size<=w'.heap.size
 block:∀b,b<w.heap.size->(∀o,¬nh e b o)->w'.heap[b]?=w.heap[b]?
 cell:∀b o,b<w.heap.size->¬nh e b o->w'.cell? ⟨b,o,none⟩=w.cell? ⟨b,o,none⟩
 kind:∀b,b<w.heap.size->¬(∀o,nh e b o)->w'.shape? b=w.shape? b/\∀o,w'.frozen? ⟨b,o,none⟩=w.frozen? ⟨b,o,none⟩
 ext:Ext ⟨e,w,pub⟩ ⟨e',w',pub'⟩
 fresh:∀b o,pub' b o->pub b o∨w.heap.size<=b∨nh e b o
 ok:kh w' pub'
 slots:∀id o,B id=some o->bH ⟨e',w',pub'⟩ (fun b o=>w.heap.size<=b∨nh e b o) id o
 dom:∀id,B id=none->e' id=none
 inj:Inj e'
def ax(P:Program)(f:Nat)(args:List AV)(S:List (Nat×SObj))(A:Ans):Prop:=
 ∀w pub e vs,kh w pub->ja w pub e->VL ⟨e,w,pub⟩ args vs->(∀id o,aE S id=some o->bH ⟨e,w,pub⟩ (fun _ _=>True) id o)->(∀id,aE S id=none->e id=none)->Inj e->
  Calls P f vs.toArray w fun en w'=>∃pub' e',match en with
   |.returned v=>(∀b pv u,A.pan=some (b,pv,u)->b=false)/\V ⟨e',w',pub'⟩ A.val v/\After w pub e (aE (putB S A.upd)) w' pub' e'
   |.panicked ch=>∃pv u v,A.pan=some (true,pv,u)/\ch=[{v,recovered:=false}]/\V ⟨e',w',pub'⟩ pv v/\After w pub e (aE (putB S u)) w' pub' e'
   |.outgrown=>False
def aw(P:Program)(f:Nat):Prop:=∃fn,P.funcs[f]?=some fn/\fn.body.isNone=false/\(fn.name == "runtime.NumGoroutine")=false
def dM(P:Program)(spec:Nat->List AV->List (Nat×SObj)->Option Ans):Prop:=
 ∀f args S A,spec f args S=some A->(∀q,A.ob=some q->q)->(au S).all cU=true->aw P f/\ax P f args S A
end Go.AL
end
section
namespace Go.AL
variable [Tabs]
theorem yi:∀(L:List dS)(i j k:Nat)(r:Option (Nat×Nat)),idx L i j=some (k,r)->j<=k/\nth L (k-j)=some (i,r)
 |[],i,j,k,r,h=>by simp[idx]at h
 |(m,q)::l,i,j,k,r,h=>by
  simp only[idx]at h;by_cases hm:m=i
  ·subst hm;simp at h;obtain⟨rfl,rfl⟩:=h;simp[nth]
  ·simp only[O7,hm,ND]at h;obtain⟨h1,h2⟩:=yi l i (j+1) k r h;refine⟨by omega,?_⟩;rw[show k-j=(k-(j+1))+1 by omega];exact h2
theorem wz{α:Type}:∀(l:List α)(k:Nat)(x:α),nth l k=some x->x∈l
 |[],k,x,h=>by simp[nth]at h
 |a::l,0,x,h=>by simp[nth]at h;simp[h]
 |a::l,k+1,x,h=>Nn _ (wz l k x h)
theorem mP:∀(L:List dS)(i j k:Nat)(r:Option (Nat×Nat)),cR (L.map (·.1))=true->nth L k=some (i,r)->idx L i j=some (j+k,r)
 |[],i,j,k,r,_,h=>by simp[nth]at h
 |(m,q)::l,i,j,0,r,_,h=>by simp[nth]at h;obtain⟨rfl,rfl⟩:=h;simp[idx]
 |(m,q)::l,i,j,k+1,r,hd,h=>by
  simp only[Nj,cR,N4,Np]at hd;have hm:(i,r)∈l:=wz l k _ h;have hne:¬m=i:=by intro e;subst e;have:m∈l.map (·.1):=O5.2 ⟨(m,r),hm,rfl⟩;have h1:=hd.1;rw[Ou]at h1;simp only[Ns]at h1;exact h1 this
  simp only[idx,O7,hne,ND];rw[mP l i (j+1) k r hd.2 h];congr 2;omega
theorem fS{L:List dS}{k:Nat}{x:dS}(h:bF L k=some x):900<=k/\nth L (k-900)=some x:=by
 unfold bF at h;split at h
 ·rename_i hk;exact⟨by simpa using hk,h⟩
 ·cases h
theorem dr{L:List dS}{i k:Nat}{r:Option (Nat×Nat)}(h:idx L i 900=some (k,r)):bF L k=some (i,r):=by
 obtain⟨h1,h2⟩:=yi L i 900 k r h;unfold bF;split
 ·exact h2
 ·rename_i hk;simp at hk;omega
theorem dN{L:List dS}(hd:cR (L.map (·.1))=true){i k:Nat}{r:Option (Nat×Nat)}(h:bF L k=some (i,r)):idx L i 900=some (k,r):=by
 obtain⟨h1,h2⟩:=fS h;have:=mP L i 900 _ r hd h2
 rwa [show 900+(k-900)=k by omega]at this
def dG(L:List dS)(e:Nat->Option CObj)(k:Nat):Option CObj:=
 match bF L k with
 |some (i,none)=>e i
 |some (i,some (off,len))=>(match e i with|some (.box b o _)=>some (.box b (o+off) len)|_=>none)
 |none=>none
theorem lU(L:List dS)(e:Nat->Option CObj):Names (toP L) (toI L) (toI L) e (dG L e):=by
 have hi:∀i i',toI L i=some i'->∀c,e i=some c->dG L e i'=some c:=by
  intro i i' h c hc;unfold toI at h;split at h
  ·rename_i k hk;simp at h;subst h;simp only[dG,dr hk,hc]
  ·cases h
 refine⟨fun i o i' o' h b p l he=>?_,hi,hi⟩;unfold toP at h;split at h
 ·rename_i k hk;simp at h;obtain⟨rfl,rfl⟩:=h;exact⟨p,l,by simp only[dG,dr hk,he],rfl⟩
 ·rename_i k off len hk;split at h
  ·rename_i hb;simp at h hb;obtain⟨rfl,rfl⟩:=h;exact⟨p+off,len,by simp only[dG,dr hk,he],by omega⟩
  ·cases h
 ·cases h
theorem iT{look:Nat->Option SObj}{L:List dS}:∀(l:List dS)(j:Nat)(S:List (Nat×SObj)),ow look L l j=some S->
  (∀id o',aE S id=some o'->∃q i r o,id=j+q/\nth l q=some (i,r)/\look i=some o/\iy L r o=some o')/\
  (∀q i r,nth l q=some (i,r)->∃o o',look i=some o/\iy L r o=some o'/\aE S (j+q)=some o')/\(∀x∈S,j<=x.1/\x.1<j+l.length)
 |[],j,S,h=>by simp[ow]at h;subst h;exact⟨fun id o' h=>by simp[aE]at h,fun q i r h=>by simp[nth]at h,fun x hx=>by simp at hx⟩
 |(i,r)::l,j,S,h=>by
  simp only[ow]at h;split at h
  ·rename_i o ho;split at h
   ·rename_i o' S' h1 h2;simp at h;subst h;obtain⟨k1,k2,k3⟩:=iT l (j+1) S' h2;refine⟨fun id o2 hb=>?_,fun q i2 r2 hq=>?_,fun x hx=>?_⟩
    ·simp only[aE]at hb;by_cases hj:j=id
     ·subst hj;simp at hb;subst hb;exact⟨0,i,r,o,rfl,rfl,ho,h1⟩
     ·simp only[O7,hj,ND]at hb;obtain⟨q,i2,r2,o3,e1,e2,e3,e4⟩:=k1 id o2 hb;exact⟨q+1,i2,r2,o3,by omega,e2,e3,e4⟩
    ·cases q with
     |zero=>simp[nth]at hq;obtain⟨rfl,rfl⟩:=hq;exact⟨o,o',ho,h1,by simp[aE]⟩
     |succ q=>
      obtain⟨o3,o4,e1,e2,e3⟩:=k2 q i2 r2 hq;refine⟨o3,o4,e1,e2,?_⟩;have:¬j=j+(q+1):=by omega
      simp only[aE,O7,this,ND];rw[show j+(q+1)=j+1+q by omega];exact e3
    ·simp at hx;rcases hx with rfl|hx
     ·simp
     ·have:=k3 x hx;simp;omega
   ·cases h
  ·cases h
theorem s5{c c1:AV}{r:Option (Nat×Nat)}(h:GF c r=some c1):match r with|none=>c1=c|some (off,len)=>sub (aa c) off len=some (aa c1):=by
 have gy:∀{c c1:AV} {off len:Nat},GD c off len=some c1->sub (aa c) off len=some (aa c1):=by
  intro c c1 off len h;unfold GD at h;split at h
  ·rename_i cs hcs;simp at h;subst h;exact hcs
  ·cases h
 cases r with
 |none=>simp[GF]at h;exact h.symm
 |some x=>
  obtain⟨off,len⟩:=x
  cases c with
  |st n x=>
   simp only[GF]at h;split at h
   ·rename_i m y hs;split at h
    ·rename_i hw;simp at h;subst h;have:=lO hs;rw[hw]at this;exact this
    ·exact gy h
   ·exact gy h
  |_=>exact gy (by simpa only[GF]using h)
theorem bH.own_of{Ω:Om}{own own':Nat->Nat->Prop}{id:Nat}{o:SObj}(h:bH Ω own id o)(hc:∀c b o,Ω.e id=some c->occ c b o->own' b o):bH Ω own' id o:=by
 cases o with
 |box c=>
  obtain⟨b,off,e1,e2⟩:=h;refine⟨b,off,e1,fun j c' hj=>?_⟩;obtain⟨_,k⟩:=e2 j c' hj
  have hl:j<(aa c).length:=by
   rcases Nv j (aa c).length with k|k
   ·exact k
   ·rw[Nd k]at hj;cases hj
  exact⟨hc _ _ _ e1 ⟨rfl,by omega,by omega⟩,k⟩
 |tail τ n=>obtain⟨base,cap,e1,e2,e3,e4,e5⟩:=h;exact⟨base,cap,e1,e2,e3,e4,fun b hb=>⟨fun o=>hc _ _ _ e1 hb,(e5 b hb).2⟩⟩
 |bld t u l=>obtain⟨b,g,e1,e2,e3⟩:=h;exact⟨b,g,e1,fun b' hb o=>⟨hc _ _ _ e1 hb,(e2 b' hb o).2⟩,e3⟩
 |tailp τ n x=>obtain⟨b,cap,e1,e2,e3,e4,e5⟩:=h;exact⟨b,cap,e1,e2,e3,fun o=>hc _ _ _ e1 rfl,e5⟩
theorem bH.owns{Ω:Om}{own:Nat->Nat->Prop}{id:Nat}{ob:SObj}(h:bH Ω own id ob){c:CObj}(hc:Ω.e id=some c){b o:Nat}(ho:occ c b o):own b o:=by
 cases ob with
 |box x=>
  obtain⟨b',off,e1,e2⟩:=h;rw[hc]at e1;simp at e1;subst e1;obtain⟨rfl,h1,h2⟩:=ho;have hj:o-off<(aa x).length:=by omega
  have:=(e2 (o-off) _ (N9 hj)).1
  rwa [show off+(o-off)=o by omega]at this
 |tail τ n=>obtain⟨base,cap,e1,e2,e3,e4,e5⟩:=h;rw[hc]at e1;simp at e1;subst e1;exact(e5 b ho).1 o
 |bld t u l=>obtain⟨b',g,e1,e2,_⟩:=h;rw[hc]at e1;simp at e1;subst e1;exact(e2 b ho o).1
 |tailp τ n x=>
  obtain⟨b',cap,e1,e2,e3,e4,e5⟩:=h;rw[hc]at e1;simp at e1;subst e1;have:b'=b:=by simpa[occ]using ho
  subst this;exact e4 o
theorem Holds.tabs{F:Fr}{s:AS}{a:Act}{Ω:Om}(h:Holds F s a Ω):ja Ω.w Ω.pub Ω.e:=by
 refine⟨fun b o v ht=>⟨h.frame.old _ _ (F.tab0.1 b o v ht).1,(h.frame.pcell _ _ (F.tab0.1 b o v ht).1).trans (F.tab0.1 b o v ht).2⟩,fun b x hx=>?_⟩;obtain⟨k1,k2⟩:=F.tab0.2 b x hx;have hlt:b<F.w0.heap.size:=(Ot.1 k1).1;refine⟨(h.frame.block b hlt k2).trans k1,fun o ⟨id,c,hc,ho⟩=>?_⟩
 cases hb:s.B id with
 |none=>have:=h.dom id hb;rw[this]at hc;cases hc
 |some ob=>
  rcases(h.slots id ob hb).owns hc ho with q|q
  ·omega
  ·exact k2 o q
theorem Holds.owns{F:Fr}{s:AS}{a:Act}{Ω:Om}(h:Holds F s a Ω){id:Nat}{c:CObj}(hc:Ω.e id=some c){b o:Nat}(ho:occ c b o):F.own b o:=by
 cases hB:s.B id with
 |none=>rw[h.dom id hB]at hc;cases hc
 |some ob=>exact(h.slots id ob hB).owns hc ho
theorem yj{Ω:Om}{own:Nat->Nat->Prop}{L:List dS}{k i:Nat}{r:Option (Nat×Nat)}{o o':SObj}(hk:bF L k=some (i,r))(hs:bH Ω own i o)(hc:iy L r o=some o') :
  bH ⟨dG L Ω.e,Ω.w,Ω.pub⟩ (fun _ _=>True) k o':=by
 cases o with
 |box c=>
  simp only[iy]at hc;split at hc
  ·rename_i c1 h1;split at hc
   ·rename_i c2 h2;simp at hc;subst hc;obtain⟨b,off,e1,e2⟩:=hs;obtain⟨m1,m2⟩:=kV h2;have hp:=s5 h1
    cases r with
    |none=>
     simp only at hp;subst hp;refine⟨b,off,by simp only[dG,hk,e1,m1],fun j c' hj=>?_⟩
     have hl:j<(aa c1).length:=by
      rw[m1];rcases Nv j (aa c2).length with k|k
      ·exact k
      ·rw[Nd k]at hj;cases hj
     obtain⟨k1,k2,k3,v,k4,k5⟩:=e2 j _ (N9 hl);exact⟨trivial,k2,k3,v,k4,k5.mapV (lU L Ω.e) (m2 j _ c' (N9 hl) hj)⟩
    |some x=>
     obtain⟨o2,len⟩:=x;simp only at hp;obtain⟨s1,s2⟩:=iS hp;have hlen:(aa c1).length=len:=by rw[s2];simp;omega
     refine⟨b,off+o2,by simp only[dG,hk,e1];rw[<-m1,hlen],fun j c' hj=>?_⟩
     have hl:j<(aa c1).length:=by
      rw[m1];rcases Nv j (aa c2).length with k|k
      ·exact k
      ·rw[Nd k]at hj;cases hj
     obtain⟨x,hx⟩:∃x,(aa c1)[j]?=some x:=⟨_,N9 hl⟩
     have hcj:(aa c)[o2+j]?=some x:=by
      have:=hx;rw[s2,NP]at this;split at this
      ·rw[O6]at this;exact this
      ·cases this
     obtain⟨k1,k2,k3,v,k4,k5⟩:=e2 _ _ hcj;rw[OR];exact⟨trivial,k2,k3,v,k4,k5.mapV (lU L Ω.e) (m2 j _ c' hx hj)⟩
   ·cases hc
  ·cases hc
 |tail τ n=>
  cases r with
  |some _=>simp[iy]at hc
  |none=>simp[iy]at hc;subst hc;obtain⟨base,cap,e1,e2,e3,e4,e5⟩:=hs;exact⟨base,cap,by simp only[dG,hk,e1],e2,e3,e4,fun b hb=>⟨fun _=>trivial,(e5 b hb).2⟩⟩
 |bld t u l=>
  cases r with
  |some _=>simp[iy]at hc
  |none=>simp[iy]at hc;subst hc;obtain⟨b,g,e1,e2,e3⟩:=hs;exact⟨b,g,by simp only[dG,hk,e1],fun b' hb o=>⟨trivial,(e2 b' hb o).2⟩,e3⟩
 |tailp _ _ _=>simp[iy]at hc
theorem ki{L:List dS}{Ω:Om}{own:Nat->Nat->Prop}{B:Nat->Option SObj}(hs:∀id o,B id=some o->bH Ω own id o)(hL:∀q i r,nth L q=some (i,r)->∃o o',B i=some o/\iy L r o=some o')
 {k:Nat}{c:CObj}(h:dG L Ω.e k=some c):∃i r c0,bF L k=some (i,r)/\Ω.e i=some c0/\∀b o,occ c b o->occ c0 b o:=by
 unfold dG at h;split at h
 ·rename_i i hk;exact⟨i,none,c,hk,h,fun _ _ ho=>ho⟩
 ·rename_i i off len hk;split at h
  ·rename_i b p l he;simp at h;subst h;refine⟨i,_,_,hk,he,fun b' o ho=>?_⟩;obtain⟨h1,h2,h3⟩:=ho;subst h1;obtain⟨_,hn⟩:=fS hk;obtain⟨ob,ob',hB,hc⟩:=hL _ _ _ hn
   cases ob with
   |box x=>
    simp only[iy]at hc;split at hc
    ·rename_i c1 h1;have hp:=s5 h1;simp only at hp;obtain⟨s1,_⟩:=iS hp;obtain⟨b2,off2,e1,_⟩:=hs i _ hB;rw[he]at e1;simp at e1;obtain⟨rfl,rfl,rfl⟩:=e1;exact⟨rfl,by omega,by omega⟩
    ·cases hc
   |tail _ _=>simp[iy]at hc
   |bld _ _ _=>simp[iy]at hc
   |tailp _ _ _=>simp[iy]at hc
  ·cases h
 ·cases h
theorem Holds.tabsC{F:Fr}{s:AS}{a:Act}{Ω:Om}{L:List dS}(h:Holds F s a Ω)(hL:∀q i r,nth L q=some (i,r)->∃o o',s.B i=some o/\iy L r o=some o'):ja Ω.w Ω.pub (dG L Ω.e):=
 ⟨h.tabs.1,fun b x hx=>⟨(h.tabs.2 b x hx).1,fun o ⟨k,c,hc,ho⟩=>
  let ⟨i,_,c0,_,q2,q3⟩:=ki h.slots hL hc
  (h.tabs.2 b x hx).2 o ⟨i,c0,q2,q3 b o ho⟩⟩⟩
end Go.AL
end
section
namespace Go.AL
variable [Tabs]
theorem yk{n:SN}{off:Nat}{x:SD n}{a d:AV}(h:GC n off x a=some d):splice (cells (.st n) x) off (aa a)=some (aa d):=by
 unfold GC at h;split at h
 all_goals first
  |(simp only[Xs]at h;subst h;rfl)
  |cases h
theorem Bd{b c d:AV}{off len:Nat}(h:JH b (some (off,len)) c=some d):(aa c).length=len/\splice (aa b) off (aa c)=some (aa d):=by
 have gy:∀{b d:AV},JG b off c=some d->splice (aa b) off (aa c)=some (aa d):=by
  intro b d h;unfold JG at h;split at h
  ·rename_i cs hcs;simp at h;subst h;exact hcs
  ·cases h
 simp only[JH]at h;split at h
 ·rename_i hl;refine⟨cD _ _ hl,?_⟩;split at h
  ·split at h
   ·rename_i n x a hs;simp at h;subst h;exact yk hs
   ·exact gy h
  ·exact gy h
 ·cases h
def yl(d i:Nat):Option Nat:=if 1000<=i/\i%1000=d then some (i/1000-1)else none
theorem Eb{d k:Nat}(hd:d<1000):yl d (nid d k)=some k:=by unfold yl nid;rw[N6 ⟨by omega,by omega⟩];congr 1;omega
theorem pO{d i k:Nat}(h:yl d i=some k):i=nid d k:=by
 unfold yl at h;split at h
 ·simp at h;unfold nid;omega
 ·cases h
def lV(L:List dS)(d:Nat)(e e':Nat->Option CObj)(i:Nat):Option CObj:=
 match idx L i 900 with
 |some (k,none)=>e' k
 |some (_,some _)=>e i
 |none=>
  match yl d i with
  |some k=>(match bF L k with|some _=>e i|none=>(match e' k with|some c=>some c|none=>e i))
  |none=>e i
theorem s6:∀(u:List (Nat×SObj))(B:Nat->Option SObj)(id:Nat)(o:SObj),updB B u id=some o->(id,o)∈u∨(B id=some o/\id∉u.map (·.1))
 |[],B,id,o,h=>Or.inr ⟨h,by simp⟩
 |(j,x)::u,B,id,o,h=>by
  simp only[updB]at h;rcases s6 u _ id o h with k|⟨k1,k2⟩
  ·exact Or.inl (Nn _ k)
  ·by_cases hj:j=id
   ·subst hj;simp at k1;subst k1;exact Or.inl (NF ..)
   ·simp only[N3 hj]at k1;refine Or.inr ⟨k1,?_⟩;simp only[Nj,Nw,Qj];exact⟨fun e=>hj e.symm,k2⟩
theorem uY:∀(u:List (Nat×SObj))(B:Nat->Option SObj)(id:Nat),updB B u id=none->B id=none/\id∉u.map (·.1)
 |[],B,id,h=>⟨h,by simp⟩
 |(j,x)::u,B,id,h=>by
  simp only[updB]at h;obtain⟨k1,k2⟩:=uY u _ id h;by_cases hj:j=id
  ·subst hj;simp at k1
  ·simp only[N3 hj]at k1;refine⟨k1,?_⟩;simp only[Nj,Nw,Qj];exact⟨fun e=>hj e.symm,k2⟩
theorem pP{look:Nat->Option SObj}{L:List dS}{d:Nat}:∀(u u':List (Nat×SObj)),lD look L d u=some u'->
  (∀id o',(id,o')∈u'->∃k o,(k,o)∈u/\((∃r old,bF L k=some (id,r)/\look id=some old/\kc L d r (some old) o=some o')∨
   (bF L k=none/\id=nid d k/\look id=none/\kc L d none none o=some o')))/\
  (∀k o,(k,o)∈u->(∃i r,bF L k=some (i,r)/\i∈u'.map (·.1))∨(bF L k=none/\look (nid d k)=none/\nid d k∈u'.map (·.1)))
 |[],u',h=>by simp[lD]at h;subst h;exact⟨fun id o h=>by simp at h,fun k o h=>by simp at h⟩
 |(k,o)::u,u',h=>by
  simp only[lD]at h;split at h
  ·rename_i i r hk;split at h
   ·rename_i old hold;split at h
    ·rename_i o1 u1 h1 h2;simp at h;subst h;obtain⟨q1,q2⟩:=pP u u1 h2;refine⟨fun id o' hm=>?_,fun k2 o2 hm=>?_⟩
     ·simp at hm;rcases hm with⟨rfl,rfl⟩|hm
      ·exact⟨k,o,by simp,Or.inl ⟨r,old,hk,hold,h1⟩⟩
      ·obtain⟨k2,o2,m1,m2⟩:=q1 id o' hm;exact⟨k2,o2,Nn _ m1,m2⟩
     ·simp at hm;rcases hm with⟨rfl,rfl⟩|hm
      ·exact Or.inl ⟨i,r,hk,by simp⟩
      ·rcases q2 k2 o2 hm with⟨i2,r2,m1,m2⟩|⟨m1,m2,m3⟩
       ·exact Or.inl ⟨i2,r2,m1,by simp only[Nj];exact Nn _ m2⟩
       ·exact Or.inr ⟨m1,m2,by simp only[Nj];exact Nn _ m3⟩
    ·cases h
   ·cases h
  ·rename_i hk;split at h
   ·rename_i hn;split at h
    ·rename_i o1 u1 h1 h2;simp at h;subst h;obtain⟨q1,q2⟩:=pP u u1 h2;refine⟨fun id o' hm=>?_,fun k2 o2 hm=>?_⟩
     ·simp at hm;rcases hm with⟨rfl,rfl⟩|hm
      ·exact⟨k,o,by simp,Or.inr ⟨hk,rfl,hn,h1⟩⟩
      ·obtain⟨k2,o2,m1,m2⟩:=q1 id o' hm;exact⟨k2,o2,Nn _ m1,m2⟩
     ·simp at hm;rcases hm with⟨rfl,rfl⟩|hm
      ·exact Or.inr ⟨hk,hn,by simp⟩
      ·rcases q2 k2 o2 hm with⟨i2,r2,m1,m2⟩|⟨m1,m2,m3⟩
       ·exact Or.inl ⟨i2,r2,m1,by simp only[Nj];exact Nn _ m2⟩
       ·exact Or.inr ⟨m1,m2,by simp only[Nj];exact Nn _ m3⟩
    ·cases h
   ·cases h
theorem ym(l:List (Nat×SObj))(i:Nat)(v:SObj)(j:Nat):aE (ot l i v) j=if i=j then some v else aE l j:=by
 induction l with
 |nil=>simp[ot,aE]
 |cons x r ih=>
  obtain⟨k,u⟩:=x;simp only[ot];by_cases hk:k=i
  ·subst hk;simp only[Pw,NS,aE,O7];by_cases h:k=j<;>simp[h]
  ·simp only[O7,hk,ND,aE,ih];by_cases h:k=j
   ·subst h;have:¬i=k:=fun e=>hk e.symm;simp[this]
   ·simp[h]
theorem oF:∀(u B:List (Nat×SObj))(k:Nat),k∉u.map (·.1)->aE (putB B u) k=aE B k
 |[],B,k,_=>rfl
 |(j,x)::u,B,k,h=>by simp only[Nj,Nw,Qj]at h;simp only[putB];rw[oF u _ k h.2,ym,N3 (fun e=>h.1 e.symm)]
theorem Di:∀(u B:List (Nat×SObj))(k:Nat)(o:SObj),cR (u.map (·.1))=true->(k,o)∈u->aE (putB B u) k=some o
 |[],B,k,o,_,h=>by simp at h
 |(j,x)::u,B,k,o,hd,h=>by
  simp only[Nj,cR,N4,Np,Ou,Ns]at hd;simp only[putB];simp at h;rcases h with⟨rfl,rfl⟩|h
  ·rw[oF u _ k hd.1,ym,N6 rfl]
  ·exact Di u _ k o hd.2 h
theorem uZ:∀(l:List (Nat×SObj))(i:Nat)(o:SObj),aE l i=some o->(i,o)∈l
 |[],i,o,h=>by simp[aE]at h
 |(j,v)::r,i,o,h=>by
  simp only[aE]at h;by_cases hj:j=i
  ·subst hj;simp at h;simp[h]
  ·simp only[O7,hj,ND]at h;exact Nn _ (uZ r i o h)
theorem Ec{S u:List (Nat×SObj)}(hd:cR (u.map (·.1))=true)(hS:∀x∈S,aE S x.1=some x.2){k:Nat}{o:SObj}(h:(k,o)∈iD S u):aE (putB S u) k=some o:=by
 simp only[iD,NV,ON,Np,Ou,Ns]at h;rcases h with h|⟨h1,h2⟩
 ·exact Di u S k o hd h
 ·rw[oF u S k h2];exact hS _ h1
end Go.AL
end
section
namespace Go.AL
variable [Tabs]
theorem s7{look:Nat->Option SObj}{L:List dS}:∀(l:List dS)(j:Nat)(S:List (Nat×SObj)),ow look L l j=some S->∀x∈S,aE S x.1=some x.2
 |[],j,S,h,x,hx=>by simp[ow]at h;subst h;simp at hx
 |(i,r)::l,j,S,h,x,hx=>by
  simp only[ow]at h;split at h
  ·split at h
   ·rename_i o' S' h1 h2;simp at h;subst h;simp at hx;rcases hx with rfl|hx
    ·simp[aE]
    ·have:=s7 l (j+1) S' h2 x hx;have hk:=(iT l (j+1) S' h2).2.2 x hx;have hne:¬j=x.1:=by omega
     simp only[aE,O7,hne,ND];exact this
   ·cases h
  ·cases h
theorem v7{w':World}{pub' own own':Nat->Nat->Prop}{e' eN:Nat->Option CObj}{L:List dS}{d k id:Nat}{old:Option SObj}{o o':SObj}
 (hn:Names (qv L d) (iC L d) (iC L d) e' eN)(hs:bH ⟨e',w',pub'⟩ own' k o)(hb:kc L d none old o=some o')(he:eN id=e' k)(hown:∀b o,own' b o->own b o) :
  bH ⟨eN,w',pub'⟩ own id o':=by
 cases o with
 |box c=>
  simp only[kc]at hb;split at hb
  ·rename_i c1 h1
   have ho':o'=.box c1:=by
    split at hb
    ·rename_i b;split at hb
     ·rename_i c2 h2;simp[JH]at h2;subst h2;simp at hb;exact hb.symm
     ·cases hb
    ·simp at hb;exact hb.symm
    ·cases hb
   subst ho';obtain⟨b,off,e1,e2⟩:=hs;obtain⟨m1,m2⟩:=kV h1;refine⟨b,off,by simp only;rw[he];simp only at e1;rw[e1,m1],fun j c' hj=>?_⟩
   have hl:j<(aa c).length:=by
    rw[m1];rcases Nv j (aa c1).length with k|k
    ·exact k
    ·rw[Nd k]at hj;cases hj
   obtain⟨k1,k2,k3,v,k4,k5⟩:=e2 j _ (N9 hl);exact⟨hown _ _ k1,k2,k3,v,k4,V.mapV (Ω:=⟨e',w',pub'⟩) hn k5 (m2 j _ c' (N9 hl) hj)⟩
  ·cases hb
 |tail τ n=>simp[kc]at hb;subst hb;obtain⟨base,cap,e1,e2,e3,e4,e5⟩:=hs;exact⟨base,cap,by simp only;rw[he];exact e1,e2,e3,e4,fun b hb=>⟨fun o=>hown _ _ ((e5 b hb).1 o),(e5 b hb).2⟩⟩
 |bld t u l=>simp[kc]at hb;subst hb;obtain⟨b,g,e1,e2,e3⟩:=hs;exact⟨b,g,by simp only;rw[he];exact e1,fun b' hb o=>⟨hown _ _ (e2 b' hb o).1,(e2 b' hb o).2⟩,e3⟩
 |tailp _ _ _=>simp[kc]at hb
theorem pQ{F:Fr}{s:AS}{a:Act}{Ω:Om}(h:Holds F s a Ω){L:List dS}{d:Nat}(hd:d<1000)(hdist:cR (L.map (·.1))=true)
 {S u u':List (Nat×SObj)}(hS:ow s.B L L 900=some S)(hu:cR (u.map (·.1))=true)(hb:lD s.B L d (iD S u)=some u'){val val':AV}
 (hval:mapV (qv L d) (iC L d) (iC L d) val=some val'){w':World}{pub':Nat->Nat->Prop}{e':Nat->Option CObj}{v:Value}(hv:V ⟨e',w',pub'⟩ val v)
 (A:After Ω.w Ω.pub (dG L Ω.e) (aE (putB S u)) w' pub' e') :
  ∃Ω',Ω'.w=w'/\V Ω' val' v/\Holds F ⟨s.T,updB s.B u'⟩ a Ω':=by
 obtain⟨k1,k2,k3⟩:=iT L 900 S hS;have hSm:=s7 L 900 S hS;have lentL:∀k i r,bF L k=some (i,r)->∃o o',s.B i=some o/\iy L r o=some o'/\aE S k=some o':=by intro k i r hk;obtain⟨h1,h2⟩:=fS hk;obtain⟨o,o',q1,q2,q3⟩:=k2 _ i r h2;rw[show 900+(k-900)=k by omega]at q3;exact⟨o,o',q1,q2,q3⟩
 have hLs:∀q i r,nth L q=some (i,r)->∃o o',s.B i=some o/\iy L r o=some o':=fun q i r hq=>let ⟨o,o',q1,q2,_⟩:=k2 q i r hq;⟨o,o',q1,q2⟩
 obtain⟨b1,b2⟩:=pP _ _ hb
 have newk:∀k c,bF L k=none->e' k=some c->s.B (nid d k)=none/\nid d k∈u'.map (·.1):=by
  intro k c hk hc
  cases hg:aE (putB S u) k with
  |none=>rw[A.dom k hg]at hc;cases hc
  |some o=>
   have hku:k∈u.map (·.1):=by
    rcases Pk (k∈u.map (·.1))with q|q
    ·exact q
    ·rw[oF u S k q]at hg;obtain⟨q0,i,r,o2,e1,e2,_⟩:=k1 k o hg;have:bF L k=some (i,r):=by subst e1;exact dr (mP L i 900 q0 r hdist e2)
     rw[hk]at this;cases this
   obtain⟨x,hx1,hx2⟩:=O5.1 hku;have hmem:(k,x.2)∈iD S u:=by simp only[iD,NV];left;rw[<-hx2];exact hx1
   rcases b2 k x.2 hmem with⟨i,r,m1,_⟩|⟨_,m2,m3⟩
   ·rw[hk]at m1;cases m1
   ·exact⟨m2,m3⟩
 have inL:∀i k r,idx L i 900=some (k,r)->∃o,s.B i=some o:=by intro i k r hi;obtain⟨o,_,q,_⟩:=lentL k i r (dr hi);exact⟨o,q⟩
 have eW:∀k i,bF L k=some (i,none)->lV L d Ω.e e' i=e' k:=by intro k i hk;simp only[lV,dN hdist hk]
 have eS:∀k i x,bF L k=some (i,some x)->lV L d Ω.e e' i=Ω.e i:=by intro k i x hk;simp only[lV,dN hdist hk]
 have eN:∀k c,bF L k=none->e' k=some c->lV L d Ω.e e' (nid d k)=some c:=by
  intro k c hk hc;obtain⟨n1,_⟩:=newk k c hk hc
  have hi:idx L (nid d k) 900=none:=by
   cases hi:idx L (nid d k) 900 with
   |none=>rfl
   |some x=>obtain⟨o,ho⟩:=inL _ x.1 x.2 hi;rw[n1]at ho;cases ho
  simp only[lV,hi,Eb hd,hk,hc]
 have eO:∀i c,lV L d Ω.e e' i=some c->(Ω.e i=some c/\(∀k,bF L k≠some (i,none)))∨(∃k,e' k=some c/\(bF L k=some (i,none)∨(bF L k=none/\i=nid d k))):=by
  intro i c hc;unfold lV at hc;split at hc
  ·rename_i k hk;exact Or.inr ⟨k,hc,Or.inl (dr hk)⟩
  ·rename_i k x hk;exact Or.inl ⟨hc,fun k' hk'=>by rw[dN hdist hk']at hk;simp at hk⟩
  ·rename_i hk;have hno:∀k,bF L k≠some (i,none):=fun k' hk'=>by rw[dN hdist hk']at hk;cases hk
   split at hc
   ·rename_i k hn;split at hc
    ·exact Or.inl ⟨hc,hno⟩
    ·rename_i hl;split at hc
     ·rename_i c' hc';simp at hc;subst hc;exact Or.inr ⟨k,hc',Or.inr ⟨hl,pO hn⟩⟩
     ·exact Or.inl ⟨hc,hno⟩
   ·exact Or.inl ⟨hc,hno⟩
 have lentOwn:∀b o,nh (dG L Ω.e) b o->∃k i r c0,bF L k=some (i,r)/\Ω.e i=some c0/\occ c0 b o/\∃c,dG L Ω.e k=some c/\occ c b o:=by rintro b o ⟨k,c,hc,ho⟩;obtain⟨i,r,c0,q1,q2,q3⟩:=ki h.slots hLs hc;exact⟨k,i,r,c0,q1,q2,q3 b o ho,c,hc,ho⟩
 have own:∀b o,(Ω.w.heap.size<=b∨nh (dG L Ω.e) b o)->F.own b o:=by
  rintro b o (q|q)
  ·exact Or.inl (NG h.frame.size q)
  ·obtain⟨k,i,r,c0,_,q2,q3,_⟩:=lentOwn b o q;exact h.owns q2 q3
 have hnames:Names (qv L d) (iC L d) (iC L d) e' (lV L d Ω.e e'):=by
  have hi:∀i i',iC L d i=some i'->∀c,e' i=some c->lV L d Ω.e e' i'=some c:=by
   intro k i' hk c hc;unfold iC at hk;split at hk
   ·rename_i i hi;simp at hk;subst hk;rw[eW k i hi,hc]
   ·cases hk
   ·rename_i hi;simp at hk;subst hk;exact eN k c hi hc
  refine⟨fun k o i' o' hk b p l hc=>?_,hi,hi⟩;unfold qv at hk;split at hk
  ·rename_i i hi;simp at hk;obtain⟨rfl,rfl⟩:=hk;exact⟨p,l,by rw[eW k i hi,hc],rfl⟩
  ·rename_i i off len hi;simp at hk;obtain⟨rfl,rfl⟩:=hk;obtain⟨ob,ob',q1,q2,_⟩:=lentL k i _ hi
   cases ob with
   |box x=>
    obtain⟨b2,off2,e1,_⟩:=h.slots i _ q1;have hcan:dG L Ω.e k=some (.box b2 (off2+off) len):=by simp only[dG,hi,e1]
    obtain⟨c',hc',hl⟩:=A.ext.e k _ hcan;rw[hl.box]at hc';simp only at hc';rw[hc]at hc';simp at hc';obtain⟨rfl,rfl,rfl⟩:=hc';exact⟨off2,_,by rw[eS k i _ hi,e1],by omega⟩
   |tail _ _=>simp[iy]at q2
   |bld _ _ _=>simp[iy]at q2
   |tailp _ _ _=>simp[iy]at q2
  ·rename_i hi;simp at hk;obtain⟨rfl,rfl⟩:=hk;exact⟨p,l,eN k _ hi hc,rfl⟩
 have hext:Ext Ω ⟨lV L d Ω.e e',w',pub'⟩:=by
  refine⟨fun i c hc=>?_,A.ext.pub,A.ext.cell⟩;simp only
  cases hi:idx L i 900 with
  |some x=>
   obtain⟨k,r⟩:=x
   cases r with
   |none=>
    have hk:=dr hi;have hcan:dG L Ω.e k=some c:=by simp only[dG,hk,hc]
    obtain⟨c',hc',hl⟩:=A.ext.e k _ hcan;exact⟨c',by rw[eW k i hk];exact hc',hl⟩
   |some x=>exact⟨c,by rw[eS k i x (dr hi),hc],CLe.refl c⟩
  |none=>
   refine⟨c,?_,CLe.refl c⟩;simp only[lV,hi];split
   ·rename_i k hn;split
    ·exact hc
    ·rename_i hl;split
     ·rename_i c' hc';obtain⟨n1,_⟩:=newk k c' hl hc';rw[<-pO hn]at n1;rw[h.dom i n1]at hc;cases hc
     ·exact hc
   ·exact hc
 have stay:∀i c,Ω.e i=some c->(∀k r,bF L k≠some (i,r))->∀b o,occ c b o->¬nh (dG L Ω.e) b o:=by intro i c hc hno b o ho hl;obtain⟨k,i2,r,c0,q1,q2,q3,_⟩:=lentOwn b o hl;have:=h.inj i i2 c c0 b o hc q2 ho q3;subst this;exact hno k r q1
 have inj':Inj (lV L d Ω.e e'):=by
  have hself:∀k k' i j,(bF L k=some (i,none)∨(bF L k=none/\i=nid d k))->(bF L k'=some (j,none)∨(bF L k'=none/\j=nid d k'))->k=k'->i=j:=by
   intro k k' i j hi hj e;subst e;rcases hi with hi|⟨hi,rfl⟩<;>rcases hj with hj|⟨hj,rfl⟩
   ·rw[hi]at hj;simp at hj;exact hj
   ·rw[hi]at hj;cases hj
   ·rw[hi]at hj;cases hj
   ·rfl
  have hmix:∀i c j k c' b o,Ω.e i=some c->(∀k,bF L k≠some (i,none))->e' k=some c'->(bF L k=some (j,none)∨(bF L k=none/\j=nid d k))->occ c b o->occ c' b o->False:=by
   intro i c j k c' b o hc hno hk hj ho ho';have hblt:=h.blk hc ho
   have hkB:∃ob,aE (putB S u) k=some ob:=by
    cases hg:aE (putB S u) k with
    |none=>rw[A.dom k hg]at hk;cases hk
    |some ob=>exact⟨ob,rfl⟩
   obtain⟨ob,hob⟩:=hkB;rcases(A.slots k ob hob).owns hk ho' with q|q
   ·omega
   ·obtain⟨k2,i2,r,c0,q1,q2,q3,c2,q4,q5⟩:=lentOwn b o q;have:=h.inj i i2 c c0 b o hc q2 ho q3;subst this
    cases r with
    |none=>exact hno k2 q1
    |some x=>
     obtain⟨c3,q6,q7⟩:=A.ext.e k2 c2 q4
     obtain⟨bb,oo,ll,hbx⟩:∃bb oo ll,c2=.box bb oo ll:=by
      have:=q4;simp only[dG,q1]at this;split at this
      ·simp at this;exact⟨_,_,_,this.symm⟩
      ·cases this
     subst hbx;rw[q7.box]at q6;have:=A.inj k2 k _ _ b o q6 hk q5 ho';subst this;rcases hj with hj|⟨hj,_⟩
     ·rw[q1]at hj;simp at hj
     ·rw[q1]at hj;cases hj
  intro i j c c' b o hc hc' ho ho';rcases eO i c hc with⟨h1,h2⟩|⟨k,h1,h2⟩
  ·rcases eO j c' hc' with⟨g1,g2⟩|⟨k',g1,g2⟩
   ·exact h.inj i j c c' b o h1 g1 ho ho'
   ·exact(hmix i c j k' c' b o h1 h2 g1 g2 ho ho').elim
  ·rcases eO j c' hc' with⟨g1,g2⟩|⟨k',g1,g2⟩
   ·exact(hmix j c' i k c b o g1 g2 h1 h2 ho' ho).elim
   ·exact hself k k' i j h2 g2 (A.inj k k' c c' b o h1 g1 ho ho')
 refine⟨⟨lV L d Ω.e e',w',pub'⟩,rfl,V.mapV (Ω:=⟨e',w',pub'⟩) hnames hv hval,⟨fun i=>(h.tmps i).ext hext,h.size,h.defers,fun id o ho=>?_,fun id hid=>?_,inj',A.ok,fun id c hc=>?_,?_⟩⟩
 ·
  rcases s6 u' s.B id o ho with hm|⟨hB,hm⟩
  ·obtain⟨k,ob,m1,m2⟩:=b1 id o hm;have hg:=Ec hu hSm m1;have hso:=A.slots k ob hg;rcases m2 with⟨r,old,l1,l2,l3⟩|⟨l1,rfl,l2,l3⟩
   ·cases r with
    |none=>exact v7 hnames hso l3 (eW k id l1) own
    |some x=>
     obtain⟨off,len⟩:=x
     cases ob with
     |tail _ _=>simp[kc]at l3
     |bld _ _ _=>simp[kc]at l3
     |tailp _ _ _=>simp[kc]at l3
     |box c=>
      simp only[kc]at l3;split at l3
      ·rename_i c1 h1;split at l3
       ·rename_i cold hold;simp at hold;subst hold;split at l3
        ·rename_i c2 h2;simp at l3;subst l3;obtain⟨p1,p2⟩:=Bd h2;obtain⟨b,p0,e1,e2⟩:=h.slots id _ l2;obtain⟨s1,s2⟩:=gd _ _ _ _ p2;have hlen:(aa c2).length=(aa cold).length:=by rw[s2];simp;omega
         have hcan:dG L Ω.e k=some (.box b (p0+off) len):=by simp only[dG,l1,e1]
         obtain⟨c',hc',hl⟩:=A.ext.e k _ hcan;rw[hl.box]at hc';simp only at hc';obtain⟨b',p',f1,f2⟩:=hso;simp only at f1;rw[hc']at f1;simp at f1;obtain⟨rfl,rfl,f1⟩:=f1;obtain⟨m1',m2'⟩:=kV h1;refine⟨b,p0,by simp only;rw[eS k id _ l1,e1,hlen],fun j c' hj=>?_⟩
         have hjl:j<(aa c2).length:=by
          rcases Nv j (aa c2).length with q|q
          ·exact q
          ·rw[Nd q]at hj;cases hj
         rw[s2]at hj;by_cases hin:off<=j/\j<off+len
         ·
          have hjc:j-off<(aa c1).length:=by omega
          have hj1:(aa c1)[j-off]?=some c':=by
           rw[Nl,Nr (by simp;omega)]at hj;have e:(List.take off (aa cold)).length=off:=by simp;omega
           rw[e,Nq hjc]at hj;exact hj
          have hjo:j-off<(aa c).length:=by omega
          obtain⟨g1,g2,g3,v,g4,g5⟩:=f2 (j-off) _ (N9 hjo);rw[show p0+off+(j-off)=p0+j by omega]at g1 g2 g3 g4;exact⟨own _ _ g1,g2,g3,v,g4,V.mapV (Ω:=⟨e',w',pub'⟩) hnames g5 (m2' _ _ _ (N9 hjo) hj1)⟩
         ·
          have hj2:(aa cold)[j]?=some c':=by
           by_cases hlo:j<off
           ·rw[Nl,Nq (by simp;omega),NP,N6 hlo]at hj;exact hj
           ·have e:(List.take off (aa cold)++aa c1).length=off+len:=by simp;omega
            rw[Nr (by omega),e,O6,show off+(aa c1).length+(j-(off+len))=j by omega]at hj;exact hj
          obtain⟨g1,g2,g3,v,g4,g5⟩:=e2 j c' hj2
          have hnl:¬nh (dG L Ω.e) b (p0+j):=by
           intro hl;obtain⟨k2,i2,r2,c0,q1,q2,q3,c3,q4,q5⟩:=lentOwn _ _ hl;have hcold:j<(aa cold).length:=by omega
           have:=h.inj id i2 _ c0 b (p0+j) e1 q2 ⟨rfl,by omega,by omega⟩ q3;subst this;have hkk:k2=k:=by have a1:=dN hdist q1;have a2:=dN hdist l1;rw[a1]at a2;simp at a2;exact a2.1
           subst hkk;rw[hcan]at q4;simp at q4;subst q4;obtain⟨_,z1,z2⟩:=q5;exact hin ⟨by omega,by omega⟩
          have hblt:=b7 g4;refine⟨g1,fun hp=>?_,?_,v,?_,g5.ext hext⟩
          ·rcases A.fresh _ _ hp with q|q|q
           ·exact g2 q
           ·omega
           ·exact hnl q
          ·exact((A.kind b hblt (fun hall=>hnl (hall _))).2 _).trans g3
          ·exact(A.cell b _ hblt hnl).trans g4
        ·cases l3
       ·rename_i hq;cases hq
       ·cases l3
      ·cases l3
   ·have hk:∃c,e' k=some c:=by
     cases ob with
     |box x=>obtain⟨_,_,e1,_⟩:=hso;exact⟨_,e1⟩
     |tail _ _=>obtain⟨_,_,e1,_⟩:=hso;exact⟨_,e1⟩
     |bld _ _ _=>obtain⟨_,_,e1,_⟩:=hso;exact⟨_,e1⟩
     |tailp _ _ _=>obtain⟨_,_,e1,_⟩:=hso;exact⟨_,e1⟩
    obtain⟨c,hc⟩:=hk;exact v7 hnames hso l3 (by rw[eN k c l1 hc,hc]) own
  ·
   have hB:s.B id=some o:=hB
   have hnl:∀k r,bF L k≠some (id,r):=by
    intro k r hk;obtain⟨o1,o2,q1,q2,q3⟩:=lentL k id r hk
    have hmem:∃o3,(k,o3)∈iD S u:=by
     rcases Pk (k∈u.map (·.1))with q|q
     ·obtain⟨x,hx1,hx2⟩:=O5.1 q;refine⟨x.2,?_⟩;simp only[iD,NV];left;rw[<-hx2];exact hx1
     ·refine⟨o2,?_⟩;simp only[iD,NV,ON,Np,Ou,Ns];exact Or.inr ⟨uZ S k o2 q3,q⟩
    obtain⟨o3,ho3⟩:=hmem;rcases b2 k o3 ho3 with⟨i2,r2,m1,m2⟩|⟨m1,_,_⟩
    ·rw[hk]at m1;simp at m1;obtain⟨rfl,_⟩:=m1;exact hm m2
    ·rw[hk]at m1;cases m1
   have hid:idx L id 900=none:=by
    cases hi:idx L id 900 with|none=>rfl|some x=>exact absurd (dr hi) (hnl x.1 x.2)
   have heq:lV L d Ω.e e' id=Ω.e id:=by
    simp only[lV,hid];split
    ·rename_i k hn;split
     ·rfl
     ·rename_i hl;split
      ·rename_i c' hc';obtain⟨n1,_⟩:=newk k c' hl hc';rw[<-pO hn,hB]at n1;cases n1
      ·rfl
    ·rfl
   refine(h.slots id o hB).keep hext heq (fun c hc=>?_);have hst:=stay id c hc hnl;have hbl:∀b oo,occ c b oo->b<Ω.w.heap.size:=fun b oo ho=>h.blk hc ho
   cases c with
   |box b off len=>
    intro oo h1 h2;have ho:occ (.box b off len) b oo:=⟨rfl,h1,h2⟩;have hblt:=hbl _ _ ho;refine⟨A.cell b oo hblt (hst _ _ ho),(A.kind b hblt (fun hall=>hst _ _ ho (hall oo))).2 oo,fun hp=>?_⟩;rcases A.fresh _ _ hp with q|q|q
    ·exact q
    ·omega
    ·exact absurd q (hst _ _ ho)
   |tail n base cap=>
    intro b hb';have ho:∀oo,occ (.tail n base cap) b oo:=fun _=>hb';have hblt:=hbl _ 0 (ho 0);refine⟨A.block b hblt (fun oo=>hst _ _ (ho oo)),fun oo hp=>?_⟩;rcases A.fresh _ _ hp with q|q|q
    ·exact q
    ·omega
    ·exact absurd q (hst _ _ (ho oo))
   |bld b g=>
    intro b' hb';have ho:∀oo,occ (.bld b g) b' oo:=fun _=>hb';refine⟨A.block b' (hbl _ 0 (ho 0)) (fun oo=>hst _ _ (ho oo)),fun oo hp=>?_⟩;rcases A.fresh _ _ hp with q|q|q
    ·exact q
    ·have:=hbl _ 0 (ho 0);omega
    ·exact absurd q (hst _ _ (ho oo))
 ·
  obtain⟨hB,hm⟩:=uY u' s.B id hid;have hnone:=h.dom id hB
  cases hc:lV L d Ω.e e' id with
  |none=>exact hc
  |some c=>
   rcases eO id c hc with⟨h1,_⟩|⟨k,h1,h2⟩
   ·rw[hnone]at h1;cases h1
   ·rcases h2 with h2|⟨h2,rfl⟩
    ·obtain⟨o1,_,q1,_⟩:=lentL k id _ h2;rw[hB]at q1;cases q1
    ·exact absurd (newk k c h2 h1).2 hm
 ·obtain⟨c1,h1,l1⟩:=h.keep id c hc;obtain⟨c2,h2,l2⟩:=hext.e id c1 h1;exact⟨c2,h2,l1.trans l2⟩
 ·have notOwn:∀b o,b<F.w0.heap.size->¬F.br b o->¬nh (dG L Ω.e) b o:=by
   intro b o hb hn hl;rcases own b o (Or.inr hl)with q|q
   ·omega
   ·exact hn q
  have hsz:=h.frame.size;refine⟨A.os.trans h.frame.os,A.tape.trans h.frame.tape,A.output.trans h.frame.output,NG h.frame.size A.size,fun b hb hn=>?_,fun b o hb hn=>?_,fun b hb hn=>?_,fun b o hp=>?_,fun b o hp=>A.ext.pub b o (h.frame.old b o hp),fun b o hp=>(hext.cell b o (h.frame.old b o hp)).trans (h.frame.pcell b o hp)⟩
  ·exact(A.block b (by omega) (fun o=>notOwn b o hb (hn o))).trans (h.frame.block b hb hn)
  ·exact(A.cell b o (by omega) (notOwn b o hb hn)).trans (h.frame.cell b o hb hn)
  ·have hnall:¬∀o,nh (dG L Ω.e) b o:=by
    intro hall;refine hn (fun o=>?_);rcases own b o (Or.inr (hall o))with q|q
    ·omega
    ·exact q
   obtain⟨q1,q2⟩:=A.kind b (by omega) hnall;obtain⟨q3,q4⟩:=h.frame.kind b hb hn;exact⟨q1.trans q3,fun o=>(q2 o).trans (q4 o)⟩
  ·rcases A.fresh b o hp with q|q|q
   ·exact h.frame.pub b o q
   ·exact Or.inr (own b o (Or.inl q))
   ·exact Or.inr (own b o (Or.inr q))
end Go.AL
end
section
namespace Go.AL
variable [Tabs]
theorem Be{a:Act}{l:List Operand}{args:Array Operand}(h:args.toList=l):(args.map a.eval)=(l.map a.eval).toArray:=by subst h;apply Ob;simp
def Dj(P:Program)(C:Cfg)(o:Oper):Prop:=
 ∀(F:Fr)(s:AS)(a:Act)(Ω:Om)(eff:Eff)(next:Act->World->Prop)(Q:Exit->Act->World->Prop),
  Holds F s a Ω->(∀d,o.dst=some d->d<F.n)->aQ C o s.T s.B=some eff->eff.asks->
  (match eD C o s.T s.B with
   |none=>∀a' Ω',Holds F (s.put o.dst eff) a' Ω'->next a' Ω'.w
   |some (b,pv,u)=>(b=false->∀a' Ω',Holds F (s.put o.dst eff) a' Ω'->next a' Ω'.w)/\
     (b=true->∀Ω' v,Holds F ⟨s.T,updB s.B u⟩ a Ω'->V Ω' pv v->Q (.panic [{v,recovered:=false}]) a Ω'.w))->o.wp P a Ω.w next Q
theorem dq.p{P:Program}{C:Cfg}{o:Oper}(h:dq P C o)(hp:∀T B,eD C o T B=none):Dj P C o:=by
 intro F s a Ω eff next Q hh hd he ho hn
 rw[hp]at hn;exact h F s a Ω eff next Q hh hd he ho hn
theorem H4(e:Nat->Option CObj):Names (fun i o=>some (i,o)) some (fun _=>none) e e:=by
 refine⟨fun i o i' o' h b p l he=>?_,fun i i' h c hc=>?_,fun i i' h=>by simp at h⟩
 ·simp at h;obtain⟨rfl,rfl⟩:=h;exact⟨p,l,he,rfl⟩
 ·simp at h;subst h;exact hc
theorem JU{Ω:Om}{k:Bool}{cs ds:List AV}{vs:List Value}(h:VL Ω cs vs)(hs:kN k cs=some ds):VL Ω ds vs:=by
 cases k with|true=>simp[kN]at hs;subst hs;exact h|false=>exact h.mapVs (H4 Ω.e) hs
section
variable {P:Program} {C:Cfg} {o:Oper}
theorem call_ok(hS:dM P C.spec){F:Fr}{s:AS}{a:Act}{Ω:Om}(h:Holds F s a Ω){d f:Nat}{args:List AV}{vs:List Value}(hv:VL Ω args vs){r:CallR}
 (hr:rJ C d f args s.B=some r)(ho:r.eff.asks)(hdn:d<F.n){next:Act->World->Prop}{Q:Exit->Act->World->Prop}
 (hn:(match r.pan with
   |none=>∀a' Ω',Holds F (s.put (some d) r.eff) a' Ω'->next a' Ω'.w
   |some (b,pv,u)=>(b=false->∀a' Ω',Holds F (s.put (some d) r.eff) a' Ω'->next a' Ω'.w)/\
     (b=true->∀Ω' v,Holds F ⟨s.T,updB s.B u⟩ a Ω'->V Ω' pv v->Q (.panic [{v,recovered:=false}]) a Ω'.w))) :
  aw P f/\Calls P f vs.toArray Ω.w fun
   |.returned v,w''=>next (a.put (some d) v) w''
   |.panicked chain,w''=>Q (.panic chain) a w''
   |.outgrown,_=>LetsOut Q:=by
 unfold rJ at hr;split at hr
 ·cases hr
 ·rename_i args' hst;have hv':=JU hv hst;generalize hL:gH C f args' s.B=L at hr;unfold GH at hr;split at hr
  ·rename_i hck;simp only[N4,PR,Q7]at hck;obtain⟨⟨hdist,hd⟩,hlen⟩:=hck;split at hr
   ·rename_i as S has hS';split at hr
    ·rename_i A hA;obtain⟨k1,k2,k3⟩:=iT L 900 S hS'
     have hob:(∀q,A.ob=some q->q):=by
      intro q hq
      have:r.eff.ob=A.ob:=by
       unfold Da at hr;split at hr
       ·split at hr
        ·simp at hr;subst hr;rfl
        ·split at hr
         ·simp at hr;subst hr;rfl
         ·cases hr
       ·cases hr
      unfold Eff.asks at ho;rw[this,hq]at ho;exact ho
     have hkeys:(au S).all cU=true:=by simp only[au,Ng,O5];rintro k ⟨x,hx,rfl⟩;have:=k3 x hx;simp only[cU,N4,Q7,PR];omega
     obtain⟨hent,hmeets⟩:=hS f as S A hA hob hkeys;have hlent:∀k i r,bF L k=some (i,r)->∃o o',s.B i=some o/\iy L r o=some o'/\aE S k=some o':=by intro k i r hk;obtain⟨h1,h2⟩:=fS hk;obtain⟨o,o',q1,q2,q3⟩:=k2 _ i r h2;rw[show 900+(k-900)=k by omega]at q3;exact⟨o,o',q1,q2,q3⟩
     have hLs:∀q i r,nth L q=some (i,r)->∃o o',s.B i=some o/\iy L r o=some o':=fun q i r hq=>let ⟨o,o',q1,q2,_⟩:=k2 q i r hq;⟨o,o',q1,q2⟩
     have hc:=hmeets Ω.w Ω.pub (dG L Ω.e) vs h.pubok (h.tabsC hLs) (hv'.mapVs (lU L Ω.e) has)
      (fun id o' ho'=>by
       obtain⟨q,i,r,o2,e1,e2,e3,e4⟩:=k1 id o' ho';subst e1;exact yj (dr (mP L i 900 q r hdist e2)) (h.slots i o2 e3) e4)
      (fun id hid=>by
       unfold dG
       cases hl:bF L id with
       |none=>rfl
       |some x=>
        obtain⟨o1,o2,_,_,q3⟩:=hlent id x.1 x.2 hl;rw[hid]at q3;cases q3)
      (fun i j c c' b oo hi hj ho1 ho2=>by
       obtain⟨i1,r1,c1,p1,p2,p3⟩:=ki h.slots hLs hi;obtain⟨i2,r2,c2,p4,p5,p6⟩:=ki h.slots hLs hj;have:=h.inj i1 i2 c1 c2 b oo p2 p5 (p3 b oo ho1) (p6 b oo ho2);subst this;have a1:=dN hdist p1;have a2:=dN hdist p4;rw[a1]at a2;simp at a2;exact a2.1)
     refine⟨hent,Calls.mono hc (fun en w' hq=>?_)⟩;obtain⟨pub',e',hq⟩:=hq;unfold Da at hr;split at hr
     ·rename_i v1 u1 b1 b2 b3
      cases en with
      |outgrown=>exact hq.elim
      |returned v=>
       obtain⟨q1,q2,q3⟩:=hq;obtain⟨Ω',w1,w2,w3⟩:=pQ h hd hdist hS' b3 b2 b1 q2 q3;subst w1;have fin:Holds F (s.put (some d) ⟨A.ob,v1,u1⟩) (a.put (some d) v) Ω':=by have:=w3.pure (dst:=some d) w2 (fun d' hd'=>by simp at hd';subst hd';exact hdn);exact this
       split at hr
       ·rename_i hp;simp at hr;subst hr;exact hn _ _ fin
       ·rename_i b pv pu hp;split at hr
        ·simp at hr;subst hr;exact hn.1 (q1 b pv pu hp) _ _ fin
        ·cases hr
      |panicked ch=>
       obtain⟨pv,u,v,q0,rfl,q2,q3⟩:=hq;split at hr
       ·rename_i hp;rw[q0]at hp;cases hp
       ·rename_i b pv' pu' hp;rw[q0]at hp;simp at hp;obtain⟨rfl,rfl,rfl⟩:=hp;split at hr
        ·rename_i pv1 pu1 c1 c2 c3;simp at hr;subst hr;obtain⟨Ω',w1,w2,w3⟩:=pQ h hd hdist hS' c3 c2 c1 q2 q3;subst w1;exact hn.2 rfl Ω' v w3 w2
        ·cases hr
     ·cases hr
    ·cases hr
   ·cases hr
  ·cases hr
theorem pR{B:Nat->Option SObj}:∀(u:List (Nat×SObj))(B':Nat->Option SObj),(∀i o,B i=some o->B' i=some o)->jD B u->updB B' (xO B u)=updB B' u
 |[],_,_,_=>rfl
 |(i,o)::r,B',hB,h=>by
  simp only[jD,xO]at h⊢
  cases hl:B i with
  |some o'=>
   rw[hl]at h;obtain⟨rfl,h⟩:=h;simp only[updB]
   have e:(fun j=>if i=j then some o' else B' j)=B':=by
    funext j;by_cases hj:i=j
    ·subst hj;rw[N6 rfl,hB i o' hl]
    ·rw[N3 hj]
   rw[e];exact pR r B' hB h
  |none=>
   rw[hl]at h;simp only[updB];refine pR r _ (fun j o2 hj=>?_) h;have:i≠j:=fun e=>by subst e;rw[hl]at hj;cases hj
   rw[N3 this];exact hB j o2 hj
theorem uu{b:Bool}{s:AS}{e:Eff}(d:Option Nat)(h:(fY b s.B e).asks):e.asks/\s.put d (fY b s.B e)=s.put d e:=by
 cases b with
 |false=>exact⟨h,rfl⟩
 |true=>obtain⟨h1,h2⟩:=h;refine⟨h1,?_⟩;simp only[AS.put,fY];rw[pR e.upd s.B (fun _ _ k=>k) h2]
theorem Dk(hS:dM P C.spec){c:Call}(hop:o.op=.call c)(hc:∀b,c.callee≠.builtin b):Dj P C o:=by
 intro F s a Ω eff next Q h hd he ho hn
 have hef:∃r,gI C o s.T s.B=some r/\fY (lL C o) s.B r.eff=eff:=by
  obtain⟨callee,args,ts⟩:=c
  cases callee with
  |builtin b=>exact absurd rfl (hc b)
  |value f=>
   simp only[aQ,hop]at he;split at he
   ·rename_i r hr;simp at he;exact⟨r,hr,he⟩
   ·cases he
  |invoke r m=>
   simp only[aQ,hop]at he;split at he
   ·rename_i r hr;simp at he;exact⟨r,hr,he⟩
   ·cases he
 obtain⟨r,hr,rfl⟩:=hef;obtain⟨ho',hput⟩:=uu o.dst ho;rw[hput]at hn;clear ho;have ho:=ho';have hpan:eD C o s.T s.B=r.pan:=by simp only[eD,hop,hr]
 rw[hpan]at hn;unfold gI at hr;split at hr
 ·rename_i c' d hop' hdst;rw[hop]at hop';simp at hop';subst hop';rw[hdst]at hn;have hdn:=hd d hdst;split at hr
  ·rename_i f args hcal
   have hargs:∃vs:List Value,VL Ω args vs/\∀fn,P.funcs[f]?=some fn->fn.body.isNone=false->(fn.name == "runtime.NumGoroutine")=false->
     (execOp a.eval o).run P Ω.w=.ok (.enter f vs.toArray) Ω.w:=by
    have hvl:VL Ω (c.args.toList.map (opd s.T)) (c.args.toList.map a.eval):=by refine⟨by simp,fun j x v hx hv=>?_⟩;simp only[NM,NB]at hx hv;obtain⟨y,hy,rfl⟩:=hx;obtain⟨y',hy',rfl⟩:=hv;rw[hy]at hy';simp at hy';subst hy';exact ct h y
    obtain⟨callee,cargs,ts⟩:=c;unfold dz at hcal;split at hcal
    ·rename_i f' hf';simp at hcal hf';obtain⟨rfl,rfl⟩:=hcal;subst hf';refine⟨_,hvl,fun fn h1 h2 h3=>?_⟩;simp only[execOp,hop,resolve,Act.eval,Deferred.ofValue,NA,NN,Nh,invoke,callFunc,run_program,h1];simp[h2,h3];exact Be rfl
    ·rename_i t hf';simp at hf';subst hf';split at hcal
     ·rename_i f' caps hT;simp at hcal;obtain⟨rfl,rfl⟩:=hcal;have ht:=h.tmps t;rw[hT]at ht;generalize hxv:a.tmps.getD t undef=xv at ht
      cases ht with
      |fn _ _ us h1 h2=>
       refine⟨_,hvl.append ⟨h1,h2⟩,fun fn e1 e2 e3=>?_⟩;have hxv':a.tmps[t]?.getD undef=Value.func (Fn.func f') #[] us.toArray:=by rw[<-hxv];simp[Nz]
       simp only[execOp,hop,resolve,Act.eval,hxv,Deferred.ofValue,NA,NN,Nh,invoke,callFunc,run_program,e1];simp[e2,e3]
     ·cases hcal
    ·cases hcal
   obtain⟨vs,hv,hrun⟩:=hargs;obtain⟨⟨fn,e1,e2,e3⟩,hcalls⟩:=call_ok hS h hv hr ho hdn hn;unfold Oper.wp;rw[hrun fn e1 e2 e3,Oper.upon_enter,hdst];exact hcalls
  ·cases hr
 ·cases hr
theorem H5{x:Operand}(hop:o.op=.panic x):Dj P C o:=by
 intro F s a Ω eff next Q h hd he ho hn
 simp only[aQ,hop]at he;simp only[eD,hop]at hn;have hx:=ct h x;split at he
 ·rename_i t y hxe;rw[hxe]at hx hn;generalize hxv:a.eval x=xv at hx;have hx':=hx
  cases hx with
  |iface _ _ v hv=>
   have hrun:(execOp a.eval o).run P Ω.w=.halt (.panic (.iface t v)) Ω.w:=by simp[execOp,hop,hxv,Instr.panic,goPanic,Sem.run,Result.andThen]
   unfold Oper.wp;rw[hrun,Oper.upon_panic];exact hn.2 trivial Ω _ h hx'
 ·cases he
theorem L6(hT:cq P C.tbl)(hS:dM P C.spec)(o:Oper):Dj P C o:=by
 have np:∀{op:Op},o.op=op->(∀x,op≠.panic x)->(∀c,op≠.call c)->∀T B,eD C o T B=none:=by
  intro op hop h1 h2 T B;unfold eD;split
  ·rename_i x hx;exact absurd (hop.symm.trans hx) (h1 x)
  ·rename_i c hx;exact absurd (hop.symm.trans hx) (h2 c)
  ·rfl
 have nb:∀{b:Builtin} {args:Array Operand} {ts:Array Nat},o.op=.call {callee:=.builtin b,args:=args,argTypes:=ts}->∀T B,eD C o T B=none:=by intro b args ts hop T B;simp only[eD,hop,gI];cases o.dst<;>simp[dz]
 cases hop:o.op with
 |move x=>exact(JM hop).p (np hop (by simp) (by simp))
 |assign x=>exact(E2 hop).p (np hop (by simp) (by simp))
 |pick c x y=>exact(JN hop).p (np hop (by simp) (by simp))
 |alloc e=>exact(GX hT hop).p (np hop (by simp) (by simp))
 |box e x=>exact(Lr hop).p (np hop (by simp) (by simp))
 |build t ps=>exact(GZ hT hop).p (np hop (by simp) (by simp))
 |buildSlice t n ps=>exact(uq hT hop).p (np hop (by simp) (by simp))
 |load t x=>exact(JO hT hop).p (np hop (by simp) (by simp))
 |store t x y=>exact(H0 hT hop).p (np hop (by simp) (by simp))
 |nilCheck x=>exact(xU hop).p (np hop (by simp) (by simp))
 |binOp op t x y t'=>exact(GR hT hop).p (np hop (by simp) (by simp))
 |unOp op t x=>exact(JS hop).p (np hop (by simp) (by simp))
 |convert t t' x=>exact(Bc hT hop).p (np hop (by simp) (by simp))
 |fieldAddr t x f=>exact(wh hT hop).p (np hop (by simp) (by simp))
 |field t x f=>exact(GU hT hop).p (np hop (by simp) (by simp))
 |indexAddr t x y=>exact(wi hT hop).p (np hop (by simp) (by simp))
 |index t x y=>exact(GV hT hop).p (np hop (by simp) (by simp))
 |slice t x lo hi mx=>
  cases mx with
  |none=>exact(GW hT hop).p (np hop (by simp) (by simp))
  |some _=>intro F s a Ω eff next Q h hd he ho hn;simp[aQ,hop]at he
 |extract x i=>exact(B4 hop).p (np hop (by simp) (by simp))
 |lookup t x k ok=>intro F s a Ω eff next Q h hd he ho hn;simp[aQ,hop]at he
 |mapUpdate t x k v=>intro F s a Ω eff next Q h hd he ho hn;simp[aQ,hop]at he
 |insert t x k v=>intro F s a Ω eff next Q h hd he ho hn;simp[aQ,hop]at he
 |makeMap t r=>intro F s a Ω eff next Q h hd he ho hn;simp[aQ,hop]at he
 |makeSlice t x y=>exact(wy hT hop).p (np hop (by simp) (by simp))
 |makeFunc f x y=>exact(yg hop).p (np hop (by simp) (by simp))
 |makeInterface t x=>exact(pN hT hop).p (np hop (by simp) (by simp))
 |typeAssert x t t' b=>exact(ur hT hop).p (np hop (by simp) (by simp))
 |panic x=>exact H5 hop
 |call c=>
  obtain⟨callee,args,ts⟩:=c
  cases callee with
  |builtin b=>
   cases b with
   |len=>exact(Lq hT hop).p (nb hop)
   |append=>exact(E8 hT hop).p (nb hop)
   |max=>exact(Lt hop).p (nb hop)
   |min=>exact(Lu hop).p (nb hop)
   |_=>intro F s a Ω eff next Q h hd he ho hn;simp[aQ,hop]at he
  |value f=>exact Dk hS hop (by simp)
  |invoke r m=>exact Dk hS hop (by simp)
 |_=>intro F s a Ω eff next Q h hd he ho hn;simp[aQ,hop]at he
end
end Go.AL
end
section
namespace Go.AL
variable [Tabs]
theorem kj:∀(l:List (Nat×AV))(i:Nat)(v:AV)(j:Nat),cx (rH l i v) j=if i=j then v else cx l j
 |[],i,v,j=>by simp[rH,cx]
 |(k,u)::r,i,v,j=>by
  simp only[rH];by_cases hk:k=i
  ·subst hk;simp only[Pw,NS,cx,O7];by_cases h:k=j<;>simp[h]
  ·simp only[O7,hk,ND,cx,kj r i v j];by_cases h:k=j
   ·subst h;have:¬i=k:=fun e=>hk e.symm;simp[this]
   ·simp[h]
theorem km:∀(l:List (Nat×SObj))(i:Nat)(v:SObj)(j:Nat),aE (ot l i v) j=if i=j then some v else aE l j
 |[],i,v,j=>by simp[ot,aE]
 |(k,u)::r,i,v,j=>by
  simp only[ot];by_cases hk:k=i
  ·subst hk;simp only[Pw,NS,aE,O7];by_cases h:k=j<;>simp[h]
  ·simp only[O7,hk,ND,aE,km r i v j];by_cases h:k=j
   ·subst h;have:¬i=k:=fun e=>hk e.symm;simp[this]
   ·simp[h]
theorem s8(t:List (Nat×AV))(d:Option Nat)(v:AV):cx (AU t d v)=dY (cx t) d v:=by
 funext j
 cases d with|none=>rfl|some d=>simp[AU,dY,kj]
theorem je:∀(u:List (Nat×SObj))(b:List (Nat×SObj)),aE (putB b u)=updB (aE b) u
 |[],b=>rfl
 |(i,o)::r,b=>by simp only[putB,updB];rw[je r];congr 1;funext j;exact km b i o j
theorem wA(s:St)(d:Option Nat)(e:Eff):(s.put d e).abs=s.abs.put d e:=by simp only[St.put,St.abs,AS.put,s8,je]
def kW(ops:List Oper)(o:Oper)(T:Nat->AV):Option Bool:=
 match o.guard with
 |none=>some true
 |some (j,want)=>
  match(nth ops j).bind (·.dst)with
  |none=>none
  |some d=>(match T d with|.bool b=>some (b ==want)|.tup []=>some false|_=>none)
def s9(C:Cfg)(ops:List Oper)(o:Oper)(s s':AS)(f:ic):Prop:=
 (kW ops o s.T=some true/\∃e,aQ C o s.T s.B=some e/\e.asks/\eD C o s.T s.B=none/\s'=s.put o.dst e/\f=(bq C o s.T s.B,e.upd.map (·.1)))∨
 (kW ops o s.T=some false/\s'=⟨dY s.T o.dst (.tup []),s.B⟩/\f=([],[]))
def Bf(C:Cfg)(ops:List Oper):List Oper->AS->List ic->AS->Prop
 |[],s,fs,s'=>s=s'/\fs=[]
 |o::r,s,fs,s'=>∃s1 f fs',s9 C ops o s s1 f/\Bf C ops r s1 fs' s'/\fs=f::fs'
theorem JV{e:Eff}{q:Prop}(h:Dd e.ob q):e.asks/\q:=by
 unfold Dd at h;unfold Eff.asks
 cases hob:e.ob with|none=>rw[hob]at h;exact⟨trivial,h⟩|some p=>rw[hob]at h;exact h
theorem qB{C:Cfg}{ops:List Oper}{draw:Bool}{kp:AV->St->Prop}{o:Oper}{r:List Oper}{i:Nat}{s:St}{fs:List ic}{k:St->List ic->Prop}
 (h:dv C ops draw kp (o::r) i s fs k) :
  (kW ops o s.abs.T=some true/\∃e,aQ C o s.abs.T s.abs.B=some e/\e.asks/\
   (match eD C o s.abs.T s.abs.B with
    |none=>dv C ops draw kp r (i+1) (s.put o.dst e) ((bq C o s.abs.T s.abs.B,e.upd.map (·.1))::fs) k
    |some (b,pv,u)=>draw=false/\(b=true->kp pv ⟨s.t,putB s.b u⟩)/\(b=false->dv C ops draw kp r (i+1) (s.put o.dst e) ((bq C o s.abs.T s.abs.B,e.upd.map (·.1))::fs) k)))∨
  (kW ops o s.abs.T=some false/\dv C ops draw kp r (i+1) ⟨AU s.t o.dst (.tup []),s.b⟩ (([],[])::fs) k):=by
 have on:kW ops o s.abs.T=some true->
   (match aQ C o (cx s.t) (aE s.b)with
    |none=>False
    |some e=>Dd e.ob
     (match eD C o (cx s.t) (aE s.b)with
     |none=>
      (match rk ops i,e.val with
      |true,.bool b=>
       sp b (dv C ops draw kp r (i+1) (s.put o.dst {e with val:=.bool true}) ((bq C o (cx s.t) (aE s.b),e.upd.map (·.1))::fs) k)
        (dv C ops draw kp r (i+1) (s.put o.dst {e with val:=.bool false}) ((bq C o (cx s.t) (aE s.b),e.upd.map (·.1))::fs) k)
      |true,_=>False
      |false,_=>dv C ops draw kp r (i+1) (s.put o.dst e) ((bq C o (cx s.t) (aE s.b),e.upd.map (·.1))::fs) k)
     |some (b,pv,u)=>
      (match draw||rk ops i with
      |true=>False
      |false=>sp b (kp pv ⟨s.t,putB s.b u⟩) (dv C ops draw kp r (i+1) (s.put o.dst e) ((bq C o (cx s.t) (aE s.b),e.upd.map (·.1))::fs) k))))->
   (kW ops o s.abs.T=some true/\∃e,aQ C o s.abs.T s.abs.B=some e/\e.asks/\
    (match eD C o s.abs.T s.abs.B with
     |none=>dv C ops draw kp r (i+1) (s.put o.dst e) ((bq C o s.abs.T s.abs.B,e.upd.map (·.1))::fs) k
     |some (b,pv,u)=>draw=false/\(b=true->kp pv ⟨s.t,putB s.b u⟩)/\(b=false->dv C ops draw kp r (i+1) (s.put o.dst e) ((bq C o s.abs.T s.abs.B,e.upd.map (·.1))::fs) k))):=by
  intro hg hq;split at hq
  ·exact hq.elim
  ·rename_i e he;obtain⟨hask,h2⟩:=JV hq;refine⟨hg,e,he,hask,?_⟩
   show(match eD C o (cx s.t) (aE s.b)with
     |none=>dv C ops draw kp r (i+1) (s.put o.dst e) ((bq C o (cx s.t) (aE s.b),e.upd.map (·.1))::fs) k
     |some (b,pv,u)=>draw=false/\(b=true->kp pv ⟨s.t,putB s.b u⟩)/\(b=false->dv C ops draw kp r (i+1) (s.put o.dst e) ((bq C o (cx s.t) (aE s.b),e.upd.map (·.1))::fs) k))
   cases hp:eD C o (cx s.t) (aE s.b)with
   |none=>
    rw[hp]at h2;simp only at h2⊢;split at h2
    ·rename_i b _ hb;unfold sp at h2;split at h2
     ·rename_i hbt;subst hbt;have:({e with val:=.bool true}:Eff)=e:=by rw[<-hb]
      rw[this]at h2;exact h2
     ·rename_i hbt;have hbf:b=false:=by simpa using hbt
      subst hbf;have:({e with val:=.bool false}:Eff)=e:=by rw[<-hb]
      rw[this]at h2;exact h2
    ·exact h2.elim
    ·exact h2
   |some x=>
    obtain⟨b,pv,u⟩:=x;rw[hp]at h2;simp only at h2⊢;split at h2
    ·exact h2.elim
    ·rename_i hdr;simp only[Pt]at hdr;unfold sp at h2;refine⟨hdr.1,fun hb=>?_,fun hb=>?_⟩
     ·rw[N6 hb]at h2;exact h2
     ·subst hb;simpa using h2
 simp only[dv]at h;split at h
 ·rename_i hgd;exact Or.inl (on (by simp[kW,hgd]) h)
 ·rename_i j want hgd;split at h
  ·exact h.elim
  ·rename_i d hd;split at h
   ·rename_i hb;cases want
    ·exact Or.inr ⟨by simp[kW,hgd,hd,St.abs,hb],h⟩
    ·exact Or.inl (on (by simp[kW,hgd,hd,St.abs,hb]) h)
   ·rename_i hb;cases want
    ·exact Or.inl (on (by simp[kW,hgd,hd,St.abs,hb]) h)
    ·exact Or.inr ⟨by simp[kW,hgd,hd,St.abs,hb],h⟩
   ·rename_i hb;exact Or.inr ⟨by simp[kW,hgd,hd,St.abs,hb],h⟩
   ·exact h.elim
theorem nM(C:Cfg)(ops:List Oper)(kp:AV->St->Prop)(k:St->List ic->Prop):∀(l:List Oper)(i:Nat)(s:St)(fs:List ic),dv C ops true kp l i s fs k->
  ∃s' fs',Bf C ops l s.abs fs' s'.abs/\k s' (fs.reverse++fs')
 |[],i,s,fs,h=>⟨s,[],⟨rfl,rfl⟩,by simpa[dv]using h⟩
 |o::r,i,s,fs,h=>by
  rcases qB h with⟨hg,e,he,hask,hq⟩|⟨hg,hq⟩
  ·cases hp:eD C o s.abs.T s.abs.B with
   |none=>rw[hp]at hq;obtain⟨s',fs',h1,h2⟩:=nM C ops kp k r (i+1) _ _ hq;rw[wA]at h1;exact⟨s',_::fs',⟨_,_,fs',Or.inl ⟨hg,e,he,hask,hp,rfl,rfl⟩,h1,rfl⟩,by simpa[St.abs]using h2⟩
   |some x=>rw[hp]at hq;cases hq.1
  ·obtain⟨s',fs',h1,h2⟩:=nM C ops kp k r (i+1) _ _ hq;have e:(⟨AU s.t o.dst (.tup []),s.b⟩:St).abs=⟨dY s.abs.T o.dst (.tup []),s.abs.B⟩:=by simp only[St.abs,s8]
   rw[e]at h1;exact⟨s',_::fs',⟨_,_,fs',Or.inr ⟨hg,rfl,rfl⟩,h1,rfl⟩,by simpa[St.abs]using h2⟩
section
variable {P:Program} {C:Cfg} {ops:Array Oper} {Q:Exit->Act->World->Prop} {F:Fr}
theorem V.skip{Ω:Om}:V Ω (.tup []) Go.undef:=.tup [] [] rfl (fun j c v h=>by simp at h)
theorem V.tup0_inv{Ω:Om}{v:Value}(h:V Ω (.tup []) v):v=.tuple #[]:=by
 cases h with|tup _ vs h1 _=>have:vs=[]:=Ni h1.symm;subst this;rfl
theorem qC{o:Oper}{s:AS}{a:Act}{Ω:Om}(h:Holds F s a Ω):∀b,kW ops.toList o s.T=some b->Region.wanted o (yielded ops a.tmps)=b:=by
 intro b hb;unfold kW at hb;unfold Region.wanted;split at hb
 ·rename_i hg;simp only[hg];simpa using hb
 ·rename_i j want hg;simp only[hg];split at hb
  ·simp at hb
  ·rename_i d hd';split at hb
   ·rename_i c hc;simp at hb;have hv:=h.tmps d;rw[hc]at hv;have hv:=hv.bool_inv
    have hsome:a.tmps[d]?=some (.bool c):=by
     rw[Nz]at hv
     cases ht:a.tmps[d]? with|none=>rw[ht]at hv;simp[undef]at hv|some v=>rw[ht]at hv;simp at hv;rw[hv]
    have hdst:(ops[j]?).bind (·.dst)=some d:=by rw[lM,NH]at hd';exact hd'
    simp only[yielded,hdst,Option.bind_some,hsome];rw[<-hb];cases c<;>cases want<;>rfl
   ·rename_i hc;simp at hb;subst hb;have hv:=h.tmps d;rw[hc]at hv;have hdst:(ops[j]?).bind (·.dst)=some d:=by rw[lM,NH]at hd';exact hd'
    have hsome:a.tmps[d]?=none∨a.tmps[d]?=some (.tuple #[]):=by
     rw[Nz]at hv
     cases ht:a.tmps[d]? with|none=>exact .inl rfl|some v=>rw[ht]at hv;simp only[Ol]at hv;exact .inr (by rw[hv.tup0_inv])
    rcases hsome with e|e<;>simp only[yielded,hdst,Option.bind_some,e]<;>cases want<;>rfl
   ·simp at hb
theorem Bg(hT:cq P C.tbl)(hS:dM P C.spec){o:Oper}{i:Nat}(hi:ops[i]?=some o)(hd:∀d,o.dst=some d->d<F.n)
 {s s':AS}{f:ic}{a:Act}{Ω:Om}(h:Holds F s a Ω)(hs:s9 C ops.toList o s s' f){K:Act->World->Prop}
 (hK:∀a' Ω',Holds F s' a' Ω'->K a' Ω'.w):wpOp P ops Q i K a Ω.w:=by
 have hgate:=qC (ops:=ops) (o:=o) h;unfold wpOp;rw[hi];rcases hs with⟨hg,e,he,ho,hp,rfl,rfl⟩|⟨hg,rfl,rfl⟩
 ·simp only[hgate true hg,NS];refine Or.inl (L6 hT hS o F s a Ω e K Q h hd he ho ?_);rw[hp];exact hK
 ·simp only[hgate false hg,NC,ND];exact hK _ Ω (h.pure V.skip hd)
theorem mQ(hT:cq P C.tbl)(hS:dM P C.spec)(hd:∀(o:Oper),o∈ops.toList->∀d,o.dst=some d->d<F.n){draw:Bool}{kp:AV->St->Prop}{k:St->List ic->Prop}
 (hQ:∀s fs a' Ω',k s fs->Holds F s.abs a' Ω'->Q .normal a' Ω'.w)(hP:∀pv s a' Ω' v,kp pv s->Holds F s.abs a' Ω'->V Ω' pv v->Q (.panic [{v,recovered:=false}]) a' Ω'.w) :
  ∀(l:List Oper)(i:Nat)(s:St)(fs:List ic)(a:Act)(Ω:Om),ops.toList.drop i=l->dv C ops.toList draw kp l i s fs k->Holds F s.abs a Ω->
   wpOps P ops Q (List.range' i l.length) a Ω.w
 |[],i,s,fs,a,Ω,_,hr,h=>hQ s _ a Ω (by simpa[dv]using hr) h
 |o::r,i,s,fs,a,Ω,hl,hr,h=>by
  have hi:ops[i]?=some o:=by
   have:(ops.toList.drop i)[0]?=some o:=by rw[hl];rfl
   rw[O6]at this;simpa using this
  have hl':ops.toList.drop (i+1)=r:=by rw[<-List.tail_drop,hl];rfl
  have hdo:=hd o (NQ (by rw[NH];exact hi));have hgate:=qC (ops:=ops) (o:=o) h;simp only[N7,PT];rw[wpOps_cons];unfold wpOp;rw[hi];rcases qB hr with⟨hg,e,he,hask,hq⟩|⟨hg,hq⟩
  ·simp only[hgate true hg,NS];refine Or.inl (L6 hT hS o F s.abs a Ω e _ Q h hdo he hask ?_)
   cases hp:eD C o s.abs.T s.abs.B with
   |none=>rw[hp]at hq;intro a' Ω' h';rw[<-wA]at h';exact mQ hT hS hd hQ hP r (i+1) _ _ a' Ω' hl' hq h'
   |some x=>
    obtain⟨b,pv,u⟩:=x;rw[hp]at hq;refine⟨fun hb a' Ω' h'=>?_,fun hb Ω' v h' hv=>?_⟩
    ·rw[<-wA]at h';exact mQ hT hS hd hQ hP r (i+1) _ _ a' Ω' hl' (hq.2.2 hb) h'
    ·refine hP pv _ a Ω' v (hq.2.1 hb) ?_ hv;have e2:(⟨s.t,putB s.b u⟩:St).abs=⟨s.abs.T,updB s.abs.B u⟩:=by simp only[St.abs,je]
     rw[e2];exact h'
  ·simp only[hgate false hg,NC,ND];have e2:(⟨AU s.t o.dst (.tup []),s.b⟩:St).abs=⟨dY s.abs.T o.dst (.tup []),s.abs.B⟩:=by simp only[St.abs,s8]
   exact mQ hT hS hd hQ hP r (i+1) _ _ _ Ω hl' hq (by rw[e2];exact h.pure V.skip hdo)
end
end Go.AL
end
section
namespace Go.AL
variable [Tabs]
theorem pS(look:Nat->Option SObj):∀(n:Nat)(todo acc:List Nat),∀i∈acc,i∈lC look n todo acc
 |0,todo,acc,i,h=>by simpa[lC]using h
 |n+1,[],acc,i,h=>by simpa[lC]using h
 |n+1,j::r,acc,i,h=>by
  simp only[lC];split
  ·exact pS look n r acc i h
  ·exact pS look n _ _ i (by simp[h])
theorem lW{look look':Nat->Option SObj}:∀(n:Nat)(todo acc:List Nat),(∀i∈lC look n todo acc,look i=look' i)->lC look n todo acc=lC look' n todo acc
 |0,todo,acc,h=>rfl
 |n+1,[],acc,h=>rfl
 |n+1,j::r,acc,h=>by
  simp only[lC]at h⊢;split
  ·rename_i hc;rw[N6 hc]at h;exact lW n r acc h
  ·rename_i hc;rw[N3 hc]at h;have hj:=h j (pS look n _ _ j (by simp));rw[<-hj];exact lW n _ _ h
theorem oG{C:Cfg}{f:Nat}{args:List AV}{look look':Nat->Option SObj}(h:∀i∈(gH C f args look).map (·.1),look i=look' i):gH C f args look=gH C f args look':=by
 have hm:(gH C f args look).map (·.1)=lC look 64 (ids.idsL args) []:=by simp[gH,Qe]
 rw[hm]at h;have hr:=lW 64 (ids.idsL args) [] h;unfold gH;rw[<-hr];apply Py;intro i hi;have hb:D9 look i=D9 look' i:=by unfold D9;rw[h i hi]
 rw[hb]
theorem sa{look look':Nat->Option SObj}{L:List dS}:∀(l:List dS)(j:Nat),(∀i∈l.map (·.1),look i=look' i)->ow look L l j=ow look' L l j
 |[],j,_=>rfl
 |(i,r)::l,j,h=>by simp only[ow];rw[<-h i (by simp),sa l (j+1) (fun k hk=>h k (by simp only[Nj];exact Nn _ hk))]
theorem ij{look look':Nat->Option SObj}{L:List dS}{d:Nat}:∀(u:List (Nat×SObj)),(∀i∈L.map (·.1),look i=look' i)->(∀i∈fX L d u,look i=look' i)->lD look L d u=lD look' L d u
 |[],_,_=>rfl
 |(k,o)::u,h,hn=>by
  simp only[lD]
  cases hk:bF L k with
  |some x=>obtain⟨i,r⟩:=x;have hm:i∈L.map (·.1):=O5.2 ⟨(i,r),wz L _ _ (fS hk).2,rfl⟩;have ih:=ij u h (fun j hj=>hn j (by simp only[fX,Q2,hk]at hj⊢;exact hj));simp only[<-h i hm,ih]
  |none=>
   have ih:=ij u h (fun j hj=>hn j (by
    simp only[fX,Q2,hk]at hj⊢;exact Nn _ hj))
   have h1:=hn (nid d k) (by simp only[fX,Q2,hk];exact NF ..);simp only[<-h1,ih]
theorem lX{L:List dS}{d:Nat}{S u:List (Nat×SObj)}(hS:∀x∈S,∃y,bF L x.1=some y):fX L d (iD S u)=fX L d u:=by
 have e:∀v w:List (Nat×SObj),fX L d (v++w)=fX L d v++fX L d w:=fun v w=>List.filterMap_append;have z:fX L d (S.filter fun x=>!(u.map (·.1)).contains x.1)=[]:=by unfold fX;rw[List.filterMap_eq_nil_iff];intro x hx;obtain⟨y,hy⟩:=hS x (ON.1 hx).1;simp[hy]
 unfold iD;rw[e,z,OD]
theorem yn{C:Cfg}{d f:Nat}{args args':List AV}{look look':Nat->Option SObj}{r:CallR}(hr:rJ C d f args look=some r)(hst:kN (C.keeps f) args=some args')
 (h1:∀i∈(gH C f args' look).map (·.1),look i=look' i)(h2:∀i∈r.foot,look i=look' i):rJ C d f args look'=some r:=by
 unfold rJ at hr⊢;rw[hst]at hr⊢;simp only at hr⊢;rw[<-oG h1];generalize gH C f args' look=L at hr h1⊢;unfold GH at hr⊢;split at hr
 ·rename_i hck;have hd:cR (L.map (·.1))=true:=by simp only[N4]at hck;exact hck.1.1
  rw[<-sa L 900 h1];split at hr
  ·rename_i as S has hS;split at hr
   ·rename_i A hA;have hSl:∀x∈S,∃y,bF L x.1=some y:=by intro x hx;obtain⟨q,i,r,o,e1,e2,_⟩:=(iT L 900 S hS).1 x.1 x.2 (s7 L 900 S hS x hx);rw[e1];exact⟨(i,r),dr (mP L i 900 q r hd e2)⟩
    unfold Da at hr⊢;split at hr
    ·rename_i v u c1 c2 c3;split at hr
     ·rename_i hp;simp at hr;subst hr;rw[c1,<-ij (iD S A.upd) h1 (by rw[lX hSl];exact h2),c2,c3]
     ·rename_i b pv pu hp;split at hr
      ·rename_i pv' pu' q1 q2 q3;simp at hr;subst hr;rw[c1,<-ij (iD S A.upd) h1 (by rw[lX hSl];exact fun i hi=>h2 i (by simp[hi])),c2,c3];simp only;rw[q1,<-ij (iD S pu) h1 (by rw[lX hSl];exact fun i hi=>h2 i (by simp[hi])),q2,q3]
      ·cases hr
    ·cases hr
   ·cases hr
  ·cases hr
 ·cases hr
theorem nv{B B':Nat->Option SObj}:∀(u:List (Nat×SObj)),(∀i∈u.map (·.1),B i=B' i)->jD B u=jD B' u
 |[],_=>rfl
 |(i,o)::r,h=>by simp only[jD];rw[h i (by simp),nv r (fun j hj=>h j (by simp only[Nj];exact Nn _ hj))]
theorem sb{B B':Nat->Option SObj}:∀(u:List (Nat×SObj)),(∀i∈u.map (·.1),B i=B' i)->xO B u=xO B' u
 |[],_=>rfl
 |(i,o)::r,h=>by simp only[xO];rw[h i (by simp),sb r (fun j hj=>h j (by simp only[Nj];exact Nn _ hj))]
def H6:Op->Bool
 |.call {callee:=.value _,..}=>true
 |_=>false
theorem Bh(C:Cfg)(o:Oper)(T T':Nat->AV)(B B':Nat->Option SObj)(hnc:H6 o.op=false)(h:∀x∈o.op.operands.toList,opd T x=opd T' x)
 (hb:∀id∈bq C o T B,B id=B' id):bq C o T B=bq C o T' B'/\aQ C o T B=aQ C o T' B'/\eD C o T B=eD C o T' B':=by
 suffices hs:bq C o T B=bq C o T' B'/\aQ C o T B=aQ C o T' B' by
  refine⟨hs.1,hs.2,?_⟩;unfold eD
  cases hop:o.op with
  |panic x=>simp[hop,Op.operands]at h;simp[h]
  |call c=>
   obtain⟨callee,args,ts⟩:=c
   cases callee with
   |builtin b=>simp[gI,hop,dz];cases o.dst<;>rfl
   |value f=>rw[hop]at hnc;cases hnc
   |invoke r m=>simp[gI,hop,dz];cases o.dst<;>rfl
  |_=>rfl
 have mapEq:∀ps:Array (Nat×Operand),(∀x∈(ps.toList.map (·.2)),opd T x=opd T' x)->
   (ps.toList.map fun(i,x)=>(i,opd T x))=(ps.toList.map fun(i,x)=>(i,opd T' x)):=by
  intro ps hps;apply Py;rintro⟨i,x⟩ hx;simp only[Prod.mk.injEq,NZ];exact hps x (O5.2 ⟨(i,x),hx,rfl⟩)
 have bndEq:∀x:Option Operand,(∀y∈x.toArray.toList,opd T y=opd T' y)->bnd T x=bnd T' x:=by
  intro x hx
  cases x with|none=>rfl|some y=>simp only[bnd];rw[hx y (by simp)]
 cases hop:o.op with
 |move x=>simp[hop,Op.operands]at h;simp[bq,aQ,hop,h]
 |assign x=>simp[hop,Op.operands]at h;simp[bq,aQ,hop,h]
 |pick c x y=>simp[hop,Op.operands]at h;obtain⟨h1,h2,h3⟩:=h;simp only[bq,aQ,hop,h1,h2,h3,Qn]
 |alloc e=>
  simp only[bq,hop]at hb;refine⟨by simp only[bq,hop],?_⟩;simp only[aQ,hop];split
  ·rename_i d r h1 h2;rw[hb d (by simp[h1])]
  ·rfl
 |box e x=>
  simp[hop,Op.operands]at h;simp only[bq,hop]at hb;refine⟨by simp only[bq,hop],?_⟩;simp only[aQ,hop];split
  ·rename_i d r h1 h2;rw[hb d (by simp[h1]),h]
  ·rfl
 |build t ps=>simp only[hop,Op.operands]at h;refine⟨by simp only[bq,hop],?_⟩;simp only[aQ,hop];rw[mapEq ps (by simpa using h)]
 |buildSlice t n ps=>
  simp only[hop,Op.operands]at h;simp only[bq,hop]at hb;refine⟨by simp only[bq,hop],?_⟩;simp only[aQ,hop];split
  ·rename_i d e sz by' z ty h1 h2
   rw[hb d (by simp[h1]),mapEq ps (by simpa using h)]
  ·rfl
 |load t x=>
  simp[hop,Op.operands]at h;simp only[bq,hop]at hb;refine⟨by simp only[bq,hop,h],?_⟩;simp only[aQ,hop];split
  ·rw[<-h];split
   ·rename_i id off hx;rw[hx]at hb;rw[hb id (by simp)]
   ·rfl
   ·rename_i id i w off hx;rw[hx]at hb;rw[hb id (by simp)]
   ·rfl
  ·rfl
 |store t x y=>
  simp[hop,Op.operands]at h;simp only[bq,hop]at hb;refine⟨by simp only[bq,hop,h.1],?_⟩;simp only[aQ,hop];split
  ·rw[<-h.1,<-h.2];split
   ·rfl
   split
   ·rename_i id off hx;rw[hx]at hb;rw[hb id (by simp)]
   ·rename_i id i w off hx;rw[hx]at hb;rw[hb id (by simp)]
   ·rename_i τ n k hx;rw[hx]at hb;rw[hb k (by simp)]
   ·rfl
  ·rfl
 |nilCheck x=>simp[hop,Op.operands]at h;exact⟨by simp only[bq,hop],by simp only[aQ,hop];rw[h]⟩
 |binOp op t x y t'=>simp[hop,Op.operands]at h;exact⟨by simp only[bq,hop],by simp only[aQ,hop];rw[h.1,h.2]⟩
 |unOp op t x=>simp[hop,Op.operands]at h;exact⟨by simp only[bq,hop],by simp only[aQ,hop];rw[h]⟩
 |convert t t' x=>simp[hop,Op.operands]at h;exact⟨by simp only[bq,hop],by simp only[aQ,hop];rw[h]⟩
 |fieldAddr t x f=>simp[hop,Op.operands]at h;exact⟨by simp only[bq,hop],by simp only[aQ,hop];rw[h]⟩
 |field t x f=>simp[hop,Op.operands]at h;exact⟨by simp only[bq,hop],by simp only[aQ,hop];rw[h]⟩
 |indexAddr t x y=>simp[hop,Op.operands]at h;exact⟨by simp only[bq,hop],by simp only[aQ,hop];rw[h.1,h.2]⟩
 |index t x y=>simp[hop,Op.operands]at h;exact⟨by simp only[bq,hop],by simp only[aQ,hop];rw[h.1,h.2]⟩
 |slice t x lo hi mx=>
  cases mx with|some _=>simp only[bq,aQ,hop,Qn]|none=>simp only[hop,Op.operands]at h;have h1:opd T x=opd T' x:=h x (by simp);have h2:bnd T lo=bnd T' lo:=bndEq lo (fun y hy=>h y (by simp at hy⊢;simp[hy]));have h3:bnd T hi=bnd T' hi:=bndEq hi (fun y hy=>h y (by simp at hy⊢;simp[hy]));simp only[bq,aQ,hop,h1,h2,h3,Qn]
 |extract x i=>simp[hop,Op.operands]at h;exact⟨by simp only[bq,hop],by simp only[aQ,hop];rw[h]⟩
 |call c=>
  obtain⟨callee,args,ts⟩:=c
  cases callee with
  |builtin b=>
   cases b with
   |len=>
    simp only[hop,Op.operands,Call.operands]at h;refine⟨by simp only[bq,hop,dz],?_⟩;simp only[aQ,hop];split
    ·rename_i x t hx ht;rw[h x (by simp[hx])];rfl
    ·rfl
   |append=>
    simp only[hop,Op.operands,Call.operands]at h;simp only[bq,hop]at hb;refine⟨?_,?_⟩
    ·simp only[bq,hop];split
     ·rename_i x y hx;rw[h x (by simp[hx])]
     ·rfl
    ·simp only[aQ,hop];split
     ·rename_i x y t t' d hx ht hdst;split
      ·rw[<-h x (by simp[hx]),<-h y (by simp[hx])];rw[hx]at hb;simp only at hb;split
       ·unfold ri;split
        ·split
         ·split
          ·rename_i hxe hye;rw[hxe]at hb;simp only at hb;rw[hb _ (by simp)]
          ·rename_i hxe hye;rw[hxe]at hb;simp only at hb;rw[hb d (by simp[hdst])]
          ·rfl
         ·rfl
        ·rfl
       unfold w7;split
       ·split
        ·split
         ·rfl
         ·rfl
         ·rename_i hxe hye;rw[hxe]at hb;simp only at hb;rw[hb _ (by simp)]
         ·rename_i hxe hye;rw[hxe]at hb;simp only at hb;rw[hb d (by simp[hdst])]
         ·rfl
        ·rfl
       ·rfl
      ·rw[<-h x (by simp[hx]),<-h y (by simp[hx])];rw[hx]at hb;simp only at hb;split
       ·unfold rj;split
        ·split
         ·split
          ·rename_i xs k hxe;rw[hxe]at hb;simp only at hb;rw[hb k (by simp)]
          ·rfl
         ·rfl
        ·rfl
       ·rfl
     ·rfl
   |max=>
    simp only[hop,Op.operands,Call.operands]at h;refine⟨by simp only[bq,hop,dz],?_⟩;simp only[aQ,hop];split
    ·rename_i x y hx;rw[h x (by simp[hx]),h y (by simp[hx])]
    ·rfl
   |min=>
    simp only[hop,Op.operands,Call.operands]at h;refine⟨by simp only[bq,hop,dz],?_⟩;simp only[aQ,hop];split
    ·rename_i x y hx;rw[h x (by simp[hx]),h y (by simp[hx])]
    ·rfl
   |_=>simp only[bq,aQ,hop,dz,Qn]
  |value f=>rw[hop]at hnc;cases hnc
  |invoke r m=>simp only[bq,aQ,hop,gI,dz];exact⟨trivial,by cases o.dst<;>rfl⟩
 |makeSlice t x y=>
  simp[hop,Op.operands]at h;simp only[bq,hop]at hb;refine⟨by simp only[bq,hop],?_⟩;simp only[aQ,hop,h.1,h.2];split
  ·rename_i d e sz by' z ty m n hd ht hx hy
   rw[hb d (by simp[hd])]
  ·rfl
 |makeFunc f x y=>refine⟨by simp only[bq,hop],?_⟩;simp only[hop,Op.operands]at h;have hy:y.toList.map (opd T)=y.toList.map (opd T'):=Py fun z hz=>h z (by simp at hz⊢;simp[hz]);cases f<;>simp only[aQ,hop,hy]
 |makeInterface t x=>simp[hop,Op.operands]at h;exact⟨by simp only[bq,hop],by simp only[aQ,hop];rw[h]⟩
 |typeAssert x t t' b=>cases b<;>(simp[hop,Op.operands]at h;exact⟨by simp only[bq,hop],by simp only[aQ,hop];first|done|rw[h]⟩)
 |panic x=>simp[hop,Op.operands]at h;exact⟨by simp only[bq,hop],by simp only[aQ,hop];rw[h]⟩
 |_=>simp only[bq,aQ,hop,Qn]
theorem Ed(C:Cfg)(o:Oper)(T T':Nat->AV)(B B':Nat->Option SObj){e:Eff}(h:∀x∈o.op.operands.toList,opd T x=opd T' x)
 (hb:∀id∈bq C o T B,B id=B' id)(he:aQ C o T B=some e):bq C o T B=bq C o T' B'/\aQ C o T' B'=some e/\eD C o T B=eD C o T' B':=by
 cases hc:H6 o.op with
 |false=>obtain⟨h1,h2,h3⟩:=Bh C o T T' B B' hc h hb;exact⟨h1,by rw[<-h2,he],h3⟩
 |true=>
  obtain⟨f0,args0,ts,hop⟩:∃f0 args0 ts,o.op=.call {callee:=.value f0,args:=args0,argTypes:=ts}:=by
   cases hop:o.op with
   |call c=>
    obtain⟨callee,args,ts⟩:=c
    cases callee with
    |value f=>exact⟨f,args,ts,rfl⟩
    |builtin b=>rw[hop]at hc;cases hc
    |invoke r m=>rw[hop]at hc;cases hc
   |_=>rw[hop]at hc;cases hc
  have hcal:dz T {callee:=.value f0,args:=args0,argTypes:=ts}=dz T' {callee:=.value f0,args:=args0,argTypes:=ts}:=by
   simp only[hop,Op.operands,Call.operands]at h;have ha:args0.toList.map (opd T)=args0.toList.map (opd T'):=Py fun z hz=>h z (by simp at hz⊢;simp[hz])
   cases f0 with|func f=>simp only[dz,ha]|tmp t=>have ht:T t=T' t:=h (.tmp t) (by simp);simp only[dz,ha,ht]|_=>rfl
  have heff:∃r,gI C o T B=some r/\fY (lL C o) B r.eff=e:=by
   simp only[aQ,hop]at he;split at he
   ·rename_i r hr;simp at he;exact⟨r,hr,he⟩
   ·cases he
  obtain⟨r,hr,rfl⟩:=heff;have hr0:=hr;simp only[gI,hop]at hr;split at hr
  ·rename_i c d hc' hdst;simp at hc';subst hc';split at hr
   ·rename_i f args hca;have hca':=hca;rw[hcal]at hca'
    obtain⟨args',hst⟩:∃args',kN (C.keeps f) args=some args':=by
     cases hs:kN (C.keeps f) args with|none=>simp[rJ,hs]at hr|some x=>exact⟨x,rfl⟩
    have hneed:bq C o T B=(gH C f args' B).map (·.1)++(r.foot++GI (lL C o) r.eff.upd):=by simp only[bq,hop,hca,hst];simp only[hr0]
    rw[hneed]at hb;have h1:∀i∈(gH C f args' B).map (·.1),B i=B' i:=fun i hi=>hb i (by simp only[NV];exact Or.inl hi);have hr1:=yn hr hst h1 (fun i hi=>hb i (by simp only[NV];exact Or.inr (Or.inl hi)))
    have hds:fY (lL C o) B' r.eff=fY (lL C o) B r.eff:=by
     cases hsm:lL C o with
     |false=>rfl
     |true=>rw[hsm]at hb;have hb2:∀i∈r.eff.upd.map (·.1),B i=B' i:=fun i hi=>hb i (by simp only[NV];exact Or.inr (Or.inr hi));simp only[fY];rw[nv r.eff.upd hb2,sb r.eff.upd hb2]
    have hr2:gI C o T' B'=some r:=by simp only[gI,hop,hdst,hca',hr1]
    refine⟨?_,?_,?_⟩
    ·rw[hneed];simp only[bq,hop,hca',hst,hr2];rw[oG h1]
    ·simp only[aQ,hop,hr2];exact OH some hds
    ·simp only[eD,hop,hr0,hr2]
   ·cases hr
  ·cases hr
theorem Ee{o:Oper}{T T':Nat->AV}(h:∀t∈AW o,T t=T' t):∀x∈o.op.operands.toList,opd T x=opd T' x:=by
 intro x hx
 cases x with|tmp t=>simp only[opd];exact h t (by simp only[AW,List.mem_filterMap];exact⟨.tmp t,hx,rfl⟩)|_=>rfl
theorem Bi{ops:List Oper}{o:Oper}{T T':Nat->AV}(h:∀t∈kO ops o,T t=T' t):kW ops o T=kW ops o T':=by
 unfold kW;split
 ·rfl
 ·rename_i j want hg;split
  ·rfl
  ·rename_i d hd;rw[h d (by simp only[kO,hg,NV];right;simp[hd])]
def v8(C:Cfg)(ops:List Oper)(o:Oper)(s:AS)(v:AV)(u:List (Nat×SObj))(f:ic):Prop:=
 (kW ops o s.T=some true/\∃e,aQ C o s.T s.B=some e/\e.asks/\eD C o s.T s.B=none/\v=e.val/\u=e.upd/\f=(bq C o s.T s.B,e.upd.map (·.1)))∨
 (kW ops o s.T=some false/\v=.tup []/\u=[]/\f=([],[]))
theorem s9.eff{C:Cfg}{ops:List Oper}{o:Oper}{s s1:AS}{f:ic}(hs:s9 C ops o s s1 f) :
  ∃v u,v8 C ops o s v u f/\s1=⟨dY s.T o.dst v,updB s.B u⟩/\f.2=u.map (·.1):=by
 rcases hs with⟨h1,e,h2,h3,hp,rfl,rfl⟩|⟨h1,rfl,rfl⟩
 ·exact⟨e.val,e.upd,Or.inl ⟨h1,e,h2,h3,hp,rfl,rfl,rfl⟩,rfl,rfl⟩
 ·exact⟨.tup [],[],Or.inr ⟨h1,rfl,rfl,rfl⟩,rfl,rfl⟩
theorem v8.step{C:Cfg}{ops:List Oper}{o:Oper}{s:AS}{v:AV}{u:List (Nat×SObj)}{f:ic}(hs:v8 C ops o s v u f) :
  s9 C ops o s ⟨dY s.T o.dst v,updB s.B u⟩ f:=by
 rcases hs with⟨h1,e,h2,h3,hp,rfl,rfl,rfl⟩|⟨h1,rfl,rfl,rfl⟩
 ·exact Or.inl ⟨h1,e,h2,h3,hp,rfl,rfl⟩
 ·exact Or.inr ⟨h1,rfl,rfl⟩
theorem v8.other{C:Cfg}{ops:List Oper}{o:Oper}{s s':AS}{v:AV}{u:List (Nat×SObj)}{f:ic}(hs:v8 C ops o s v u f)
 (hT:∀t∈kO ops o,s.T t=s'.T t)(hB:∀id∈f.1,s.B id=s'.B id):v8 C ops o s' v u f:=by
 have hg:=Bi hT;rcases hs with⟨h1,e,h2,h3,hp,rfl,rfl,rfl⟩|⟨h1,rfl,rfl,rfl⟩
 ·obtain⟨l1,l2,l3⟩:=Ed C o s.T s'.T s.B s'.B (Ee fun t ht=>hT t (by simp[kO,ht])) hB h2;exact Or.inl ⟨by rw[<-hg,h1],e,l2,h3,by rw[<-l3,hp],rfl,rfl,by rw[l1]⟩
 ·exact Or.inr ⟨by rw[<-hg,h1],rfl,rfl,rfl⟩
theorem gf:∀(u:List (Nat×SObj))(B:Nat->Option SObj)(j:Nat),j∉u.map (·.1)->updB B u j=B j
 |[],B,j,_=>rfl
 |(i,o)::r,B,j,h=>by simp at h;simp only[updB];rw[gf r _ j (by simpa using h.2)];have:¬i=j:=fun e=>h.1 e.symm;simp[this]
theorem nN:∀(u:List (Nat×SObj))(B B':Nat->Option SObj)(j:Nat),B j=B' j->updB B u j=updB B' u j
 |[],B,B',j,h=>h
 |(i,o)::r,B,B',j,h=>by simp only[updB];exact nN r _ _ j (by show(if i=j then _ else _)=(if i=j then _ else _);rw[h])
theorem Ef(u v:List (Nat×SObj))(B:Nat->Option SObj)(h:∀x∈u.map (·.1),x∉v.map (·.1)):updB (updB B u) v=updB (updB B v) u:=by
 funext j;by_cases hu:j∈u.map (·.1)
 ·rw[gf v _ j (h j hu)];exact nN u _ _ j (gf v B j (h j hu)).symm
 ·rw[gf u _ j hu];exact nN v _ _ j (gf u B j hu)
theorem Eg{T:Nat->AV}{d d':Option Nat}{x y:AV}(h:∀i,d=some i->d'≠some i):dY (dY T d x) d' y=dY (dY T d' y) d x:=by
 cases d with
 |none=>rfl
 |some i=>
  cases d' with
  |none=>rfl
  |some j=>
   have hij:¬i=j:=fun e=>h i rfl (by rw[e]);funext k;simp only[dY];by_cases h1:i=k
   ·subst h1;have:¬j=i:=fun e=>hij e.symm;simp[this]
   ·simp[h1]
theorem Dl{T:Nat->AV}{d:Option Nat}{v:AV}{t:Nat}(h:d≠some t):dY T d v t=T t:=by
 cases d with|none=>rfl|some d=>simp only[dY];rw[N3 (fun e=>h (by rw[e]))]
theorem iU{a b:List Nat}(h:DX a b=true):∀x∈a,x∉b:=by intro x hx;have:=Ng.1 h x hx;simpa using this
theorem s9.swap{C:Cfg}{ops:List Oper}{x y:Oper}{s s1 s2:AS}{f g:ic}(hy:s9 C ops y s s1 g)(hx:s9 C ops x s1 s2 f)
 (ha:w8 ops y x=true)(hf:w9 g f=true):∃s1',s9 C ops x s s1' f/\s9 C ops y s1' s2 g:=by
 simp only[w8,N4]at ha;obtain⟨ha1,ha2⟩:=ha;simp only[w9,N4]at hf;have hf1:=iU hf.1;have hf2:=iU hf.2;have yd:∀t,y.dst=some t->t∉kO ops x/\x.dst≠some t:=by intro t ht;rw[ht]at ha1;simp at ha1;exact ha1
 have xd:∀t,x.dst=some t->t∉kO ops y:=by intro t ht;rw[ht]at ha2;simpa using ha2
 obtain⟨vy,uy,hy0,e1,ey⟩:=hy.eff;subst e1;obtain⟨vx,ux,hx0,e2,ex⟩:=hx.eff;subst e2
 have hx1:=hx0.other (s':=s)
  (fun t ht=>Dl (fun e=>(yd t e).1 ht))
  (fun id hid=>gf uy _ id (fun hm=>hf1 id (by rw[ey];exact hm) (by simp[hid])))
 have hy1:=hy0.other (s':=⟨dY s.T x.dst vx,updB s.B ux⟩)
  (fun t ht=>(Dl (fun e=>xd t e ht)).symm)
  (fun id hid=>(gf ux _ id (fun hm=>hf2 id (by rw[ex];exact hm) hid)).symm)
 refine⟨_,hx1.step,?_⟩;have h2:=hy1.step;have hgoal:(⟨dY (dY s.T y.dst vy) x.dst vx,updB (updB s.B uy) ux⟩:AS)=⟨dY (dY s.T x.dst vx) y.dst vy,updB (updB s.B ux) uy⟩:=by rw[Eg (fun i hi=>(yd i hi).2),Ef uy ux _ (fun i hi hi'=>hf1 i (by rw[ey];exact hi) (by simp[ex,hi']))]
 rw[hgoal];exact h2
def yo(C:Cfg)(ops:List Oper)(fs:Nat->ic):List Nat->AS->AS->Prop
 |[],s,s'=>s=s'
 |i::r,s,s'=>∃o s1,ops[i]?=some o/\s9 C ops o s s1 (fs i)/\yo C ops fs r s1 s'
def H7(ops:List Oper)(fs:Nat->ic)(j i:Nat):Prop:=
 ∀x y,ops[j]?=some x->ops[i]?=some y->w8 ops x y=true/\w9 (fs j) (fs i)=true
theorem yo.front{C:Cfg}{ops:List Oper}{fs:Nat->ic}:∀(r1:List Nat)(i:Nat)(r2:List Nat)(s sN:AS),
  yo C ops fs (r1++i::r2) s sN->(∀j∈r1,H7 ops fs j i)->yo C ops fs (i::(r1++r2)) s sN
 |[],i,r2,s,sN,h,_=>h
 |j::r1,i,r2,s,sN,h,ha=>by obtain⟨o,s1,ho,hs,hr⟩:=h;obtain⟨o',s2,ho',hs',hr'⟩:=yo.front r1 i r2 s1 sN hr (fun j hj=>ha j (by simp[hj]));obtain⟨a1,a2⟩:=ha j (by simp) o o' ho ho';obtain⟨s1',k1,k2⟩:=hs.swap hs' a1 a2;exact⟨o',s1',ho',k1,o,s2,ho,k2,hr'⟩
theorem qD(C:Cfg)(ops:List Oper):∀(l:List Oper)(i:Nat)(s sN:AS)(fl:List ic)(fs:Nat->ic),ops.drop i=l->Bf C ops l s fl sN->
  (∀k,fs (i+k)=fl.getD k ([],[]))->yo C ops fs (List.range' i l.length) s sN
 |[],i,s,sN,fl,fs,_,h,_=>h.1
 |o::r,i,s,sN,fl,fs,hl,h,hf=>by
  obtain⟨s1,f,fs',hs,hr,rfl⟩:=h
  have hi:ops[i]?=some o:=by
   have:(ops.drop i)[0]?=some o:=by rw[hl];rfl
   rw[O6]at this;simpa using this
  have hl':ops.drop (i+1)=r:=by rw[<-List.tail_drop,hl];rfl
  refine⟨o,s1,hi,?_,qD C ops r (i+1) s1 sN fs' fs hl' hr (fun k=>?_)⟩
  ·have:=hf 0;simp at this;rw[this];exact hs
  ·have:=hf (k+1);simp at this;rw[Nb,<-this];congr 1;omega
end Go.AL
end
section
namespace Go.AL
variable [Tabs]
def gU(acc:List (List Nat))(o:Oper):List Nat:=(o.after.toList.filter (Region.binds .any)).flatMap fun e=>e.on::acc.getD e.on []
def dC(ops:List Oper):List (List Nat):=ops.foldl (fun acc o=>acc++[gU acc o]) []
theorem Bj(ops:List Oper):dC ops=ops.foldl (fun acc o=>acc++[gU acc o]) []:=rfl
theorem Bl{l:List Edge}{acc:List Nat}{i:Nat}:∀{m:Nat},(l.foldl (fun m e=>m ||| 2 ^ e.on ||| acc.getD e.on 0) m).testBit i=true->
  m.testBit i=true∨∃e∈l,e.on=i∨(acc.getD e.on 0).testBit i=true:=by
 induction l with
 |nil=>intro m h;exact Or.inl h
 |cons e r ih=>
  intro m h;rcases ih h with h|⟨x,hx,h⟩
  ·simp only[Nat.testBit_or,NW,Nat.testBit_two_pow,N8]at h;rcases h with(h|h)|h
   ·exact Or.inl h
   ·exact Or.inr ⟨e,by simp,Or.inl h⟩
   ·exact Or.inr ⟨e,by simp,Or.inr h⟩
  ·exact Or.inr ⟨x,Nn _ hx,h⟩
theorem yp(ops:List Oper):(AX ops).length=(dC ops).length/\∀j i,((AX ops).getD j 0).testBit i=true->i∈(dC ops).getD j []:=by
 suffices h:∀(ops:List Oper)(a:List Nat)(b:List (List Nat)),a.length=b.length->(∀j i,(a.getD j 0).testBit i=true->i∈b.getD j [])->
   (ops.foldl (fun acc o=>acc++[rL acc o]) a).length=(ops.foldl (fun acc o=>acc++[gU acc o]) b).length/\
   ∀j i,((ops.foldl (fun acc o=>acc++[rL acc o]) a).getD j 0).testBit i=true->i∈(ops.foldl (fun acc o=>acc++[gU acc o]) b).getD j [] by
  exact h ops [] [] rfl (by simp)
 intro ops
 induction ops with
 |nil=>exact fun a b hl h=>⟨hl,h⟩
 |cons o r ih=>
  intro a b hl h;refine ih (a++[rL a o]) (b++[gU b o]) (by simp[hl]) fun j i hb=>?_;rcases Nat.lt_trichotomy j a.length with hj|hj|hj
  ·rw[Nb,Nq hj,<-Nb]at hb;rw[Nb,Nq (by omega),<-Nb];exact h j i hb
  ·subst hj;rw[Nb,Nr (Nf _),Qk]at hb;rw[hl,Nb,Nr (Nf _),Qk];simp only[OU,Ol]at hb⊢;unfold rL at hb;rcases Bl hb with hz|⟨e,he,hz⟩
   ·simp at hz
   ·unfold gU;rw[OF];refine⟨e,he,?_⟩;rcases hz with rfl|hz
    ·simp
    ·exact Nn _ (h _ _ hz)
  ·rw[Nb,Nd (by simp;omega)]at hb;simp at hb
theorem kX(l:List Oper)(o:Oper):dC (l++[o])=dC l++[gU (dC l) o]:=by simp only[Bj,List.foldl_append,PY,List.foldl_nil]
theorem qE:∀(r l:List Oper),∃t,dC (l++r)=dC l++t
 |[],l=>⟨[],by simp⟩
 |o::r,l=>by obtain⟨t,ht⟩:=qE r (l++[o]);refine⟨gU (dC l) o::t,?_⟩;rw[show l++o::r=(l++[o])++r from by simp,ht,kX];simp
theorem sd(l:List Oper):(dC l).length=l.length:=by
 induction h:l.length generalizing l with
 |zero=>rw[Ni h];rfl
 |succ n ih=>
  have hne:l≠[]:=fun e=>by rw[e]at h;simp at h
  have hs:=OV hne;rw[<-hs,kX];simp only[N5,Nc];rw[ih l.dropLast (by simp[h])]
theorem Bm{l:List Oper}{i:Nat}{o:Oper}(h:l[i]?=some o) :
  (dC l).getD i []=gU (dC (l.take i)) o/\∀m,m<i->(dC l).getD m []=(dC (l.take i)).getD m []:=by
 have hi:i<l.length:=by
  rcases Nv i l.length with k|k
  ·exact k
  ·rw[Nd k]at h;cases h
 have ho:l[i]=o:=by rw[N9 hi]at h;simpa using h
 have e:l=(l.take i++[o])++l.drop (i+1):=by rw[<-ho,Nl,List.singleton_append,<-P0 hi,List.take_append_drop]
 obtain⟨t,ht⟩:=qE (l.drop (i+1)) (l.take i++[o]);rw[<-e,kX]at ht;have hl:(dC (l.take i)).length=i:=by rw[sd];simp;omega
 refine⟨?_,fun m hm=>?_⟩
 ·rw[ht,Nb,Nl,Nr (by omega),hl];simp
 ·rw[ht,Nb,Nl,Nq (by omega),Nb]
theorem wB{l:List Oper}(he:∀(i:Nat)(o:Oper),l[i]?=some o->∀e∈o.after.toList,Region.binds .any e=true->e.on<i){L:Nat->Prop}
 (hd:∀(i:Nat)(o:Oper),l[i]?=some o->L i->∀e∈o.after.toList,Region.binds .any e=true->L e.on) :
  ∀(n i:Nat)(o:Oper),i<n->l[i]?=some o->(∀e∈o.after.toList,Region.binds .any e=true->L e.on)->∀k∈(dC l).getD i [],L k:=by
 intro n
 induction n with
 |zero=>intro i o hi;omega
 |succ n ih=>
  intro i o hi ho hp k hk;obtain⟨h1,h2⟩:=Bm ho;rw[h1]at hk;simp only[gU,OF,ON,Nw]at hk;obtain⟨e,⟨he1,he2⟩,hk⟩:=hk;have hlt:=he i o ho e he1 he2;rcases hk with rfl|hk
  ·exact hp e he1 he2
  ·rw[<-h2 e.on hlt]at hk
   have hlen:e.on<l.length:=by
    have:i<l.length:=by
     rcases Nv i l.length with k|k
     ·exact k
     ·rw[Nd k]at ho;cases ho
    omega
   have ho':l[e.on]?=some l[e.on]:=N9 hlen;exact ih e.on _ (by omega) ho' (hd e.on _ ho' (hp e he1 he2)) k hk
theorem uv{l:List Oper}{fl:List ic}(h:j7 l fl=true) :
  (∀(i:Nat)(o:Oper),l[i]?=some o->∀e∈o.after.toList,Region.binds .any e=true->e.on<i)/\
  ∀j i,i<j->j<l.length->i∈(dC l).getD j []∨H7 l (fun k=>fl.getD k ([],[])) i j:=by
 simp only[j7,N4,Ng]at h;obtain⟨h1,h2⟩:=h;refine⟨fun i o ho e he hb=>?_,fun j i hij hj=>?_⟩
 ·have hm:(o,i)∈l.zipIdx:=by rw[List.mem_zipIdx_iff_getElem?];exact ho
  have:=h2 (o,i) hm;simp only[Qh,NW,Np,PR]at this;obtain⟨k,hk,hke⟩:=Po.1 (Ps.1 he);have:=this k hk;rw[hke]at this;rcases this with h|h
  ·rw[hb]at h;cases h
  ·exact h
 ·have:=h1 j (Pu.2 hj) i (Pu.2 hij);simp only[NW]at this;rcases this with h|h
  ·left;exact(yp l).2 j i h
  ·right;intro x y hx hy;simp only[lM,hx,hy]at h;split at h
   ·rename_i x' y' f g e1 e2 e3 e4;simp at e1 e2;subst e1 e2;simp only[N4]at h;simp only[Nb,e3,e4,Ol];exact h
   ·simp at h
section
variable {P:Program} {C:Cfg} {ops:Array Oper} {Q:Exit->Act->World->Prop} {F:Fr}
theorem any_sound(hT:cq P C.tbl)(hS:dM P C.spec)(hdst:∀(o:Oper),o∈ops.toList->∀d,o.dst=some d->d<F.n)
 {fs:Nat->ic}{sN:AS}(he:∀(i:Nat)(o:Oper),ops.toList[i]?=some o->∀e∈o.after.toList,Region.binds .any e=true->e.on<i)
 (hi:∀j i,i<j->j<ops.size->i∈(dC ops.toList).getD j []∨H7 ops.toList fs i j)
 (hQ:∀a' Ω',Holds F sN a' Ω'->Q .normal a' Ω'.w) :
  ∀(fuel:Nat)(R:List Nat)(listed:Array Bool)(s:AS)(a:Act)(Ω:Om),R.length=fuel->listed.size=ops.size->
   (∀i,i<ops.size->(listed.getD i true=false↔i∈R))->R.Pairwise (·<·)->(∀i∈R,i<ops.size)->
   (∀(i:Nat)(o:Oper),ops.toList[i]?=some o->listed.getD i true=true->∀e∈o.after.toList,Region.binds .any e=true->listed.getD e.on true=true)->
   yo C ops.toList fs R s sN->Holds F s a Ω->wpAny P .any ops Q fuel listed a Ω.w:=by
 intro fuel
 have mem_ready:∀{listed:Array Bool} {i:Nat},i∈Region.ready .any ops listed↔
   i<ops.size/\listed.getD i true=false/\∃o,ops[i]?=some o/\∀e∈o.after.toList,Region.binds .any e=true->listed.getD e.on false=true:=by
  intro listed i;unfold Region.ready;simp only[ON,Pu,N4,Np];constructor
  ·rintro⟨h1,h2,h3⟩;refine⟨h1,h2,?_⟩
   cases ho:ops[i]? with
   |none=>rw[ho]at h3;simp at h3
   |some o=>
    rw[ho]at h3;refine⟨o,rfl,fun e hem hb=>?_⟩;simp only[OC,Ol,Qh,NW,Np]at h3;obtain⟨k,hk,hke⟩:=Po.1 (Ps.1 hem);have:=h3 k hk;rw[hke]at this;rcases this with h|h
    ·rw[hb]at h;cases h
    ·exact h
  ·rintro⟨h1,h2,o,ho,h3⟩;refine⟨h1,h2,?_⟩;rw[ho];simp only[OC,Ol,Qh,NW,Np];intro k hk
   cases hb:Region.binds .any o.after[k]with|false=>exact Or.inl rfl|true=>exact Or.inr (h3 _ (Ps.2 (Array.getElem_mem hk)) hb)
 have two:∀{listed:Array Bool} {i:Nat},listed.size=ops.size->i<ops.size->listed.getD i true=listed.getD i false:=by intro listed i hs hi';simp[Nz,hs,hi']
 have least:∀(R:List Nat)(listed:Array Bool),listed.size=ops.size->(∀i,i<ops.size->(listed.getD i true=false↔i∈R))->R.Pairwise (·<·)->(∀i∈R,i<ops.size)->
   Region.ready .any ops listed=[]->R=[]:=by
  intro R listed hs hl hp hlt hr
  cases R with
  |nil=>rfl
  |cons m R=>
   have hm:=hlt m (by simp)
   have:m∈Region.ready .any ops listed:=by
    refine mem_ready.2 ⟨hm,(hl m hm).2 (by simp),ops[m],P1 hm,fun e hem hb0=>?_⟩;have hon:=he m ops[m] (by rw[NH];exact P1 hm) e hem hb0;rw[<-two hs (by omega)]
    cases hb:listed.getD e.on true with
    |true=>rfl
    |false=>
     have hin:=(hl e.on (by omega)).1 hb;simp only[Nw]at hin;rcases hin with hin|hin
     ·omega
     ·have:=(Qa.1 hp).1 e.on hin;omega
   rw[hr]at this;cases this
 induction fuel with
 |zero=>
  intro R listed s a Ω hlen hs hl hp hlt hdc hrun h;have hR:=Ni hlen;subst hR;have hsn:s=sN:=hrun;subst hsn;refine⟨?_,hQ a Ω h⟩
  cases hr:Region.ready .any ops listed with
  |nil=>rfl
  |cons i r=>
   have:i∈Region.ready .any ops listed:=by rw[hr];simp
   obtain⟨h1,h2,_⟩:=mem_ready.1 this;have:=(hl i h1).1 h2;cases this
 |succ fuel ih=>
  intro R listed s a Ω hlen hs hl hp hlt hdc hrun h;refine⟨fun hr=>?_,fun i hir=>?_⟩
  ·have hR:=least R listed hs hl hp hlt hr;subst hR;have hsn:s=sN:=hrun;subst hsn;exact hQ a Ω h
  ·obtain⟨h1,h2,o,ho,h3⟩:=mem_ready.1 hir;have hiR:=(hl i h1).1 h2;obtain⟨r1,r2,hR⟩:=List.append_of_mem hiR;subst hR;have hpre:∀e∈o.after.toList,Region.binds .any e=true->listed.getD e.on true=true:=by intro e hem hb;have hon:=he i o (by rw[NH];exact ho) e hem hb;rw[two hs (by omega)];exact h3 e hem hb
   have hal:=wB (l:=ops.toList) he (L:=fun k=>listed.getD k true=true) hdc (i+1) i o (by omega) (by rw[NH];exact ho) hpre;have hp':=List.pairwise_append.1 hp
   have hfront:=yo.front r1 i r2 s sN hrun (fun j hj=>by
    have hji:j<i:=hp'.2.2 j hj i (by simp);rcases hi i j hji h1 with hk|hk
    ·have:=hal j hk;have hjf:=(hl j (by omega)).2 (by simp[hj]);rw[this]at hjf;cases hjf
    ·exact hk)
   obtain⟨o',s1,ho',hstep,hrest⟩:=hfront;have hoo:o'=o:=by rw[NH,ho]at ho';simpa using ho'.symm
   subst hoo;refine Bg hT hS ho (hdst o' (NQ ho')) h hstep (fun a' Ω' h'=>?_)
   have hnd:i∉r1/\i∉r2:=by
    refine⟨fun hm=>?_,fun hm=>?_⟩
    ·have:=hp'.2.2 i hm i (by simp);omega
    ·have:=(Qa.1 hp'.2.1).1 i hm;omega
   refine ih (r1++r2) (listed.setIfInBounds i true) s1 a' Ω' (by simp at hlen⊢;omega) (by simpa using hs) (fun k hk=>?_) ?_ (fun k hk=>hlt k (by simp at hk⊢;rcases hk with hk|hk<;>simp[hk])) (fun k ok hok hkl e hem hb=>?_) hrest h'
   ·by_cases hik:i=k
    ·subst hik;simp[Nz,hs,h1,hnd.1,hnd.2]
    ·have:(listed.setIfInBounds i true).getD k true=listed.getD k true:=by simp[Nz,hik]
     rw[this,hl k hk];simp;have:¬k=i:=fun e=>hik e.symm;simp[this]
   ·refine List.pairwise_append.2 ⟨hp'.1,(Qa.1 hp'.2.1).2,fun x hx y hy=>hp'.2.2 x hx y (by simp[hy])⟩
   ·have key:∀m,listed.getD m true=true->(listed.setIfInBounds i true).getD m true=true:=by
     intro m hm;by_cases him:i=m
     ·subst him;simp[Nz,hs,h1]
     ·have:(listed.setIfInBounds i true).getD m true=listed.getD m true:=by simp[Nz,him]
      rw[this,hm]
    by_cases hik:i=k
    ·subst hik;rw[NH,ho]at hok;simp at hok;subst hok;exact key _ (hpre e hem hb)
    ·have:(listed.setIfInBounds i true).getD k true=listed.getD k true:=by simp[Nz,hik]
     rw[this]at hkl;exact key _ (hdc k ok hok hkl e hem hb)
theorem wC(hm:P.follows .mixedOrders=true)(hT:cq P C.tbl)(hS:dM P C.spec){id:Nat}{draw:Bool}
 (hdst:∀(o:Oper),o∈ops.toList->∀d,o.dst=some d->d<F.n){kp:AV->St->Prop}{k:St->List ic->Prop}{s:St}{a:Act}{Ω:Om}
 (hrun:dv C ops.toList draw kp ops.toList 0 s [] k)(hind:draw=true->∀s fs,k s fs->j7 ops.toList fs=true)(h:Holds F s.abs a Ω)
 (hQ:∀s fs a' Ω',k s fs->Holds F s.abs a' Ω'->Q .normal a' Ω'.w)(hP:∀pv s a' Ω' v,kp pv s->Holds F s.abs a' Ω'->V Ω' pv v->Q (.panic [{v,recovered:=false}]) a' Ω'.w) :
  (Code.region id ops draw).wp P Q a Ω.w:=by
 cases draw with
 |false=>refine wp_region ?_;have:=mQ (Q:=Q) hT hS hdst hQ hP ops.toList 0 s [] a Ω rfl hrun h;rw[List.range_eq_range'];simpa using this
 |true=>
  obtain⟨s',fl,hr0,hk⟩:=nM C ops.toList kp k ops.toList 0 s [] hrun;simp only[List.reverse_nil,Nk]at hk;obtain⟨h1,h2⟩:=uv (hind rfl s' fl hk);refine wp_region_any hm ?_;have hr:=qD C ops.toList ops.toList 0 s.abs s'.abs fl (fun k=>fl.getD k ([],[])) rfl hr0 (fun k=>by simp)
  have:=any_sound (Q:=Q) hT hS hdst (fs:=fun k=>fl.getD k ([],[])) h1 (fun j i hij hj=>h2 j i hij (by simpa using hj)) (fun a' Ω' h'=>hQ s' fl a' Ω' hk h') ops.size (List.range' 0 ops.toList.length)
   (Array.replicate ops.size false) s.abs a ⟨Ω.e,Ω.w.drew,Ω.pub⟩ (by simp) (by simp) (fun i hi=>by simp[Nz,hi,List.mem_range'])
   (List.pairwise_lt_range') (fun i hi=>by simp[List.mem_range']at hi;omega)
   (fun i o ho hl=>by
    have hi:i<ops.size:=by
     rw[NH]at ho;rcases Nv i ops.size with k|k
     ·exact k
     ·rw[Array.getElem?_eq_none k]at ho;cases ho
    simp[Nz,hi]at hl) hr h.drew
  exact this
end
end Go.AL
end
