/- The layer: Go code as conditions, and that they are sound. No condition. -/
import Derived.Test.YtpiedfeneggkmaaGreatDoorT01
import Derived.Laws.BytesString
import Derived.Laws.IdiomCopy
import Derived.Lib.ConvBytes
import Derived.Lib.FrozenHead
import Derived.Lib.TrimByte
import Derived.MapKept
set_option linter.all false
set_option maxRecDepth 100000
noncomputable section
namespace Go.AL
variable [Tabs]
section
variable {P:Program} {C:Cfg} {o:Oper}
theorem iR(w:World)(g:Nat)(cs:Array Value):(w.setRow g cs).os=w.os/\(w.setRow g cs).tape=w.tape/\(w.setRow g cs).output=w.output/\(w.setRow g cs).heap.size=w.heap.size:=by simp[World.setRow]
theorem ga(b:Nat):∀(vs:List Value)(o:Nat)(w:World),(w.setCells b o vs).os=w.os/\(w.setCells b o vs).tape=w.tape/\(w.setCells b o vs).output=w.output/\
  (w.setCells b o vs).heap.size=w.heap.size/\(∀i,i≠b->(w.setCells b o vs).heap[i]?=w.heap[i]?)/\∀i,(w.setCells b o vs).shape? i=w.shape? i
 |[],_,_=>⟨rfl,rfl,rfl,rfl,fun _ _=>rfl,fun _=>rfl⟩
 |v::r,o,w=>by
  obtain⟨h1,h2,h3,h4,h5,h6⟩:=ga b r (o+1) (w.setCell ⟨b,o,none⟩ v);refine⟨h1,h2,h3,h4.trans (by simp[World.setCell]),fun i hi=>(h5 i hi).trans ?_,fun i=>(h6 i).trans ?_⟩
  ·simp only[World.setCell];rw[xe,w5 (fun e=>hi e.symm)]
  ·simp only[World.setCell,World.shape?];rw[xe];by_cases e:b=i
   ·subst e;rw[wh rfl]
    cases hb:w.heap[b]? with
    |none=>rfl
    |some x=>cases x<;>simp
   ·rw[w5 e]
theorem iy{r:TR}{c v c':AV}{off:Nat}(h:mv r c off v=some c') :
  (a7 v).all fc=true/\(a7 v).length=r.size/\∃ds,splice (a7 c) off (a7 v)=some ds/\a7 c'=ds:=by
 unfold mv at h;split at h
 ·rename_i hl;simp only[vW]at hl;refine⟨hl.1,aV _ _ hl.2,?_⟩
  have bY:∀{off:Nat},(match splice (a7 c) off (a7 v)with|some cs=>some (AV.agg cs)|none=>none)=some c'->
    ∃ds,splice (a7 c) off (a7 v)=some ds/\a7 c'=ds:=by
   intro off h;split at h
   ·rename_i cs hcs;simp only[Xs]at h;subst h;exact⟨cs,hcs,rfl⟩
   ·cases h
  split at h
  ·split at h
   ·rename_i hcl;simp only[Xs]at h;subst h;refine⟨_,?_,rfl⟩;have e:(a7 c).length=(a7 v).length:=by rw[aV _ _ hcl,aV _ _ hl.2]
    have ov:∀(xs ys:List AV),xs.length=ys.length->fP xs ys=some ys:=by
     intro xs
     induction xs with
     |nil=>intro ys hy;cases ys with
      |nil=>rfl
      |cons _ _=>cases hy
     |cons x xs ih=>intro ys hy;cases ys with
      |nil=>cases hy
      |cons y ys=>simp[fP,ih ys (by simpa using hy)]
    have:=ov _ _ e;generalize a7 c=cs at *
    cases cs<;>simpa[splice]using this
   ·exact bY h
  ·exact bY h
 ·cases h
theorem aL.rd{E:Om}{own:Nat->Nat->Prop}{id:Nat}{c d:AV}(h:aL E own id (.box c))(r:RdL (a7 c) (a7 d)):aL E own id (.box d):=by
 obtain⟨b,off,e1,e2⟩:=h;refine⟨b,off,by rw[<-r.1];exact e1,fun j d' hd'=>?_⟩
 have hj:j<(a7 c).length:=by
  rw[r.1];rcases w4 j (a7 d).length with k|k
  ·exact k
  ·rw[vX k]at hd';cases hd'
 obtain⟨k1,k2,k3,v,k4,k5⟩:=e2 j _ (vV hj);exact⟨k1,k2,k3,v,k4,r.2 j _ d' (vV hj) hd' _ _ k5⟩
theorem RdL.append{as bs cs ds:List AV}(h:RdL as bs)(k:RdL cs ds):RdL (as++cs) (bs++ds):=by
 refine⟨by simp[h.1,k.1],fun j c d hc hd=>?_⟩;by_cases hj:j<as.length
 ·rw[w6 hj]at hc;rw[w6 (by rw[<-h.1];exact hj)]at hd;exact h.2 j c d hc hd
 ·rw[w8 (by omega)]at hc;rw[w8 (by rw[<-h.1];omega),<-h.1]at hd;exact k.2 _ c d hc hd
theorem nP:∀(xs ys zs ds:List AV),fP xs ys=some ds->fP (xs++zs) ys=some (ds++zs)
 |xs,[],zs,ds,h=>by simp[fP]at h;subst h;cases xs<;>simp[fP]
 |[],y::ys,zs,ds,h=>by simp[fP]at h
 |x::xs,y::ys,zs,ds,h=>by
  simp only[fP]at h;split at h
  ·rename_i l hl;simp at h;subst h;simp[fP,nP xs ys zs l hl]
  ·cases h
theorem ky:∀(xs:List AV)(n:Nat)(ys zs ds:List AV),splice xs n ys=some ds->splice (xs++zs) n ys=some (ds++zs)
 |xs,0,ys,zs,ds,h=>by
  have e:∀xs:List AV,splice xs 0 ys=fP xs ys:=by intro xs;cases xs<;>rfl
  rw[e]at h⊢;exact nP _ _ _ _ h
 |[],n+1,ys,zs,ds,h=>by simp[splice]at h
 |x::xs,n+1,ys,zs,ds,h=>by
  simp only[splice]at h;split at h
  ·rename_i l hl;simp at h;subst h;simp[splice,ky xs n ys zs l hl]
  ·cases h
theorem kz:∀(as xs bs ys ds:List AV)(n m:Nat),splice xs n ys=some ds->as.length=m->splice (as++xs++bs) (m+n) ys=some (as++ds++bs)
 |[],xs,bs,ys,ds,n,m,h,hm=>by simp at hm;subst hm;simpa using ky xs n ys bs ds h
 |a::as,xs,bs,ys,ds,n,m,h,hm=>by
  cases m with|zero=>simp at hm|succ m=>have:=kz as xs bs ys ds n m h (by simpa using hm);rw[show m+1+n=(m+n)+1 by omega];simp only[xb,splice,this]
theorem Holds.store{F:Fr}{s:AS}{a:Act}{E:Om}(h:Holds F s a E){id g bo len off:Nat}{c c':AV}{pv ds:List AV}{vs:List Value}{dst:Option Nat}
 (hcs:s.B id=some (.box c))(hxb:E.e id=some (.box g bo len))(hds:splice (a7 c) off pv=some ds)(hvl:VL E pv vs)(hlf:pv.all fc=true)
 (hrd:RdL ds (a7 c'))(hpos:0<pv.length)(hd:∀d,dst=some d->d<F.n) :
  (storeCells ⟨g,bo+off,none⟩ vs 0).run P E.w=.ok () (E.w.setCells g (bo+off) vs)/\
   Holds F ⟨aZ s.T dst .undef,b7 s.B [(id,.box c')]⟩ (a.put dst undef) ⟨E.e,E.w.setCells g (bo+off) vs,E.pub⟩:=by
 obtain⟨g',bo',e1,e2⟩:=h.slots id _ hcs;rw[hxb]at e1;simp only[Xs,CObj.box.injEq]at e1;obtain⟨rfl,rfl,rfl⟩:=e1;obtain⟨s1,s2⟩:=cH _ _ _ _ hds;have hyl:vs.length=pv.length:=hvl.1.symm;have hin:∀j,j<vs.length->off+j<(a7 c).length:=by intro j hj;rw[hyl]at hj;omega
 have hsome:∀j,j<vs.length->(E.w.cell? ⟨g,bo+off+j,none⟩).isSome=true:=by intro j hj;obtain⟨_,_,_,v,hv,_⟩:=e2 (off+j) _ (vV (hin j hj));rw[xn,hv];rfl
 have hfrz:∀j,j<vs.length->E.w.frozen? ⟨g,bo+off+j,none⟩=false:=by intro j hj;rw[xn];exact(e2 (off+j) _ (vV (hin j hj))).2.2.1
 have hst:=run_storeCells_cells (P:=P) g (bo+off) vs 0 E.w (by simpa using hsome) (by simpa using hfrz) (hvl.leaf_one hlf);simp only[xy]at hst;obtain⟨q1,q2,q3,q4,q5,q6⟩:=ga g vs (bo+off) E.w
 have hout:∀b o',(b=g->o'<bo+off∨bo+off+pv.length<=o')->(E.w.setCells g (bo+off) vs).cell? ⟨b,o',none⟩=E.w.cell? ⟨b,o',none⟩:=
  fun b o' hb=>World.cell?_setCells_out g _ _ _ _ (fun e _=>by rw[hyl];exact hb e)
 have hrange:∀b o',b=g->¬(o'<bo+off∨bo+off+pv.length<=o')->∃j c0,o'=bo+j/\(a7 c)[j]?=some c0:=by
  intro b o' _ hno;have hlt:o'-bo<(a7 c).length:=by omega
  exact⟨o'-bo,_,by omega,vV hlt⟩
 have hpubout:∀b o',E.pub b o'->(E.w.setCells g (bo+off) vs).cell? ⟨b,o',none⟩=E.w.cell? ⟨b,o',none⟩:=by
  intro b o' p;refine hout b o' (fun e=>?_);subst e;rcases Decidable.em (o'<bo+off∨bo+off+pv.length<=o')with k|k
  ·exact k
  ·obtain⟨j,c0,rfl,hj⟩:=hrange b o' rfl k;exact absurd p (e2 j c0 hj).2.1
 have hx':Ext E ⟨E.e,E.w.setCells g (bo+off) vs,E.pub⟩:=
  ⟨fun i c hc=>⟨c,hc,CLe.refl c⟩,fun _ _ p=>p,hpubout⟩
 have hplen:ds.length=(a7 c).length:=by rw[s2];simp;omega
 have hh:Holds F ⟨aZ s.T dst .undef,b7 s.B [(id,.box c')]⟩ (a.put dst undef) ⟨E.e,E.w.setCells g (bo+off) vs,E.pub⟩:=h.step hx' (.undef undef) hd
  (fun id' o' ho'=>by
   simp only[dV]at ho';by_cases hid:id=id'
   ·subst hid;simp at ho';subst ho';refine aL.rd (c:=.agg ds) ?_ hrd;refine⟨g,bo,by show _=some (CObj.box g bo ds.length);rw[hplen];exact hxb,fun j d hd'=>?_⟩;have hd':ds[j]?=some d:=hd'
    have hj:j<ds.length:=by
     rcases w4 j ds.length with k|k
     ·exact k
     ·rw[vX k]at hd';cases hd'
    have hj2:j<(a7 c).length:=by omega
    obtain⟨k1,k2,k3,v,k4,k5⟩:=e2 j _ (vV hj2);refine⟨k1,k2,(World.frozen?_setCells g _ _ _ _).trans k3,?_⟩;rw[s2]at hd';by_cases hlo:j<off
    ·refine⟨v,(hout g (bo+j) (fun _=>Or.inl (by omega))).trans k4,?_⟩;rw[wJ,w6 (by simp;omega),wv,wh hlo,vV hj2]at hd';simp only[Xs]at hd';subst hd';exact k5.ext hx'
    ·by_cases hhi:j<off+pv.length
     ·have hjl:j-off<vs.length:=by omega
      have hcell:=World.cell?_setCells_in g vs (bo+off) E.w hsome (j-off) hjl;rw[show bo+off+(j-off)=bo+j by omega]at hcell;refine⟨_,hcell,?_⟩;have htl:(List.take off (a7 c)).length=off:=by simp;omega
      rw[wJ,w8 (by omega),htl,w6 (by omega)]at hd';exact(hvl.2 (j-off) d _ hd' (vV hjl)).ext hx'
     ·refine⟨v,(hout g (bo+j) (fun _=>Or.inr (by omega))).trans k4,?_⟩;have htl:(List.take off (a7 c)++pv).length=off+pv.length:=by simp;omega
      rw[w8 (by omega),htl,wO,show off+pv.length+(j-(off+pv.length))=j by omega,vV hj2]at hd';simp only[Xs]at hd';subst hd';exact k5.ext hx'
   ·rw[w5 hid]at ho';refine(h.slots id' o' ho').keep hx' rfl (fun c0 hc0=>?_)
    cases c0 with
    |box b2 o2 l2=>
     intro oo h1 h2;refine⟨hout b2 oo (fun e=>?_),World.frozen?_setCells g _ _ _ _,fun p=>p⟩;subst e;rcases Decidable.em (oo<bo+off∨bo+off+pv.length<=oo)with k|k
     ·exact k
     ·exact absurd (h.inj id id' _ _ b2 oo hxb hc0 ⟨rfl,by omega,by omega⟩ ⟨rfl,h1,h2⟩) hid
    |tail n base cap=>intro b2 hb2;refine⟨q5 b2 (fun e=>?_),fun _ p=>p⟩;subst e;exact hid (h.inj id id' _ _ b2 bo hxb hc0 ⟨rfl,wj _,by omega⟩ hb2)
    |obj r=>refine q5 r (fun e=>?_);subst e;exact hid (h.inj id id' _ _ r bo hxb hc0 ⟨rfl,wj _,by omega⟩ rfl)
    |bld b2 g=>
     intro b3 hb3;refine⟨q5 b3 (fun e=>?_),fun _ p=>p⟩;subst e;exact hid (h.inj id id' _ _ b3 bo hxb hc0 ⟨rfl,wj _,by omega⟩ hb3))
  (fun id' hid'=>by
   simp only[dV]at hid';by_cases hid:id=id'
   ·simp[hid]at hid'
   ·rw[w5 hid]at hid';exact h.dom id' hid')
  h.inj
  (fun b o' p=>by
   obtain⟨v,hv⟩:=h.pubok b o' p;exact⟨v,by rw[hx'.cell b o' p,hv]⟩)
  ⟨q1.trans h.frame.os,q2.trans h.frame.tape,q3.trans h.frame.output,by rw[q4];exact h.frame.size,
   fun b hb hnb=>(q5 b (fun e=>by
    subst e;have:=(e2 off _ (vV (by omega))).1;rcases this with k|k
    ·omega
    ·exact hnb _ k)).trans (h.frame.block b hb hnb),
   fun b o' hb hnb=>(hout b o' (fun e=>by
    subst e;rcases Decidable.em (o'<bo+off∨bo+off+pv.length<=o')with k|k
    ·exact k
    ·obtain⟨j,c0,rfl,hj⟩:=hrange b o' rfl k;rcases(e2 j c0 hj).1 with k2|k2
     ·omega
     ·exact absurd k2 hnb)).trans (h.frame.cell b o' hb hnb),
   fun b hb hnb=>⟨(q6 b).trans (h.frame.kind b hb hnb).1,fun o'=>(World.frozen?_setCells g _ _ _ _).trans ((h.frame.kind b hb hnb).2 o')⟩,
   h.frame.pub,h.frame.old,fun b o hp=>(hx'.cell b o (h.frame.old b o hp)).trans (h.frame.pcell b o hp)⟩
 exact⟨hst,hh⟩
theorem r6(hT:aG P C.tbl){t:Nat}{x y:Operand}(hop:o.op=.store t x y){r:TR}(hr:ak C.tbl t=some r){id i w off:Nat}{F:Fr}{s:AS}{a:Act}{E:Om}{eff:Eff}
 {next:Act->World->Prop}{Q:Exit->Act->World->Prop}(hopd:opd s.T x=.aptr id i w off){I:Ty}{xs:List (den I)}(hcs:s.B id=some (.box (.row I xs)))
 (h:Holds F s a E)(hpos:0<r.size)(hd:∀d,o.dst=some d->d<F.n)(he:kd r id I xs i w off (opd s.T y)=some eff)(ho:eff.asks)
 (hn:∀a' E',Holds F (s.put o.dst eff) a' E'->next a' E'.w):o.wp P a E.w next Q:=by
 have hx:=aK h x;have hy:=aK h y;rw[hopd]at hx;obtain⟨g,bo,len,hxv,hxb⟩:=hx.aptr_inv;unfold kd at he;split at he
 ·rename_i hw;subst hw;split at he
  ·rename_i c2 hst;split at he
   ·rename_i x' hx';simp only[Xs]at he;subst he;have hi:i<xs.length:=ho;obtain⟨hlf,hlen,ds,hds,hpc⟩:=iy hst;have hyp:=hy.parts hlf;have hyl':(a.eval y).cells.size=r.size:=by have:=hyp.1;rw[hlen]at this;simpa using this.symm
    rw[gz]at hds;have hsplit:∀z:den I,aH I (xs.set i z)=aH I (xs.take i)++cells I z++aH I (xs.drop (i+1)):=by intro z;rw[yg,wh hi,ct];simp[aH]
    have hself:aH I xs=aH I (xs.take i)++cells I (xs.getD i (dfl I))++aH I (xs.drop (i+1)):=by rw[<-hsplit];congr 1;simp[vZ,hi]
    have htl:(aH I (xs.take i)).length=i *a8 I:=by rw[aQ,List.length_take,Nat.min_eq_left (Nat.le_of_lt hi)]
    have hbig:splice (a7 (.row I xs)) (i *a8 I+off) (a7 (opd s.T y))=some (aH I (xs.take i)++ds++aH I (xs.drop (i+1))):=by show splice (aH I xs) _ _=_;rw[hself];exact kz _ _ _ _ _ _ _ hds htl
    have hrd:RdL (aH I (xs.take i)++ds++aH I (xs.drop (i+1))) (a7 (.row I (xs.set i x'))):=by show RdL _ (aH I (xs.set i x'));rw[hsplit];exact((RdL.refl _).append (by rw[<-hpc];exact mP I hx')).append (RdL.refl _)
    obtain⟨hst,hh⟩:=h.store (P:=P) (dst:=o.dst) (c':=.row I (xs.set i x')) hcs hxb hbig hyp hlf hrd (by omega) hd;refine fU (w':=E.w.setCells g (bo+(i *a8 I+off)) (a.eval y).cells.toList) ?_ (hn _ _ hh);simp only[execOp,hop,hxv,Instr.storeAt,Instr.sureAddr,storeVar,w7,wy,vY,(hT t r hr).tf.size,hyl'];simp only[ne_eq,yi,wA,hst,vY]
   ·simp at he
  ·simp at he
 ·simp at he
theorem Holds.tell{F:Fr}{s:AS}{a:Act}{E:Om}(h:Holds F s a E){k m b cap:Nat}{I:Ty}{x0 x:den I}{vs:List Value}{dst:Option Nat}
 (hB:s.B k=some (.tailp I m x0))(he:E.e k=some (.tail (m+1) (some b) cap))(hvl:VL E (cells I x) vs)(hd:∀d,dst=some d->d<F.n) :
  ∃E',(storeCells ⟨b,m *a8 I,none⟩ vs 0).run P E.w=.ok () E'.w/\Holds F ⟨aZ s.T dst .undef,b7 s.B [(k,.tailp I m x)]⟩ (a.put dst undef) E':=by
 obtain⟨b',cap',e1,e2,e3,hown,⟨cur,ty,fz,hg,hfz,hfit⟩,hpub,_⟩:=h.slots k _ hB;rw[he]at e1;simp only[Xs,CObj.tail.injEq,xz]at e1;obtain⟨rfl,rfl⟩:=e1;have hvn:vs.length=a8 I:=by rw[<-hvl.1,aA]
 have hmul:(m+1) *a8 I<=cap *a8 I:=wM _ e2;rw[wD,yb]at hmul;have hst:=yG P b (m *a8 I) ty fz vs 0 cur E.w hg (by omega) (by simp;omega) (hvl.leaf_one (ki I x));simp only[xy]at hst;have hg':=setRow_heap E.w b cur (cur.toList.take (m *a8 I)++vs++cur.toList.drop (m *a8 I+vs.length)).toArray ty fz hg;have hsz:(cur.toList.take (m *a8 I)++vs++cur.toList.drop (m *a8 I+vs.length)).toArray.size=cur.size:=by simp;omega
 obtain⟨q1,q2,q3,q4⟩:=iR E.w b (cur.toList.take (m *a8 I)++vs++cur.toList.drop (m *a8 I+vs.length)).toArray
 have hcellold:∀b' o,E.pub b' o->(E.w.setRow b (cur.toList.take (m *a8 I)++vs++cur.toList.drop (m *a8 I+vs.length)).toArray).cell? ⟨b',o,none⟩=E.w.cell? ⟨b',o,none⟩:=by
  intro b' o hp;by_cases hb:b'=b
  ·subst hb;rw[al hg',al hg]
   have hlt:o<m *a8 I:=by
    rcases w4 o (m *a8 I)with k|k
    ·exact k
    ·exact absurd hp (hpub o k)
   simp only[wU];rw[wJ,w6 (by simp;omega),wv,wh hlt,wg]
  ·exact ab (wT _ _ _ _ hb) o
 have hx:Ext E ⟨fun i=>if k=i then some (.tail (m+1) (some b) cap)else E.e i,
   E.w.setRow b (cur.toList.take (m *a8 I)++vs++cur.toList.drop (m *a8 I+vs.length)).toArray,E.pub⟩:=by
  refine⟨fun i c hc=>?_,fun _ _ p=>p,hcellold⟩;by_cases hi:k=i
  ·subst hi;rw[he]at hc;simp at hc;subst hc;exact⟨_,by simp,CLe.refl _⟩
  ·exact⟨c,by simp[hi,hc],CLe.refl c⟩
 refine⟨_,hst,h.slot hx ?_ (fun i c' hi hc=>iu.of_blocks fun b' o hb=>?_) (fun i c' b' o hi hc hb hb'=>hi (h.inj i k _ _ b' o hc he hb hb')) (fun b' o hp=>?_) ?_ (.undef _) hd⟩
 ·refine⟨b,cap,by simp,e2,e3,hown,⟨_,ty,fz,hg',hfz,by rw[hsz];exact hfit⟩,hpub,fun j c hc=>?_⟩
  have hj:j<vs.length:=by
   rw[<-hvl.1];rcases w4 j (cells I x).length with q|q
   ·exact q
   ·rw[vX q]at hc;cases hc
  refine⟨vs[j],?_,(hvl.2 j c _ hc (vV hj)).ext hx⟩;show World.cell? _ _=_;rw[al hg'];have htl:(List.take (m *a8 I) cur.toList).length=m *a8 I:=by simp;omega
  simp only[wU];rw[wJ,w8 (by omega),htl,ye,w6 hj,vV hj]
 ·have hbg:b'≠b:=fun e=>by subst e;exact hi (h.inj i k _ _ b' o hc he hb rfl)
  exact⟨wT _ _ _ _ hbg,fun o ho'=>ho'⟩
 ·obtain⟨v,hv⟩:=h.pubok b' o hp;exact⟨v,by rw[hcellold b' o hp,hv]⟩
 ·have hnotold:∀b',b'<F.w0.heap.size->(¬∀o,F.br b' o)->b'≠b:=by
   intro b' hb hnb e;subst e;refine hnb (fun o=>?_);rcases hown o with ho'|ho'
   ·omega
   ·exact ho'
  refine⟨q1.trans h.frame.os,q2.trans h.frame.tape,q3.trans h.frame.output,by rw[q4];exact h.frame.size,fun b' hb hnb=>?_,fun b' o hb hnb=>?_,fun b' hb=>?_,h.frame.pub,h.frame.old,fun b' o hp=>(hx.cell b' o (h.frame.old b' o hp)).trans (h.frame.pcell b' o hp)⟩
  ·exact(wT _ _ _ _ (hnotold b' hb (fun k=>hnb 0 (k 0)))).trans (h.frame.block b' hb hnb)
  ·exact(ab (wT _ _ _ _ (hnotold b' hb (fun k=>hnb (k o)))) o).trans (h.frame.cell b' o hb hnb)
  ·intro hnb;have hbg:=hnotold b' hb hnb;exact⟨(aJ (wT _ _ _ _ hbg)).trans (h.frame.kind b' hb hnb).1,fun o=>(az (wT _ _ _ _ hbg) o).trans ((h.frame.kind b' hb hnb).2 o)⟩
theorem sB(hT:aG P C.tbl){t:Nat}{x y:Operand}(hop:o.op=.store t x y):b4 P C o:=by
 intro F s a E eff next Q h hd he ho hn
 simp only[ah,hop]at he;have hx:=aK h x;have hy:=aK h y;split at he
 ·rename_i r hr;split at he
  ·rename_i hz;split at he
   ·rename_i id off hopd hpa;simp only[Xs]at he;subst he;rw[hopd]at hx;obtain⟨g,bo,len,hxv,hxb⟩:=hx.ptr_inv;have hp:=hy.parts (by rw[hpa];rfl);have hnil:(a.eval y).cells.toList=[]:=by have:=hp.1;rw[hpa]at this;exact List.length_eq_zero_iff.1 this.symm
    have hsz:(a.eval y).cells.size=r.size:=by rw[hz,<-xr,hnil];rfl
    refine fU (w':=E.w) ?_ (hn _ _ (h.pure (.undef _) hd));simp only[execOp,hop,hxv,Instr.storeAt,Instr.sureAddr,storeVar,w7,wy,vY,(hT t r hr).tf.size,hsz];simp only[ne_eq,yi,wA,hnil];rfl
   ·simp at he
  rename_i hsz0;have hpos:0<r.size:=by rw[hsz0];exact Nat.succ_pos _
  split at he
  ·rename_i id off hopd;rw[hopd]at hx;obtain⟨g,bo,len,hxv,hxb⟩:=hx.ptr_inv;split at he
   ·rename_i c hcs;split at he
    ·rename_i c' hst;simp only[Xs]at he;subst he;obtain⟨hlf,hlen,ds,hds,hpc⟩:=iy hst;have hyp:=hy.parts hlf;have hyl':(a.eval y).cells.size=r.size:=by have:=hyp.1;rw[hlen]at this;simpa using this.symm
     obtain⟨hst,hh⟩:=h.store (P:=P) (dst:=o.dst) hcs hxb hds hyp hlf (by rw[hpc];exact RdL.refl _) (by omega) hd;refine fU (w':=E.w.setCells g (bo+off) (a.eval y).cells.toList) ?_ (hn _ _ hh);simp only[execOp,hop,hxv,Instr.storeAt,Instr.sureAddr,storeVar,w7,wy,vY,(hT t r hr).tf.size,hyl'];simp only[ne_eq,yi,wA,hst,vY]
    ·simp at he
   ·simp at he
  ·rename_i id i w off hopd;split at he
   ·rename_i I xs hcs;exact r6 hT hop hr hopd hcs h hpos hd he ho hn
   ·simp at he
  ·rename_i I n k hopd;rw[hopd]at hx;split at he
   ·rename_i I' m x0 hB;split at he
    ·rename_i hτ;subst hτ;split at he
     ·rename_i v hv;split at he
      ·rename_i hck;simp only[Xs]at he;subst he;have hnm:n=m:=ho;subst hnm;simp only[vW,Nat.beq_eq]at hck;obtain⟨hlf,hln,hrw⟩:=hck;have hlen:=aV _ _ hln;have hyp:=hy.parts hlf;have hyl':(a.eval y).cells.size=r.size:=by have:=hyp.1;rw[hlen]at this;simpa using this.symm
       generalize hxe:a.eval x=xv at hx
       cases hx with
       |tptr _ _ _ p hp=>obtain⟨b',cap',e1,e2,_⟩:=h.slots k _ hB;obtain⟨m',base,cap2,r1,r2,r3⟩:=hp;rw[e1]at r1;simp only[Xs,CObj.tail.injEq]at r1;obtain⟨rfl,rfl,rfl⟩:=r1;obtain⟨b2,g1,rfl⟩:=r3 rfl;simp only[Xs]at g1;subst g1;obtain⟨E',hst,hh⟩:=h.tell (P:=P) (dst:=o.dst) hB e1 (hyp.rd (mP _ hv)) hd;refine fU (w':=E'.w) ?_ (hn _ _ hh);simp only[execOp,hop,hxe,Instr.storeAt,Instr.sureAddr,storeVar,w7,wy,vY,(hT t r hr).tf.size,hyl'];simp only[ne_eq,yi,wA,hst,vY]
      ·simp at he
     ·simp at he
    ·simp at he
   ·simp at he
  ·simp at he
 ·simp at he
theorem nQ(w:World)(t ty e:Nat)(i:TypeInfo)(ht:P.underlying t=some (.slice e))(hi:P.info? e=some i)
 (g sLen sCap bt:Nat)(cur:Array Value)(fz:Nat×Nat)(hg:w.heap[g]?=some (.cells cur bt fz))(hfz:fz.2<=sLen *i.size)
 (a:Addr)(m c:Nat)(news:List Value)(hl:news.length=m *i.size)(hnews:∀j u,news[j]?=some u->w.cell? (a.add j)=some u)(h1:∀u∈news,u.oneCell'=true)
 (hroom:sLen+m<=sCap)(hfit:sLen *i.size+news.length<=cur.size) :
  (Builtin.append_ #[t,t] ty #[.slice (some ⟨g,0,none⟩) sLen sCap,.slice (some a) m c]).run P w=
   .ok (.slice (some ⟨g,0,none⟩) (sLen+m) sCap) (w.setRow g (cur.toList.take (sLen *i.size)++news++cur.toList.drop (sLen *i.size+news.length)).toArray):=by
 have hf:=yA (P:=P) w i.size m a m c news hl hnews;have hst:=yG P g (sLen *i.size) bt fz news 0 cur w hg (by simpa using hfz) (by simpa using hfit) h1;simp only[xy]at hst;simp[Builtin.append_,wE ht,sizeOf,typeInfo,hi,Builtin.lenOf,hroom,hf,Addr.add_lit,hst]
theorem eM(w:World)(t ty e:Nat)(i:TypeInfo)(ht:P.underlying t=some (.slice e))(hi:P.info? e=some i)
 (x:Option Addr)(sLen sCap:Nat)(h:sLen<=sCap) :
  (Builtin.append_ #[t,t] ty #[.slice x sLen sCap,.slice none 0 0]).run P w=.ok (.slice x sLen sCap) w:=by
 cases x<;>simp[Builtin.append_,wE ht,sizeOf,typeInfo,hi,Builtin.lenOf,h,Builtin.firstCells,storeCells]
theorem gP(w:World)(t ty e:Nat)(i:TypeInfo)(ht:P.underlying t=some (.slice e))(hi:P.info? e=some i)(a:Addr)(c:Nat) :
  (Builtin.append_ #[t,t] ty #[.slice none 0 0,.slice (some a) 0 c]).run P w=.ok (.slice none 0 0) w:=by
 have hf:=yA (P:=P) w i.size 0 a 0 c [] (by simp) (fun j v h=>by simp at h);simp[Builtin.append_,wE ht,sizeOf,typeInfo,hi,Builtin.lenOf,hf]
theorem gB(b off j:Nat):(⟨b,off,none⟩:Addr).add j=⟨b,off+j,none⟩:=by unfold Addr.add;split<;>simp_all
theorem V.src{E:Om}{I:Ty}{ys:List (den I)}{o:Option Nat}{v:Value}(h:V E (.lst I ys o) v) :
  (v=.slice none 0 0/\ys=[])∨∃a c us,v=.slice (some a) ys.length c/\us.length=ys.length *a8 I/\VL E (aH I ys) us/\
   (∀j u,us[j]?=some u->E.w.cell? (a.add j)=some u)/\(∀u∈us,u.oneCell'=true):=by
 rcases h.lst_inv with⟨h1,hv,_⟩|⟨h1,_,a0,hv⟩|⟨b,off,cap,vals,hv,h1,h2,h3,h4,h5⟩
 ·exact Or.inl ⟨hv,h1⟩
 ·subst h1;exact Or.inr ⟨a0,0,[],hv,by simp,⟨rfl,fun j c v hc=>by simp[aH]at hc⟩,fun j u hj=>by simp at hj,fun u hu=>by simp at hu⟩
 ·obtain⟨us,u1,u2,u3⟩:=V.row_cells h4 h5;refine Or.inr ⟨⟨b,off,none⟩,cap,us,hv,u1,u2,fun j u hj=>?_,u2.leaf_one (qS I ys)⟩;rw[gB];exact u3 j u hj
theorem dt(w:World)(au old e:Nat)(h:au<=aS):au<=grownCap w au old e/\grownCap w au old e<=aS:=by have h1:=grownCap_ge w au old e;have h2:=grownCap_le_maxLen w au old e (by unfold aS at h;unfold maxLen;omega);unfold maxLen at h2;unfold aS;exact⟨h1,by omega⟩
theorem Holds.grow{F:Fr}{s:AS}{a:Act}{E:Om}{k au old e:Nat}{I:Ty}{zs:List (den I)}{rest:List Value}{us:List Value}{dst:Option Nat}
 (h:Holds F s a E)(hn:E.e k=none∨∃n base cap,E.e k=some (.tail n base cap)/\n<zs.length)(hz:zs.length=au)(hneed:au<=aS)
 (hu:VL E (aH I zs) us)(hrest:rest.length=(grownCap E.w au old e-au) *a8 I)(hd:∀d,dst=some d->d<F.n) :
  ∃E',E'.w=E.w.drew.alloc (.cells (us++rest).toArray e)/\
   Holds F ⟨aZ s.T dst (.lst I zs (some k)),b7 s.B [(k,.tail I zs.length)]⟩ (a.put dst (.slice (some ⟨E.w.heap.size,0,none⟩) au (grownCap E.w au old e))) E':=by
 subst hz;obtain⟨g1,g2⟩:=dt E.w zs.length old e hneed;have hul:us.length=zs.length *a8 I:=by rw[<-hu.1,aQ]
 have hx0:Ext E ⟨E.e,E.w.drew,E.pub⟩:=⟨fun _ c hc=>⟨c,hc,CLe.refl c⟩,fun _ _ p=>p,fun _ _ _=>rfl⟩;have h':=h.drew
 refine⟨_,rfl,h'.alloc (d:=k) (c:=.tail zs.length (some E.w.heap.size) (grownCap E.w zs.length old e)) (x:=.cells (us++rest).toArray e) (p:=fun o=>o<zs.length *a8 I) ?_ (fun b o hb=>by simpa[occ]using hb.symm)
  (fun hx=>?_) (fun o ho=>?_) (fun hx=>?_) hd⟩
 ·rcases hn with hn|⟨n,base,cap,hn,hlt⟩
  ·exact Or.inl hn
  ·exact Or.inr ⟨_,hn,by simp[CLe];omega⟩
 ·refine⟨some E.w.heap.size,grownCap E.w zs.length old e,by simp,g1,g2,by simp,fun b hb=>?_⟩;simp at hb;subst hb;refine⟨fun _=>Or.inl h.frame.size,_,e,(0,0),b6 _ _,rfl,?_,fun o ho hp=>?_⟩
  ·simp[hul,hrest,<-wD];rw[show zs.length+(grownCap E.w zs.length old e-zs.length)=grownCap E.w zs.length old e from by omega];exact wj _
  ·rcases hp with hp|⟨_,hp⟩
   ·have:=h.cell_lt hp;omega
   ·omega
 ·have hc:=al (b6 E.w.drew (.cells (us++rest).toArray e)) o;exact⟨us[o]'(by omega),hc.trans (by simp[yt,hul,ho])⟩
 ·refine kx (vs:=us) (b6 _ _) (by rw[<-hul];simp) ((hu.ext hx0).ext hx) g1 g2 (fun i hi=>Or.inr ⟨rfl,hi⟩) ?_;intro id hid;simp at hid;subst hid;exact⟨zs.length,some E.w.heap.size,_,by simp,wj _,fun _=>rfl⟩
theorem Holds.same{F:Fr}{s:AS}{a:Act}{E:Om}{k:Nat}{I:Ty}{xs:List (den I)}{n:Nat}{v:Value}{dst:Option Nat}
 (h:Holds F s a E)(hB:s.B k=some (.tail I n))(hn:xs.length=n)(hv:V E (.lst I xs (some k)) v)(hd:∀d,dst=some d->d<F.n) :
  Holds F ⟨aZ s.T dst (.lst I (xs++[]) (some k)),b7 s.B [(k,.tail I (xs++[]).length)]⟩ (a.put dst v) E:=by
 have e:b7 s.B [(k,.tail I (xs++[]).length)]=s.B:=by
  funext j;rw[dV];by_cases hj:k=j
  ·subst hj;simp[hB,hn]
  ·simp[hj]
 rw[e,xO];exact h.pure hv hd
theorem Holds.room{F:Fr}{s:AS}{a:Act}{E:Om}{k g cap ty:Nat}{I:Ty}{xs ys:List (den I)}{cur:Array Value}{olds news:List Value}{dst:Option Nat}
 (h:Holds F s a E)(he:E.e k=some (.tail xs.length (some g) cap))(hown:∀o,F.own g o){fz:Nat×Nat}(hg:E.w.heap[g]?=some (.cells cur ty fz))(hfz:fz.2=0)
 (hfit:cap *a8 I<=cur.size)(hpub:∀o,xs.length *a8 I<=o->¬E.pub g o)(hroom:xs.length+ys.length<=cap)(hcap:cap<=aS)
 (ho:VL E (aH I xs) olds)(hoc:∀j u,olds[j]?=some u->E.w.cell? ⟨g,j,none⟩=some u)(hnw:VL E (aH I ys) news)
 (hxp:∀i,i<xs.length *a8 I->E.pub g i)(hd:∀d,dst=some d->d<F.n) :
  ∃E',E'.w=E.w.setRow g (cur.toList.take (xs.length *a8 I)++news++cur.toList.drop (xs.length *a8 I+news.length)).toArray/\
   Holds F ⟨aZ s.T dst (.lst I (xs++ys) (some k)),b7 s.B [(k,.tail I (xs++ys).length)]⟩ (a.put dst (.slice (some ⟨g,0,none⟩) (xs.length+ys.length) cap)) E':=by
 have hol:olds.length=xs.length *a8 I:=by rw[<-ho.1,aQ]
 have hnl:news.length=ys.length *a8 I:=by rw[<-hnw.1,aQ]
 have hmul:(xs.length+ys.length) *a8 I<=cap *a8 I:=wM _ hroom;rw[wD]at hmul
 have htake:cur.toList.take (xs.length *a8 I)=olds:=by
  apply yj;intro j;rw[wv];split
  ·rename_i hj;obtain⟨u,hu⟩:∃u,olds[j]?=some u:=⟨_,vV (by omega)⟩;have:=hoc j u hu;rw[al hg]at this;rw[hu,wg,this]
  ·rename_i hj;rw[vX (by omega)]
 have hg':=setRow_heap E.w g cur (cur.toList.take (xs.length *a8 I)++news++cur.toList.drop (xs.length *a8 I+news.length)).toArray ty fz hg;have hsz:(cur.toList.take (xs.length *a8 I)++news++cur.toList.drop (xs.length *a8 I+news.length)).toArray.size=cur.size:=by simp;omega
 obtain⟨q1,q2,q3,q4⟩:=iR E.w g (cur.toList.take (xs.length *a8 I)++news++cur.toList.drop (xs.length *a8 I+news.length)).toArray
 have hcellold:∀b o,E.pub b o->(E.w.setRow g (cur.toList.take (xs.length *a8 I)++news++cur.toList.drop (xs.length *a8 I+news.length)).toArray).cell? ⟨b,o,none⟩=E.w.cell? ⟨b,o,none⟩:=by
  intro b o hp;by_cases hb:b=g
  ·subst hb;rw[al hg',al hg]
   have hlt:o<xs.length *a8 I:=by
    rcases w4 o (xs.length *a8 I)with k|k
    ·exact k
    ·exact absurd hp (hpub o k)
   simp only[wU];rw[wJ,w6 (by simp;omega),wv,wh hlt,wg]
  ·exact ab (wT _ _ _ _ hb) o
 have hx:Ext E ⟨fun i=>if k=i then some (.tail (xs.length+ys.length) (some g) cap)else E.e i,
   E.w.setRow g (cur.toList.take (xs.length *a8 I)++news++cur.toList.drop (xs.length *a8 I+news.length)).toArray,
   fun b o=>E.pub b o∨(b=g/\o<(xs.length+ys.length) *a8 I)⟩:=by
  refine⟨fun i c hc=>?_,fun _ _ p=>Or.inl p,hcellold⟩;by_cases hi:k=i
  ·subst hi;rw[he]at hc;simp at hc;subst hc;exact⟨_,by simp;rfl,by simp[CLe]⟩
  ·exact⟨c,by simp[hi,hc],CLe.refl c⟩
 have hzl:(xs++ys).length=xs.length+ys.length:=xL;refine⟨_,rfl,h.slot hx ?_ (fun i c' hi hc=>iu.of_blocks fun b o hb=>?_) (fun i c' b o hi hc hb hb'=>?_) (fun b o hp=>?_) ?_ ?_ hd⟩
 ·rw[hzl];refine⟨some g,cap,by simp,hroom,hcap,by simp,fun b hb=>?_⟩;simp at hb;subst hb;refine⟨hown,_,ty,fz,hg',hfz,by rw[hsz];exact hfit,fun o ho' hp=>?_⟩;rw[wD]at ho';rcases hp with hp|⟨_,hp⟩
  ·exact hpub o (by omega) hp
  ·rw[wD]at hp;omega
 ·have hbg:b≠g:=fun e=>by subst e;exact hi (h.inj i k _ _ b o hc he hb rfl)
  exact⟨wT _ _ _ _ hbg,fun o ho'=>ho'.resolve_right (fun e=>hbg e.1)⟩
 ·exact hi (h.inj i k _ _ b o hc he hb hb')
 ·rcases hp with hp|⟨rfl,hp⟩
  ·obtain⟨v,hv⟩:=h.pubok b o hp;exact⟨v,by rw[hcellold b o hp,hv]⟩
  ·rw[al hg'];rw[wD]at hp;exact⟨_,xc (by rw[hsz];omega)⟩
 ·have hnotold:∀b,b<F.w0.heap.size->(¬∀o,F.br b o)->b≠g:=by
   intro b hb hnb e;subst e;refine hnb (fun o=>?_);rcases hown o with ho'|ho'
   ·omega
   ·exact ho'
  refine⟨q1.trans h.frame.os,q2.trans h.frame.tape,q3.trans h.frame.output,by rw[q4];exact h.frame.size,fun b hb hnb=>?_,fun b o hb hnb=>?_,fun b hb=>?_,fun b o hp=>?_,fun b o hp=>Or.inl (h.frame.old b o hp),fun b o hp=>(hx.cell b o (h.frame.old b o hp)).trans (h.frame.pcell b o hp)⟩
  ·exact(wT _ _ _ _ (hnotold b hb (fun k=>hnb 0 (k 0)))).trans (h.frame.block b hb hnb)
  ·exact(ab (wT _ _ _ _ (hnotold b hb (fun k=>hnb (k o)))) o).trans (h.frame.cell b o hb hnb)
  ·intro hnb;have hbg:=hnotold b hb hnb;exact⟨(aJ (wT _ _ _ _ hbg)).trans (h.frame.kind b hb hnb).1,fun o=>(az (wT _ _ _ _ hbg) o).trans ((h.frame.kind b hb hnb).2 o)⟩
  ·rcases hp with hp|⟨rfl,_⟩
   ·exact h.frame.pub b o hp
   ·exact Or.inr (hown o)
 ·have:=kx (E:=⟨fun i=>if k=i then some (.tail (xs.length+ys.length) (some g) cap)else E.e i,
   E.w.setRow g (cur.toList.take (xs.length *a8 I)++news++cur.toList.drop (xs.length *a8 I+news.length)).toArray,
   fun b o=>E.pub b o∨(b=g/\o<(xs.length+ys.length) *a8 I)⟩) (I:=I) (xs:=xs++ys) (o:=some k) (cap:=cap) (vs:=olds++news) hg'
   (by
    rw[hzl,htake];rw[xK (by simp[hol,hnl,wD]),xM (by simp[hol,hnl,wD])])
   (by rw[ct];exact(ho.ext hx).append (hnw.ext hx)) (by rw[hzl];exact hroom) hcap
   (fun i hi=>by
    rw[hzl]at hi;exact Or.inr ⟨rfl,hi⟩)
   (by
    intro id hid;simp at hid;subst hid;exact⟨xs.length+ys.length,some g,cap,by simp,by rw[hzl];exact wj _,fun _=>by rw[hzl];rfl⟩)
  rw[hzl]at this;exact this
theorem ax{w w':World}{a:Act}{x y:Operand}{t t':Nat}{v:Value}(hop:o.op=.call {callee:=.builtin .append,args:=#[x,y],argTypes:=#[t,t']})
 (h:(Builtin.append_ #[t,t'] o.type #[a.eval x,a.eval y]).run P w=.ok v w'):(execOp a.eval o).run P w=.ok (.value v) w':=by
 simp[execOp,hop,resolve,invoke,builtin,h]
theorem V.mkP{E:Om}{I:Ty}{xs:List (den I)}{k g cap:Nat}(hv:V E (.lst I xs none) (.slice (some ⟨g,0,none⟩) xs.length cap))(hc:xs.length+1<=cap)
 (ht:di E (some k) (xs.length+1) (.slice (some ⟨g,0,none⟩) (xs.length+1) cap)):V E (.lstp I xs k) (.slice (some ⟨g,0,none⟩) (xs.length+1) cap):=by
 rcases hv.lst_inv with⟨_,hv,_⟩|⟨_,_,a0,hv⟩|⟨b,off,cap',vals,hv,h1,h2,h3,h4,h5⟩
 ·cases hv
 ·simp only[wS]at hv;omega
 ·simp only[wS,Xs,xE,xz,xh]at hv;obtain⟨⟨rfl,rfl⟩,rfl⟩:=hv;exact .lstp I xs k g 0 cap vals hc h2 ht h4 h5
theorem Holds.growP{F:Fr}{s:AS}{a:Act}{E:Om}{k au old e:Nat}{I:Ty}{xs:List (den I)}{z:den I}{rest us:List Value}{dst:Option Nat}
 (h:Holds F s a E)(hn:E.e k=none∨∃n base cap,E.e k=some (.tail n base cap)/\n<xs.length+1)(hz:au=xs.length+1)(hneed:au<=aS)
 (hu:VL E (aH I (xs++[z])) us)(hrest:rest.length=(grownCap E.w au old e-au) *a8 I)(hd:∀d,dst=some d->d<F.n) :
  ∃E',E'.w=E.w.drew.alloc (.cells (us++rest).toArray e)/\
   Holds F ⟨aZ s.T dst (.lstp I xs k),b7 s.B [(k,.tailp I xs.length z)]⟩ (a.put dst (.slice (some ⟨E.w.heap.size,0,none⟩) au (grownCap E.w au old e))) E':=by
 subst hz;obtain⟨g1,g2⟩:=dt E.w (xs.length+1) old e hneed;have hul:us.length=(xs.length+1) *a8 I:=by rw[<-hu.1,aQ];simp
 have hmul:(xs.length+1) *a8 I=xs.length *a8 I+a8 I:=by rw[wD,yb]
 have hx0:Ext E ⟨E.e,E.w.drew,E.pub⟩:=⟨fun _ c hc=>⟨c,hc,CLe.refl c⟩,fun _ _ p=>p,fun _ _ _=>rfl⟩;have h':=h.drew;have hflat:aH I (xs++[z])=aH I xs++cells I z:=by rw[ct];simp[aH]
 have hfl:(aH I xs).length=xs.length *a8 I:=aQ I xs
 have hua:VL E (aH I xs) (us.take (xs.length *a8 I)):=by
  have:=hu;rw[hflat]at this;refine⟨by simp;omega,fun j c v hc hv=>?_⟩
  have hj:j<(aH I xs).length:=by
   rcases w4 j (aH I xs).length with q|q
   ·exact q
   ·rw[vX q]at hc;cases hc
  refine this.2 j c v (by rw[w6 hj];exact hc) ?_;rw[wv]at hv;split at hv
  ·exact hv
  ·cases hv
 have hsize:xs.length *a8 I+a8 I<=(us++rest).toArray.size:=by simp;omega
 refine⟨_,rfl,h'.alloc (d:=k) (c:=.tail (xs.length+1) (some E.w.heap.size) (grownCap E.w (xs.length+1) old e)) (x:=.cells (us++rest).toArray e) (p:=fun o=>o<xs.length *a8 I) ?_ (fun b o hb=>by simpa[occ]using hb.symm)
  (fun hx=>?_) (fun o ho=>?_) (fun hx=>?_) hd⟩
 ·rcases hn with hn|⟨n,base,cap,hn,hlt⟩
  ·exact Or.inl hn
  ·exact Or.inr ⟨_,hn,by simp[CLe];omega⟩
 ·refine⟨E.w.heap.size,grownCap E.w (xs.length+1) old e,by simp,g1,g2,fun _=>Or.inl h.frame.size,⟨_,e,(0,0),b6 _ _,rfl,?_⟩,fun o ho hp=>?_,fun j c hc=>?_⟩
  ·simp[hul,hrest,<-wD];rw[show xs.length+1+(grownCap E.w (xs.length+1) old e-(xs.length+1))=grownCap E.w (xs.length+1) old e from by omega];exact wj _
  ·rcases hp with hp|⟨_,hp⟩
   ·have:=h.cell_lt hp;omega
   ·omega
  ·have hj:j<a8 I:=by
    rw[<-aA I z];rcases w4 j (cells I z).length with q|q
    ·exact q
    ·rw[vX q]at hc;cases hc
   have hjl:xs.length *a8 I+j<us.length:=by omega
   refine⟨us[xs.length *a8 I+j],?_,?_⟩
   ·have hcell:=al (b6 E.w.drew (.cells (us++rest).toArray e)) (xs.length *a8 I+j);exact hcell.trans (by simp[yt,hjl])
   ·refine((hu.2 (xs.length *a8 I+j) c _ ?_ (vV hjl)).ext hx0).ext hx;rw[hflat,w8 (by omega),hfl,ye];exact hc
 ·have hc:=al (b6 E.w.drew (.cells (us++rest).toArray e)) o;exact⟨us[o]'(by omega),hc.trans (by simp[yt,show o<us.length by omega])⟩
 ·have hv:=kx (I:=I) (xs:=xs) (o:=none) (cap:=grownCap E.w (xs.length+1) old e) (vs:=us.take (xs.length *a8 I)) (b6 E.w.drew (.cells (us++rest).toArray e)) (by
    rw[xK (by omega)]) ((hua.ext hx0).ext hx) (by omega) g2 (fun i hi=>Or.inr ⟨rfl,hi⟩) (fun id hid=>by cases hid)
  refine V.mkP hv g1 ?_;intro id hid;simp at hid;subst hid;exact⟨xs.length+1,some E.w.heap.size,_,by simp,wj _,fun _=>rfl⟩
theorem Holds.roomP{F:Fr}{s:AS}{a:Act}{E:Om}{k g cap ty:Nat}{I:Ty}{xs:List (den I)}{z:den I}{cur:Array Value}{olds news:List Value}{dst:Option Nat}
 (h:Holds F s a E)(he:E.e k=some (.tail xs.length (some g) cap))(hown:∀o,F.own g o){fz:Nat×Nat}(hg:E.w.heap[g]?=some (.cells cur ty fz))(hfz:fz.2=0)
 (hfit:cap *a8 I<=cur.size)(hpub:∀o,xs.length *a8 I<=o->¬E.pub g o)(hroom:xs.length+1<=cap)(hcap:cap<=aS)
 (ho:VL E (aH I xs) olds)(hoc:∀j u,olds[j]?=some u->E.w.cell? ⟨g,j,none⟩=some u)(hnw:VL E (cells I z) news)
 (hxp:∀i,i<xs.length *a8 I->E.pub g i)(hd:∀d,dst=some d->d<F.n) :
  ∃E',E'.w=E.w.setRow g (cur.toList.take (xs.length *a8 I)++news++cur.toList.drop (xs.length *a8 I+news.length)).toArray/\
   Holds F ⟨aZ s.T dst (.lstp I xs k),b7 s.B [(k,.tailp I xs.length z)]⟩ (a.put dst (.slice (some ⟨g,0,none⟩) (xs.length+1) cap)) E':=by
 have hol:olds.length=xs.length *a8 I:=by rw[<-ho.1,aQ]
 have hnl:news.length=a8 I:=by rw[<-hnw.1,aA]
 have hmul:(xs.length+1) *a8 I<=cap *a8 I:=wM _ hroom;rw[wD,yb]at hmul
 have htake:cur.toList.take (xs.length *a8 I)=olds:=by
  apply yj;intro j;rw[wv];split
  ·rename_i hj;obtain⟨u,hu⟩:∃u,olds[j]?=some u:=⟨_,vV (by omega)⟩;have:=hoc j u hu;rw[al hg]at this;rw[hu,wg,this]
  ·rename_i hj;rw[vX (by omega)]
 have hg':=setRow_heap E.w g cur (cur.toList.take (xs.length *a8 I)++news++cur.toList.drop (xs.length *a8 I+news.length)).toArray ty fz hg;have hsz:(cur.toList.take (xs.length *a8 I)++news++cur.toList.drop (xs.length *a8 I+news.length)).toArray.size=cur.size:=by simp;omega
 obtain⟨q1,q2,q3,q4⟩:=iR E.w g (cur.toList.take (xs.length *a8 I)++news++cur.toList.drop (xs.length *a8 I+news.length)).toArray
 have hcellold:∀b o,E.pub b o->(E.w.setRow g (cur.toList.take (xs.length *a8 I)++news++cur.toList.drop (xs.length *a8 I+news.length)).toArray).cell? ⟨b,o,none⟩=E.w.cell? ⟨b,o,none⟩:=by
  intro b o hp;by_cases hb:b=g
  ·subst hb;rw[al hg',al hg]
   have hlt:o<xs.length *a8 I:=by
    rcases w4 o (xs.length *a8 I)with k|k
    ·exact k
    ·exact absurd hp (hpub o k)
   simp only[wU];rw[wJ,w6 (by simp;omega),wv,wh hlt,wg]
  ·exact ab (wT _ _ _ _ hb) o
 have hx:Ext E ⟨fun i=>if k=i then some (.tail (xs.length+1) (some g) cap)else E.e i,
   E.w.setRow g (cur.toList.take (xs.length *a8 I)++news++cur.toList.drop (xs.length *a8 I+news.length)).toArray,E.pub⟩:=by
  refine⟨fun i c hc=>?_,fun _ _ p=>p,hcellold⟩;by_cases hi:k=i
  ·subst hi;rw[he]at hc;simp at hc;subst hc;exact⟨_,by simp;rfl,by simp[CLe]⟩
  ·exact⟨c,by simp[hi,hc],CLe.refl c⟩
 refine⟨_,rfl,h.slot hx ?_ (fun i c' hi hc=>iu.of_blocks fun b o hb=>?_) (fun i c' b o hi hc hb hb'=>hi (h.inj i k _ _ b o hc he hb hb')) (fun b o hp=>?_) ?_ ?_ hd⟩
 ·refine⟨g,cap,by simp,hroom,hcap,hown,⟨_,ty,fz,hg',hfz,by rw[hsz];exact hfit⟩,hpub,fun j c hc=>?_⟩
  have hj:j<news.length:=by
   rw[<-hnw.1];rcases w4 j (cells I z).length with q|q
   ·exact q
   ·rw[vX q]at hc;cases hc
  refine⟨news[j],?_,(hnw.2 j c _ hc (vV hj)).ext hx⟩;show World.cell? _ _=_;rw[al hg'];have htl:(List.take (xs.length *a8 I) cur.toList).length=xs.length *a8 I:=by simp;omega
  simp only[wU];rw[wJ,w8 (by omega),htl,ye,w6 hj,vV hj]
 ·have hbg:b≠g:=fun e=>by subst e;exact hi (h.inj i k _ _ b o hc he hb rfl)
  exact⟨wT _ _ _ _ hbg,fun o ho'=>ho'⟩
 ·obtain⟨v,hv⟩:=h.pubok b o hp;exact⟨v,by rw[hcellold b o hp,hv]⟩
 ·have hnotold:∀b,b<F.w0.heap.size->(¬∀o,F.br b o)->b≠g:=by
   intro b hb hnb e;subst e;refine hnb (fun o=>?_);rcases hown o with ho'|ho'
   ·omega
   ·exact ho'
  refine⟨q1.trans h.frame.os,q2.trans h.frame.tape,q3.trans h.frame.output,by rw[q4];exact h.frame.size,fun b hb hnb=>?_,fun b o hb hnb=>?_,fun b hb=>?_,h.frame.pub,h.frame.old,fun b o hp=>(hx.cell b o (h.frame.old b o hp)).trans (h.frame.pcell b o hp)⟩
  ·exact(wT _ _ _ _ (hnotold b hb (fun k=>hnb 0 (k 0)))).trans (h.frame.block b hb hnb)
  ·exact(ab (wT _ _ _ _ (hnotold b hb (fun k=>hnb (k o)))) o).trans (h.frame.cell b o hb hnb)
  ·intro hnb;have hbg:=hnotold b hb hnb;exact⟨(aJ (wT _ _ _ _ hbg)).trans (h.frame.kind b hb hnb).1,fun o=>(az (wT _ _ _ _ hbg) o).trans ((h.frame.kind b hb hnb).2 o)⟩
 ·have hv:=kx (E:=⟨fun i=>if k=i then some (.tail (xs.length+1) (some g) cap)else E.e i,
   E.w.setRow g (cur.toList.take (xs.length *a8 I)++news++cur.toList.drop (xs.length *a8 I+news.length)).toArray,E.pub⟩) (I:=I) (xs:=xs) (o:=none) (cap:=cap) (vs:=olds) hg'
   (by
    rw[htake,wJ];rw[xK (by omega),xM (by omega)])
   (ho.ext hx) (by omega) hcap hxp (fun id hid=>by cases hid)
  refine V.mkP hv hroom ?_;intro id hid;simp at hid;subst hid;exact⟨xs.length+1,some g,cap,by simp,wj _,fun _=>rfl⟩
theorem nR(hT:aG P C.tbl){x y:Operand}{t d:Nat}(hop:o.op=.call {callee:=.builtin .append,args:=#[x,y],argTypes:=#[t,t]})(hdst:o.dst=some d)
 {F:Fr}{s:AS}{a:Act}{E:Om}{eff:Eff}{next:Act->World->Prop}{Q:Exit->Act->World->Prop}(h:Holds F s a E)(hd:∀d,o.dst=some d->d<F.n)
 (he:jN C t d (opd s.T x) (opd s.T y) s.B=some eff)(ho:eff.asks)(hn:∀a' E',Holds F (s.put o.dst eff) a' E'->next a' E'.w):o.wp P a E.w next Q:=by
 have hx:=aK h x;have hy:=aK h y;unfold jN at he;split at he
 ·rename_i e sz by' z0 ty hr
  obtain⟨dd,hd1,hd2⟩:=an hT hr rfl;cases dd<;>simp[ar]at hd2;subst hd2;split at he
  ·rename_i re hre;obtain⟨i,zz,i1,i2,i3,i4,i5⟩:=(hT _ _ hre).info;have hzl:zz.cells.size=re.size:=by have p1:=(hT _ _ hre).zlen;rw[<-i5]at p1;simpa using p1
   split at he
   ·
    rename_i I xs k M ys o2 hxe hye;split at he
    ·rename_i z I' n hcast hB;split at he
     ·rename_i hτ;obtain⟨hτ1,hτ2⟩:=hτ;subst hτ1;obtain⟨hσI,hys⟩:=eL hcast;subst hσI;simp only at hys;subst hys;simp only[Xs]at he;subst he;obtain⟨hcount,hbytes⟩:=ho;subst hcount;rw[hxe]at hx;rw[hye]at hy;have hw:=((hT _ _ hre).ty _ hτ2).1;have hiw:i.size=a8 M:=by rw[i2,hw]
      have hpos:=eK M;have hby1:(xs.length+1) *i.bytes<=140737488355328:=by rw[i3];exact hbytes
      obtain⟨base,cap,q1,q2,q3,q4,q5⟩:=h.slots k _ hB
      have hxtok:∃v,a.eval x=v/\v=.slice (bX base) xs.length cap:=by
       refine⟨_,rfl,?_⟩
       have ht:di E (some k) xs.length (a.eval x):=by
        rcases hx.lst_inv with⟨h1,hv,ht⟩|⟨_,ho,_⟩|⟨b,off,cap,vals,hv,h1,h2,h3,h4,h5⟩
        ·rw[h1];exact ht
        ·cases ho
        ·exact h3
       obtain⟨m,base',cap',r1,r2,r3⟩:=ht k rfl;rw[q1]at r1;simp only[Xs,CObj.tail.injEq]at r1;obtain⟨rfl,rfl,rfl⟩:=r1;rw[r3 rfl]
      obtain⟨_,rfl,hxv⟩:=hxtok;have hmaxn:xs.length+1<=aS:=by have:(xs.length+1) *1<=(xs.length+1) *re.bytes:=xl _ ((hT _ _ hre).bps ‹_›);unfold aS;omega
      rcases hy.src with⟨_,hy0⟩|⟨ya,yc,us,hyv,hyl,hyvl,hyc,hy1⟩
      ·cases hy0
      ·simp only[yl,yb]at hyv hyl;have hyvl':VL E (cells M z) us:=by simpa[aH]using hyvl
       have hzc:∀n,(Builtin.zeroCells zz.cells n).toList.length=n *a8 M:=by intro n;simp[yk,hzl,hw]
       by_cases hroom:xs.length+1<=cap
       ·cases base with
        |none=>have hc0:=q4 rfl;omega
        |some g=>
         obtain⟨p1,cur,bt,fz,p2,pf,p3,p4⟩:=q5 g rfl
         obtain⟨olds,ho1,ho2,ho3,hxp⟩:∃olds:List Value,olds.length=xs.length *a8 M/\VL E (aH M xs) olds/\(∀j u,olds[j]?=some u->E.w.cell? ⟨g,j,none⟩=some u)/\∀i,i<xs.length *a8 M->E.pub g i:=by
          rcases hx.lst_inv with⟨h1,hv,_⟩|⟨_,ho,_⟩|⟨b,off,cap',vals,hv,h1,h2,h3,h4,h5⟩
          ·rw[hxv]at hv;simp[bX]at hv
          ·cases ho
          ·rw[hxv]at hv;simp only[bX,wS,Xs,xE,xz,xh]at hv;obtain⟨⟨rfl,rfl⟩,rfl⟩:=hv;obtain⟨us',u1,u2,u3⟩:=V.row_cells h4 h5;refine⟨us',u1,u2,fun j u hj=>by have:=u3 j u hj;simpa using this,fun i hi=>?_⟩;have hdiv:i/a8 M<xs.length:=yu (by rw[xX];exact hi);have hmod:i%a8 M<(cells M xs[i/a8 M]).length:=by rw[aA];exact Nat.mod_lt _ hpos
           have:=(h4 (i/a8 M) _ (vV hdiv) (i%a8 M) _ (vV hmod)).1;have e':0+(i/a8 M *a8 M+i%a8 M)=i:=by rw[xX];have:=Nat.div_add_mod i (a8 M);omega
           rw[e']at this;exact this
         obtain⟨E',hw',hh⟩:=h.roomP (dst:=o.dst) (z:=z) q1 p1 p2 pf p3 p4 hroom q3 ho2 ho3 hyvl' hxp hd;refine ai (ax hop (v:=.slice (some ⟨g,0,none⟩) (xs.length+1) cap) (w':=E'.w) ?_) (hn _ _ hh);rw[hyv,hxv,hw'];have hmul:(xs.length+1) *a8 M<=cap *a8 M:=wM _ hroom;rw[wD,yb]at hmul;have:=nQ (P:=P) E.w t o.type e i hd1 i1 g xs.length cap bt cur fz p2 (by omega) ya 1 yc us (by rw[hiw];omega) hyc hy1 hroom (by rw[hiw,hyl];omega);rw[hiw]at this;exact this
       ·cases base with
        |none=>
         have hc0:=q4 rfl;have hx0:xs=[]:=wi (by omega);subst hx0;subst hc0
         obtain⟨E',hw',hh⟩:=h.growP (k:=k) (au:=1) (old:=0) (e:=e) (xs:=[]) (z:=z) (us:=us) (rest:=(Builtin.zeroCells zz.cells (grownCap E.w 1 0 e-1)).toList) (dst:=o.dst)
          (Or.inr ⟨_,_,_,q1,by simp⟩) (by simp) (by simpa using hmaxn) (by simpa using hyvl) (by rw[hzc]) hd
         refine ai (ax hop (v:=.slice (some ⟨E.w.heap.size,0,none⟩) 1 (grownCap E.w 1 0 e)) (w':=E'.w) ?_) (hn _ _ hh);rw[hyv,hxv,hw'];have:=yH (P:=P) E.w t o.type e i zz hd1 i1 i4 ya 1 yc us (by rw[hiw];omega) hyc (by omega) (by unfold aS at hmaxn;simp at hmaxn;omega) (by simp at hby1;omega);have e':(us++(Builtin.zeroCells zz.cells (grownCap E.w 1 0 e-1)).toList).toArray=us.toArray++Builtin.zeroCells zz.cells (grownCap E.w 1 0 e-1):=by apply wQ;simp
         rw[e'];exact this
        |some g=>
         obtain⟨olds,ho1,ho2,ho3⟩:∃olds:List Value,olds.length=xs.length *a8 M/\VL E (aH M xs) olds/\(∀j u,olds[j]?=some u->E.w.cell? ((⟨g,0,none⟩:Addr).add j)=some u):=by
          rcases hx.lst_inv with⟨h1,hv,_⟩|⟨_,ho,_⟩|⟨b,off,cap',vals,hv,h1,h2,h3,h4,h5⟩
          ·rw[hxv]at hv;simp[bX]at hv
          ·cases ho
          ·rw[hxv]at hv;simp only[bX,wS,Xs,xE,xz,xh]at hv;obtain⟨⟨rfl,rfl⟩,rfl⟩:=hv;obtain⟨us',u1,u2,u3⟩:=V.row_cells h4 h5;exact⟨us',u1,u2,fun j u hj=>by rw[gB];exact u3 j u hj⟩
         obtain⟨E',hw',hh⟩:=h.growP (k:=k) (au:=xs.length+1) (old:=cap) (e:=e) (xs:=xs) (z:=z) (us:=olds++us) (rest:=(Builtin.zeroCells zz.cells (grownCap E.w (xs.length+1) cap e-(xs.length+1))).toList) (dst:=o.dst)
          (Or.inr ⟨_,_,_,q1,by simp⟩) rfl hmaxn (by rw[ct];exact ho2.append hyvl) (by rw[hzc]) hd
         refine ai (ax hop (v:=.slice (some ⟨E.w.heap.size,0,none⟩) (xs.length+1) (grownCap E.w (xs.length+1) cap e)) (w':=E'.w) ?_) (hn _ _ hh);rw[hyv,hxv,hw'];have:=run_append_grow (P:=P) E.w t o.type e i zz hd1 i1 i4 ⟨g,0,none⟩ xs.length cap olds (by rw[hiw];exact ho1) ho3 ya 1 yc us (by rw[hiw];omega) hyc (by omega) (by unfold aS at hmaxn;omega) (growslice_fits (by omega) hby1);have e':(olds++us++(Builtin.zeroCells zz.cells (grownCap E.w (xs.length+1) cap e-(xs.length+1))).toList).toArray=olds.toArray++us.toArray++Builtin.zeroCells zz.cells (grownCap E.w (xs.length+1) cap e-(xs.length+1)):=by apply wQ;simp
         rw[e'];exact this
     ·simp at he
    ·simp at he
   ·
    rename_i M z o2 hxe hye;split at he
    ·rename_i hB;split at he
     ·rename_i hτ2;simp only[Xs]at he;subst he;have hbytes:1 *re.bytes<=140737488355328:=ho;rw[hxe]at hx;rw[hye]at hy;have hw:=((hT _ _ hre).ty _ hτ2).1;have hiw:i.size=a8 M:=by rw[i2,hw]
      have hzc:∀n,(Builtin.zeroCells zz.cells n).toList.length=n *a8 M:=by intro n;simp[yk,hzl,hw]
      rcases hy.src with⟨_,hy0⟩|⟨ya,yc,us,hyv,hyl,hyvl,hyc,hy1⟩
      ·cases hy0
      ·simp only[yl,yb]at hyv hyl
       obtain⟨E',hw',hh⟩:=h.growP (k:=d) (au:=1) (old:=0) (e:=e) (xs:=[]) (z:=z) (us:=us) (rest:=(Builtin.zeroCells zz.cells (grownCap E.w 1 0 e-1)).toList) (dst:=o.dst)
        (Or.inl (h.dom d hB)) (by simp) (by unfold aS;omega) (by simpa using hyvl) (by rw[hzc]) hd
       refine ai (ax hop (v:=.slice (some ⟨E.w.heap.size,0,none⟩) 1 (grownCap E.w 1 0 e)) (w':=E'.w) ?_) (hn _ _ hh);rw[hyv,hx.nils_inv,hw'];have:=yH (P:=P) E.w t o.type e i zz hd1 i1 i4 ya 1 yc us (by rw[hiw];omega) hyc (by omega) (by omega) (by rw[i3];omega);have e':(us++(Builtin.zeroCells zz.cells (grownCap E.w 1 0 e-1)).toList).toArray=us.toArray++Builtin.zeroCells zz.cells (grownCap E.w 1 0 e-1):=by apply wQ;simp
       rw[e'];exact this
     ·simp at he
    ·simp at he
   ·simp at he
  ·simp at he
 ·simp at he
theorem ck(w:World)(size:Nat)(s:Str):(Builtin.firstCells size s.length (.string ⟨s.toArray⟩)).run P w=.ok (s.map fun b=>Value.int .u8 b.toNat).toArray w:=by
 have e:(⟨s.toArray⟩:ByteArray).extract 0 s.length=⟨s.toArray⟩:=by rw[Lib.extract_mk,xI,xY,List.take_length]
 simp[Builtin.firstCells,wy,e]
theorem mQ(w:World)(t u ty e:Nat)(i:TypeInfo)(ht:P.underlying t=some (.slice e))(hu:P.underlying u=some .string)(hi:P.info? e=some i)
 (g sLen sCap bt:Nat)(cur:Array Value)(fz:Nat×Nat)(hg:w.heap[g]?=some (.cells cur bt fz))(hfz:fz.2<=sLen *i.size)(s:Str)
 (hroom:sLen+s.length<=sCap)(hfit:sLen *i.size+s.length<=cur.size) :
  (Builtin.append_ #[t,u] ty #[.slice (some ⟨g,0,none⟩) sLen sCap,.string ⟨s.toArray⟩]).run P w=
   .ok (.slice (some ⟨g,0,none⟩) (sLen+s.length) sCap) (w.setRow g (cur.toList.take (sLen *i.size)++(s.map fun b=>Value.int .u8 b.toNat)++cur.toList.drop (sLen *i.size+s.length)).toArray):=by
 have hf:=ck (P:=P) w i.size s;have hst:=yG P g (sLen *i.size) bt fz (s.map fun b=>Value.int .u8 b.toNat) 0 cur w hg (by simpa using hfz) (by simpa using hfit) (fun u hu=>by simp at hu;obtain⟨b,_,rfl⟩:=hu;rfl);simp only[xy,xP]at hst;have hsz:(⟨s.toArray⟩:ByteArray).size=s.length:=by simp[ByteArray.size]
 simp[Builtin.append_,wE ht,wE hu,sizeOf,typeInfo,hi,Builtin.lenOf,hroom,hf,Addr.add_lit,hst,hsz]
theorem nS(w:World)(t u ty e:Nat)(i:TypeInfo)(ht:P.underlying t=some (.slice e))(hu:P.underlying u=some .string)(hi:P.info? e=some i) :
  (Builtin.append_ #[t,u] ty #[.slice none 0 0,.string ⟨([]:Str).toArray⟩]).run P w=.ok (.slice none 0 0) w:=by
 have hf:=ck (P:=P) w i.size [];simp only[xg,yR]at hf;have hsz:(⟨#[]⟩:ByteArray).size=0:=rfl;simp[Builtin.append_,wE ht,wE hu,sizeOf,typeInfo,hi,Builtin.lenOf,hsz,hf]
theorem mR(w:World)(t u ty e:Nat)(i:TypeInfo)(z:Value)(ht:P.underlying t=some (.slice e))(hu:P.underlying u=some .string)(hi:P.info? e=some i)(hz:i.zero=some z)
 (b:Option Addr)(sLen sCap:Nat)(olds:List Value)(hb:(b=none/\sLen=0/\olds=[])∨∃a,b=some a/\olds.length=sLen *i.size/\∀j v,olds[j]?=some v->w.cell? (a.add j)=some v)
 (s:Str)(hg:sCap<sLen+s.length)(h63:((sLen+s.length:Nat):Int)<=9223372036854775807)(hfit:Builtin.nextslicecap (sLen+s.length) sCap *i.bytes<=281474976710656) :
  (Builtin.append_ #[t,u] ty #[.slice b sLen sCap,.string ⟨s.toArray⟩]).run P w=
   .ok (.slice (some ⟨w.heap.size,0,none⟩) (sLen+s.length) (grownCap w (sLen+s.length) sCap e))
    (w.drew.alloc (.cells (olds.toArray++(s.map fun b=>Value.int .u8 b.toNat).toArray++Builtin.zeroCells z.cells (grownCap w (sLen+s.length) sCap e-(sLen+s.length))) e)):=by
 have hn:¬(sLen+s.length<=sCap):=by omega
 have h63':¬(9223372036854775807<((sLen:Int)+(s.length:Int))):=by omega
 have h48':¬(281474976710656<Builtin.nextslicecap (sLen+s.length) sCap *i.bytes):=by omega
 have hf:=ck (P:=P) w.drew i.size s;have hsz:(⟨s.toArray⟩:ByteArray).size=s.length:=by simp[ByteArray.size]
 have hfo:(Builtin.firstCells i.size sLen (.slice b sLen sCap)).run P w.drew=.ok olds.toArray w.drew:=by
  rcases hb with⟨rfl,rfl,rfl⟩|⟨a,rfl,h1,h2⟩
  ·exact run_firstCells_none w.drew i.size 0 0 sCap
  ·exact yA (P:=P) w.drew i.size sLen a sLen sCap olds h1 (by simpa using h2)
 simp[Builtin.append_,wE ht,wE hu,sizeOf,typeInfo,zeroValue,hi,hz,Builtin.lenOf,hn,h63',h48',Question.forced,hf,hfo,newRow,grownCap,hsz];congr 2;apply wQ;simp[wJ]
theorem qt(E:Om)(s:Str):VL E (aH (.int .u8) (bM s)) (s.map fun b=>Value.int .u8 b.toNat):=by
 have e:aH (.int .u8) (bM s)=s.map fun b=>AV.int .u8 (b.toNat:Int):=by unfold aH bM;rw[List.flatMap_map,yB];rfl
 refine⟨by rw[e];simp,fun j c v hc hv=>?_⟩;rw[e,wx,we]at hc;rw[wx,we]at hv;obtain⟨b,hb,rfl⟩:=hc;obtain⟨b',hb',rfl⟩:=hv;rw[hb]at hb';cases hb';have:=b.toNat_lt;exact .int .u8 _ (by show(0:Int)<=_;omega) (by show _<=(255:Int);omega)
theorem pg(hT:aG P C.tbl){x y:Operand}{t t':Nat}{s':Str}(hop:o.op=.call {callee:=.builtin .append,args:=#[x,y],argTypes:=#[t,t']})
 {F:Fr}{s:AS}{a:Act}{E:Om}{eff:Eff}{next:Act->World->Prop}{Q:Exit->Act->World->Prop}(h:Holds F s a E)(hd:∀d,o.dst=some d->d<F.n)(hye:opd s.T y=.str s')
 (he:jO C t t' (opd s.T x) s' s.B=some eff)(ho:eff.asks)(hn:∀a' E',Holds F (s.put o.dst eff) a' E'->next a' E'.w):o.wp P a E.w next Q:=by
 have hx:=aK h x;have hy:=aK h y;rw[hye]at hy;obtain⟨hyv,hyl⟩:=hy.str_inv;unfold jO at he;split at he
 ·rename_i e sz by' z0 ty sz1 by1 z1 ty1 hr hr'
  obtain⟨dd,hd1,hd2⟩:=an hT hr rfl;cases dd<;>simp[ar]at hd2;subst hd2;obtain⟨dd,hd3,hd4⟩:=an hT hr' rfl;cases dd<;>simp[ar]at hd4;split at he
  ·rename_i sz2 bytes z2 hre;obtain⟨i,zz,i1,i2,i3,i4,i5⟩:=(hT _ _ hre).info;split at he
   ·rename_i xs k hxe;split at he
    ·rename_i n hB;simp only[Xs]at he;subst he;obtain⟨hcount,hbytes⟩:=ho;subst hcount;rw[hxe]at hx;have hw:a8 (.int .u8)=sz2:=((hT _ _ hre).ty _ rfl).1;have hw1:sz2=1:=hw.symm;have hiw:i.size=1:=by rw[i2];exact hw1
     have hzl:zz.cells.size=1:=by have p1:=(hT _ _ hre).zlen;rw[<-i5]at p1;simp at p1;omega
     have hbl:(bM s').length=s'.length:=by simp[bM]
     have hby1:(xs.length+s'.length) *i.bytes<=140737488355328:=by rw[i3];exact hbytes
     have hmaxn:xs.length+s'.length<=aS:=by have hbp:0<bytes:=(hT _ _ hre).bpos (by show 0<sz2;omega);have:(xs.length+s'.length) *1<=(xs.length+s'.length) *bytes:=xl _ hbp;unfold aS;omega
     obtain⟨base,cap,q1,q2,q3,q4,q5⟩:=h.slots k _ hB
     have hxtok:∃v,a.eval x=v/\v=.slice (bX base) xs.length cap:=by
      refine⟨_,rfl,?_⟩
      have ht:di E (some k) xs.length (a.eval x):=by
       rcases hx.lst_inv with⟨h1,hv,ht⟩|⟨_,ho,_⟩|⟨b,off,cap,vals,hv,h1,h2,h3,h4,h5⟩
       ·rw[h1];exact ht
       ·cases ho
       ·exact h3
      obtain⟨m,base',cap',r1,r2,r3⟩:=ht k rfl;rw[q1]at r1;simp only[Xs,CObj.tail.injEq]at r1;obtain⟨rfl,rfl,rfl⟩:=r1;rw[r3 rfl]
     obtain⟨_,rfl,hxv⟩:=hxtok;have hyvl:=qt E s';have hzc:∀n,(Builtin.zeroCells zz.cells n).toList.length=n *1:=by intro n;simp[yk,hzl]
     by_cases hroom:xs.length+s'.length<=cap
     ·cases base with
      |none=>have hc0:=q4 rfl;have hy0:s'=[]:=wi (by omega);have hx0:xs=[]:=wi (by omega);subst hy0 hx0;have hh:=h.same hB rfl hx hd;refine ai (ax hop (v:=a.eval x) (w':=E.w) ?_) (hn _ _ hh);rw[hyv,hxv,hc0];exact nS E.w t t' _ e i hd1 hd3 i1
      |some g=>
       obtain⟨p1,cur,bt,fz,p2,pf,p3,p4⟩:=q5 g rfl
       obtain⟨olds,ho1,ho2,ho3,hxp⟩:∃olds:List Value,olds.length=xs.length *a8 (.int .u8)/\VL E (aH (.int .u8) xs) olds/\(∀j u,olds[j]?=some u->E.w.cell? ⟨g,j,none⟩=some u)/\∀i,i<xs.length *a8 (.int .u8)->E.pub g i:=by
        rcases hx.lst_inv with⟨h1,hv,_⟩|⟨_,ho,_⟩|⟨b,off,cap',vals,hv,h1,h2,h3,h4,h5⟩
        ·rw[hxv]at hv;simp[bX]at hv
        ·cases ho
        ·rw[hxv]at hv;simp only[bX,wS,Xs,xE,xz,xh]at hv;obtain⟨⟨rfl,rfl⟩,rfl⟩:=hv;obtain⟨us',u1,u2,u3⟩:=V.row_cells h4 h5;refine⟨us',u1,u2,fun j u hj=>by have:=u3 j u hj;simpa using this,fun i hi=>?_⟩;have hpos:=eK (.int .u8);have hdiv:i/a8 (.int .u8)<xs.length:=yu (by rw[xX];exact hi);have hmod:i%a8 (.int .u8)<(cells (.int .u8) xs[i/a8 (.int .u8)]).length:=by rw[aA];exact Nat.mod_lt _ hpos
         have:=(h4 (i/a8 (.int .u8)) _ (vV hdiv) (i%a8 (.int .u8)) _ (vV hmod)).1;have e':0+(i/a8 (.int .u8) *a8 (.int .u8)+i%a8 (.int .u8))=i:=by rw[xX];have:=Nat.div_add_mod i (a8 (.int .u8));omega
         rw[e']at this;exact this
       have hroom':xs.length+(bM s').length<=cap:=by rw[hbl];exact hroom
       obtain⟨E',hw',hh⟩:=h.room (dst:=o.dst) (I:=.int .u8) (ys:=bM s') (news:=s'.map fun b=>Value.int .u8 b.toNat) q1 p1 p2 pf p3 p4 hroom' q3 ho2 ho3 hyvl hxp hd;refine ai (ax hop (v:=.slice (some ⟨g,0,none⟩) (xs.length+(bM s').length) cap) (w':=E'.w) ?_) (hn _ _ hh);rw[hyv,hxv,hw',hbl];have hmul:(xs.length+s'.length) *a8 (.int .u8)<=cap *a8 (.int .u8):=wM _ hroom;have w1:a8 (.int .u8)=1:=rfl;rw[w1]at hmul p3;have:=mQ (P:=P) E.w t t' o.type e i hd1 hd3 i1 g xs.length cap bt cur fz p2 (by omega) s' hroom (by rw[hiw];omega);rw[hiw]at this;simpa[w1,bX]using this
     ·have hm:0<s'.length:=by
       rcases yI s'.length with h0|h0
       ·omega
       ·exact h0
      have hlen:(xs++bM s').length=xs.length+s'.length:=by rw[xL,hbl]
      obtain⟨olds,ho2,hob⟩:∃olds:List Value,VL E (aH (.int .u8) xs) olds/\((bX base=none/\xs.length=0/\olds=[])∨∃a,bX base=some a/\olds.length=xs.length *i.size/\∀j v,olds[j]?=some v->E.w.cell? (a.add j)=some v):=by
       rcases hx.lst_inv with⟨h1,hv,_⟩|⟨_,ho,_⟩|⟨b,off,cap',vals,hv,h1,h2,h3,h4,h5⟩
       ·rw[hxv]at hv;simp only[wS]at hv;refine⟨[],?_,.inl ⟨hv.1,hv.2.1,rfl⟩⟩;rw[h1];exact⟨rfl,fun j c v hc=>by simp[aH]at hc⟩
       ·cases ho
       ·rw[hxv]at hv;simp only[wS]at hv;obtain⟨us',u1,u2,u3⟩:=V.row_cells h4 h5;exact⟨us',u2,.inr ⟨_,hv.1,by rw[u1,hiw];rfl,fun j u hj=>by rw[gB];exact u3 j u hj⟩⟩
      obtain⟨E',hw',hh⟩:=h.grow (k:=k) (au:=xs.length+s'.length) (old:=cap) (e:=e) (I:=.int .u8) (zs:=xs++bM s') (us:=olds++s'.map fun b=>Value.int .u8 b.toNat) (rest:=(Builtin.zeroCells zz.cells (grownCap E.w (xs.length+s'.length) cap e-(xs.length+s'.length))).toList) (dst:=o.dst)
       (Or.inr ⟨_,_,_,q1,by rw[hlen];omega⟩) hlen hmaxn (by rw[ct];exact ho2.append hyvl) (by rw[hzc];rfl) hd
      refine ai (ax hop (v:=.slice (some ⟨E.w.heap.size,0,none⟩) (xs.length+s'.length) (grownCap E.w (xs.length+s'.length) cap e)) (w':=E'.w) ?_) (hn _ _ hh);rw[hyv,hxv,hw'];have:=mR (P:=P) E.w t t' o.type e i zz hd1 hd3 i1 i4 (bX base) xs.length cap olds hob s' (by omega) (by unfold aS at hmaxn;omega) (growslice_fits (by omega) hby1);have e':(olds++(s'.map fun b=>Value.int .u8 b.toNat)++(Builtin.zeroCells zz.cells (grownCap E.w (xs.length+s'.length) cap e-(xs.length+s'.length))).toList).toArray=olds.toArray++(s'.map fun b=>Value.int .u8 b.toNat).toArray++Builtin.zeroCells zz.cells (grownCap E.w (xs.length+s'.length) cap e-(xs.length+s'.length)):=by apply wQ;simp
      rw[e'];exact this
    ·simp at he
   ·simp at he
  ·simp at he
 ·simp at he
theorem r8(hT:aG P C.tbl){args:Array Operand}{ts:Array Nat}(hop:o.op=.call {callee:=.builtin .append,args:=args,argTypes:=ts}):b4 P C o:=by
 intro F s a E eff next Q h hd he ho hn
 simp only[ah,hop]at he;split at he
 ·rename_i x y t t' d hargs hts hdst;have ha:args=#[x,y]:=by apply wQ;simpa using hargs
  have ht:ts=#[t,t']:=by apply wQ;simpa using hts
  subst ha ht;split at he;rotate_left
  ·split at he
   ·rename_i s' hye;exact pg hT hop h hd hye he ho hn
   ·cases he
  ·rename_i htt;simp at htt;subst htt;split at he
   ·exact nR hT hop hdst h hd he ho hn
   have hx:=aK h x;have hy:=aK h y;unfold mw at he;split at he
   ·rename_i e sz by' z ty hr
    obtain⟨dd,hd1,hd2⟩:=an hT hr rfl;cases dd<;>simp[ar]at hd2;subst hd2;split at he
    ·rename_i re hre;obtain⟨i,zz,i1,i2,i3,i4,i5⟩:=(hT _ _ hre).info;have hzl:zz.cells.size=re.size:=by have p1:=(hT _ _ hre).zlen;rw[<-i5]at p1;simpa using p1
     split at he
     ·
      rename_i hxe hye;simp only[Xs]at he;subst he;rw[hxe]at hx;rw[hye]at hy;refine ai (ax hop (v:=.slice none 0 0) (w':=E.w) ?_) (hn _ _ ?_)
      ·rw[hx.nils_inv,hy.nils_inv];exact eM E.w t _ e i hd1 i1 none 0 0 (wj _)
      ·have:=h.pure (dst:=o.dst) (v:=.slice none 0 0) .nils hd;simpa[AS.put,b7,Eff.pure]using this
     ·
      rename_i I xs o' hxe hye;simp only[Xs]at he;subst he;rw[hxe]at hx;rw[hye]at hy
      have hrun:(Builtin.append_ #[t,t] o.type #[a.eval x,a.eval y]).run P E.w=.ok (a.eval x) E.w:=by
       rw[hy.nils_inv];rcases hx.lst_inv with⟨h1,hv,_⟩|⟨h1,_,a0,hv⟩|⟨b,off,cap,vals,hv,h1,h2,h3,h4,h5⟩
       ·rw[hv];exact eM E.w t _ e i hd1 i1 none 0 0 (wj _)
       ·rw[hv];exact eM E.w t _ e i hd1 i1 _ _ _ (wj _)
       ·rw[hv];exact eM E.w t _ e i hd1 i1 _ _ _ h1
      refine ai (ax hop hrun) (hn _ _ ?_);have:=h.pure (dst:=o.dst) (v:=a.eval x) hx hd;simpa[AS.put,b7,Eff.pure]using this
     ·
      rename_i I xs k M ys o2 hxe hye;split at he
      ·rename_i ys' I' n hcast hB;split at he
       ·rename_i hτ;obtain⟨hτ1,hτ2⟩:=hτ;subst hτ1;obtain⟨hσI,hys⟩:=eL hcast;subst hσI;simp only at hys;subst hys;simp only[Xs]at he;subst he;obtain⟨hcount,hbytes⟩:=ho;rw[hxe]at hx;rw[hye]at hy;have hw:=((hT _ _ hre).ty _ hτ2).1;have hiw:i.size=a8 M:=by rw[i2,hw]
        have hpos:=eK M;have hby1:(xs.length+ys.length) *i.bytes<=140737488355328:=by rw[i3];exact hbytes
        obtain⟨base,cap,q1,q2,q3,q4,q5⟩:=h.slots k _ hB
        have hxtok:∃v,a.eval x=v/\v=.slice (bX base) n cap:=by
         refine⟨_,rfl,?_⟩
         have ht:di E (some k) xs.length (a.eval x):=by
          rcases hx.lst_inv with⟨h1,hv,ht⟩|⟨_,ho,_⟩|⟨b,off,cap,vals,hv,h1,h2,h3,h4,h5⟩
          ·rw[h1];exact ht
          ·cases ho
          ·exact h3
         obtain⟨m,base',cap',r1,r2,r3⟩:=ht k rfl;rw[q1]at r1;simp only[Xs,CObj.tail.injEq]at r1;obtain⟨rfl,rfl,rfl⟩:=r1;rw[r3 hcount,hcount]
        obtain⟨_,rfl,hxv⟩:=hxtok;have hmaxn:xs.length+ys.length<=aS:=by have:(xs.length+ys.length) *1<=(xs.length+ys.length) *re.bytes:=xl _ ((hT _ _ hre).bps ‹_›);unfold aS;omega
        subst hcount;rcases hy.src with⟨hyv,hy0⟩|⟨ya,yc,us,hyv,hyl,hyvl,hyc,hy1⟩
        ·subst hy0;refine ai (ax hop (v:=a.eval x) (w':=E.w) ?_) (hn _ _ (h.same hB rfl hx hd));rw[hyv,hxv];exact eM E.w t _ e i hd1 i1 _ _ _ q2
        ·by_cases hroom:xs.length+ys.length<=cap
         ·cases base with
          |none=>have hc0:=q4 rfl;have hy0:ys=[]:=wi (by omega);have hx0:xs=[]:=wi (by omega);subst hy0 hx0;refine ai (ax hop (v:=a.eval x) (w':=E.w) ?_) (hn _ _ (h.same hB rfl hx hd));rw[hyv,hxv,hc0];exact gP E.w t _ e i hd1 i1 ya yc
          |some g=>
           obtain⟨p1,cur,bt,fz,p2,pf,p3,p4⟩:=q5 g rfl
           obtain⟨olds,ho1,ho2,ho3,hxp⟩:∃olds:List Value,olds.length=xs.length *a8 M/\VL E (aH M xs) olds/\(∀j u,olds[j]?=some u->E.w.cell? ⟨g,j,none⟩=some u)/\∀i,i<xs.length *a8 M->E.pub g i:=by
            rcases hx.lst_inv with⟨h1,hv,_⟩|⟨_,ho,_⟩|⟨b,off,cap',vals,hv,h1,h2,h3,h4,h5⟩
            ·rw[hxv]at hv;simp[bX]at hv
            ·cases ho
            ·rw[hxv]at hv;simp only[bX,wS,Xs,xE,xz,xh]at hv;obtain⟨⟨rfl,rfl⟩,rfl⟩:=hv;obtain⟨us',u1,u2,u3⟩:=V.row_cells h4 h5;refine⟨us',u1,u2,fun j u hj=>by have:=u3 j u hj;simpa using this,fun i hi=>?_⟩;have hdiv:i/a8 M<xs.length:=yu (by rw[xX];exact hi);have hmod:i%a8 M<(cells M xs[i/a8 M]).length:=by rw[aA];exact Nat.mod_lt _ hpos
             have:=(h4 (i/a8 M) _ (vV hdiv) (i%a8 M) _ (vV hmod)).1;have e':0+(i/a8 M *a8 M+i%a8 M)=i:=by rw[xX];have:=Nat.div_add_mod i (a8 M);omega
             rw[e']at this;exact this
           obtain⟨E',hw',hh⟩:=h.room (dst:=o.dst) q1 p1 p2 pf p3 p4 hroom q3 ho2 ho3 hyvl hxp hd;refine ai (ax hop (v:=.slice (some ⟨g,0,none⟩) (xs.length+ys.length) cap) (w':=E'.w) ?_) (hn _ _ hh);rw[hyv,hxv,hw'];have hmul:(xs.length+ys.length) *a8 M<=cap *a8 M:=wM _ hroom;rw[wD]at hmul;have:=nQ (P:=P) E.w t o.type e i hd1 i1 g xs.length cap bt cur fz p2 (by omega) ya ys.length yc us (by rw[hiw];exact hyl) hyc hy1 hroom (by rw[hiw,hyl];omega);rw[hiw]at this;exact this
         ·have hm:0<ys.length:=by omega
          have hlen:(xs++ys).length=xs.length+ys.length:=xL;have hzc:∀n,(Builtin.zeroCells zz.cells n).toList.length=n *a8 M:=by intro n;simp[yk,hzl,hw]
          cases base with
          |none=>
           have hc0:=q4 rfl;have hx0:xs=[]:=wi (by omega);subst hx0;subst hc0
           obtain⟨E',hw',hh⟩:=h.grow (k:=k) (au:=ys.length) (old:=0) (e:=e) (zs:=[]++ys) (us:=us) (rest:=(Builtin.zeroCells zz.cells (grownCap E.w ys.length 0 e-ys.length)).toList) (dst:=o.dst)
            (Or.inr ⟨_,_,_,q1,by simpa using hm⟩) (by simp) (by simpa using hmaxn) hyvl (by rw[hzc]) hd
           refine ai (ax hop (v:=.slice (some ⟨E.w.heap.size,0,none⟩) ys.length (grownCap E.w ys.length 0 e)) (w':=E'.w) ?_) (hn _ _ hh);rw[hyv,hxv,hw'];have:=yH (P:=P) E.w t o.type e i zz hd1 i1 i4 ya ys.length yc us (by rw[hiw];exact hyl) hyc hm (by unfold aS at hmaxn;simp at hmaxn;omega) (by simp at hby1;omega);have e':(us++(Builtin.zeroCells zz.cells (grownCap E.w ys.length 0 e-ys.length)).toList).toArray=us.toArray++Builtin.zeroCells zz.cells (grownCap E.w ys.length 0 e-ys.length):=by apply wQ;simp
           rw[e'];exact this
          |some g=>
           obtain⟨olds,ho1,ho2,ho3⟩:∃olds:List Value,olds.length=xs.length *a8 M/\VL E (aH M xs) olds/\(∀j u,olds[j]?=some u->E.w.cell? ((⟨g,0,none⟩:Addr).add j)=some u):=by
            rcases hx.lst_inv with⟨h1,hv,_⟩|⟨_,ho,_⟩|⟨b,off,cap',vals,hv,h1,h2,h3,h4,h5⟩
            ·rw[hxv]at hv;simp[bX]at hv
            ·cases ho
            ·rw[hxv]at hv;simp only[bX,wS,Xs,xE,xz,xh]at hv;obtain⟨⟨rfl,rfl⟩,rfl⟩:=hv;obtain⟨us',u1,u2,u3⟩:=V.row_cells h4 h5;exact⟨us',u1,u2,fun j u hj=>by rw[gB];exact u3 j u hj⟩
           obtain⟨E',hw',hh⟩:=h.grow (k:=k) (au:=xs.length+ys.length) (old:=cap) (e:=e) (zs:=xs++ys) (us:=olds++us) (rest:=(Builtin.zeroCells zz.cells (grownCap E.w (xs.length+ys.length) cap e-(xs.length+ys.length))).toList) (dst:=o.dst)
            (Or.inr ⟨_,_,_,q1,by simpa using hm⟩) (by simp) hmaxn (by rw[ct];exact ho2.append hyvl) (by rw[hzc]) hd
           refine ai (ax hop (v:=.slice (some ⟨E.w.heap.size,0,none⟩) (xs.length+ys.length) (grownCap E.w (xs.length+ys.length) cap e)) (w':=E'.w) ?_) (hn _ _ hh);rw[hyv,hxv,hw'];have:=run_append_grow (P:=P) E.w t o.type e i zz hd1 i1 i4 ⟨g,0,none⟩ xs.length cap olds (by rw[hiw];exact ho1) ho3 ya ys.length yc us (by rw[hiw];exact hyl) hyc (by omega) (by unfold aS at hmaxn;omega) (growslice_fits (by omega) hby1);have e':(olds++us++(Builtin.zeroCells zz.cells (grownCap E.w (xs.length+ys.length) cap e-(xs.length+ys.length))).toList).toArray=olds.toArray++us.toArray++Builtin.zeroCells zz.cells (grownCap E.w (xs.length+ys.length) cap e-(xs.length+ys.length)):=by apply wQ;simp
           rw[e'];exact this
       ·simp at he
      ·simp at he
     ·
      rename_i M ys o2 hxe hye;split at he
      ·rename_i hB;split at he
       ·rename_i hτ;simp only[Xs]at he;subst he;rw[hxe]at hx;rw[hye]at hy;have hbytes:ys.length *re.bytes<=140737488355328:=ho;have hw:=((hT _ _ hre).ty _ hτ).1;have hiw:i.size=a8 M:=by rw[i2,hw]
        have hmaxn:ys.length<=aS:=by have:ys.length *1<=ys.length *re.bytes:=xl _ ((hT _ _ hre).bps ‹_›);unfold aS;omega
        have hed:=h.dom d hB
        have empty:ys=[]->Holds F ⟨aZ s.T o.dst (.lst M ys (some d)),b7 s.B [(d,.tail M ys.length)]⟩ (a.put o.dst (.slice none 0 0)) ⟨fun i=>if d=i then some (.tail 0 none 0)else E.e i,E.w,E.pub⟩:=by
         intro hy0;subst hy0
         have hx':Ext E ⟨fun i=>if d=i then some (.tail 0 none 0)else E.e i,E.w,E.pub⟩:=by
          refine⟨fun id c hc=>⟨c,?_,CLe.refl c⟩,fun _ _ p=>p,fun _ _ _=>rfl⟩;have:d≠id:=fun e=>by subst e;rw[hed]at hc;cases hc
          simp[this,hc]
         refine h.slot hx' ⟨none,0,by simp,wj _,by unfold aS;omega,fun _=>rfl,fun b hb=>by simp at hb⟩ (fun _ _ _ _=>iu.of_blocks fun _ _ _=>⟨rfl,fun _ p=>p⟩) (fun _ _ _ _ _ _ _ hb=>by cases hb) h.pubok
          ⟨h.frame.os,h.frame.tape,h.frame.output,h.frame.size,h.frame.block,h.frame.cell,h.frame.kind,h.frame.pub,h.frame.old,h.frame.pcell⟩ ?_ hd
         refine .lstNil M _ ?_;intro id hid;simp at hid;subst hid;exact⟨0,none,0,by simp,wj _,fun _=>rfl⟩
        rcases hy.src with⟨hyv,hy0⟩|⟨ya,yc,us,hyv,hyl,hyvl,hyc,hy1⟩
        ·have hq:=hn _ _ (empty hy0);refine ai (ax hop (v:=.slice none 0 0) (w':=E.w) ?_) hq;rw[hyv,hx.nils_inv];exact eM E.w t _ e i hd1 i1 _ _ _ (wj _)
        ·by_cases hm:ys.length=0
         ·have hy0:=wi hm;have hq:=hn _ _ (empty hy0);refine ai (ax hop (v:=.slice none 0 0) (w':=E.w) ?_) hq;rw[hyv,hx.nils_inv,hm];exact gP E.w t _ e i hd1 i1 ya yc
         ·have hzc:∀n,(Builtin.zeroCells zz.cells n).toList.length=n *a8 M:=by intro n;simp[yk,hzl,hw]
          obtain⟨E',hw',hh⟩:=h.grow (k:=d) (au:=ys.length) (old:=0) (e:=e) (zs:=ys) (us:=us) (rest:=(Builtin.zeroCells zz.cells (grownCap E.w ys.length 0 e-ys.length)).toList) (dst:=o.dst)
           (Or.inl hed) rfl hmaxn hyvl (by rw[hzc]) hd
          refine ai (ax hop (v:=.slice (some ⟨E.w.heap.size,0,none⟩) ys.length (grownCap E.w ys.length 0 e)) (w':=E'.w) ?_) (hn _ _ hh);rw[hyv,hx.nils_inv,hw'];have:=yH (P:=P) E.w t o.type e i zz hd1 i1 i4 ya ys.length yc us (by rw[hiw];exact hyl) hyc (by omega) (by unfold aS at hmaxn;omega) (by rw[i3];omega);have e':(us++(Builtin.zeroCells zz.cells (grownCap E.w ys.length 0 e-ys.length)).toList).toArray=us.toArray++Builtin.zeroCells zz.cells (grownCap E.w ys.length 0 e-ys.length):=by apply wQ;simp
          rw[e'];exact this
       ·simp at he
      ·simp at he
     ·simp at he
    ·simp at he
   ·simp at he
 ·simp at he
end
end Go.AL
end
noncomputable section
namespace Go.AL
variable [Tabs]
section
variable {K V:Type} [DecidableEq K]
theorem gC{k:K}:∀{m:List (K×V)},(∀x∈m,x.1≠k)->cd m k=none
 |[],_=>rfl
 |(a,v)::r,h=>by have h1:¬k=a:=fun e=>h (a,v) (by simp) e.symm;simp only[cd,h1,wA];exact gC (fun x hx=>h x (by simp[hx]))
theorem jS{k:K}{v:V}:∀{m:List (K×V)} {j:Nat},(m.map (·.1)).Nodup->m[j]?=some (k,v)->cd m k=some v
 |[],j,_,h=>by simp at h
 |(a,u)::r,0,_,h=>by simp at h;obtain⟨rfl,rfl⟩:=h;simp[cd]
 |(a,u)::r,j+1,hn,h=>by simp only[wu,List.nodup_cons]at hn;have hm:(k,v)∈r:=wq (by simpa using h);have h1:¬k=a:=fun e=>hn.1 (by rw[<-e];exact wz.2 ⟨(k,v),hm,rfl⟩);simp only[cd,h1,wA];exact jS hn.2 (by simpa using h)
theorem gD{k:K}{v:V}:∀{m:List (K×V)},(∀x∈m,x.1≠k)->fS m k v=m++[(k,v)]
 |[],_=>rfl
 |(a,u)::r,h=>by have h1:¬k=a:=fun e=>h (a,u) (by simp) e.symm;simp only[fS,h1,wA,xb];rw[gD (fun x hx=>h x (by simp[hx]))]
theorem jT{k:K}{u v:V}:∀{m:List (K×V)} {j:Nat},(m.map (·.1)).Nodup->m[j]?=some (k,u)->fS m k v=m.set j (k,v)
 |[],j,_,h=>by simp at h
 |(a,w)::r,0,_,h=>by simp at h;obtain⟨rfl,rfl⟩:=h;simp[fS]
 |(a,w)::r,j+1,hn,h=>by simp only[wu,List.nodup_cons]at hn;have hm:(k,u)∈r:=wq (by simpa using h);have h1:¬k=a:=fun e=>hn.1 (by rw[<-e];exact wz.2 ⟨(k,u),hm,rfl⟩);simp only[fS,h1,wA,List.set_cons_succ];rw[jT hn.2 (by simpa using h)]
end
def fv:(U:Ty)->den U->Value
 |.str,k=>.string ⟨(show Str from k).toArray⟩
 |.int j,n=>.int j n
 |.st .nm,k=>.agg #[.string ⟨(Nam.pkg k).toArray⟩,.string ⟨(Nam.name k).toArray⟩]
 |_,_=>undef
section
variable {P:Program} {C:Cfg}
theorem bS{ti:TI}{U:Ty}(h:fJ C ti U=true):(ti=.str/\U=.str)∨(∃j,ti=.int j/\U=.int j)∨∃fs,ti=.strct true fs/\U=.st .nm/\mz C fs=true:=by
 unfold fJ at h;split at h
 ·exact .inl ⟨rfl,rfl⟩
 ·simp at h;subst h;exact .inr (.inl ⟨_,rfl,rfl⟩)
 ·exact .inr (.inr ⟨_,rfl,rfl,h⟩)
 ·cases h
theorem nT{ti:TI}{U:Ty}(h:fJ C ti U=true){a b:den U}(e:fv U a=fv U b):a=b:=by
 rcases bS h with⟨_,rfl⟩|⟨j,_,rfl⟩|⟨fs,_,rfl,_⟩
 ·simpa[fv]using e
 ·simpa[fv]using e
 ·obtain⟨a1,a2⟩:=a;obtain⟨b1,b2⟩:=b;simpa[fv]using e
theorem sC{E:Om}{k:Nam}{v:Value}(hv:V E (.st .nm k) v):v=fv (.st .nm) k/\k.pkg.length<=aS/\k.name.length<=aS:=by
 cases hv with
 |st _ _ v hv=>
 obtain⟨vs,rfl,hl⟩:=hv.agg_inv;obtain⟨hn,hp⟩:=hl
 match vs,hn with
 |[x,y],_=>obtain⟨e1,l1⟩:=(hp 0 (.str k.pkg) x rfl rfl).str_inv;obtain⟨e2,l2⟩:=(hp 1 (.str k.name) y rfl rfl).str_inv;subst e1 e2;exact⟨rfl,l1,l2⟩
theorem kA{ti:TI}{U:Ty}(h:fJ C ti U=true){E:Om}{k:den U}{v:Value}(hv:V E (inj U k) v):v=fv U k:=by
 rcases bS h with⟨_,rfl⟩|⟨j,_,rfl⟩|⟨fs,_,rfl,_⟩
 ·exact hv.str_inv.1
 ·exact hv.int_inv.1
 ·exact(sC hv).1
theorem gQ{fields:Array Field}{fs:List (Nat × Nat)}(h:mz C fs=true)(he:(fields.toList.map fun f=>(f.offset,f.type))=fs)(hn:∀f∈fields.toList,f.name≠ "_") :
  ∃f g ra rb,fields=#[f,g]/\f.offset=0/\g.offset=1/\f.name≠ "_"/\g.name≠ "_"/\fs=[(0,f.type),(1,g.type)]/\ak C.tbl f.type=some ra/\ra.ti=.str/\ak C.tbl g.type=some rb/\rb.ti=.str:=by
 unfold mz at h;split at h
 ·rename_i a b;split at h
  ·rename_i h1 h2;obtain⟨l⟩:=fields;have hlen:l.length=2:=by simpa using xq List.length he
   obtain⟨f,g,rfl⟩:∃f g,l=[f,g]:=by
    match l,hlen with
    |[f,g],_=>exact⟨f,g,rfl⟩
   simp only[wu,yR,wY,yq,xh]at he;obtain⟨⟨e1,rfl⟩,e2,rfl⟩:=he;exact⟨f,g,_,_,rfl,e1,e2,hn f (by simp),hn g (by simp),rfl,h1,rfl,h2,rfl⟩
  ·cases h
 ·cases h
theorem ly(hT:aG P C.tbl){kt:Nat}{rk:TR}(hr:ak C.tbl kt=some rk){U:Ty}(h:fJ C rk.ti U=true)(k:den U)(em:Bool)(w:World):(Instr.checkKey em 10000 kt (fv U k)).run P w=.ok () w:=by
 obtain⟨d,hd1,hd2⟩:=an hT hr rfl;rcases bS h with⟨e,rfl⟩|⟨j,e,rfl⟩|⟨fs,e,rfl,h2⟩
 ·rw[e]at hd2;exact yw hd1 (by cases d<;>simp[ar]at hd2;trivial) em 9999
 ·rw[e]at hd2;exact yw hd1 (by cases d<;>simp[ar]at hd2;subst hd2;trivial) em 9999
 ·rw[e]at hd2;cases d<;>try (simp[ar]at hd2;done)
  rename_i fields;simp only[ar,vW,wb,wk]at hd2;obtain⟨f,g,ra,rb,rfl,o1,o2,n1,n2,_,t1,i1,t2,i2⟩:=gQ h2 hd2.1 (fun f hf=>by simpa using(hd2.2 f hf).2);have fc:∀{t:Nat} {r:TR} (s:Str),ak C.tbl t=some r->r.ti=.str->(Instr.checkKey em 9999 t (.string ⟨s.toArray⟩)).run P w=.ok () w:=fun{t r} s ht hi=>by obtain⟨d,hd1,hd2⟩:=an hT ht hi;exact yw hd1 (by cases d<;>simp[ar]at hd2;trivial) em 9998
  have pt:∀{t:Nat} {r:TR} {cs:Array Value} {i:Nat} {u:Value},ak C.tbl t=some r->r.ti=.str->cs[i]?=some u->(part t cs i).run P w=.ok u w:=fun{t r cs i u} ht hi hu=>by simp[part,(hT _ _ ht).tf.agg,TR.isAgg,hi,hu]
  unfold Instr.checkKey;simp only[w7,aj hd1,vY,fv];simp[o1,o2,n1,n2,pt t1 i1 (cs:=#[.string ⟨(Nam.pkg k).toArray⟩,.string ⟨(Nam.name k).toArray⟩]) (i:=0) rfl,pt t2 i2 (cs:=#[.string ⟨(Nam.pkg k).toArray⟩,.string ⟨(Nam.name k).toArray⟩]) (i:=1) rfl,fc _ t1 i1,fc _ t2 i2]
theorem lz{ti:TI}{U:Ty}(h:fJ C ti U=true)(k:den U)(w:World):(Instr.keyThatStays (fv U k) (fv U k)).run P w=.ok (fv U k) w:=by
 rcases bS h with⟨_,rfl⟩|⟨j,_,rfl⟩|⟨fs,_,rfl,_⟩
 ·exact MapKept.run_keyThatStays (d:=.string) (by trivial)
 ·exact MapKept.run_keyThatStays (d:=.int j) (by trivial)
 ·have b:∀x:ByteArray,(x ==x)=true:=fun x=>(MapKept.bytes_beq x x).2 rfl;simp[Instr.keyThatStays,fv,Instr.sameBits,b]
theorem rf(hT:aG P C.tbl){kt:Nat}{rk:TR}(hr:ak C.tbl kt=some rk){U:Ty}(h:fJ C rk.ti U=true){E:Om}{k0:den U}{kv:Value}(hV:V E (inj U k0) kv)(l:List MapEntry)(hl:∀x∈l,∃k,V E (inj U k) x.key) :
  ((Instr.findKey kt kv l).run P E.w=.ok none E.w/\∀x∈l,x.key≠kv)∨∃j e,(Instr.findKey kt kv l).run P E.w=.ok (some (j,e.val)) E.w/\l[j]?=some e/\e.key=kv:=by
 obtain⟨d,hd1,hd2⟩:=an hT hr rfl
 have bY:(∀k:den U,MapKept.IsKey d (fv U k))->(((Instr.findKey kt kv l).run P E.w=.ok none E.w/\∀x∈l,x.key≠kv)∨∃j e,(Instr.findKey kt kv l).run P E.w=.ok (some (j,e.val)) E.w/\l[j]?=some e/\e.key=kv):=fun hk=>by
  have hkv:=kA h hV;rcases MapKept.findNow_spec (hkv ▸ hk k0) l 0 (fun x hx=>by obtain⟨k,hk'⟩:=hl x hx;rw[kA h hk'];exact hk k)with⟨h1,h2⟩|⟨j,e,h1,h2,h3⟩
  ·exact .inl ⟨MapKept.run_findKey hd1 h1,h2⟩
  ·exact .inr ⟨j,e,MapKept.run_findKey hd1 (by simpa using h1),h2,h3⟩
 rcases bS h with⟨e,rfl⟩|⟨j,e,rfl⟩|⟨fs,e,rfl,h2⟩
 ·rw[e]at hd2;exact bY fun k=>by cases d<;>simp[ar]at hd2;trivial
 ·rw[e]at hd2;exact bY fun k=>by cases d<;>simp[ar]at hd2;subst hd2;trivial
 ·rw[e]at hd2;cases d<;>try (simp[ar]at hd2;done)
  rename_i fields;simp only[ar,vW,wb,wk]at hd2;obtain⟨hf1,hf2⟩:=hd2;obtain⟨q1,q2⟩:=(hT _ _ hr).eqs fs e;have hfo:P.fieldsOf kt=fields:=by simp[Program.fieldsOf,hd1]
  have heq:∀{k:Nam} {v:Value},V E (.st .nm k) v->(Op.equal kt kv v).run P E.w=.ok (decide (k0=k)) E.w:=fun{k v} hk=>by
   obtain⟨xs,rfl,hx⟩:=fo hV (show eJ (.st .nm k0)=some (dA k0)from rfl);obtain⟨ys,rfl,hy⟩:=fo hk (show eJ (.st .nm k)=some (dA k)from rfl);show(Op.equalIn 10000 kt (.agg xs.toArray) (.agg ys.toArray)).run P E.w=_;rw[run_equalIn_struct E.w 9999 kt _ _ (by rw[hfo];exact hd1) q1,hfo];refine fm hT hx hy 9998 E.w fields.toList _ (fun f hf=>by simpa using(hf2 f hf).2) ?_;obtain⟨f,g,ra,rb,rfl,o1,o2,n1,n2,rfl,t1,i1,t2,i2⟩:=gQ h2 hf1 (fun f hf=>by simpa using(hf2 f hf).2);obtain⟨a1,a2⟩:=k0;obtain⟨b1,b2⟩:=k;have dn:decide ((⟨a1,a2⟩:Nam)=⟨b1,b2⟩)=(decide (a1=b1)&&decide (a2=b2)):=by rw[<-Bool.decide_and];exact decide_eq_decide.2 (by simp)
   rw[dn];simp[qQ,dA,nth,t1,t2,i1,i2,my,o1,o2]
  have ask:∀(l:List MapEntry)(i:Nat),(∀x∈l,∃k,V E (inj (.st .nm) k) x.key)->
    ((Instr.findAsking kt kv l i).run P E.w=.ok none E.w/\∀x∈l,x.key≠kv)∨∃j e,(Instr.findAsking kt kv l i).run P E.w=.ok (some (i+j,e.val)) E.w/\l[j]?=some e/\e.key=kv:=by
   intro l
   induction l with
   |nil=>intro i _;exact .inl ⟨rfl,by simp⟩
   |cons x r ih=>
    intro i hl;obtain⟨k,hk⟩:=hl x (by simp);have hq:=heq hk;by_cases c:k0=k
    ·subst c;refine .inr ⟨0,x,?_,rfl,?_⟩
     ·rw[Xd rfl]at hq;simp[Instr.findAsking,hq]
     ·rw[(sC hk).1,(sC hV).1]
    ·rw[Xf c]at hq
     have hne:x.key≠kv:=fun e=>c (by
      rw[(sC hk).1,(sC hV).1]at e;exact(nT h e).symm)
     rcases ih (i+1) (fun y hy=>hl y (by simp[hy]))with⟨h1,h2⟩|⟨j,e,h1,h2,h3⟩
     ·exact .inl ⟨by simp[Instr.findAsking,hq,h1],fun y hy=>by
       rcases wC.1 hy with rfl|hy
       ·exact hne
       ·exact h2 y hy⟩
     ·exact .inr ⟨j+1,e,by simp[Instr.findAsking,hq,h1];omega,by simpa using h2,h3⟩
  have hnow:l=[]∨Instr.findNow (.struct fields) kv l 0=none:=by
   cases l with|nil=>exact .inl rfl|cons x r=>exact .inr (by simp[Instr.findNow,Instr.sameNow])
  rcases hnow with rfl|hnow
  ·exact .inl ⟨by simp[Instr.findKey,aj hd1,Instr.findNow],by simp⟩
  ·rcases ask l 0 hl with⟨h1,h2⟩|⟨j,e,h1,h2,h3⟩
   ·exact .inl ⟨by simp[Instr.findKey,aj hd1,hnow,h1],h2⟩
   ·exact .inr ⟨j,e,by simp[Instr.findKey,aj hd1,hnow,h1],h2,h3⟩
end
theorem MapOK.find{P:Program}{C:Cfg}(hT:aG P C.tbl){kt:Nat}{rk:TR}(hr:ak C.tbl kt=some rk){E:Om}{U I:Ty}{m:List (den U×den I)}{es:Array MapEntry}{clock:Nat}(h:MapOK E U I m es clock)(hk:fJ C rk.ti U=true)
 {k:AV}{kv:Value}(hV:V E k kv){g:Option (den I)}(hg:fg U I m k=some g):∃k0:den U,kv=fv U k0/\V E (inj U k0) kv/\(∀em,(Instr.checkKey em 10000 kt kv).run P E.w=.ok () E.w)/\(Instr.keyThatStays kv kv).run P E.w=.ok kv E.w/\
  (((Instr.findKey kt kv es.toList).run P E.w=.ok none E.w/\g=none/\(∀x∈m,x.1≠k0)/\∀v,ew U I m k v=some (m++[(k0,v)]))∨
   ∃j e v,(Instr.findKey kt kv es.toList).run P E.w=.ok (some (j,e.val)) E.w/\es[j]?=some e/\m[j]?=some (k0,v)/\g=some v/\e.key=kv/\
    ∀u,ew U I m k u=some (m.set j (k0,u))):=by
 have hkeys:∀x∈es.toList,∃k',V E (inj U k') x.key:=by
  intro x hx;obtain⟨j,hj,e⟩:=yr.1 hx;have hj':j<m.length:=by rw[<-h.size];simpa using hj
  have hej:es[j]?=some x:=by rw[<-wg,vV hj,e]
  exact⟨_,(h.ent j x _ hej (vV hj')).1⟩
 have main:∀(k0:den U)(get:den U->Option (den I))(set:den U->den I->List (den U×den I)),V E (inj U k0) kv->
   ((∀x∈m,x.1≠k0)->get k0=none/\∀v,set k0 v=m++[(k0,v)])->
   (∀j v,m[j]?=some (k0,v)->get k0=some v/\∀u,set k0 u=m.set j (k0,u))->kv=fv U k0/\V E (inj U k0) kv/\(∀em,(Instr.checkKey em 10000 kt kv).run P E.w=.ok () E.w)/\(Instr.keyThatStays kv kv).run P E.w=.ok kv E.w/\
   (((Instr.findKey kt kv es.toList).run P E.w=.ok none E.w/\get k0=none/\(∀x∈m,x.1≠k0)/\∀v,set k0 v=m++[(k0,v)])∨
    ∃j e v,(Instr.findKey kt kv es.toList).run P E.w=.ok (some (j,e.val)) E.w/\es[j]?=some e/\m[j]?=some (k0,v)/\get k0=some v/\e.key=kv/\
     ∀u,set k0 u=m.set j (k0,u)):=by
  intro k0 get set hV hn hs;have hkv:=kA hk hV;refine⟨hkv,hV,fun em=>by rw[hkv];exact ly hT hr hk k0 em E.w,by rw[hkv];exact lz hk k0 E.w,?_⟩;rcases rf hT hr hk hV es.toList hkeys with⟨h1,h2⟩|⟨j,e,h1,h2,h3⟩
  ·have hne:∀x∈m,x.1≠k0:=by
    intro x hx e;obtain⟨j,hj,e2⟩:=yr.1 hx;have hj':j<es.size:=by rw[h.size];exact hj
    obtain⟨q1,_⟩:=h.ent j es[j] x (xc hj') (by rw[vV hj,e2]);refine h2 es[j] (by simp) ?_;rw[kA hk q1,e,hkv]
   exact .inl ⟨h1,(hn hne).1,hne,(hn hne).2⟩
  ·have hej:es[j]?=some e:=by rw[<-wg];exact h2
   have hj:j<m.length:=by
    rw[<-h.size];rcases w4 j es.size with k|k
    ·exact k
    ·rw[wW k]at hej;cases hej
   obtain⟨q1,_⟩:=h.ent j e m[j] hej (vV hj);have hk0:m[j].1=k0:=by have:=kA hk q1;rw[h3,hkv]at this;exact(nT hk this).symm
   have hmj:m[j]?=some (k0,m[j].2):=by rw[vV hj,<-hk0]
   obtain⟨r1,r2⟩:=hs j _ hmj;exact .inr ⟨j,e,_,h1,hej,hmj,r1,h3,r2⟩
 rcases bS hk with⟨_,rfl⟩|⟨i,_,rfl⟩|⟨fs,_,rfl,_⟩
 ·cases k<;>simp only[fg,Xs,reduceCtorEq]at hg;rename_i k0;refine⟨k0,?_⟩
  have:=main k0 (fun k=>cd (K:=Str) m k) (fun k v=>fS (K:=Str) m k v) hV
   (fun hn=>⟨gC hn,fun v=>gD hn⟩) (fun j v hj=>⟨jS h.keys hj,fun u=>jT h.keys hj⟩)
  rw[<-hg];simpa[ew]using this
 ·cases k<;>simp only[fg,Xs,reduceCtorEq]at hg;rename_i i' k0;split at hg
  ·rename_i hii;subst hii;refine⟨k0,?_⟩
   have:=main k0 (fun k=>cd (K:=Int) m k) (fun k v=>fS (K:=Int) m k v) hV
    (fun hn=>⟨gC hn,fun v=>gD hn⟩) (fun j v hj=>⟨jS h.keys hj,fun u=>jT h.keys hj⟩)
   simp only[Xs]at hg;rw[<-hg];simpa[ew]using this
  ·cases hg
 ·simp only[fg]at hg
  cases ha:arg (.st .nm) k with
  |none=>rw[ha]at hg;cases hg
  |some k0=>
   rw[ha]at hg;simp only[Xs]at hg;refine⟨k0,?_⟩
   have:=main k0 (fun k=>cd (K:=Nam) m k) (fun k v=>fS (K:=Nam) m k v) (sA hV ha)
    (fun hn=>⟨gC hn,fun v=>gD hn⟩) (fun j v hj=>⟨jS h.keys hj,fun u=>jT h.keys hj⟩)
   rw[<-hg];simpa[ew,ha]using this
section
variable {P:Program} {C:Cfg} {o:Oper}
theorem ph(hT:aG P C.tbl){e:Nat}{re:TR}(hre:ak C.tbl e=some re){I:Ty}(hty:re.ty=some I){z:den I}(hz:lu I re.zero=some z)(E:Om) :
  ∃i v,P.info? e=some i/\i.zero=some v/\V E (inj I z) v/\VL E (cells I z) v.cells.toList:=by
 obtain⟨i,v,i1,i2,i3,i4,i5⟩:=(hT _ _ hre).info;have hag:=(hT _ _ hre).zagg i v i1 i4;have hst:=((hT _ _ hre).ty I hty).2;have hvl:VL E (cells I z) v.cells.toList:=by have:=kl E v.cells.toList;rw[i5]at this;exact this.rd (fr I hz)
 refine⟨i,v,i1,i4,?_,hvl⟩
 cases I with
 |st n=>
  have:oZ v=true:=by rw[hag,<-hst];rfl
  cases v<;>simp[oZ]at this;rename_i cs;have e:(Value.agg cs).cells.toList.toArray=cs:=by simp[Value.cells]
  have:=V.st (E:=E) n z (.agg (Value.agg cs).cells.toList.toArray) (V.of_agg hvl);rw[e]at this;exact this
 |_=>
  have:oZ v=false:=by rw[hag,<-hst];rfl
  have hc:v.cells.toList=[v]:=by cases v<;>simp[oZ]at this<;>rfl
  rw[hc]at hvl;exact hvl.head
theorem rh(hT:aG P C.tbl){t:Nat}{x k:Operand}{ok:Bool}(hop:o.op=.lookup t x k ok):b4 P C o:=by
 refine b4.pure fun F s a E eff h he ho=>?_;simp only[ah,hop,mA]at he;have hx:=aK h x;have hk:=aK h k;split at he
 ·rename_i kt e sz by' z0 ty id hr hxe
  rw[hxe]at hx;split at he
  ·rename_i rk re U I m hrk hre hm;split at he
   ·rename_i z g hz hg;split at he
    ·rename_i hc;simp only[vW,wb]at hc;obtain⟨hko,hty⟩:=hc;simp only[Xs]at he;subst he;obtain⟨d,hd1,hd2⟩:=an hT hr rfl;cases d<;>simp[ar]at hd2;obtain⟨rfl,rfl⟩:=hd2;obtain⟨dk,hk1,hk2⟩:=an hT hrk rfl;generalize hxv:a.eval x=xv at hx
     cases hx with
     |map _ r her=>
      obtain⟨r',e1,e2,es,clock,e3,e4⟩:=h.slots _ _ hm;rw[her]at e1;simp only[Xs,CObj.obj.injEq]at e1;subst e1;obtain⟨k0,hkv,_,hck,_,hf⟩:=e4.find hT hrk hko hk hg;obtain⟨i,zv,i1,i4,zV,_⟩:=ph hT hre hty hz E;have hgo:=MapKept.run_getObj_map (P:=P) e3;rw[hkv]at hck hf;rcases hf with⟨h1,h2,h3,h4⟩|⟨j,en,v,h1,h2,h3,h4,h5,h6⟩
      ·have hfk:=h1;subst h2
       cases ok with
       |true=>
        refine⟨rfl,.tuple #[zv,.bool false],?_,?_⟩
        ·simp[execOp,hop,hxv,hkv,Instr.lookup,aj hd1,hgo,hck,hfk,cG i1 i4]
        ·exact V.of_tup (VL.cons zV (VL.cons (.bool false) .nil))
       |false=>refine⟨rfl,zv,?_,zV⟩;simp[execOp,hop,hxv,hkv,Instr.lookup,aj hd1,hgo,hck,hfk,cG i1 i4]
      ·have hfk:=h1;subst h4;have hv:=(e4.ent j en _ h2 h3).2
       cases ok with
       |true=>
        refine⟨rfl,.tuple #[en.val,.bool true],?_,?_⟩
        ·simp[execOp,hop,hxv,hkv,Instr.lookup,aj hd1,hgo,hck,hfk]
        ·exact V.of_tup (VL.cons hv (VL.cons (.bool true) .nil))
       |false=>refine⟨rfl,en.val,?_,hv⟩;simp[execOp,hop,hxv,hkv,Instr.lookup,aj hd1,hgo,hck,hfk]
    ·simp at he
   ·simp at he
  ·simp at he
 ·rename_i kt e sz by' z0 ty hr hxe
  rw[hxe]at hx;split at he
  ·rename_i rk re hrk hre;split at he
   ·rename_i U I hκ hτ;split at he
    ·rename_i z hz hg;split at he
     ·rename_i hko;simp only[Xs]at he;subst he;obtain⟨d,hd1,hd2⟩:=an hT hr rfl;cases d<;>simp[ar]at hd2;obtain⟨rfl,rfl⟩:=hd2;generalize hxv:a.eval x=xv at hx;cases hx;have e4:MapOK E U I [] #[] 0:=⟨rfl,fun i e x hi=>by simp at hi,List.nodup_nil,fun i e hi=>by simp at hi,fun i j e f hi=>by simp at hi⟩;obtain⟨k0,hkv,_,hck,_,hf⟩:=e4.find hT hrk hko hk hg;obtain⟨i,zv,i1,i4,zV,_⟩:=ph hT hre hτ hz E;rw[hkv]at hck hf;rcases hf with⟨h1,h2,h3,h4⟩|⟨j,en,v,h1,h2,h3,h4,h5,h6⟩
      ·have hfk:=h1
       cases ok with
       |true=>
        refine⟨rfl,.tuple #[zv,.bool false],?_,?_⟩
        ·simp[execOp,hop,hxv,hkv,Instr.lookup,aj hd1,hck,hfk,cG i1 i4]
        ·exact V.of_tup (VL.cons zV (VL.cons (.bool false) .nil))
       |false=>refine⟨rfl,zv,?_,zV⟩;simp[execOp,hop,hxv,hkv,Instr.lookup,aj hd1,hck,hfk,cG i1 i4]
      ·simp at h2
     ·simp at he
    ·simp at he
   ·simp at he
  ·simp at he
 ·simp at he
theorem nU{f:Fn}{first caps:Array Operand}(hop:o.op=.makeFunc f first caps):b4 P C o:=by
 refine b4.pure fun F s a E eff h he ho=>?_
 cases f with
 |func f=>
  simp only[ah,hop]at he;split at he
  ·rename_i hem;simp only[Xs]at he;subst he;have hf0:first=#[]:=by simpa using hem
   subst hf0;refine⟨rfl,.func (.func f) #[] (caps.map a.eval),by simp[execOp,hop,Instr.makeFunc],?_⟩;have:(caps.map a.eval)=(caps.toList.map a.eval).toArray:=by apply wQ;simp
   rw[this];refine V.fn f _ _ (by simp) (fun j c v hc hv=>?_);simp only[wx,we]at hc hv;obtain⟨y,hy,rfl⟩:=hc;obtain⟨y',hy',rfl⟩:=hv;rw[hy]at hy';simp at hy';subst hy';exact aK h y
  ·simp at he
 |_=>simp[ah,hop]at he
theorem iS(hT:aG P C.tbl){t:Nat}{x:Operand}(hop:o.op=.makeInterface t x):b4 P C o:=by
 refine b4.pure fun F s a E eff h he ho=>?_;simp only[ah,hop]at he;split at he
 ·rename_i r hr;split at he
  ·cases he
  ·rename_i hti;simp only[Xs]at he;subst he;obtain⟨d,hd1,hd2⟩:=an hT hr rfl;refine⟨rfl,.iface t (a.eval x),?_,.iface t _ _ (aK h x)⟩;have hn:∀ms,d≠.interface ms:=by intro ms e;subst e;generalize r.ti=ti at hti hd2;cases ti<;>first|exact hti rfl|cases hd2
   simp only[execOp,hop,Instr.makeInterface,w7,aj hd1,vY];cases d<;>first|exact absurd rfl (hn _)|rfl
 ·simp at he
theorem lA(hT:aG P C.tbl){t t':Nat}{b:Bool}{x:Operand}(hop:o.op=.typeAssert x t' t b):b4 P C o:=by
 refine b4.pure fun F s a E eff h he ho=>?_
 cases b with
 |false=>simp[ah,hop]at he
 |true=>
  simp only[ah,hop]at he;split at he
  ·rename_i t1 c r hx0 hr;have hx:=aK h x;rw[hx0]at hx;split at he
   ·cases he
   ·rename_i hti;split at he
    ·rename_i et;subst et;simp only[Xs]at he;subst he;obtain⟨d,hd1,hd2⟩:=an hT hr rfl;have hn:∀ms,d≠.interface ms:=by intro ms e;subst e;generalize r.ti=ti at hti hd2;cases ti<;>first|exact hti rfl|cases hd2
     generalize hxv:a.eval x=xv at hx
     cases hx with
     |iface _ _ v hv=>
      refine⟨rfl,.tuple #[v,.bool true],?_,?_⟩
      ·simp only[execOp,hop,hxv,Instr.typeAssert,w7,aj hd1,vY];cases d<;>first|exact absurd rfl (hn _)|simp
      ·exact .tup [c,.bool true] [v,.bool true] rfl (VL.cons hv (VL.cons (.bool true) .nil)).2
    ·cases he
  ·simp at he
theorem sD{k:IntKind}{m n:Int}{w:World}:(Builtin.min2 (.int k m) (.int k n)).run P w=.ok (.int k (min m n)) w:=by simp only[Builtin.min2,wy];congr 2;split<;>omega
theorem sE{k:IntKind}{m n:Int}{w:World}:(Builtin.max2 (.int k m) (.int k n)).run P w=.ok (.int k (max m n)) w:=by simp only[Builtin.max2,wy];congr 2;split<;>omega
theorem vf{args:Array Operand}{ts:Array Nat}(hop:o.op=.call {callee:=.builtin .max,args:=args,argTypes:=ts}):b4 P C o:=by
 refine b4.pure fun F s a E eff h he ho=>?_;simp only[ah,hop]at he;split at he
 ·rename_i x y hargs;have ha:args=#[x,y]:=by apply wQ;simpa using hargs
  subst ha;have hx:=aK h x;have hy:=aK h y;split at he
  ·rename_i k m k' n hm hn;rw[hm]at hx;rw[hn]at hy;split at he
   ·rename_i hk;subst hk;simp only[Xs]at he;subst he;obtain⟨hx1,hx2,hx3⟩:=hx.int_inv;obtain⟨hy1,hy2,hy3⟩:=hy.int_inv;refine⟨rfl,.int k (max m n),?_,.int k _ (by omega) (by omega)⟩;simp[execOp,hop,resolve,invoke,builtin,hx1,hy1,Builtin.max_,sE]
   ·cases he
  ·cases he
 ·cases he
theorem vg{args:Array Operand}{ts:Array Nat}(hop:o.op=.call {callee:=.builtin .min,args:=args,argTypes:=ts}):b4 P C o:=by
 refine b4.pure fun F s a E eff h he ho=>?_;simp only[ah,hop]at he;split at he
 ·rename_i x y hargs;have ha:args=#[x,y]:=by apply wQ;simpa using hargs
  subst ha;have hx:=aK h x;have hy:=aK h y;split at he
  ·rename_i k m k' n hm hn;rw[hm]at hx;rw[hn]at hy;split at he
   ·rename_i hk;subst hk;simp only[Xs]at he;subst he;obtain⟨hx1,hx2,hx3⟩:=hx.int_inv;obtain⟨hy1,hy2,hy3⟩:=hy.int_inv;refine⟨rfl,.int k (min m n),?_,.int k _ (by omega) (by omega)⟩;simp[execOp,hop,resolve,invoke,builtin,hx1,hy1,Builtin.min_,sD]
   ·cases he
  ·cases he
 ·cases he
theorem mS{t:Nat}{w:World}:(Instr.makeMap t none).run P w=.ok (.map (some w.heap.size)) (w.alloc (.map #[] 0)):=rfl
theorem mT{t k e:Nat}(hu:P.underlying t=some (.map k e)){i:IntKind}{n:Int}{w:World}:(Instr.makeMap t (some (.int i n))).run P w=.ok (.map (some w.heap.size)) (w.alloc (.map #[] 0)):=by unfold Instr.makeMap;simp only[w7,aj hu,vY];rfl
theorem pj(hT:aG P C.tbl){t:Nat}{hint:Option Operand}(hop:o.op=.makeMap t hint):b4 P C o:=by
 intro F s a E eff next Q h hd he ho hn
 simp only[ah,hop]at he;split at he
 ·rename_i d k e sz by' z ty hdst hr
  split at he
  ·rename_i _ _ _ _ U _ _ _ _ I hrk hre hB;obtain⟨dd,hd1,hd2⟩:=an hT hr rfl;cases dd<;>simp[ar]at hd2
   have hh:Holds F ⟨aZ s.T o.dst (.map d),b7 s.B [(d,.map U I [])]⟩ (a.put o.dst (.map (some E.w.heap.size)))
     ⟨fun i=>if d=i then some (.obj E.w.heap.size)else E.e i,E.w.alloc (.map #[] 0),fun b o=>E.pub b o∨(b=E.w.heap.size/\False)⟩:=by
    refine h.alloc (p:=fun _=>False) (Or.inl (h.dom d hB)) (fun b o hb=>hb) (fun hx=>?_) (fun _ hf=>hf.elim) (fun hx=>?_) hd
    ·refine⟨E.w.heap.size,by simp,fun _=>Or.inl h.frame.size,#[],0,b6 _ _,⟨rfl,fun i e x he=>by simp at he,by simp,fun i e he=>by simp at he,fun i j e f he=>by simp at he⟩⟩
    ·exact .map d _ (by simp)
   split at he
   ·simp only[Xs]at he;subst he;rename_i hh';have hnone:hint=none:=by cases hint with|none=>rfl|some y=>simp at hh'
    subst hnone;exact ai (v:=.map (some E.w.heap.size)) (w':=E.w.alloc (.map #[] 0)) (by simp[execOp,hop,mS]) (hn _ _ hh)
   ·simp only[Xs]at he;subst he;rename_i kk nn hh'
    cases hint with
    |none=>cases hh'
    |some y=>simp only[wV,Xs]at hh';have hy:=aK h y;rw[hh']at hy;exact ai (v:=.map (some E.w.heap.size)) (w':=E.w.alloc (.map #[] 0)) (by simp[execOp,hop,hy.int_inv.1,mT hd1]) (hn _ _ hh)
   ·cases he
  ·cases he
 ·cases he
theorem kB(hT:aG P C.tbl){t:Nat}{x k v:Operand}(hop:o.op=.mapUpdate t x k v∨o.op=.insert t x k v){F:Fr}{s:AS}{a:Act}{E:Om}{eff:Eff}{next:Act->World->Prop}{Q:Exit->Act->World->Prop}
 (h:Holds F s a E)(hd:∀d,o.dst=some d->d<F.n)(he:ah C o s.T s.B=some eff)
 (hn:∀a' E',Holds F (s.put o.dst eff) a' E'->a'=a.put o.dst undef->(∀id,opd s.T x=.map id->∀r,E.e id=some (.obj r)->∀b,b≠r->E'.w.heap[b]?=E.w.heap[b]?)->(∀i,E'.e i=E.e i)->(∀b o,E'.pub b o↔E.pub b o)->next a' E'.w):o.wp P a E.w next Q:=by
 have he:fh C t (opd s.T x) (opd s.T k) (opd s.T v) s.B=some eff:=by rcases hop with hop|hop<;>simpa only[ah,hop]using he
 have hex:∀w,(execOp a.eval o).run P w=((Instr.mapUpdate t (a.eval x) (a.eval k) (a.eval v)).run P w).andThen fun _ w'=>.ok .skip w':=by intro w;rcases hop with hop|hop<;>simp[execOp,hop]
 unfold fh at he;have hx:=aK h x;have hk:=aK h k;have hv:=aK h v;split at he
 ·rename_i kt e sz by' z0 ty id hr hxe
  rw[hxe]at hx;split at he
  ·rename_i rk U I m hrk hm;split at he
   ·rename_i u hu;split at he
    ·rename_i m' hm';split at he
     ·rename_i hko;simp only[Xs]at he;subst he;obtain⟨d,hd1,hd2⟩:=an hT hr rfl;cases d<;>simp[ar]at hd2;obtain⟨rfl,rfl⟩:=hd2;obtain⟨dk,hk1,hk2⟩:=an hT hrk rfl;have hvu:=sA hv hu;generalize hxv:a.eval x=xv at hx
      cases hx with
      |map _ r her=>
       obtain⟨r',e1,e2,es,clock,e3,e4⟩:=h.slots _ _ hm;rw[her]at e1;simp only[Xs,CObj.obj.injEq]at e1;subst e1
       obtain⟨g,hg⟩:∃g,fg U I m (opd s.T k)=some g:=by
        rcases bS hko with⟨_,rfl⟩|⟨i,_,rfl⟩|⟨fs,_,rfl,_⟩
        ·cases hkk:opd s.T k<;>rw[hkk]at hm'<;>simp[ew]at hm';exact⟨_,rfl⟩
        ·cases hkk:opd s.T k<;>rw[hkk]at hm'<;>simp[ew]at hm';exact⟨_,by simp[fg,hm'.1];rfl⟩
        ·simp only[ew]at hm'
         cases ha:arg (.st .nm) (opd s.T k)with
         |none=>rw[ha]at hm';cases hm'
         |some k0=>exact⟨_,by simp only[fg,ha];rfl⟩
       obtain⟨k0,hkv,hkV,hck,hst,hf⟩:=e4.find hT hrk hko hk hg;rw[hkv]at hck hst hf;have hgo:=MapKept.run_getObj_map (P:=P) e3
       have fin:∀(es':Array MapEntry)(clock':Nat),MapOK E U I m' es' clock'->(Instr.mapUpdate t (a.eval x) (a.eval k) (a.eval v)).run P E.w=.ok () {E.w with heap:=E.w.heap.setIfInBounds r (.map es' clock')}->
         o.wp P a E.w next Q:=by
        intro es' clock' hmo hrun;have hheap:=MapKept.heap_set (o':=.map es' clock') e3;have hpne:∀b o,E.pub b o->b≠r:=by intro b o hp e;subst e;obtain⟨v,hv⟩:=h.pubok b o hp;simp[World.cell?,e3]at hv
        have hxx:Ext E ⟨fun i=>if id=i then some (.obj r)else E.e i,{E.w with heap:=E.w.heap.setIfInBounds r (.map es' clock')},E.pub⟩:=by
         refine⟨fun i c hc=>?_,fun _ _ p=>p,fun b o hp=>ab (hheap.2 b (hpne b o hp)) o⟩;by_cases hid:id=i
         ·subst hid;rw[her]at hc;simp at hc;subst hc;exact⟨.obj r,by simp,CLe.refl _⟩
         ·exact⟨c,by simp[hid,hc],CLe.refl _⟩
        have hsz:(E.w.heap.setIfInBounds r (.map es' clock')).size=E.w.heap.size:=by simp
        have hh:=h.slot (k:=id) (c:=.obj r) (obj:=.map U I m') (dst:=o.dst) (val:=.undef) (v:=undef) hxx
         ⟨r,by simp,e2,es',clock',hheap.1,hmo.ext hxx⟩
         (fun i c' hi hc=>iu.of_blocks fun b o hb=>⟨hheap.2 b (fun e=>by
          subst e;exact hi (h.inj i id _ _ b o hc her hb rfl)),fun _ p=>p⟩)
         (fun i c' b o hi hc hb hb'=>absurd (h.inj i id _ _ b o hc her hb hb') hi)
         (fun b o hp=>by
          obtain⟨v,hv⟩:=h.pubok b o hp;exact⟨v,by rw[ab (hheap.2 b (hpne b o hp)) o,hv]⟩)
         (by
          have hold:∀b,b<F.w0.heap.size->(¬∀o,F.br b o)->b≠r:=by
           intro b hb hnb e;subst e;refine hnb (fun o=>?_);rcases e2 o with k|k
           ·omega
           ·exact k
          exact⟨h.frame.os,h.frame.tape,h.frame.output,by simpa using h.frame.size,
           fun b hb hnb=>(hheap.2 b (hold b hb (fun k=>hnb 0 (k 0)))).trans (h.frame.block b hb hnb),
           fun b o hb hnb=>(ab (hheap.2 b (hold b hb (fun k=>hnb (k o)))) o).trans (h.frame.cell b o hb hnb),
           fun b hb hnb=>⟨(aJ (hheap.2 b (hold b hb hnb))).trans (h.frame.kind b hb hnb).1,fun o=>(az (hheap.2 b (hold b hb hnb)) o).trans ((h.frame.kind b hb hnb).2 o)⟩,
           h.frame.pub,h.frame.old,fun b o hp=>(hxx.cell b o (h.frame.old b o hp)).trans (h.frame.pcell b o hp)⟩)
         (.undef undef) hd
        exact fU (w':={E.w with heap:=E.w.heap.setIfInBounds r (.map es' clock')}) (by rw[hex,hrun];rfl) (hn _ _ hh rfl (fun id' hid' r' hr' b hb=>by
         rw[hxe]at hid';cases hid';rw[her]at hr';cases hr';exact hheap.2 b hb) (fun i=>by
         show(if id=i then some (CObj.obj r)else E.e i)=E.e i;by_cases hid:id=i
         ·subst hid;simp[her]
         ·simp[hid]) (fun b o=>Iff.rfl))
       rcases hf with⟨h1,h2,h3,h4⟩|⟨j,en,v0,h1,h2,h3,h4,h5,h6⟩
       ·have hfk:=h1;have hmm:m'=m++[(k0,u)]:=by have:=h4 u;rw[hm']at this;exact wH this
        subst hmm;refine fin (es.push {key:=fv U k0,val:=a.eval v,born:=clock}) (clock+1) ⟨by simp[e4.size],fun i en x hen hx=>?_,?_,fun i en hen=>?_,fun i j en en' hen hen' hij=>?_⟩ ?_
        ·rw[y7]at hen;split at hen
         ·rename_i hi;simp at hen;subst hen;rw[w8 (by rw[<-e4.size];omega),hi,e4.size]at hx;simp at hx;subst hx;rw[<-hkv];exact⟨hkV,hvu⟩
         ·have hi:i<es.size:=by
           rcases w4 i es.size with k|k
           ·exact k
           ·rw[wW k]at hen;cases hen
          rw[w6 (by rw[<-e4.size];exact hi)]at hx;exact e4.ent i en x hen hx
        ·rw[List.map_append];refine List.nodup_append.2 ⟨e4.keys,by simp,fun y hy z hz=>?_⟩;obtain⟨x,hx,rfl⟩:=wz.1 hy;simp at hz;subst hz;exact h3 x hx
        ·rw[y7]at hen;split at hen
         ·simp at hen;subst hen;simp
         ·have:=e4.born i en hen;omega
        ·rw[y7]at hen hen';split at hen'
         ·rename_i hj;simp at hen';subst hen';split at hen
          ·omega
          ·exact e4.born i en hen
         ·split at hen
          ·rename_i hi
           have:j<es.size:=by
            rcases w4 j es.size with k|k
            ·exact k
            ·rw[wW k]at hen';cases hen'
           omega
          ·exact e4.rise i j en en' hen hen' hij
        ·rw[hxv,hkv];simp[Instr.mapUpdate,aj hd1,hgo,hck,hfk,MapKept.run_setObj_map _ e3]
       ·have hfk:=h1;have hmm:m'=m.set j (k0,u):=by have:=h6 u;rw[hm']at this;exact wH this
        subst hmm
        have hjl:j<es.size:=by
         rcases w4 j es.size with k|k
         ·exact k
         ·rw[wW k]at h2;cases h2
        have hkk:((m.set j (k0,u)).map (·.1))=m.map (·.1):=by
         rw[List.map_set];apply yj;intro i;rw[List.getElem?_set];by_cases hij:j=i
         ·subst hij;simp only[xP,wx,h3,wV,wR];rw[wh (by rw[<-e4.size];exact hjl)]
         ·simp[hij]
        refine fin (es.modify j fun e=>{e with key:=fv U k0,val:=a.eval v}) clock ⟨by simp[e4.size],fun i en' x hen hx=>?_,by rw[hkk];exact e4.keys,fun i en' hen=>?_,fun i i' en1 en2 hen hen' hij=>?_⟩ ?_
        ·rw[xe]at hen;rw[List.getElem?_set]at hx;by_cases hij:j=i
         ·subst hij;simp[h2]at hen;simp[<-e4.size,hjl]at hx;subst hen hx;rw[<-hkv];exact⟨hkV,hvu⟩
         ·simp[hij]at hen hx;exact e4.ent i en' x hen hx
        ·rw[xe]at hen;by_cases hij:j=i
         ·subst hij;simp[h2]at hen;subst hen;exact e4.born j en h2
         ·simp[hij]at hen;exact e4.born i en' hen
        ·have hb:∀(i:Nat)(e1:MapEntry),(es.modify j fun e=>{e with key:=fv U k0,val:=a.eval v})[i]?=some e1->∃e2,es[i]?=some e2/\e2.born=e1.born:=by
          intro i e1 h1;rw[xe]at h1;by_cases hij:j=i
          ·subst hij;simp[h2]at h1;subst h1;exact⟨en,h2,rfl⟩
          ·simp[hij]at h1;exact⟨e1,h1,rfl⟩
         obtain⟨f1,g1,g2⟩:=hb i en1 hen;obtain⟨f2,g3,g4⟩:=hb i' en2 hen';rw[<-g2,<-g4];exact e4.rise i i' f1 f2 g1 g3 hij
        ·rw[hxv,hkv];simp[Instr.mapUpdate,aj hd1,hgo,hck,hfk,h2,h5,hst,MapKept.run_setObj_map _ e3]
     ·cases he
    ·cases he
   ·cases he
  ·cases he
 ·cases he
theorem lV(hT:aG P C.tbl){t:Nat}{x k v:Operand}(hop:o.op=.mapUpdate t x k v∨o.op=.insert t x k v):b4 P C o:=
 fun _ _ _ _ _ _ _ h hd he _ hn=>kB hT hop h hd he fun a' E' hh _ _ _ _=>hn a' E' hh
theorem nV(I:Ty):∀(xs:List (den I))(q:Nat)(c:AV),(aH I xs)[q]?=some c->∃i x j,xs[i]?=some x/\(cells I x)[j]?=some c/\q=i *a8 I+j/\j<a8 I
 |[],q,c,h=>by simp[aH]at h
 |x::xs,q,c,h=>by
  simp only[aH,xR]at h;by_cases hq:q<(cells I x).length
  ·rw[w6 hq]at h;exact⟨0,x,q,rfl,h,by simp,by rw[<-aA I x];exact hq⟩
  ·rw[w8 (by omega)]at h;obtain⟨i,y,j,h1,h2,h3,h4⟩:=nV I xs _ c h;rw[aA]at h3 hq;exact⟨i+1,y,j,by simpa using h1,h2,by rw[wD];omega,h4⟩
theorem ri{k:IntKind}{n:Int}{w:World}:(Go.asInt (.int k n)).run P w=.ok n w:=by simp[Go.asInt,asIntOf]
theorem gR{t e:Nat}{i:TypeInfo}{z:Value}{a b:Int}{w:World}(hu:P.underlying t=some (.slice e))(hi:P.info? e=some i)(hz:i.zero=some z)
 (h0:0<=a)(h1:a<=b)(h2:b *i.bytes<=140737488355328)(hb:0<i.bytes) :
  ∃cs:Array Value,(Instr.makeSlice t (.int .i64 a) (.int .i64 b)).run P w=.ok (.slice (some ⟨w.heap.size,0,none⟩) a.toNat b.toNat) (w.alloc (.cells cs e))/\
   cs.size=b.toNat *i.size/\∀q,q<cs.size->cs[q]?=some (z.cells[q%z.cells.size]!):=by
 have hbb:b<=140737488355328:=by have:b *1<=b *i.bytes:=Int.mul_le_mul_of_nonneg_left (by omega) (by omega);omega
 have w1:IntKind.i64.wrap a=a:=ej _ _ (by simp[IntKind.min,IntKind.signed,IntKind.bits];omega) (by simp[IntKind.max,IntKind.signed,IntKind.bits];omega);have w2:IntKind.i64.wrap b=b:=ej _ _ (by simp[IntKind.min,IntKind.signed,IntKind.bits];omega) (by simp[IntKind.max,IntKind.signed,IntKind.bits];omega);have hmul:(i.bytes:Int) *b=b *i.bytes:=Int.mul_comm _ _;have c1:¬(2 ^ 48<(i.bytes:Int) *b):=by rw[hmul];omega
 have c2:¬(b<0):=by omega
 have c3:¬(a<0):=by omega
 have c4:¬(b<a):=by omega
 have hask:(askRoom (b.toNat *i.bytes)).run P w=.ok () w:=by
  have:¬(140737488355328<b.toNat *i.bytes):=by
   have e:((b.toNat *i.bytes:Nat):Int)=b *i.bytes:=by rw[Int.natCast_mul,Int.toNat_of_nonneg (by omega)]
   omega
  simp[askRoom,roomBytes,this]
 refine⟨(Array.range (b.toNat *i.size)).map fun q=>(if b.toNat *i.size=0 then #[]else z.cells)[q%(if b.toNat *i.size=0 then #[]else z.cells).size]!,?_,by simp,fun q hq=>?_⟩
 ·simp only[Instr.makeSlice,w7,aj hu,vY,ri,km hi,w1,w2];simp only[gt_iff_lt,c1,c2,c3,c4,yS,Bool.or_false,Bool.or_self,wX,wA,hask,vY,w7,wy,bF hi];by_cases hn:b.toNat *i.size=0
  ·simp only[hn,wR,wy,vY,newRow,w7];rfl
  ·simp only[hn,wA,w7,cG hi hz,wy,vY,newRow];rfl
 ·have hq':q<b.toNat *i.size:=by simpa using hq
  have hn:¬b.toNat *i.size=0:=by omega
  simp[hq',hn]
theorem mU(hT:aG P C.tbl){t:Nat}{x y:Operand}(hop:o.op=.makeSlice t x y):b4 P C o:=by
 intro F s a E eff next Q h hd he ho hn
 simp only[ah,hop]at he;split at he
 ·rename_i d e sz by' z0 ty m n hdst hr hxe hye
  have hx:=aK h x;have hy:=aK h y;rw[hxe]at hx;rw[hye]at hy;obtain⟨hx1,_⟩:=hx.int_inv;obtain⟨hy1,_⟩:=hy.int_inv;split at he
  ·rename_i ti size bytes zero I hre hB;split at he
   ·rename_i z hz;obtain⟨dd,hd1,hd2⟩:=an hT hr rfl;cases dd<;>simp[ar]at hd2;subst hd2;obtain⟨i,zv,i1,i4,zV,zvl⟩:=ph hT hre rfl hz E;obtain⟨i',zv',j1,j2,j3,j4,_⟩:=(hT _ _ hre).info;rw[i1]at j1;simp at j1;subst j1;have hw:a8 I=size:=((hT _ _ hre).ty I rfl).1;have hpos:=(hT _ _ hre).pos rfl;have hbpos:0<i.bytes:=by rw[j3];exact(hT _ _ hre).bps rfl
    have hsz:i.size=a8 I:=by rw[j2,hw]
    have hzs:zv.cells.size=a8 I:=by have:=zvl.1;rw[aA]at this;simpa using this.symm
    have hmax:0<=n->n *bytes<=140737488355328->n.toNat<=aS:=by intro h0 h1;have:n *1<=n *bytes:=Int.mul_le_mul_of_nonneg_left (by have:=(hT _ _ hre).bps rfl;simp at this;omega) h0;unfold aS;omega
    split at he
    ·rename_i kk;simp only[Xs]at he;subst he;obtain⟨h0,h1⟩:=ho
     have hm0:m=0:=by
      have:opd s.T (.const (.int kk (.ofNat 0)))=.int .i64 m:=hxe;simp only[opd,iq,aW]at this;split at this
      ·simp at this;exact this.2.symm
      ·cases this
     subst hm0;obtain⟨cs,r1,r2,r3⟩:=gR (P:=P) (w:=E.w) hd1 i1 i4 (Int.le_refl 0) h0 (by rw[j3];exact h1) hbpos
     have hh:Holds F ⟨aZ s.T o.dst (.lst I [] (some d)),b7 s.B [(d,.tail I 0)]⟩ (a.put o.dst (.slice (some ⟨E.w.heap.size,0,none⟩) 0 n.toNat))
       ⟨fun i=>if d=i then some (.tail 0 (some E.w.heap.size) n.toNat)else E.e i,E.w.alloc (.cells cs e),fun b o=>E.pub b o∨(b=E.w.heap.size/\False)⟩:=by
      refine h.alloc (p:=fun _=>False) (Or.inl (h.dom d hB)) (fun b o hb=>by simp[occ]at hb;exact hb.symm) (fun hx=>?_) (fun _ hf=>hf.elim) (fun hx=>?_) hd
      ·refine⟨some E.w.heap.size,n.toNat,by simp,wP _,hmax h0 h1,by simp,fun b hb=>?_⟩;simp at hb;subst hb;refine⟨fun _=>Or.inl h.frame.size,cs,e,(0,0),b6 _ _,rfl,by rw[r2,hsz];exact wj _,fun o _ hp=>?_⟩;rcases hp with hp|⟨_,hp⟩
       ·have:=h.cell_lt hp;omega
       ·exact hp
      ·refine .lst I [] (some d) _ 0 n.toNat (fun _ _=>undef) (wP _) (hmax h0 h1) ?_ (fun i x hx=>by simp at hx) (fun i x hx=>by simp at hx);intro id hid;simp at hid;subst hid;exact⟨0,some E.w.heap.size,n.toNat,by simp,wj _,fun _=>rfl⟩
     exact ai (by simp only[execOp,hop,hx1,hy1,w7,r1,vY,wy];rfl) (hn _ _ hh)
    ·simp only[Xs]at he;subst he;obtain⟨h0,h1,h2⟩:=ho;obtain⟨cs,r1,r2,r3⟩:=gR (P:=P) (w:=E.w) hd1 i1 i4 h0 h1 (by rw[j3];exact h2) hbpos;have hmn:m.toNat<=n.toNat:=by omega
     have hmulle:m.toNat *a8 I<=n.toNat *a8 I:=wM _ hmn
     have hh:Holds F ⟨aZ s.T o.dst (.arr d m.toNat size),b7 s.B [(d,.box (.row I (List.replicate m.toNat z)))]⟩ (a.put o.dst (.slice (some ⟨E.w.heap.size,0,none⟩) m.toNat n.toNat))
       ⟨fun i=>if d=i then some (.box E.w.heap.size 0 (m.toNat *a8 I))else E.e i,E.w.alloc (.cells cs e),fun b o=>E.pub b o∨(b=E.w.heap.size/\False)⟩:=by
      refine h.alloc (p:=fun _=>False) (Or.inl (h.dom d hB)) (fun b o hb=>hb.1) (fun hx=>?_) (fun _ hf=>hf.elim) (fun hx=>?_) hd
      ·refine⟨E.w.heap.size,0,by simp[a7,aQ],fun q c hc=>?_⟩;obtain⟨i2,x2,j,q1,q2,q3,q4⟩:=nV I _ q c hc;have hxz:x2=z:=by have:=wq q1;exact(List.mem_replicate.1 this).2
       subst hxz
       have hi2:i2<m.toNat:=by
        rcases w4 i2 m.toNat with k|k
        ·exact k
        ·rw[vX (by simpa using k)]at q1;cases q1
       have hqlt:q<cs.size:=by have:(i2+1) *a8 I<=m.toNat *a8 I:=wM _ hi2;rw[wD]at this;rw[r2,hsz,q3];omega
       have hmod:q%a8 I=j:=by rw[q3,xX,Nat.mul_add_mod,Nat.mod_eq_of_lt q4]
       have hcells:(E.w.alloc (.cells cs e)).heap[E.w.heap.size]?=some (.cells cs e (0,0)):=b6 _ _;refine⟨Or.inl h.frame.size,fun hp=>?_,cb hcells _,zv.cells[j]!,?_,?_⟩
       ·rcases hp with hp|⟨_,hp⟩
        ·have:=h.cell_lt hp;omega
        ·exact hp
       ·rw[al hcells,xf,r3 q hqlt,hzs,hmod]
       ·have hj:j<zv.cells.toList.length:=by simp[hzs,q4]
        refine V.ext hx (zvl.2 j c _ q2 ?_);rw[vV hj];simp[hzs,q4]
      ·refine .arr d m.toNat size E.w.heap.size (m.toNat *a8 I) n.toNat _ (by simp) (Nat.le_of_eq (xq (m.toNat * ·) hw.symm)) hmn (hmax (by omega) h2) (.inl rfl)
     exact ai (by simp only[execOp,hop,hx1,hy1,w7,r1,vY,wy]) (hn _ _ hh)
   ·cases he
  ·cases he
 ·cases he
theorem eP{w:World}:∀(xs:List Int)(b:List UInt8),xs.foldl (fun(r:ByteArray) n=>r.push (UInt8.ofNat n.toNat)) ⟨b.toArray⟩=⟨(b++fe xs).toArray⟩
 |[],b=>by simp[fe]
 |n::r,b=>by
  rw[yz];have e:(⟨b.toArray⟩:ByteArray).push (UInt8.ofNat n.toNat)=⟨(b++[UInt8.ofNat n.toNat]).toArray⟩:=by simp[ByteArray.push]
  rw[e,eP (w:=w) r];simp[fe]
theorem Holds.row{F:Fr}{s:AS}{a:Act}{E:Om}{w':World}{p:Nat->Prop}{dst:Option Nat}{val:AV}{v:Value}
 (h:Holds F s a E)(os:w'.os=E.w.os)(tape:w'.tape=E.w.tape)(output:w'.output=E.w.output)(size:E.w.heap.size<=w'.heap.size)(old:∀b,b<E.w.heap.size->w'.heap[b]?=E.w.heap[b]?)
 (hcell:∀o,p o->∃v,w'.cell? ⟨E.w.heap.size,o,none⟩=some v)
 (hv:Ext E ⟨E.e,w',fun b o=>E.pub b o∨(b=E.w.heap.size/\p o)⟩->V ⟨E.e,w',fun b o=>E.pub b o∨(b=E.w.heap.size/\p o)⟩ val v)(hd:∀d,dst=some d->d<F.n) :
  Holds F ⟨aZ s.T dst val,s.B⟩ (a.put dst v) ⟨E.e,w',fun b o=>E.pub b o∨(b=E.w.heap.size/\p o)⟩:=by
 have hx:Ext E ⟨E.e,w',fun b o=>E.pub b o∨(b=E.w.heap.size/\p o)⟩:=⟨fun _ c hc=>⟨c,hc,CLe.refl c⟩,fun _ _ p=>.inl p,fun b o hp=>ab (old b (h.cell_lt hp)) o⟩;refine h.step hx (hv hx) hd (fun id o ho=>(h.slots id o ho).keep hx rfl (fun c hc=>iu.of_blocks fun b o hb=>?_)) h.dom h.inj (fun b o hp=>?_) ?_
 ·have hlt:=h.blk hc hb;exact⟨old b hlt,fun o ho=>ho.resolve_right (fun e=>by omega)⟩
 ·rcases hp with hp|⟨rfl,hp⟩
  ·obtain⟨v,hv⟩:=h.pubok b o hp;exact⟨v,by rw[ab (old b (h.cell_lt hp)),hv]⟩
  ·exact hcell o hp
 ·have hsz:=h.frame.size;refine⟨os.trans h.frame.os,tape.trans h.frame.tape,output.trans h.frame.output,xB hsz size,fun b hb hnb=>(old b (by omega)).trans (h.frame.block b hb hnb),fun b o hb hnb=>(ab (old b (by omega)) o).trans (h.frame.cell b o hb hnb),fun b hb=>?_,fun b o hp=>?_,fun b o hp=>Or.inl (h.frame.old b o hp),fun b o hp=>(hx.cell b o (h.frame.old b o hp)).trans (h.frame.pcell b o hp)⟩
  ·intro hnb;obtain⟨k1,k2⟩:=h.frame.kind b hb hnb;exact⟨(aJ (old b (by omega))).trans k1,fun o=>(az (old b (by omega)) o).trans (k2 o)⟩
  ·rcases hp with hp|⟨rfl,hp⟩
   ·exact h.frame.pub b o hp
   ·exact Or.inr (Or.inl h.frame.size)
theorem pk(hT:aG P C.tbl){t t':Nat}{x:Operand}(hop:o.op=.convert t t' x):b4 P C o:=by
 intro F s a E eff next Q h hd he ho hn
 simp only[ah,hop]at he;have hx:=aK h x;split at he
 ·rename_i r k sz by' z ty k' n h1 h2 hn'
  rw[hn']at hx;simp only[Xs]at he;subst he;obtain⟨d,hd1,hd2⟩:=an hT h2 rfl;cases d<;>simp[ar]at hd2;subst hd2;obtain⟨d',hd3,hd4⟩:=(hT _ _ h1).desc;obtain⟨h3,h4⟩:=ho;refine ai (v:=.int k n) ?_ (hn _ _ (h.pure (.int k _ h3 h4) hd));simp[execOp,hop,hx.int_inv.1,convert,aj hd1,aj hd3,Conv.intToInt,ej k _ h3 h4]
 ·rename_i r sz by' z ty s' h1 h2 hn'
  rw[hn']at hx;simp only[Xs]at he;subst he;obtain⟨d,hd1,hd2⟩:=an hT h2 rfl;cases d<;>simp[ar]at hd2;obtain⟨d',hd3,hd4⟩:=(hT _ _ h1).desc;refine ai ?_ (hn _ _ (h.pure hx hd));simp[execOp,hop,hx.str_inv.1,convert,aj hd1,aj hd3]
 ·unfold uI at he;split at he
  ·rename_i e sz1 by1 z1 ty1 sz2 by2 z2 ty2 xs o' h1 h2 hn';rw[hn']at hx;split at he
   ·rename_i sz3 by3 z3 h3;simp only[Xs]at he;subst he;obtain⟨d,hd1,hd2⟩:=an hT h1 rfl;cases d<;>simp[ar]at hd2;subst hd2;obtain⟨d',hd3,hd4⟩:=an hT h2 rfl;cases d'<;>simp[ar]at hd4;obtain⟨d2,hd5,hd6⟩:=an hT h3 rfl;cases d2<;>simp[ar]at hd6;subst hd6
    have hlen:xs.length<=aS:=by
     rcases hx.lst_inv with⟨h1,hv,_⟩|⟨h1,_,a0,hv⟩|⟨b,off,cap,vals,hv,h1,h2,h3,h4,h5⟩
     ·rw[h1];exact wP _
     ·rw[h1];exact wP _
     ·omega
    have hval:V E (.str (fe xs)) (.string ⟨(fe xs).toArray⟩):=.str _ (by simpa[fe]using hlen);refine ai (v:=.string ⟨(fe xs).toArray⟩) ?_ (hn _ _ (h.pure hval hd));rcases hx.src with⟨hxv,hx0⟩|⟨ya,yc,us,hxv,hxl,hxvl,hxc,hx1⟩
    ·simp only[execOp,hop,hxv,w7,run_convert_bytes_string E.w t t' e _ _ _ hd1 hd5 hd3];rw[hx0];simp[Conv.bytesToString,fe,wy];rfl
    ·have hus:us=xs.map (Value.int .u8):=by
      have e1:aH (.int .u8) xs=xs.map (AV.int .u8):=by unfold aH;rw[yB];rfl
      rw[e1]at hxvl;obtain⟨l1,l2⟩:=hxvl;refine yj fun j=>?_;rcases w4 j xs.length with hj|hj
      ·have hj':j<us.length:=by rw[<-l1];simpa using hj
       have:=l2 j (.int .u8 xs[j]) us[j] (by simp[hj]) (by simp[hj']);rw[vV hj',this.int_inv.1];simp[hj]
      ·rw[vX (by rw[<-l1];simpa using hj),vX (by simpa using hj)]
     have hld:(loadCells ya xs.length).run P E.w=.ok (xs.map (Value.int .u8)).toArray E.w:=by have:=run_loadCells_list (P:=P) E.w ya us hxc;rw[hus]at this;simpa using this
     have hr:=run_bytesToString (P:=P) E.w ya xs.length yc xs hld;have e0:=eP (w:=E.w) xs [];simp only[wZ]at e0;have e2:(ByteArray.empty:ByteArray)=⟨([]:List UInt8).toArray⟩:=rfl;rw[e2,e0]at hr;simp only[execOp,hop,hxv,w7,run_convert_bytes_string E.w t t' e _ _ _ hd1 hd5 hd3,hr,vY,wy]
   ·cases he
  ·rename_i sz1 by1 z1 ty1 e sz2 by2 z2 ty2 s' h1 h2 hn';rw[hn']at hx;split at he
   ·rename_i sz3 by3 z3 h3;simp only[Xs]at he;subst he;obtain⟨d,hd1,hd2⟩:=an hT h1 rfl;cases d<;>simp[ar]at hd2;obtain⟨d',hd3,hd4⟩:=an hT h2 rfl;cases d'<;>simp[ar]at hd4;subst hd4;obtain⟨d2,hd5,hd6⟩:=an hT h3 rfl;cases d2<;>simp[ar]at hd6;subst hd6;obtain⟨hxv,hlen⟩:=hx.str_inv;have hr:=Lib.run_convert_string_bytes (P:=P) E.w t t' e ⟨s'.toArray⟩ hd1 hd3 hd5;have hcap:=dt E.w (⟨s'.toArray⟩:ByteArray).size 0 e (by simpa[ByteArray.size]using hlen);have hsz:(⟨s'.toArray⟩:ByteArray).size=s'.length:=by simp[ByteArray.size]
    have hcellat:∀j,j<s'.length->(Lib.bytesWorld E.w e ⟨s'.toArray⟩).cell? ⟨E.w.heap.size,j,none⟩=some (.int .u8 (s'.getD j 0).toNat):=by intro j hj;have:=Lib.bytesWorld_cell E.w e ⟨s'.toArray⟩ j (by rw[hsz];exact hj);simpa using this
    have hh:=h.row (w':=Lib.bytesWorld E.w e ⟨s'.toArray⟩) (p:=fun o=>o<s'.length) (dst:=o.dst) (val:=.lst (.int .u8) (bM s') none) (v:=.slice (some ⟨E.w.heap.size,0,none⟩) s'.length (grownCap E.w s'.length 0 e))
     rfl rfl rfl (by rw[Lib.bytesWorld_size];omega) (fun b hb=>Lib.bytesWorld_at_old E.w e _ b hb) (fun o ho=>⟨_,hcellat o ho⟩) (fun hx=>by
      have hb1:(bM s').length=s'.length:=by simp[bM]
      have:=kx (E:=⟨E.e,Lib.bytesWorld E.w e ⟨s'.toArray⟩,fun b o=>E.pub b o∨(b=E.w.heap.size/\o<s'.length)⟩) (I:=.int .u8) (xs:=bM s') (o:=none) (cap:=grownCap E.w s'.length 0 e) (vs:=s'.map fun b=>Value.int .u8 b.toNat)
       (Lib.bytesWorld_at_new E.w e ⟨s'.toArray⟩)
       (by
        have e1:(bM s').length *a8 (.int .u8)=s'.length:=by rw[hb1];exact yN _
        rw[e1];unfold Lib.bytesCells;simp)
       (qt _ s') (by rw[hb1];rw[hsz]at hcap;exact hcap.1) (by rw[hsz]at hcap;exact hcap.2) (fun i hi=>Or.inr ⟨rfl,by rw[hb1]at hi;simpa[a8]using hi⟩) (fun id hid=>by cases hid)
      rw[hb1]at this;exact this) hd
    refine ai (v:=.slice (some ⟨E.w.heap.size,0,none⟩) s'.length (grownCap E.w s'.length 0 e)) (w':=Lib.bytesWorld E.w e ⟨s'.toArray⟩) ?_ (hn _ _ hh);rw[hsz]at hr;simp only[execOp,hop,hxv,w7,hr,vY,wy]
   ·cases he
  ·cases he
end
end Go.AL
end
noncomputable section
namespace Go.AL
variable [Tabs]
section
variable {fp:Nat->Nat->Option (Nat×Nat)} {fi ft:Nat->Option Nat}
theorem fw:∀{cs ds:List AV},mapVs fp fi ft cs=some ds->cs.length=ds.length/\∀(j:Nat)(c d:AV),cs[j]?=some c->ds[j]?=some d->mapV fp fi ft c=some d
 |[],ds,h=>by simp[mapVs]at h;subst h;exact⟨rfl,fun j c d hc=>by simp at hc⟩
 |a::r,ds,h=>by
  simp only[mapVs]at h;split at h
  ·rename_i a' r' ha hr;simp at h;subst h;obtain⟨h1,h2⟩:=fw hr;refine⟨by simp[h1],fun j c d hc hd=>?_⟩
   cases j with|zero=>simp at hc hd;subst hc hd;exact ha|succ j=>exact h2 j c d (by simpa using hc) (by simpa using hd)
  ·cases h
theorem dX(I:Ty)(x:den I):∀c∈cells I x,mapV fp fi ft c=some c:=by
 cases I with
 |st n=>cases n<;>simp[cells,bC,dE,cr,cK,cM,cN,bn,cO,eC,dF,dG,dH,eD,eE,dQ,dI,gx,cP,eF,dA,eG,eH,dJ,mapV]
 |_=>simp[cells,mapV]
theorem rl(I:Ty)(xs:List (den I)):∀c∈aH I xs,mapV fp fi ft c=some c:=by intro c hc;simp only[aH,xj]at hc;obtain⟨x,_,hx⟩:=hc;exact dX I x c hx
theorem dY{c c':AV}(h:mapV fp fi ft c=some c'):(a7 c).length=(a7 c').length/\
  ∀(j:Nat)(a b:AV),(a7 c)[j]?=some a->(a7 c')[j]?=some b->mapV fp fi ft a=some b:=by
 have one:∀{a b:AV},a7 a=[a]->a7 b=[b]->mapV fp fi ft a=some b->(a7 a).length=(a7 b).length/\
   ∀(j:Nat)(x y:AV),(a7 a)[j]?=some x->(a7 b)[j]?=some y->mapV fp fi ft x=some y:=by
  intro a b ha hb h;rw[ha,hb];refine⟨rfl,fun j x y hx hy=>?_⟩
  cases j with|zero=>simp at hx hy;subst hx hy;exact h|succ j=>simp at hx
 cases c with
 |agg cs=>
  simp only[mapV]at h;split at h
  ·rename_i ds hds;simp at h;subst h;exact fw hds
  ·cases h
 |st n x=>simp only[mapV,Xs]at h;subst h;exact⟨rfl,fun j a b ha hb=>by rw[ha]at hb;simp at hb;subst hb;exact dX (.st n) x a (wq ha)⟩
 |row I xs=>simp only[mapV,Xs]at h;subst h;exact⟨rfl,fun j a b ha hb=>by rw[ha]at hb;simp at hb;subst hb;exact rl I xs a (wq ha)⟩
 |ptr i o=>
  have h0:=h;simp only[mapV]at h;split at h
  ·simp at h;subst h;exact one rfl rfl h0
  ·cases h
 |lst I xs o=>
  have h0:=h;simp only[mapV]at h;split at h
  ·simp at h;subst h;exact one rfl rfl h0
  ·simp at h;subst h;exact one rfl rfl h0
 |cptr c=>
  have h0:=h;simp only[mapV]at h;split at h
  ·simp at h;subst h;exact one rfl rfl h0
  ·cases h
 |tup cs=>
  have h0:=h;simp only[mapV]at h;split at h
  ·simp at h;subst h;exact one rfl rfl h0
  ·cases h
 |fn f cs=>
  have h0:=h;simp only[mapV]at h;split at h
  ·simp at h;subst h;exact one rfl rfl h0
  ·cases h
 |arr i n w=>
  have h0:=h;simp only[mapV]at h;split at h
  ·simp at h;subst h;exact one rfl rfl h0
  ·cases h
 |aptr i n w o=>
  have h0:=h;simp only[mapV]at h;split at h
  ·simp at h;subst h;exact one rfl rfl h0
  ·cases h
 |map i=>
  have h0:=h;simp only[mapV]at h;split at h
  ·simp at h;subst h;exact one rfl rfl h0
  ·cases h
 |bptr i=>
  have h0:=h;simp only[mapV]at h;split at h
  ·simp at h;subst h;exact one rfl rfl h0
  ·cases h
 |iface t a=>
  have h0:=h;simp only[mapV]at h;split at h
  ·simp at h;subst h;exact one rfl rfl h0
  ·cases h
 |lstp I xs k=>simp[mapV]at h
 |tptr I n k=>simp[mapV]at h
 |_=>simp only[mapV,Xs]at h;subst h;exact one rfl rfl (by simp[mapV])
structure Names(fp:Nat->Nat->Option (Nat×Nat))(fi ft:Nat->Option Nat)(e e':Nat->Option CObj):Prop where
 p:∀i o i' o',fp i o=some (i',o')->∀b p l,e i=some (.box b p l)->∃p' l',e' i'=some (.box b p' l')/\p+o=p'+o'
 i:∀i i',fi i=some i'->∀c,e i=some c->e' i'=some c
 t:∀i i',ft i=some i'->∀c,e i=some c->e' i'=some c
theorem V.mapV{E:Om}{e':Nat->Option CObj}(hn:Names fp fi ft E.e e'){a:AV}{v:Value}(h:V E a v):∀{a':AV},AL.mapV fp fi ft a=some a'->V ⟨e',E.w,E.pub⟩ a' v:=by
 have tok:∀{o:Option Nat} {n:Nat} {v:Value},di E o n v->di ⟨e',E.w,E.pub⟩ (o.bind ft) n v:=by
  intro o n v ht id hid
  cases o with
  |none=>simp at hid
  |some k=>obtain⟨m,base,cap,h1,h2,h3⟩:=ht k rfl;exact⟨m,base,cap,hn.t k id hid _ h1,h2,h3⟩
 have many:∀{cs ds:List AV} {vs:List Value},cs.length=vs.length->(∀(j:Nat)(c:AV)(v:Value),cs[j]?=some c->vs[j]?=some v->∀{a':AV},AL.mapV fp fi ft c=some a'->V ⟨e',E.w,E.pub⟩ a' v)->
   mapVs fp fi ft cs=some ds->ds.length=vs.length/\∀(j:Nat)(c:AV)(v:Value),ds[j]?=some c->vs[j]?=some v->V ⟨e',E.w,E.pub⟩ c v:=by
  intro cs ds vs hl ih hm;obtain⟨m1,m2⟩:=fw hm;refine⟨by omega,fun j d v hd hv=>?_⟩
  have hj:j<cs.length:=by
   rw[m1];rcases w4 j ds.length with k|k
   ·exact k
   ·rw[vX k]at hd;cases hd
  exact ih j _ v (vV hj) hv (m2 j _ d (vV hj) hd)
 induction h with
 |undef v=>intro a' h;simp[AL.mapV]at h;subst h;exact .undef v
 |int k n h1 h2=>intro a' h;simp[AL.mapV]at h;subst h;exact .int k n h1 h2
 |bool b=>intro a' h;simp[AL.mapV]at h;subst h;exact .bool b
 |str s h1=>intro a' h;simp[AL.mapV]at h;subst h;exact .str s h1
 |lstNil I o ht=>
  intro a' h
  cases o with|none=>simp[AL.mapV]at h;subst h;exact .lstNil I none (fun id hid=>by simp at hid)|some k=>simp[AL.mapV]at h;subst h;exact .lstNil I _ (tok ht)
 |lstVoid I a=>intro a' h;simp[AL.mapV]at h;subst h;exact .lstVoid I a
 |lst I xs o b off cap vals h1 h2 h3 h4 h5 ih=>
  intro a' h
  have hc:∀(i:Nat)(x:den I),xs[i]?=some x->∀(j:Nat)(c:AV),(cells I x)[j]?=some c->V ⟨e',E.w,E.pub⟩ c (vals i j):=
   fun i x hx j c hcj=>ih i x hx j c hcj (dX I x c (wq hcj))
  cases o with|none=>simp[AL.mapV]at h;subst h;exact .lst I xs none b off cap vals h1 h2 (fun id hid=>by simp at hid) h4 hc|some k=>simp[AL.mapV]at h;subst h;exact .lst I xs _ b off cap vals h1 h2 (tok h3) h4 hc
 |nils=>intro a' h;simp[AL.mapV]at h;subst h;exact .nils
 |ptr id off b o len he=>
  intro a' h;simp only[AL.mapV]at h;split at h
  ·rename_i j p hj;simp at h;subst h;obtain⟨p',l',q1,q2⟩:=hn.p _ _ _ _ hj _ _ _ he;rw[q2];exact .ptr j p b p' l' q1
  ·cases h
 |cptr c b off vals h1 h2 ih=>
  intro a' h;simp only[AL.mapV]at h;split at h
  ·rename_i d hd;simp at h;subst h;obtain⟨m1,m2⟩:=dY hd
   have hj:∀(j:Nat)(d':AV),(a7 d)[j]?=some d'->∃c',(a7 c)[j]?=some c':=by
    intro j d' hd'
    have:j<(a7 c).length:=by
     rw[m1];rcases w4 j (a7 d).length with k|k
     ·exact k
     ·rw[vX k]at hd';cases hd'
    exact⟨_,vV this⟩
   refine .cptr d b off vals (fun j d' hd'=>?_) (fun j d' hd'=>?_)
   ·obtain⟨c',hc'⟩:=hj j d' hd';exact h1 j c' hc'
   ·obtain⟨c',hc'⟩:=hj j d' hd';exact ih j c' hc' (m2 j c' d' hc' hd')
  ·cases h
 |nilp=>intro a' h;simp[AL.mapV]at h;subst h;exact .nilp
 |ptNone n=>intro a' h;simp[AL.mapV]at h;subst h;exact .ptNone n
 |ptSome n x v _ ih=>intro a' h;simp[AL.mapV]at h;subst h;exact .ptSome n x v (ih (by simp[AL.mapV]))
 |arr id n w b len cap a he h1 h2 h3 h4=>
  intro a' h;simp only[AL.mapV]at h;split at h
  ·rename_i j hj;simp at h;subst h;exact .arr j n w b len cap a (hn.i _ _ hj _ he) h1 h2 h3 h4
  ·cases h
 |aptr id i w off b o len he=>
  intro a' h;simp only[AL.mapV]at h;split at h
  ·rename_i j hj;simp at h;subst h;exact .aptr j i w off b o len (hn.i _ _ hj _ he)
  ·cases h
 |map id r he=>
  intro a' h;simp only[AL.mapV]at h;split at h
  ·rename_i j hj;simp at h;subst h;exact .map j r (hn.i _ _ hj _ he)
  ·cases h
 |bptr id b g he=>
  intro a' h;simp only[AL.mapV]at h;split at h
  ·rename_i j hj;simp at h;subst h;exact .bptr j b g (hn.i _ _ hj _ he)
  ·cases h
 |lstp I xs k b off cap vals h1 h2 h3 h4 h5 _=>intro a' h;simp[AL.mapV]at h
 |tptr I n k p hp=>intro a' h;simp[AL.mapV]at h
 |iface t a v _ ih=>
  intro a' h;simp only[AL.mapV]at h;split at h
  ·rename_i d hd;simp at h;subst h;exact .iface t d v (ih hd)
  ·cases h
 |nilif=>intro a' h;simp[AL.mapV]at h;subst h;exact .nilif
 |nilm=>intro a' h;simp[AL.mapV]at h;subst h;exact .nilm
 |st n x v _ ih=>
  intro a' h;simp only[AL.mapV,Xs]at h;subst h;refine .st n x v (ih ?_)
  have:∀cs:List AV,(∀c∈cs,AL.mapV fp fi ft c=some c)->mapVs fp fi ft cs=some cs:=by
   intro cs
   induction cs with
   |nil=>intro _;rfl
   |cons c r ih=>intro hc;simp only[mapVs,hc c (by simp),ih (fun d hd=>hc d (by simp[hd]))]
  simp only[AL.mapV,this _ (dX (.st n) x)]
 |agg cs vs hl _ ih=>
  intro a' h;simp only[AL.mapV]at h;split at h
  ·rename_i ds hds;simp at h;subst h;obtain⟨q1,q2⟩:=many hl ih hds;exact .agg ds vs q1 q2
  ·cases h
 |tup cs vs hl _ ih=>
  intro a' h;simp only[AL.mapV]at h;split at h
  ·rename_i ds hds;simp at h;subst h;obtain⟨q1,q2⟩:=many hl ih hds;exact .tup ds vs q1 q2
  ·cases h
 |fn f cs vs hl _ ih=>
  intro a' h;simp only[AL.mapV]at h;split at h
  ·rename_i ds hds;simp at h;subst h;obtain⟨q1,q2⟩:=many hl ih hds;exact .fn f ds vs q1 q2
  ·cases h
theorem VL.mapVs{E:Om}{e':Nat->Option CObj}(hn:Names fp fi ft E.e e'){cs ds:List AV}{vs:List Value}(h:VL E cs vs)(hm:AL.mapVs fp fi ft cs=some ds):VL ⟨e',E.w,E.pub⟩ ds vs:=by
 obtain⟨m1,m2⟩:=fw hm;refine⟨by rw[<-m1,h.1],fun j d v hd hv=>?_⟩
 have hj:j<cs.length:=by
  rw[m1];rcases w4 j ds.length with k|k
  ·exact k
  ·rw[vX k]at hd;cases hd
 exact(h.2 j _ v (vV hj) hv).mapV hn (m2 j _ d (vV hj) hd)
end
theorem V.data{E:Om}{e':Nat->Option CObj}{I:Ty}{x:den I}{v:Value}(h:V E (inj I x) v):V ⟨e',E.w,E.pub⟩ (inj I x) v:=by have hn:Names (fun _ _=>none) (fun _=>none) (fun _=>none) E.e e':=⟨fun _ _ _ _ h=>by simp at h,fun _ _ h=>by simp at h,fun _ _ h=>by simp at h⟩;refine h.mapV hn ?_;cases I<;>simp[inj,AL.mapV]
theorem MapOK.data{E:Om}{e':Nat->Option CObj}{U I:Ty}{m:List (den U×den I)}{es:Array MapEntry}{clock:Nat}(h:MapOK E U I m es clock):MapOK ⟨e',E.w,E.pub⟩ U I m es clock:=
 ⟨h.size,fun i e x he hx=>⟨(h.ent i e x he hx).1.data,(h.ent i e x he hx).2.data⟩,h.keys,h.born,h.rise⟩
def fL(w:World)(pub:Nat->Nat->Prop):Prop:=∀b o,pub b o->∃v,w.cell? ⟨b,o,none⟩=some v
def Inj(e:Nat->Option CObj):Prop:=∀i j c d b o,e i=some c->e j=some d->occ c b o->occ d b o->i=j
structure After(w:World)(pub:Nat->Nat->Prop)(e:Nat->Option CObj)(B:Nat->Option SObj)(w':World)(pub':Nat->Nat->Prop)(e':Nat->Option CObj):Prop where
 os:w'.os=w.os
 tape:w'.tape=w.tape
 output:w'.output=w.output
 size:w.heap.size<=w'.heap.size
 block:∀b,b<w.heap.size->(∀o,¬gL e b o)->w'.heap[b]?=w.heap[b]?
 cell:∀b o,b<w.heap.size->¬gL e b o->w'.cell? ⟨b,o,none⟩=w.cell? ⟨b,o,none⟩
 kind:∀b,b<w.heap.size->¬(∀o,gL e b o)->w'.shape? b=w.shape? b/\∀o,w'.frozen? ⟨b,o,none⟩=w.frozen? ⟨b,o,none⟩
 ext:Ext ⟨e,w,pub⟩ ⟨e',w',pub'⟩
 fresh:∀b o,pub' b o->pub b o∨w.heap.size<=b∨gL e b o
 ok:fL w' pub'
 slots:∀id o,B id=some o->aL ⟨e',w',pub'⟩ (fun b o=>w.heap.size<=b∨gL e b o) id o
 dom:∀id,B id=none->e' id=none
 inj:Inj e'
def aO(P:Program)(f:Nat)(args:List AV)(S:List (Nat×SObj))(A:Ans):Prop:=
 ∀w pub e vs,fL w pub->dU w pub e->VL ⟨e,w,pub⟩ args vs->(∀id o,ae S id=some o->aL ⟨e,w,pub⟩ (fun _ _=>True) id o)->(∀id,ae S id=none->e id=none)->Inj e->
  Calls P f vs.toArray w fun en w'=>∃pub' e',match en with
   |.returned v=>(∀b pv u,A.pan=some (b,pv,u)->b=false)/\V ⟨e',w',pub'⟩ A.val v/\After w pub e (ae (b5 S A.upd)) w' pub' e'
   |.panicked ch=>∃pv u v,A.pan=some (true,pv,u)/\ch=[{v,recovered:=false}]/\V ⟨e',w',pub'⟩ pv v/\After w pub e (ae (b5 S u)) w' pub' e'
   |.outgrown=>False
def aM(P:Program)(f:Nat):Prop:=∃fn,P.funcs[f]?=some fn/\fn.body.isNone=false/\(fn.name == "runtime.NumGoroutine")=false
def aX(P:Program)(spec:Nat->List AV->List (Nat×SObj)->Option Ans):Prop:=
 ∀f args S A,spec f args S=some A->(∀q,A.ob=some q->q)->(ao S).all aP=true->aM P f/\aO P f args S A
end Go.AL
end
noncomputable section
namespace Go.AL
variable [Tabs]
theorem nW:∀(L:List bz)(i j k:Nat)(r:Option (Nat×Nat)),idx L i j=some (k,r)->j<=k/\nth L (k-j)=some (i,r)
 |[],i,j,k,r,h=>by simp[idx]at h
 |(m,q)::l,i,j,k,r,h=>by
  simp only[idx]at h;by_cases hm:m=i
  ·subst hm;simp at h;obtain⟨rfl,rfl⟩:=h;simp[nth]
  ·simp only[wG,hm,wA]at h;obtain⟨h1,h2⟩:=nW l i (j+1) k r h;refine⟨by omega,?_⟩;rw[show k-j=(k-(j+1))+1 by omega];exact h2
theorem mV{Y:Type}:∀(l:List Y)(k:Nat)(x:Y),nth l k=some x->x∈l
 |[],k,x,h=>by simp[nth]at h
 |a::l,0,x,h=>by simp[nth]at h;simp[h]
 |a::l,k+1,x,h=>wa _ (mV l k x h)
theorem gE:∀(L:List bz)(i j k:Nat)(r:Option (Nat×Nat)),aF (L.map (·.1))=true->nth L k=some (i,r)->idx L i j=some (j+k,r)
 |[],i,j,k,r,_,h=>by simp[nth]at h
 |(m,q)::l,i,j,0,r,_,h=>by simp[nth]at h;obtain⟨rfl,rfl⟩:=h;simp[idx]
 |(m,q)::l,i,j,k+1,r,hd,h=>by
  simp only[wu,aF,vW,wc]at hd;have hm:(i,r)∈l:=mV l k _ h;have hne:¬m=i:=by intro e;subst e;have:m∈l.map (·.1):=wz.2 ⟨(m,r),hm,rfl⟩;have h1:=hd.1;rw[wB]at h1;simp only[wF]at h1;exact h1 this
  simp only[idx,wG,hne,wA];rw[gE l i (j+1) k r hd.2 h];congr 2;omega
theorem cw{L:List bz}{k:Nat}{x:bz}(h:aI L k=some x):900<=k/\nth L (k-900)=some x:=by
 unfold aI at h;split at h
 ·rename_i hk;exact⟨by simpa using hk,h⟩
 ·cases h
theorem b9{L:List bz}{i k:Nat}{r:Option (Nat×Nat)}(h:idx L i 900=some (k,r)):aI L k=some (i,r):=by
 obtain⟨h1,h2⟩:=nW L i 900 k r h;unfold aI;split
 ·exact h2
 ·rename_i hk;simp at hk;omega
theorem bu{L:List bz}(hd:aF (L.map (·.1))=true){i k:Nat}{r:Option (Nat×Nat)}(h:aI L k=some (i,r)):idx L i 900=some (k,r):=by
 obtain⟨h1,h2⟩:=cw h;have:=gE L i 900 _ r hd h2
 rwa [show 900+(k-900)=k by omega]at this
def bj(L:List bz)(e:Nat->Option CObj)(k:Nat):Option CObj:=
 match aI L k with
 |some (i,none)=>e i
 |some (i,some (off,len))=>(match e i with|some (.box b o _)=>some (.box b (o+off) len)|_=>none)
 |none=>none
theorem gd(L:List bz)(e:Nat->Option CObj):Names (toP L) (toI L) (toI L) e (bj L e):=by
 have hi:∀i i',toI L i=some i'->∀c,e i=some c->bj L e i'=some c:=by
  intro i i' h c hc;unfold toI at h;split at h
  ·rename_i k hk;simp at h;subst h;simp only[bj,b9 hk,hc]
  ·cases h
 refine⟨fun i o i' o' h b p l he=>?_,hi,hi⟩;unfold toP at h;split at h
 ·rename_i k hk;simp at h;obtain⟨rfl,rfl⟩:=h;exact⟨p,l,by simp only[bj,b9 hk,he],rfl⟩
 ·rename_i k off len hk;split at h
  ·rename_i hb;simp at h hb;obtain⟨rfl,rfl⟩:=h;exact⟨p+off,len,by simp only[bj,b9 hk,he],by omega⟩
  ·cases h
 ·cases h
theorem dM{look:Nat->Option SObj}{L:List bz}:∀(l:List bz)(j:Nat)(S:List (Nat×SObj)),ir look L l j=some S->
  (∀id o',ae S id=some o'->∃q i r o,id=j+q/\nth l q=some (i,r)/\look i=some o/\cC L r o=some o')/\
  (∀q i r,nth l q=some (i,r)->∃o o',look i=some o/\cC L r o=some o'/\ae S (j+q)=some o')/\(∀x∈S,j<=x.1/\x.1<j+l.length)
 |[],j,S,h=>by simp[ir]at h;subst h;exact⟨fun id o' h=>by simp[aw,aq]at h,fun q i r h=>by simp[nth]at h,fun x hx=>by simp at hx⟩
 |(i,r)::l,j,S,h=>by
  simp only[ir]at h;split at h
  ·rename_i o ho;split at h
   ·rename_i o' S' h1 h2;simp at h;subst h;obtain⟨k1,k2,k3⟩:=dM l (j+1) S' h2;refine⟨fun id o2 hb=>?_,fun q i2 r2 hq=>?_,fun x hx=>?_⟩
    ·simp only[aw,aq]at hb;by_cases hj:j=id
     ·subst hj;simp at hb;subst hb;exact⟨0,i,r,o,rfl,rfl,ho,h1⟩
     ·simp only[wG,hj,wA]at hb;obtain⟨q,i2,r2,o3,e1,e2,e3,e4⟩:=k1 id o2 hb;exact⟨q+1,i2,r2,o3,by omega,e2,e3,e4⟩
    ·cases q with
     |zero=>simp[nth]at hq;obtain⟨rfl,rfl⟩:=hq;exact⟨o,o',ho,h1,by simp[aw,aq]⟩
     |succ q=>
      obtain⟨o3,o4,e1,e2,e3⟩:=k2 q i2 r2 hq;refine⟨o3,o4,e1,e2,?_⟩;have:¬j=j+(q+1):=by omega
      simp only[aw,aq,wG,this,wA];rw[show j+(q+1)=j+1+q by omega];exact e3
    ·simp at hx;rcases hx with rfl|hx
     ·simp
     ·have:=k3 x hx;simp;omega
   ·cases h
  ·cases h
theorem kC{c c1:AV}{r:Option (Nat×Nat)}(h:s7 c r=some c1):match r with|none=>c1=c|some (off,len)=>sub (a7 c) off len=some (a7 c1):=by
 have bY:∀{c c1:AV} {off len:Nat},s6 c off len=some c1->sub (a7 c) off len=some (a7 c1):=by
  intro c c1 off len h;unfold s6 at h;split at h
  ·rename_i cs hcs;simp at h;subst h;exact hcs
  ·cases h
 cases r with
 |none=>simp[s7]at h;exact h.symm
 |some x=>
  obtain⟨off,len⟩:=x
  cases c with
  |st n x=>
   simp only[s7]at h;split at h
   ·rename_i m y hs;split at h
    ·rename_i hw;simp at h;subst h;have:=fV hs;rw[hw]at this;exact this
    ·exact bY h
   ·exact bY h
  |_=>exact bY (by simpa only[s7]using h)
theorem aL.own_of{E:Om}{own own':Nat->Nat->Prop}{id:Nat}{o:SObj}(h:aL E own id o)(hc:∀c b o,E.e id=some c->occ c b o->own' b o):aL E own' id o:=by
 cases o with
 |box c=>
  obtain⟨b,off,e1,e2⟩:=h;refine⟨b,off,e1,fun j c' hj=>?_⟩;obtain⟨_,k⟩:=e2 j c' hj
  have hl:j<(a7 c).length:=by
   rcases w4 j (a7 c).length with k|k
   ·exact k
   ·rw[vX k]at hj;cases hj
  exact⟨hc _ _ _ e1 ⟨rfl,by omega,by omega⟩,k⟩
 |tail I n=>obtain⟨base,cap,e1,e2,e3,e4,e5⟩:=h;exact⟨base,cap,e1,e2,e3,e4,fun b hb=>⟨fun o=>hc _ _ _ e1 hb,(e5 b hb).2⟩⟩
 |map U I m=>obtain⟨r,e1,_,e3⟩:=h;exact⟨r,e1,fun o=>hc _ _ _ e1 rfl,e3⟩
 |bld t u l=>obtain⟨b,g,e1,e2,e3⟩:=h;exact⟨b,g,e1,fun b' hb o=>⟨hc _ _ _ e1 hb,(e2 b' hb o).2⟩,e3⟩
 |tailp I n x=>obtain⟨b,cap,e1,e2,e3,e4,e5⟩:=h;exact⟨b,cap,e1,e2,e3,fun o=>hc _ _ _ e1 rfl,e5⟩
theorem aL.owns{E:Om}{own:Nat->Nat->Prop}{id:Nat}{ob:SObj}(h:aL E own id ob){c:CObj}(hc:E.e id=some c){b o:Nat}(ho:occ c b o):own b o:=by
 cases ob with
 |box x=>
  obtain⟨b',off,e1,e2⟩:=h;rw[hc]at e1;simp at e1;subst e1;obtain⟨rfl,h1,h2⟩:=ho;have hj:o-off<(a7 x).length:=by omega
  have:=(e2 (o-off) _ (vV hj)).1
  rwa [show off+(o-off)=o by omega]at this
 |tail I n=>obtain⟨base,cap,e1,e2,e3,e4,e5⟩:=h;rw[hc]at e1;simp at e1;subst e1;exact(e5 b ho).1 o
 |map U I m=>obtain⟨r,e1,e2,_⟩:=h;rw[hc]at e1;simp at e1;subst e1;have:b=r:=ho;subst this;exact e2 o
 |bld t u l=>obtain⟨b',g,e1,e2,_⟩:=h;rw[hc]at e1;simp at e1;subst e1;exact(e2 b ho o).1
 |tailp I n x=>
  obtain⟨b',cap,e1,e2,e3,e4,e5⟩:=h;rw[hc]at e1;simp at e1;subst e1;have:b'=b:=by simpa[occ]using ho
  subst this;exact e4 o
theorem Holds.tabs{F:Fr}{s:AS}{a:Act}{E:Om}(h:Holds F s a E):dU E.w E.pub E.e:=by
 refine⟨fun b o v ht=>⟨h.frame.old _ _ (F.tab0.1 b o v ht).1,(h.frame.pcell _ _ (F.tab0.1 b o v ht).1).trans (F.tab0.1 b o v ht).2⟩,fun b x hx=>?_⟩;obtain⟨k1,k2⟩:=F.tab0.2 b x hx;have hlt:b<F.w0.heap.size:=(xu.1 k1).1;refine⟨(h.frame.block b hlt k2).trans k1,fun o ⟨id,c,hc,ho⟩=>?_⟩
 cases hb:s.B id with
 |none=>have:=h.dom id hb;rw[this]at hc;cases hc
 |some ob=>
  rcases(h.slots id ob hb).owns hc ho with q|q
  ·omega
  ·exact k2 o q
theorem Holds.owns{F:Fr}{s:AS}{a:Act}{E:Om}(h:Holds F s a E){id:Nat}{c:CObj}(hc:E.e id=some c){b o:Nat}(ho:occ c b o):F.own b o:=by
 cases hB:s.B id with
 |none=>rw[h.dom id hB]at hc;cases hc
 |some ob=>exact(h.slots id ob hB).owns hc ho
theorem nX{E:Om}{own:Nat->Nat->Prop}{L:List bz}{k i:Nat}{r:Option (Nat×Nat)}{o o':SObj}(hk:aI L k=some (i,r))(hs:aL E own i o)(hc:cC L r o=some o') :
  aL ⟨bj L E.e,E.w,E.pub⟩ (fun _ _=>True) k o':=by
 cases o with
 |box c=>
  simp only[cC]at hc;split at hc
  ·rename_i c1 h1;split at hc
   ·rename_i c2 h2;simp at hc;subst hc;obtain⟨b,off,e1,e2⟩:=hs;obtain⟨m1,m2⟩:=dY h2;have hp:=kC h1
    cases r with
    |none=>
     simp only at hp;subst hp;refine⟨b,off,by simp only[bj,hk,e1,m1],fun j c' hj=>?_⟩
     have hl:j<(a7 c1).length:=by
      rw[m1];rcases w4 j (a7 c2).length with k|k
      ·exact k
      ·rw[vX k]at hj;cases hj
     obtain⟨k1,k2,k3,v,k4,k5⟩:=e2 j _ (vV hl);exact⟨trivial,k2,k3,v,k4,k5.mapV (gd L E.e) (m2 j _ c' (vV hl) hj)⟩
    |some x=>
     obtain⟨o2,len⟩:=x;simp only at hp;obtain⟨s1,s2⟩:=dL hp;have hlen:(a7 c1).length=len:=by rw[s2];simp;omega
     refine⟨b,off+o2,by simp only[bj,hk,e1];rw[<-m1,hlen],fun j c' hj=>?_⟩
     have hl:j<(a7 c1).length:=by
      rw[m1];rcases w4 j (a7 c2).length with k|k
      ·exact k
      ·rw[vX k]at hj;cases hj
     obtain⟨x,hx⟩:∃x,(a7 c1)[j]?=some x:=⟨_,vV hl⟩
     have hcj:(a7 c)[o2+j]?=some x:=by
      have:=hx;rw[s2,wv]at this;split at this
      ·rw[wO]at this;exact this
      ·cases this
     obtain⟨k1,k2,k3,v,k4,k5⟩:=e2 _ _ hcj;rw[xn];exact⟨trivial,k2,k3,v,k4,k5.mapV (gd L E.e) (m2 j _ c' hx hj)⟩
   ·cases hc
  ·cases hc
 |tail I n=>
  cases r with
  |some _=>simp[cC]at hc
  |none=>simp[cC]at hc;subst hc;obtain⟨base,cap,e1,e2,e3,e4,e5⟩:=hs;exact⟨base,cap,by simp only[bj,hk,e1],e2,e3,e4,fun b hb=>⟨fun _=>trivial,(e5 b hb).2⟩⟩
 |map U I m=>
  cases r with
  |some _=>simp[cC]at hc
  |none=>simp[cC]at hc;subst hc;obtain⟨r,e1,e2,es,clock,e3,e4⟩:=hs;exact⟨r,by simp only[bj,hk,e1],fun _=>trivial,es,clock,e3,e4.data⟩
 |bld t u l=>
  cases r with
  |some _=>simp[cC]at hc
  |none=>simp[cC]at hc;subst hc;obtain⟨b,g,e1,e2,e3⟩:=hs;exact⟨b,g,by simp only[bj,hk,e1],fun b' hb o=>⟨trivial,(e2 b' hb o).2⟩,e3⟩
 |tailp _ _ _=>simp[cC]at hc
theorem eQ{L:List bz}{E:Om}{own:Nat->Nat->Prop}{B:Nat->Option SObj}(hs:∀id o,B id=some o->aL E own id o)(hL:∀q i r,nth L q=some (i,r)->∃o o',B i=some o/\cC L r o=some o')
 {k:Nat}{c:CObj}(h:bj L E.e k=some c):∃i r c0,aI L k=some (i,r)/\E.e i=some c0/\∀b o,occ c b o->occ c0 b o:=by
 unfold bj at h;split at h
 ·rename_i i hk;exact⟨i,none,c,hk,h,fun _ _ ho=>ho⟩
 ·rename_i i off len hk;split at h
  ·rename_i b p l he;simp at h;subst h;refine⟨i,_,_,hk,he,fun b' o ho=>?_⟩;obtain⟨h1,h2,h3⟩:=ho;subst h1;obtain⟨_,hn⟩:=cw hk;obtain⟨ob,ob',hB,hc⟩:=hL _ _ _ hn
   cases ob with
   |box x=>
    simp only[cC]at hc;split at hc
    ·rename_i c1 h1;have hp:=kC h1;simp only at hp;obtain⟨s1,_⟩:=dL hp;obtain⟨b2,off2,e1,_⟩:=hs i _ hB;rw[he]at e1;simp at e1;obtain⟨rfl,rfl,rfl⟩:=e1;exact⟨rfl,by omega,by omega⟩
    ·cases hc
   |tail _ _=>simp[cC]at hc
   |map _ _ _=>simp[cC]at hc
   |bld _ _ _=>simp[cC]at hc
   |tailp _ _ _=>simp[cC]at hc
  ·cases h
 ·cases h
theorem Holds.tabsC{F:Fr}{s:AS}{a:Act}{E:Om}{L:List bz}(h:Holds F s a E)(hL:∀q i r,nth L q=some (i,r)->∃o o',s.B i=some o/\cC L r o=some o'):dU E.w E.pub (bj L E.e):=
 ⟨h.tabs.1,fun b x hx=>⟨(h.tabs.2 b x hx).1,fun o ⟨k,c,hc,ho⟩=>
  let ⟨i,_,c0,_,q2,q3⟩:=eQ h.slots hL hc
  (h.tabs.2 b x hx).2 o ⟨i,c0,q2,q3 b o ho⟩⟩⟩
end Go.AL
end
noncomputable section
namespace Go.AL
variable [Tabs]
theorem nY{n:SN}{off:Nat}{x:SD n}{a d:AV}(h:s5 n off x a=some d):splice (cells (.st n) x) off (a7 a)=some (a7 d):=by
 unfold s5 at h;split at h
 all_goals first
  |(simp only[Xs]at h;subst h;rfl)
  |cases h
theorem pn{b c d:AV}{off len:Nat}(h:tS b (some (off,len)) c=some d):(a7 c).length=len/\splice (a7 b) off (a7 c)=some (a7 d):=by
 have bY:∀{b d:AV},tR b off c=some d->splice (a7 b) off (a7 c)=some (a7 d):=by
  intro b d h;unfold tR at h;split at h
  ·rename_i cs hcs;simp at h;subst h;exact hcs
  ·cases h
 simp only[tS]at h;split at h
 ·rename_i hl;refine⟨aV _ _ hl,?_⟩;split at h
  ·split at h
   ·rename_i n x a hs;simp at h;subst h;exact nY hs
   ·exact bY h
  ·exact bY h
 ·cases h
def nZ(d i:Nat):Option Nat:=if 1000<=i/\i%1000=d then some (i/1000-1)else none
theorem rm{d k:Nat}(hd:d<1000):nZ d (nid d k)=some k:=by unfold nZ nid;rw[wh ⟨by omega,by omega⟩];congr 1;omega
theorem iT{d i k:Nat}(h:nZ d i=some k):i=nid d k:=by
 unfold nZ at h;split at h
 ·simp at h;unfold nid;omega
 ·cases h
def gf(L:List bz)(d:Nat)(e e':Nat->Option CObj)(i:Nat):Option CObj:=
 match idx L i 900 with
 |some (k,none)=>e' k
 |some (_,some _)=>e i
 |none=>
  match nZ d i with
  |some k=>(match aI L k with|some _=>e i|none=>(match e' k with|some c=>some c|none=>e i))
  |none=>e i
theorem kD:∀(u:List (Nat×SObj))(B:Nat->Option SObj)(id:Nat)(o:SObj),b7 B u id=some o->(id,o)∈u∨(B id=some o/\id∉u.map (·.1))
 |[],B,id,o,h=>Or.inr ⟨h,by simp⟩
 |(j,x)::u,B,id,o,h=>by
  simp only[b7]at h;rcases kD u _ id o h with k|⟨k1,k2⟩
  ·exact Or.inl (wa _ k)
  ·by_cases hj:j=id
   ·subst hj;simp at k1;subst k1;exact Or.inl (wK ..)
   ·simp only[w5 hj]at k1;refine Or.inr ⟨k1,?_⟩;simp only[wu,wC,yP];exact⟨fun e=>hj e.symm,k2⟩
theorem lW:∀(u:List (Nat×SObj))(B:Nat->Option SObj)(id:Nat),b7 B u id=none->B id=none/\id∉u.map (·.1)
 |[],B,id,h=>⟨h,by simp⟩
 |(j,x)::u,B,id,h=>by
  simp only[b7]at h;obtain⟨k1,k2⟩:=lW u _ id h;by_cases hj:j=id
  ·subst hj;simp at k1
  ·simp only[w5 hj]at k1;refine⟨k1,?_⟩;simp only[wu,wC,yP];exact⟨fun e=>hj e.symm,k2⟩
theorem iU{look:Nat->Option SObj}{L:List bz}{d:Nat}:∀(u u':List (Nat×SObj)),fI look L d u=some u'->
  (∀id o',(id,o')∈u'->∃k o,(k,o)∈u/\((∃r old,aI L k=some (id,r)/\look id=some old/\dR L d r (some old) o=some o')∨
   (aI L k=none/\id=nid d k/\look id=none/\dR L d none none o=some o')))/\
  (∀k o,(k,o)∈u->(∃i r,aI L k=some (i,r)/\i∈u'.map (·.1))∨(aI L k=none/\look (nid d k)=none/\nid d k∈u'.map (·.1)))
 |[],u',h=>by simp[fI]at h;subst h;exact⟨fun id o h=>by simp at h,fun k o h=>by simp at h⟩
 |(k,o)::u,u',h=>by
  simp only[fI]at h;split at h
  ·rename_i i r hk;split at h
   ·rename_i old hold;split at h
    ·rename_i o1 u1 h1 h2;simp at h;subst h;obtain⟨q1,q2⟩:=iU u u1 h2;refine⟨fun id o' hm=>?_,fun k2 o2 hm=>?_⟩
     ·simp at hm;rcases hm with⟨rfl,rfl⟩|hm
      ·exact⟨k,o,by simp,Or.inl ⟨r,old,hk,hold,h1⟩⟩
      ·obtain⟨k2,o2,m1,m2⟩:=q1 id o' hm;exact⟨k2,o2,wa _ m1,m2⟩
     ·simp at hm;rcases hm with⟨rfl,rfl⟩|hm
      ·exact Or.inl ⟨i,r,hk,by simp⟩
      ·rcases q2 k2 o2 hm with⟨i2,r2,m1,m2⟩|⟨m1,m2,m3⟩
       ·exact Or.inl ⟨i2,r2,m1,by simp only[wu];exact wa _ m2⟩
       ·exact Or.inr ⟨m1,m2,by simp only[wu];exact wa _ m3⟩
    ·cases h
   ·cases h
  ·rename_i hk;split at h
   ·rename_i hn;split at h
    ·rename_i o1 u1 h1 h2;simp at h;subst h;obtain⟨q1,q2⟩:=iU u u1 h2;refine⟨fun id o' hm=>?_,fun k2 o2 hm=>?_⟩
     ·simp at hm;rcases hm with⟨rfl,rfl⟩|hm
      ·exact⟨k,o,by simp,Or.inr ⟨hk,rfl,hn,h1⟩⟩
      ·obtain⟨k2,o2,m1,m2⟩:=q1 id o' hm;exact⟨k2,o2,wa _ m1,m2⟩
     ·simp at hm;rcases hm with⟨rfl,rfl⟩|hm
      ·exact Or.inr ⟨hk,hn,by simp⟩
      ·rcases q2 k2 o2 hm with⟨i2,r2,m1,m2⟩|⟨m1,m2,m3⟩
       ·exact Or.inl ⟨i2,r2,m1,by simp only[wu];exact wa _ m2⟩
       ·exact Or.inr ⟨m1,m2,by simp only[wu];exact wa _ m3⟩
    ·cases h
   ·cases h
theorem o5(l:List (Nat×SObj))(i:Nat)(v:SObj)(j:Nat):ae (jF l i v) j=if i=j then some v else ae l j:=by
 induction l with
 |nil=>simp[im,gy,aw,aq]
 |cons x r ih=>
  obtain⟨k,u⟩:=x;simp only[im,gy];by_cases hk:k=i
  ·subst hk;simp only[xZ,wR,aw,aq,wG];by_cases h:k=j<;>simp[h]
  ·simp only[wG,hk,wA,aw,aq,ih];by_cases h:k=j
   ·subst h;have:¬i=k:=fun e=>hk e.symm;simp[this]
   ·simp[h]
theorem iz:∀(u B:List (Nat×SObj))(k:Nat),k∉u.map (·.1)->ae (b5 B u) k=ae B k
 |[],B,k,_=>rfl
 |(j,x)::u,B,k,h=>by simp only[wu,wC,yP]at h;simp only[b5];rw[iz u _ k h.2,o5,w5 (fun e=>h.1 e.symm)]
theorem qu:∀(u B:List (Nat×SObj))(k:Nat)(o:SObj),aF (u.map (·.1))=true->(k,o)∈u->ae (b5 B u) k=some o
 |[],B,k,o,_,h=>by simp at h
 |(j,x)::u,B,k,o,hd,h=>by
  simp only[wu,aF,vW,wc,wB,wF]at hd;simp only[b5];simp at h;rcases h with⟨rfl,rfl⟩|h
  ·rw[iz u _ k hd.1,o5,wh rfl]
  ·exact qu u _ k o hd.2 h
theorem lX:∀(l:List (Nat×SObj))(i:Nat)(o:SObj),ae l i=some o->(i,o)∈l
 |[],i,o,h=>by simp[aw,aq]at h
 |(j,v)::r,i,o,h=>by
  simp only[aw,aq]at h;by_cases hj:j=i
  ·subst hj;simp at h;simp[h]
  ·simp only[wG,hj,wA]at h;exact wa _ (lX r i o h)
theorem rn{S u:List (Nat×SObj)}(hd:aF (u.map (·.1))=true)(hS:∀x∈S,ae S x.1=some x.2){k:Nat}{o:SObj}(h:(k,o)∈dz S u):ae (b5 S u) k=some o:=by
 simp only[dz,x9,wI,wc,wB,wF]at h;rcases h with h|⟨h1,h2⟩
 ·exact qu u S k o hd h
 ·rw[iz u S k h2];exact hS _ h1
end Go.AL
end
noncomputable section
namespace Go.AL
variable [Tabs]
theorem kE{look:Nat->Option SObj}{L:List bz}:∀(l:List bz)(j:Nat)(S:List (Nat×SObj)),ir look L l j=some S->∀x∈S,ae S x.1=some x.2
 |[],j,S,h,x,hx=>by simp[ir]at h;subst h;simp at hx
 |(i,r)::l,j,S,h,x,hx=>by
  simp only[ir]at h;split at h
  ·split at h
   ·rename_i o' S' h1 h2;simp at h;subst h;simp at hx;rcases hx with rfl|hx
    ·simp[aw,aq]
    ·have:=kE l (j+1) S' h2 x hx;have hk:=(dM l (j+1) S' h2).2.2 x hx;have hne:¬j=x.1:=by omega
     simp only[aw,aq,wG,hne,wA];exact this
   ·cases h
  ·cases h
theorem lY{w':World}{pub' own own':Nat->Nat->Prop}{e' eN:Nat->Option CObj}{L:List bz}{d k id:Nat}{old:Option SObj}{o o':SObj}
 (hn:Names (jg L d) (dy L d) (dy L d) e' eN)(hs:aL ⟨e',w',pub'⟩ own' k o)(hb:dR L d none old o=some o')(he:eN id=e' k)(hown:∀b o,own' b o->own b o) :
  aL ⟨eN,w',pub'⟩ own id o':=by
 cases o with
 |box c=>
  simp only[dR]at hb;split at hb
  ·rename_i c1 h1
   have ho':o'=.box c1:=by
    split at hb
    ·rename_i b;split at hb
     ·rename_i c2 h2;simp[tS]at h2;subst h2;simp at hb;exact hb.symm
     ·cases hb
    ·simp at hb;exact hb.symm
    ·cases hb
   subst ho';obtain⟨b,off,e1,e2⟩:=hs;obtain⟨m1,m2⟩:=dY h1;refine⟨b,off,by simp only;rw[he];simp only at e1;rw[e1,m1],fun j c' hj=>?_⟩
   have hl:j<(a7 c).length:=by
    rw[m1];rcases w4 j (a7 c1).length with k|k
    ·exact k
    ·rw[vX k]at hj;cases hj
   obtain⟨k1,k2,k3,v,k4,k5⟩:=e2 j _ (vV hl);exact⟨hown _ _ k1,k2,k3,v,k4,V.mapV (E:=⟨e',w',pub'⟩) hn k5 (m2 j _ c' (vV hl) hj)⟩
  ·cases hb
 |tail I n=>simp[dR]at hb;subst hb;obtain⟨base,cap,e1,e2,e3,e4,e5⟩:=hs;exact⟨base,cap,by simp only;rw[he];exact e1,e2,e3,e4,fun b hb=>⟨fun o=>hown _ _ ((e5 b hb).1 o),(e5 b hb).2⟩⟩
 |map U I m=>simp[dR]at hb;subst hb;obtain⟨r,e1,e2,es,clock,e3,e4⟩:=hs;exact⟨r,by simp only;rw[he];exact e1,fun o=>hown _ _ (e2 o),es,clock,e3,e4.data⟩
 |bld t u l=>simp[dR]at hb;subst hb;obtain⟨b,g,e1,e2,e3⟩:=hs;exact⟨b,g,by simp only;rw[he];exact e1,fun b' hb o=>⟨hown _ _ (e2 b' hb o).1,(e2 b' hb o).2⟩,e3⟩
 |tailp _ _ _=>simp[dR]at hb
theorem iV{F:Fr}{s:AS}{a:Act}{E:Om}(h:Holds F s a E){L:List bz}{d:Nat}(hd:d<1000)(hdist:aF (L.map (·.1))=true)
 {S u u':List (Nat×SObj)}(hS:ir s.B L L 900=some S)(hu:aF (u.map (·.1))=true)(hb:fI s.B L d (dz S u)=some u'){val val':AV}
 (hval:mapV (jg L d) (dy L d) (dy L d) val=some val'){w':World}{pub':Nat->Nat->Prop}{e':Nat->Option CObj}{v:Value}(hv:V ⟨e',w',pub'⟩ val v)
 (A:After E.w E.pub (bj L E.e) (ae (b5 S u)) w' pub' e') :
  ∃E',E'.w=w'/\V E' val' v/\Holds F ⟨s.T,b7 s.B u'⟩ a E':=by
 obtain⟨k1,k2,k3⟩:=dM L 900 S hS;have hSm:=kE L 900 S hS;have lentL:∀k i r,aI L k=some (i,r)->∃o o',s.B i=some o/\cC L r o=some o'/\ae S k=some o':=by intro k i r hk;obtain⟨h1,h2⟩:=cw hk;obtain⟨o,o',q1,q2,q3⟩:=k2 _ i r h2;rw[show 900+(k-900)=k by omega]at q3;exact⟨o,o',q1,q2,q3⟩
 have hLs:∀q i r,nth L q=some (i,r)->∃o o',s.B i=some o/\cC L r o=some o':=fun q i r hq=>let ⟨o,o',q1,q2,_⟩:=k2 q i r hq;⟨o,o',q1,q2⟩
 obtain⟨b1,b2⟩:=iU _ _ hb
 have newk:∀k c,aI L k=none->e' k=some c->s.B (nid d k)=none/\nid d k∈u'.map (·.1):=by
  intro k c hk hc
  cases hg:ae (b5 S u) k with
  |none=>rw[A.dom k hg]at hc;cases hc
  |some o=>
   have hku:k∈u.map (·.1):=by
    rcases xN (k∈u.map (·.1))with q|q
    ·exact q
    ·rw[iz u S k q]at hg;obtain⟨q0,i,r,o2,e1,e2,_⟩:=k1 k o hg;have:aI L k=some (i,r):=by subst e1;exact b9 (gE L i 900 q0 r hdist e2)
     rw[hk]at this;cases this
   obtain⟨x,hx1,hx2⟩:=wz.1 hku;have hmem:(k,x.2)∈dz S u:=by simp only[dz,x9];left;rw[<-hx2];exact hx1
   rcases b2 k x.2 hmem with⟨i,r,m1,_⟩|⟨_,m2,m3⟩
   ·rw[hk]at m1;cases m1
   ·exact⟨m2,m3⟩
 have inL:∀i k r,idx L i 900=some (k,r)->∃o,s.B i=some o:=by intro i k r hi;obtain⟨o,_,q,_⟩:=lentL k i r (b9 hi);exact⟨o,q⟩
 have eW:∀k i,aI L k=some (i,none)->gf L d E.e e' i=e' k:=by intro k i hk;simp only[gf,bu hdist hk]
 have eS:∀k i x,aI L k=some (i,some x)->gf L d E.e e' i=E.e i:=by intro k i x hk;simp only[gf,bu hdist hk]
 have eN:∀k c,aI L k=none->e' k=some c->gf L d E.e e' (nid d k)=some c:=by
  intro k c hk hc;obtain⟨n1,_⟩:=newk k c hk hc
  have hi:idx L (nid d k) 900=none:=by
   cases hi:idx L (nid d k) 900 with
   |none=>rfl
   |some x=>obtain⟨o,ho⟩:=inL _ x.1 x.2 hi;rw[n1]at ho;cases ho
  simp only[gf,hi,rm hd,hk,hc]
 have eO:∀i c,gf L d E.e e' i=some c->(E.e i=some c/\(∀k,aI L k≠some (i,none)))∨(∃k,e' k=some c/\(aI L k=some (i,none)∨(aI L k=none/\i=nid d k))):=by
  intro i c hc;unfold gf at hc;split at hc
  ·rename_i k hk;exact Or.inr ⟨k,hc,Or.inl (b9 hk)⟩
  ·rename_i k x hk;exact Or.inl ⟨hc,fun k' hk'=>by rw[bu hdist hk']at hk;simp at hk⟩
  ·rename_i hk;have hno:∀k,aI L k≠some (i,none):=fun k' hk'=>by rw[bu hdist hk']at hk;cases hk
   split at hc
   ·rename_i k hn;split at hc
    ·exact Or.inl ⟨hc,hno⟩
    ·rename_i hl;split at hc
     ·rename_i c' hc';simp at hc;subst hc;exact Or.inr ⟨k,hc',Or.inr ⟨hl,iT hn⟩⟩
     ·exact Or.inl ⟨hc,hno⟩
   ·exact Or.inl ⟨hc,hno⟩
 have lentOwn:∀b o,gL (bj L E.e) b o->∃k i r c0,aI L k=some (i,r)/\E.e i=some c0/\occ c0 b o/\∃c,bj L E.e k=some c/\occ c b o:=by rintro b o ⟨k,c,hc,ho⟩;obtain⟨i,r,c0,q1,q2,q3⟩:=eQ h.slots hLs hc;exact⟨k,i,r,c0,q1,q2,q3 b o ho,c,hc,ho⟩
 have own:∀b o,(E.w.heap.size<=b∨gL (bj L E.e) b o)->F.own b o:=by
  rintro b o (q|q)
  ·exact Or.inl (xB h.frame.size q)
  ·obtain⟨k,i,r,c0,_,q2,q3,_⟩:=lentOwn b o q;exact h.owns q2 q3
 have hnames:Names (jg L d) (dy L d) (dy L d) e' (gf L d E.e e'):=by
  have hi:∀i i',dy L d i=some i'->∀c,e' i=some c->gf L d E.e e' i'=some c:=by
   intro k i' hk c hc;unfold dy at hk;split at hk
   ·rename_i i hi;simp at hk;subst hk;rw[eW k i hi,hc]
   ·cases hk
   ·rename_i hi;simp at hk;subst hk;exact eN k c hi hc
  refine⟨fun k o i' o' hk b p l hc=>?_,hi,hi⟩;unfold jg at hk;split at hk
  ·rename_i i hi;simp at hk;obtain⟨rfl,rfl⟩:=hk;exact⟨p,l,by rw[eW k i hi,hc],rfl⟩
  ·rename_i i off len hi;simp at hk;obtain⟨rfl,rfl⟩:=hk;obtain⟨ob,ob',q1,q2,_⟩:=lentL k i _ hi
   cases ob with
   |box x=>
    obtain⟨b2,off2,e1,_⟩:=h.slots i _ q1;have hcan:bj L E.e k=some (.box b2 (off2+off) len):=by simp only[bj,hi,e1]
    obtain⟨c',hc',hl⟩:=A.ext.e k _ hcan;rw[hl.box]at hc';simp only at hc';rw[hc]at hc';simp at hc';obtain⟨rfl,rfl,rfl⟩:=hc';exact⟨off2,_,by rw[eS k i _ hi,e1],by omega⟩
   |tail _ _=>simp[cC]at q2
   |map _ _ _=>simp[cC]at q2
   |bld _ _ _=>simp[cC]at q2
   |tailp _ _ _=>simp[cC]at q2
  ·rename_i hi;simp at hk;obtain⟨rfl,rfl⟩:=hk;exact⟨p,l,eN k _ hi hc,rfl⟩
 have hext:Ext E ⟨gf L d E.e e',w',pub'⟩:=by
  refine⟨fun i c hc=>?_,A.ext.pub,A.ext.cell⟩;simp only
  cases hi:idx L i 900 with
  |some x=>
   obtain⟨k,r⟩:=x
   cases r with
   |none=>
    have hk:=b9 hi;have hcan:bj L E.e k=some c:=by simp only[bj,hk,hc]
    obtain⟨c',hc',hl⟩:=A.ext.e k _ hcan;exact⟨c',by rw[eW k i hk];exact hc',hl⟩
   |some x=>exact⟨c,by rw[eS k i x (b9 hi),hc],CLe.refl c⟩
  |none=>
   refine⟨c,?_,CLe.refl c⟩;simp only[gf,hi];split
   ·rename_i k hn;split
    ·exact hc
    ·rename_i hl;split
     ·rename_i c' hc';obtain⟨n1,_⟩:=newk k c' hl hc';rw[<-iT hn]at n1;rw[h.dom i n1]at hc;cases hc
     ·exact hc
   ·exact hc
 have stay:∀i c,E.e i=some c->(∀k r,aI L k≠some (i,r))->∀b o,occ c b o->¬gL (bj L E.e) b o:=by intro i c hc hno b o ho hl;obtain⟨k,i2,r,c0,q1,q2,q3,_⟩:=lentOwn b o hl;have:=h.inj i i2 c c0 b o hc q2 ho q3;subst this;exact hno k r q1
 have inj':Inj (gf L d E.e e'):=by
  have hself:∀k k' i j,(aI L k=some (i,none)∨(aI L k=none/\i=nid d k))->(aI L k'=some (j,none)∨(aI L k'=none/\j=nid d k'))->k=k'->i=j:=by
   intro k k' i j hi hj e;subst e;rcases hi with hi|⟨hi,rfl⟩<;>rcases hj with hj|⟨hj,rfl⟩
   ·rw[hi]at hj;simp at hj;exact hj
   ·rw[hi]at hj;cases hj
   ·rw[hi]at hj;cases hj
   ·rfl
  have hmix:∀i c j k c' b o,E.e i=some c->(∀k,aI L k≠some (i,none))->e' k=some c'->(aI L k=some (j,none)∨(aI L k=none/\j=nid d k))->occ c b o->occ c' b o->False:=by
   intro i c j k c' b o hc hno hk hj ho ho';have hblt:=h.blk hc ho
   have hkB:∃ob,ae (b5 S u) k=some ob:=by
    cases hg:ae (b5 S u) k with
    |none=>rw[A.dom k hg]at hk;cases hk
    |some ob=>exact⟨ob,rfl⟩
   obtain⟨ob,hob⟩:=hkB;rcases(A.slots k ob hob).owns hk ho' with q|q
   ·omega
   ·obtain⟨k2,i2,r,c0,q1,q2,q3,c2,q4,q5⟩:=lentOwn b o q;have:=h.inj i i2 c c0 b o hc q2 ho q3;subst this
    cases r with
    |none=>exact hno k2 q1
    |some x=>
     obtain⟨c3,q6,q7⟩:=A.ext.e k2 c2 q4
     obtain⟨bb,oo,ll,hbx⟩:∃bb oo ll,c2=.box bb oo ll:=by
      have:=q4;simp only[bj,q1]at this;split at this
      ·simp at this;exact⟨_,_,_,this.symm⟩
      ·cases this
     subst hbx;rw[q7.box]at q6;have:=A.inj k2 k _ _ b o q6 hk q5 ho';subst this;rcases hj with hj|⟨hj,_⟩
     ·rw[q1]at hj;simp at hj
     ·rw[q1]at hj;cases hj
  intro i j c c' b o hc hc' ho ho';rcases eO i c hc with⟨h1,h2⟩|⟨k,h1,h2⟩
  ·rcases eO j c' hc' with⟨g1,g2⟩|⟨k',g1,g2⟩
   ·exact h.inj i j c c' b o h1 g1 ho ho'
   ·exact(hmix i c j k' c' b o h1 h2 g1 g2 ho ho').elim
  ·rcases eO j c' hc' with⟨g1,g2⟩|⟨k',g1,g2⟩
   ·exact(hmix j c' i k c b o g1 g2 h1 h2 ho' ho).elim
   ·exact hself k k' i j h2 g2 (A.inj k k' c c' b o h1 g1 ho ho')
 refine⟨⟨gf L d E.e e',w',pub'⟩,rfl,V.mapV (E:=⟨e',w',pub'⟩) hnames hv hval,⟨fun i=>(h.tmps i).ext hext,h.size,h.defers,fun id o ho=>?_,fun id hid=>?_,inj',A.ok,fun id c hc=>?_,?_⟩⟩
 ·
  rcases kD u' s.B id o ho with hm|⟨hB,hm⟩
  ·obtain⟨k,ob,m1,m2⟩:=b1 id o hm;have hg:=rn hu hSm m1;have hso:=A.slots k ob hg;rcases m2 with⟨r,old,l1,l2,l3⟩|⟨l1,rfl,l2,l3⟩
   ·cases r with
    |none=>exact lY hnames hso l3 (eW k id l1) own
    |some x=>
     obtain⟨off,len⟩:=x
     cases ob with
     |tail _ _=>simp[dR]at l3
     |map _ _ _=>simp[dR]at l3
     |bld _ _ _=>simp[dR]at l3
     |tailp _ _ _=>simp[dR]at l3
     |box c=>
      simp only[dR]at l3;split at l3
      ·rename_i c1 h1;split at l3
       ·rename_i cold hold;simp at hold;subst hold;split at l3
        ·rename_i c2 h2;simp at l3;subst l3;obtain⟨p1,p2⟩:=pn h2;obtain⟨b,p0,e1,e2⟩:=h.slots id _ l2;obtain⟨s1,s2⟩:=cH _ _ _ _ p2;have hlen:(a7 c2).length=(a7 cold).length:=by rw[s2];simp;omega
         have hcan:bj L E.e k=some (.box b (p0+off) len):=by simp only[bj,l1,e1]
         obtain⟨c',hc',hl⟩:=A.ext.e k _ hcan;rw[hl.box]at hc';simp only at hc';obtain⟨b',p',f1,f2⟩:=hso;simp only at f1;rw[hc']at f1;simp at f1;obtain⟨rfl,rfl,f1⟩:=f1;obtain⟨m1',m2'⟩:=dY h1;refine⟨b,p0,by simp only;rw[eS k id _ l1,e1,hlen],fun j c' hj=>?_⟩
         have hjl:j<(a7 c2).length:=by
          rcases w4 j (a7 c2).length with q|q
          ·exact q
          ·rw[vX q]at hj;cases hj
         rw[s2]at hj;by_cases hin:off<=j/\j<off+len
         ·
          have hjc:j-off<(a7 c1).length:=by omega
          have hj1:(a7 c1)[j-off]?=some c':=by
           rw[wJ,w8 (by simp;omega)]at hj;have e:(List.take off (a7 cold)).length=off:=by simp;omega
           rw[e,w6 hjc]at hj;exact hj
          have hjo:j-off<(a7 c).length:=by omega
          obtain⟨g1,g2,g3,v,g4,g5⟩:=f2 (j-off) _ (vV hjo);rw[show p0+off+(j-off)=p0+j by omega]at g1 g2 g3 g4;exact⟨own _ _ g1,g2,g3,v,g4,V.mapV (E:=⟨e',w',pub'⟩) hnames g5 (m2' _ _ _ (vV hjo) hj1)⟩
         ·
          have hj2:(a7 cold)[j]?=some c':=by
           by_cases hlo:j<off
           ·rw[wJ,w6 (by simp;omega),wv,wh hlo]at hj;exact hj
           ·have e:(List.take off (a7 cold)++a7 c1).length=off+len:=by simp;omega
            rw[w8 (by omega),e,wO,show off+(a7 c1).length+(j-(off+len))=j by omega]at hj;exact hj
          obtain⟨g1,g2,g3,v,g4,g5⟩:=e2 j c' hj2
          have hnl:¬gL (bj L E.e) b (p0+j):=by
           intro hl;obtain⟨k2,i2,r2,c0,q1,q2,q3,c3,q4,q5⟩:=lentOwn _ _ hl;have hcold:j<(a7 cold).length:=by omega
           have:=h.inj id i2 _ c0 b (p0+j) e1 q2 ⟨rfl,by omega,by omega⟩ q3;subst this;have hkk:k2=k:=by have a1:=bu hdist q1;have a2:=bu hdist l1;rw[a1]at a2;simp at a2;exact a2.1
           subst hkk;rw[hcan]at q4;simp at q4;subst q4;obtain⟨_,z1,z2⟩:=q5;exact hin ⟨by omega,by omega⟩
          have hblt:=ay g4;refine⟨g1,fun hp=>?_,?_,v,?_,g5.ext hext⟩
          ·rcases A.fresh _ _ hp with q|q|q
           ·exact g2 q
           ·omega
           ·exact hnl q
          ·exact((A.kind b hblt (fun hall=>hnl (hall _))).2 _).trans g3
          ·exact(A.cell b _ hblt hnl).trans g4
        ·cases l3
       ·rename_i hq;cases hq
       ·cases l3
      ·cases l3
   ·have hk:∃c,e' k=some c:=by
     cases ob with
     |box x=>obtain⟨_,_,e1,_⟩:=hso;exact⟨_,e1⟩
     |tail _ _=>obtain⟨_,_,e1,_⟩:=hso;exact⟨_,e1⟩
     |map _ _ _=>obtain⟨_,e1,_⟩:=hso;exact⟨_,e1⟩
     |bld _ _ _=>obtain⟨_,_,e1,_⟩:=hso;exact⟨_,e1⟩
     |tailp _ _ _=>obtain⟨_,_,e1,_⟩:=hso;exact⟨_,e1⟩
    obtain⟨c,hc⟩:=hk;exact lY hnames hso l3 (by rw[eN k c l1 hc,hc]) own
  ·
   have hB:s.B id=some o:=hB
   have hnl:∀k r,aI L k≠some (id,r):=by
    intro k r hk;obtain⟨o1,o2,q1,q2,q3⟩:=lentL k id r hk
    have hmem:∃o3,(k,o3)∈dz S u:=by
     rcases xN (k∈u.map (·.1))with q|q
     ·obtain⟨x,hx1,hx2⟩:=wz.1 q;refine⟨x.2,?_⟩;simp only[dz,x9];left;rw[<-hx2];exact hx1
     ·refine⟨o2,?_⟩;simp only[dz,x9,wI,wc,wB,wF];exact Or.inr ⟨lX S k o2 q3,q⟩
    obtain⟨o3,ho3⟩:=hmem;rcases b2 k o3 ho3 with⟨i2,r2,m1,m2⟩|⟨m1,_,_⟩
    ·rw[hk]at m1;simp at m1;obtain⟨rfl,_⟩:=m1;exact hm m2
    ·rw[hk]at m1;cases m1
   have hid:idx L id 900=none:=by
    cases hi:idx L id 900 with|none=>rfl|some x=>exact absurd (b9 hi) (hnl x.1 x.2)
   have heq:gf L d E.e e' id=E.e id:=by
    simp only[gf,hid];split
    ·rename_i k hn;split
     ·rfl
     ·rename_i hl;split
      ·rename_i c' hc';obtain⟨n1,_⟩:=newk k c' hl hc';rw[<-iT hn,hB]at n1;cases n1
      ·rfl
    ·rfl
   refine(h.slots id o hB).keep hext heq (fun c hc=>?_);have hst:=stay id c hc hnl;have hbl:∀b oo,occ c b oo->b<E.w.heap.size:=fun b oo ho=>h.blk hc ho
   cases c with
   |box b off len=>
    intro oo h1 h2;have ho:occ (.box b off len) b oo:=⟨rfl,h1,h2⟩;have hblt:=hbl _ _ ho;refine⟨A.cell b oo hblt (hst _ _ ho),(A.kind b hblt (fun hall=>hst _ _ ho (hall oo))).2 oo,fun hp=>?_⟩;rcases A.fresh _ _ hp with q|q|q
    ·exact q
    ·omega
    ·exact absurd q (hst _ _ ho)
   |tail n base cap=>
    intro b hb';have ho:∀oo,occ (.tail n base cap) b oo:=fun _=>hb';have hblt:=hbl _ 0 (ho 0);refine⟨A.block b hblt (fun oo=>hst _ _ (ho oo)),fun oo hp=>?_⟩;rcases A.fresh _ _ hp with q|q|q
    ·exact q
    ·omega
    ·exact absurd q (hst _ _ (ho oo))
   |obj r=>have ho:∀oo,occ (.obj r) r oo:=fun _=>rfl;exact A.block r (hbl _ 0 (ho 0)) (fun oo=>hst _ _ (ho oo))
   |bld b g=>
    intro b' hb';have ho:∀oo,occ (.bld b g) b' oo:=fun _=>hb';refine⟨A.block b' (hbl _ 0 (ho 0)) (fun oo=>hst _ _ (ho oo)),fun oo hp=>?_⟩;rcases A.fresh _ _ hp with q|q|q
    ·exact q
    ·have:=hbl _ 0 (ho 0);omega
    ·exact absurd q (hst _ _ (ho oo))
 ·
  obtain⟨hB,hm⟩:=lW u' s.B id hid;have hnone:=h.dom id hB
  cases hc:gf L d E.e e' id with
  |none=>exact hc
  |some c=>
   rcases eO id c hc with⟨h1,_⟩|⟨k,h1,h2⟩
   ·rw[hnone]at h1;cases h1
   ·rcases h2 with h2|⟨h2,rfl⟩
    ·obtain⟨o1,_,q1,_⟩:=lentL k id _ h2;rw[hB]at q1;cases q1
    ·exact absurd (newk k c h2 h1).2 hm
 ·obtain⟨c1,h1,l1⟩:=h.keep id c hc;obtain⟨c2,h2,l2⟩:=hext.e id c1 h1;exact⟨c2,h2,l1.trans l2⟩
 ·have notOwn:∀b o,b<F.w0.heap.size->¬F.br b o->¬gL (bj L E.e) b o:=by
   intro b o hb hn hl;rcases own b o (Or.inr hl)with q|q
   ·omega
   ·exact hn q
  have hsz:=h.frame.size;refine⟨A.os.trans h.frame.os,A.tape.trans h.frame.tape,A.output.trans h.frame.output,xB h.frame.size A.size,fun b hb hn=>?_,fun b o hb hn=>?_,fun b hb hn=>?_,fun b o hp=>?_,fun b o hp=>A.ext.pub b o (h.frame.old b o hp),fun b o hp=>(hext.cell b o (h.frame.old b o hp)).trans (h.frame.pcell b o hp)⟩
  ·exact(A.block b (by omega) (fun o=>notOwn b o hb (hn o))).trans (h.frame.block b hb hn)
  ·exact(A.cell b o (by omega) (notOwn b o hb hn)).trans (h.frame.cell b o hb hn)
  ·have hnall:¬∀o,gL (bj L E.e) b o:=by
    intro hall;refine hn (fun o=>?_);rcases own b o (Or.inr (hall o))with q|q
    ·omega
    ·exact q
   obtain⟨q1,q2⟩:=A.kind b (by omega) hnall;obtain⟨q3,q4⟩:=h.frame.kind b hb hn;exact⟨q1.trans q3,fun o=>(q2 o).trans (q4 o)⟩
  ·rcases A.fresh b o hp with q|q|q
   ·exact h.frame.pub b o q
   ·exact Or.inr (own b o (Or.inl q))
   ·exact Or.inr (own b o (Or.inr q))
end Go.AL
end
noncomputable section
namespace Go.AL
variable [Tabs]
theorem po{a:Act}{l:List Operand}{args:Array Operand}(h:args.toList=l):(args.map a.eval)=(l.map a.eval).toArray:=by subst h;apply wQ;simp
def qv(P:Program)(C:Cfg)(o:Oper):Prop:=
 ∀(F:Fr)(s:AS)(a:Act)(E:Om)(eff:Eff)(next:Act->World->Prop)(Q:Exit->Act->World->Prop),
  Holds F s a E->(∀d,o.dst=some d->d<F.n)->ah C o s.T s.B=some eff->eff.asks->
  (match bA C o s.T s.B with
   |none=>∀a' E',Holds F (s.put o.dst eff) a' E'->next a' E'.w
   |some (b,pv,u)=>(b=false->∀a' E',Holds F (s.put o.dst eff) a' E'->next a' E'.w)/\
     (b=true->∀E' v,Holds F ⟨s.T,b7 s.B u⟩ a E'->V E' pv v->Q (.panic [{v,recovered:=false}]) a E'.w))->o.wp P a E.w next Q
theorem b4.p{P:Program}{C:Cfg}{o:Oper}(h:b4 P C o)(hp:∀T B,bA C o T B=none):qv P C o:=by
 intro F s a E eff next Q hh hd he ho hn
 rw[hp]at hn;exact h F s a E eff next Q hh hd he ho hn
theorem sF(e:Nat->Option CObj):Names (fun i o=>some (i,o)) some (fun _=>none) e e:=by
 refine⟨fun i o i' o' h b p l he=>?_,fun i i' h c hc=>?_,fun i i' h=>by simp at h⟩
 ·simp at h;obtain⟨rfl,rfl⟩:=h;exact⟨p,l,he,rfl⟩
 ·simp at h;subst h;exact hc
theorem uc{E:Om}{k:Bool}{cs ds:List AV}{vs:List Value}(h:VL E cs vs)(hs:ff k cs=some ds):VL E ds vs:=by
 cases k with|true=>simp[ff]at hs;subst hs;exact h|false=>exact h.mapVs (sF E.e) hs
section
variable {P:Program} {C:Cfg} {o:Oper}
theorem call_ok(hS:aX P C.spec){F:Fr}{s:AS}{a:Act}{E:Om}(h:Holds F s a E){d f:Nat}{args:List AV}{vs:List Value}(hv:VL E args vs){r:CallR}
 (hr:kc C d f args s.B=some r)(ho:r.eff.asks)(hdn:d<F.n){next:Act->World->Prop}{Q:Exit->Act->World->Prop}
 (hn:(match r.pan with
   |none=>∀a' E',Holds F (s.put (some d) r.eff) a' E'->next a' E'.w
   |some (b,pv,u)=>(b=false->∀a' E',Holds F (s.put (some d) r.eff) a' E'->next a' E'.w)/\
     (b=true->∀E' v,Holds F ⟨s.T,b7 s.B u⟩ a E'->V E' pv v->Q (.panic [{v,recovered:=false}]) a E'.w))) :
  aM P f/\Calls P f vs.toArray E.w fun
   |.returned v,w''=>next (a.put (some d) v) w''
   |.panicked chain,w''=>Q (.panic chain) a w''
   |.outgrown,_=>LetsOut Q:=by
 unfold kc at hr;split at hr
 ·cases hr
 ·rename_i args' hst;have hv':=uc hv hst;generalize hL:cQ C f args' s.B=L at hr;unfold s8 at hr;split at hr
  ·rename_i hck;simp only[vW,yo,yF]at hck;obtain⟨⟨hdist,hd⟩,hlen⟩:=hck;split at hr
   ·rename_i as S has hS';split at hr
    ·rename_i A hA;obtain⟨k1,k2,k3⟩:=dM L 900 S hS'
     have hob:(∀q,A.ob=some q->q):=by
      intro q hq
      have:r.eff.ob=A.ob.map qg:=by
       unfold qj at hr;split at hr
       ·split at hr
        ·simp at hr;subst hr;rfl
        ·split at hr
         ·simp at hr;subst hr;rfl
         ·cases hr
       ·cases hr
      unfold Eff.asks at ho;rw[this,hq]at ho;exact ho
     have hkeys:(ao S).all aP=true:=by simp only[ao,wk,wz];rintro k ⟨x,hx,rfl⟩;have:=k3 x hx;simp only[aP,vW,yF,yo];omega
     obtain⟨hent,hmeets⟩:=hS f as S A hA hob hkeys;have hlent:∀k i r,aI L k=some (i,r)->∃o o',s.B i=some o/\cC L r o=some o'/\ae S k=some o':=by intro k i r hk;obtain⟨h1,h2⟩:=cw hk;obtain⟨o,o',q1,q2,q3⟩:=k2 _ i r h2;rw[show 900+(k-900)=k by omega]at q3;exact⟨o,o',q1,q2,q3⟩
     have hLs:∀q i r,nth L q=some (i,r)->∃o o',s.B i=some o/\cC L r o=some o':=fun q i r hq=>let ⟨o,o',q1,q2,_⟩:=k2 q i r hq;⟨o,o',q1,q2⟩
     have hc:=hmeets E.w E.pub (bj L E.e) vs h.pubok (h.tabsC hLs) (hv'.mapVs (gd L E.e) has)
      (fun id o' ho'=>by
       obtain⟨q,i,r,o2,e1,e2,e3,e4⟩:=k1 id o' ho';subst e1;exact nX (b9 (gE L i 900 q r hdist e2)) (h.slots i o2 e3) e4)
      (fun id hid=>by
       unfold bj
       cases hl:aI L id with
       |none=>rfl
       |some x=>
        obtain⟨o1,o2,_,_,q3⟩:=hlent id x.1 x.2 hl;rw[hid]at q3;cases q3)
      (fun i j c c' b oo hi hj ho1 ho2=>by
       obtain⟨i1,r1,c1,p1,p2,p3⟩:=eQ h.slots hLs hi;obtain⟨i2,r2,c2,p4,p5,p6⟩:=eQ h.slots hLs hj;have:=h.inj i1 i2 c1 c2 b oo p2 p5 (p3 b oo ho1) (p6 b oo ho2);subst this;have a1:=bu hdist p1;have a2:=bu hdist p4;rw[a1]at a2;simp at a2;exact a2.1)
     refine⟨hent,Calls.mono hc (fun en w' hq=>?_)⟩;obtain⟨pub',e',hq⟩:=hq;unfold qj at hr;split at hr
     ·rename_i v1 u1 b1 b2 b3
      cases en with
      |outgrown=>exact hq.elim
      |returned v=>
       obtain⟨q1,q2,q3⟩:=hq;obtain⟨E',w1,w2,w3⟩:=iV h hd hdist hS' b3 b2 b1 q2 q3;subst w1;have fin:Holds F (s.put (some d) ⟨A.ob.map qg,v1,u1⟩) (a.put (some d) v) E':=by have:=w3.pure (dst:=some d) w2 (fun d' hd'=>by simp at hd';subst hd';exact hdn);exact this
       split at hr
       ·rename_i hp;simp at hr;subst hr;exact hn _ _ fin
       ·rename_i b pv pu hp;split at hr
        ·simp at hr;subst hr;exact hn.1 (q1 b pv pu hp) _ _ fin
        ·cases hr
      |panicked ch=>
       obtain⟨pv,u,v,q0,rfl,q2,q3⟩:=hq;split at hr
       ·rename_i hp;rw[q0]at hp;cases hp
       ·rename_i b pv' pu' hp;rw[q0]at hp;simp at hp;obtain⟨rfl,rfl,rfl⟩:=hp;split at hr
        ·rename_i pv1 pu1 c1 c2 c3;simp at hr;subst hr;obtain⟨E',w1,w2,w3⟩:=iV h hd hdist hS' c3 c2 c1 q2 q3;subst w1;exact hn.2 rfl E' v w3 w2
        ·cases hr
     ·cases hr
    ·cases hr
   ·cases hr
  ·cases hr
theorem iW{B:Nat->Option SObj}:∀(u:List (Nat×SObj))(B':Nat->Option SObj),(∀i o,B i=some o->B' i=some o)->cZ B u->b7 B' (nB B u)=b7 B' u
 |[],_,_,_=>rfl
 |(i,o)::r,B',hB,h=>by
  simp only[cZ,nB]at h⊢
  cases hl:B i with
  |some o'=>
   rw[hl]at h;obtain⟨rfl,h⟩:=h;simp only[b7]
   have e:(fun j=>if i=j then some o' else B' j)=B':=by
    funext j;by_cases hj:i=j
    ·subst hj;rw[wh rfl,hB i o' hl]
    ·rw[w5 hj]
   rw[e];exact iW r B' hB h
  |none=>
   rw[hl]at h;simp only[b7];refine iW r _ (fun j o2 hj=>?_) h;have:i≠j:=fun e=>by subst e;rw[hl]at hj;cases hj
   rw[w5 this];exact hB j o2 hj
theorem lB{b:Bool}{s:AS}{e:Eff}(d:Option Nat)(h:(cE b s.B e).asks):e.asks/\s.put d (cE b s.B e)=s.put d e:=by
 cases b with
 |false=>exact⟨h,rfl⟩
 |true=>obtain⟨h1,h2⟩:=h;refine⟨h1,?_⟩;simp only[AS.put,cE];rw[iW e.upd s.B (fun _ _ k=>k) h2]
theorem qw(hS:aX P C.spec){c:Call}(hop:o.op=.call c)(hc:∀b,c.callee≠.builtin b):qv P C o:=by
 intro F s a E eff next Q h hd he ho hn
 have hef:∃r,cR C o s.T s.B=some r/\cE (fR C o) s.B r.eff=eff:=by
  obtain⟨callee,args,ts⟩:=c
  cases callee with
  |builtin b=>exact absurd rfl (hc b)
  |value f=>
   simp only[ah,hop]at he;split at he
   ·rename_i r hr;simp at he;exact⟨r,hr,he⟩
   ·cases he
  |invoke r m=>
   simp only[ah,hop]at he;split at he
   ·rename_i r hr;simp at he;exact⟨r,hr,he⟩
   ·cases he
 obtain⟨r,hr,rfl⟩:=hef;obtain⟨ho',hput⟩:=lB o.dst ho;rw[hput]at hn;clear ho;have ho:=ho';have hpan:bA C o s.T s.B=r.pan:=by simp only[bA,hop,hr]
 rw[hpan]at hn;unfold cR at hr;split at hr
 ·rename_i c' d hop' hdst;rw[hop]at hop';simp at hop';subst hop';rw[hdst]at hn;have hdn:=hd d hdst;split at hr
  ·rename_i f args hcal
   have hargs:∃vs:List Value,VL E args vs/\∀fn,P.funcs[f]?=some fn->fn.body.isNone=false->(fn.name == "runtime.NumGoroutine")=false->
     (execOp a.eval o).run P E.w=.ok (.enter f vs.toArray) E.w:=by
    have hvl:VL E (c.args.toList.map (opd s.T)) (c.args.toList.map a.eval):=by refine⟨by simp,fun j x v hx hv=>?_⟩;simp only[wx,we]at hx hv;obtain⟨y,hy,rfl⟩:=hx;obtain⟨y',hy',rfl⟩:=hv;rw[hy]at hy';simp at hy';subst hy';exact aK h y
    obtain⟨callee,cargs,ts⟩:=c;unfold bp at hcal;split at hcal
    ·rename_i f' hf';simp at hcal hf';obtain⟨rfl,rfl⟩:=hcal;subst hf';refine⟨_,hvl,fun fn h1 h2 h3=>?_⟩;simp only[execOp,hop,resolve,Act.eval,Deferred.ofValue,w7,wy,vY,invoke,callFunc,run_program,h1];simp[h2,h3];exact po rfl
    ·rename_i t hf';simp at hf';subst hf';split at hcal
     ·rename_i f' caps hT;simp at hcal;obtain⟨rfl,rfl⟩:=hcal;have ht:=h.tmps t;rw[hT]at ht;generalize hxv:a.tmps.getD t undef=xv at ht
      cases ht with
      |fn _ _ us h1 h2=>
       refine⟨_,hvl.append ⟨h1,h2⟩,fun fn e1 e2 e3=>?_⟩;have hxv':a.tmps[t]?.getD undef=Value.func (Fn.func f') #[] us.toArray:=by rw[<-hxv];simp[w9]
       simp only[execOp,hop,resolve,Act.eval,hxv,Deferred.ofValue,w7,wy,vY,invoke,callFunc,run_program,e1];simp[e2,e3]
     ·cases hcal
    ·cases hcal
   obtain⟨vs,hv,hrun⟩:=hargs;obtain⟨⟨fn,e1,e2,e3⟩,hcalls⟩:=call_ok hS h hv hr ho hdn hn;unfold Oper.wp;rw[hrun fn e1 e2 e3,Oper.upon_enter,hdst];exact hcalls
  ·cases hr
 ·cases hr
theorem sG{x:Operand}(hop:o.op=.panic x):qv P C o:=by
 intro F s a E eff next Q h hd he ho hn
 simp only[ah,hop]at he;simp only[bA,hop]at hn;have hx:=aK h x;split at he
 ·rename_i t y hxe;rw[hxe]at hx hn;generalize hxv:a.eval x=xv at hx;have hx':=hx
  cases hx with
  |iface _ _ v hv=>
   have hrun:(execOp a.eval o).run P E.w=.halt (.panic (.iface t v)) E.w:=by simp[execOp,hop,hxv,Instr.panic,goPanic,Sem.run,Result.andThen]
   unfold Oper.wp;rw[hrun,Oper.upon_panic];exact hn.2 trivial E _ h hx'
 ·cases he
theorem uM(hT:aG P C.tbl)(hS:aX P C.spec)(o:Oper):qv P C o:=by
 have np:∀{op:Op},o.op=op->(∀x,op≠.panic x)->(∀c,op≠.call c)->∀T B,bA C o T B=none:=by
  intro op hop h1 h2 T B;unfold bA;split
  ·rename_i x hx;exact absurd (hop.symm.trans hx) (h1 x)
  ·rename_i c hx;exact absurd (hop.symm.trans hx) (h2 c)
  ·rfl
 have nb:∀{b:Builtin} {args:Array Operand} {ts:Array Nat},o.op=.call {callee:=.builtin b,args:=args,argTypes:=ts}->∀T B,bA C o T B=none:=by intro b args ts hop T B;simp only[bA,hop,cR];cases o.dst<;>simp[bp]
 cases hop:o.op with
 |move x=>exact(tY hop).p (np hop (by simp) (by simp))
 |assign x=>exact(qV hop).p (np hop (by simp) (by simp))
 |pick c x y=>exact(tZ hop).p (np hop (by simp) (by simp))
 |alloc e=>exact(sx hT hop).p (np hop (by simp) (by simp))
 |box e x=>exact(ve hop).p (np hop (by simp) (by simp))
 |build t ps=>exact(sy hT hop).p (np hop (by simp) (by simp))
 |buildSlice t n ps=>exact(lx hT hop).p (np hop (by simp) (by simp))
 |load t x=>exact(u5 hT hop).p (np hop (by simp) (by simp))
 |store t x y=>exact(sB hT hop).p (np hop (by simp) (by simp))
 |nilCheck x=>exact(nG hop).p (np hop (by simp) (by simp))
 |binOp op t x y t'=>exact(so hT hop).p (np hop (by simp) (by simp))
 |unOp op t x=>exact(ua hop).p (np hop (by simp) (by simp))
 |convert t t' x=>exact(pk hT hop).p (np hop (by simp) (by simp))
 |fieldAddr t x f=>exact(mH hT hop).p (np hop (by simp) (by simp))
 |field t x f=>exact(sr hT hop).p (np hop (by simp) (by simp))
 |indexAddr t x y=>exact(mI hT hop).p (np hop (by simp) (by simp))
 |index t x y=>exact(su hT hop).p (np hop (by simp) (by simp))
 |slice t x lo hi mx=>
  cases mx with
  |none=>exact(sw hT hop).p (np hop (by simp) (by simp))
  |some _=>intro F s a E eff next Q h hd he ho hn;simp[ah,hop]at he
 |extract x i=>exact(p8 hop).p (np hop (by simp) (by simp))
 |lookup t x k ok=>exact(rh hT hop).p (np hop (by simp) (by simp))
 |mapUpdate t x k v=>exact(lV hT (Or.inl hop)).p (np hop (by simp) (by simp))
 |insert t x k v=>exact(lV hT (Or.inr hop)).p (np hop (by simp) (by simp))
 |makeMap t r=>exact(pj hT hop).p (np hop (by simp) (by simp))
 |makeSlice t x y=>exact(mU hT hop).p (np hop (by simp) (by simp))
 |makeFunc f x y=>exact(nU hop).p (np hop (by simp) (by simp))
 |makeInterface t x=>exact(iS hT hop).p (np hop (by simp) (by simp))
 |typeAssert x t t' b=>exact(lA hT hop).p (np hop (by simp) (by simp))
 |panic x=>exact sG hop
 |call c=>
  obtain⟨callee,args,ts⟩:=c
  cases callee with
  |builtin b=>
   cases b with
   |len=>exact(vd hT hop).p (nb hop)
   |append=>exact(r8 hT hop).p (nb hop)
   |max=>exact(vf hop).p (nb hop)
   |min=>exact(vg hop).p (nb hop)
   |_=>intro F s a E eff next Q h hd he ho hn;simp[ah,hop]at he
  |value f=>exact qw hS hop (by simp)
  |invoke r m=>exact qw hS hop (by simp)
 |_=>intro F s a E eff next Q h hd he ho hn;simp[ah,hop]at he
end
end Go.AL
end
noncomputable section
namespace Go.AL
variable [Tabs]
theorem cU:∀(l:List (Nat×AV))(i:Nat)(v:AV)(j:Nat),aE (fb l i v) j=if i=j then v else aE l j
 |[],i,v,j=>by simp[nz,lM,bD,bl]
 |(k,u)::r,i,v,j=>by
  simp only[nz,lM];by_cases hk:k=i
  ·subst hk;simp only[xZ,wR,bD,bl,wG];by_cases h:k=j<;>simp[h]
  ·simp only[wG,hk,wA,bD,bl,cU r i v j];by_cases h:k=j
   ·subst h;have:¬i=k:=fun e=>hk e.symm;simp[this]
   ·simp[h]
theorem dN:∀(l:List (Nat×SObj))(i:Nat)(v:SObj)(j:Nat),ae (jF l i v) j=if i=j then some v else ae l j
 |[],i,v,j=>by simp[im,gy,aw,aq]
 |(k,u)::r,i,v,j=>by
  simp only[im,gy];by_cases hk:k=i
  ·subst hk;simp only[xZ,wR,aw,aq,wG];by_cases h:k=j<;>simp[h]
  ·simp only[wG,hk,wA,aw,aq,dN r i v j];by_cases h:k=j
   ·subst h;have:¬i=k:=fun e=>hk e.symm;simp[this]
   ·simp[h]
theorem kF(t:List (Nat×AV))(d:Option Nat)(v:AV):aE (jG t d v)=aZ (aE t) d v:=by
 funext j
 cases d with|none=>rfl|some d=>simp[jG,aZ,cU]
theorem eR:∀(u:List (Nat×SObj))(b:List (Nat×SObj)),ae (b5 b u)=b7 (ae b) u
 |[],b=>rfl
 |(i,o)::r,b=>by simp only[b5,b7];rw[eR r];congr 1;funext j;exact dN b i o j
theorem mW(s:St)(d:Option Nat)(e:Eff):(s.put d e).abs=s.abs.put d e:=by simp only[St.put,St.abs,AS.put,kF,eR]
def fx(ops:List Oper)(o:Oper)(T:Nat->AV):Option Bool:=
 match o.guard with
 |none=>some true
 |some (j,want)=>
  match(nth ops j).bind (·.dst)with
  |none=>none
  |some d=>(match T d with|.bool b=>some (b ==want)|.tup []=>some false|_=>none)
def kG(C:Cfg)(ops:List Oper)(o:Oper)(s s':AS)(f:bw):Prop:=
 (fx ops o s.T=some true/\∃e,ah C o s.T s.B=some e/\e.asks/\bA C o s.T s.B=none/\s'=s.put o.dst e/\f=(au C o s.T s.B,e.upd.map (·.1)))∨
 (fx ops o s.T=some false/\s'=⟨aZ s.T o.dst (.tup []),s.B⟩/\f=([],[]))
def pq(C:Cfg)(ops:List Oper):List Oper->AS->List bw->AS->Prop
 |[],s,fs,s'=>s=s'/\fs=[]
 |o::r,s,fs,s'=>∃s1 f fs',kG C ops o s s1 f/\pq C ops r s1 fs' s'/\fs=f::fs'
theorem ud{e:Eff}{q:Prop}(h:lO e.ob q):e.asks/\q:=by
 unfold lO at h;unfold Eff.asks
 cases hob:e.ob with|none=>rw[hob]at h;exact⟨trivial,h⟩|some p=>rw[hob]at h;exact h
theorem jm{C:Cfg}{ops:List Oper}{draw:Bool}{kp:AV->St->Prop}{o:Oper}{r:List Oper}{i:Nat}{s:St}{fs:List bw}{k:St->List bw->Prop}
 (h:aU C ops draw kp (o::r) i s fs k) :
  (fx ops o s.abs.T=some true/\∃e,ah C o s.abs.T s.abs.B=some e/\e.asks/\
   (match bA C o s.abs.T s.abs.B with
    |none=>aU C ops draw kp r (i+1) (s.put o.dst e) ((au C o s.abs.T s.abs.B,e.upd.map (·.1))::fs) k
    |some (b,pv,u)=>draw=false/\(b=true->kp pv ⟨s.t,b5 s.b u⟩)/\(b=false->aU C ops draw kp r (i+1) (s.put o.dst e) ((au C o s.abs.T s.abs.B,e.upd.map (·.1))::fs) k)))∨
  (fx ops o s.abs.T=some false/\aU C ops draw kp r (i+1) ⟨jG s.t o.dst (.tup []),s.b⟩ (([],[])::fs) k):=by
 have on:fx ops o s.abs.T=some true->
   (match ah C o (aE s.t) (ae s.b)with
    |none=>False
    |some e=>lO e.ob
     (match bA C o (aE s.t) (ae s.b)with
     |none=>
      (match da ops i,e.val with
      |true,.bool b=>
       sp b (aU C ops draw kp r (i+1) (s.put o.dst {e with val:=.bool true}) ((au C o (aE s.t) (ae s.b),e.upd.map (·.1))::fs) k)
        (aU C ops draw kp r (i+1) (s.put o.dst {e with val:=.bool false}) ((au C o (aE s.t) (ae s.b),e.upd.map (·.1))::fs) k)
      |true,_=>False
      |false,_=>aU C ops draw kp r (i+1) (s.put o.dst e) ((au C o (aE s.t) (ae s.b),e.upd.map (·.1))::fs) k)
     |some (b,pv,u)=>
      (match draw||da ops i with
      |true=>False
      |false=>sp b (kp pv ⟨s.t,b5 s.b u⟩) (aU C ops draw kp r (i+1) (s.put o.dst e) ((au C o (aE s.t) (ae s.b),e.upd.map (·.1))::fs) k))))->
   (fx ops o s.abs.T=some true/\∃e,ah C o s.abs.T s.abs.B=some e/\e.asks/\
    (match bA C o s.abs.T s.abs.B with
     |none=>aU C ops draw kp r (i+1) (s.put o.dst e) ((au C o s.abs.T s.abs.B,e.upd.map (·.1))::fs) k
     |some (b,pv,u)=>draw=false/\(b=true->kp pv ⟨s.t,b5 s.b u⟩)/\(b=false->aU C ops draw kp r (i+1) (s.put o.dst e) ((au C o s.abs.T s.abs.B,e.upd.map (·.1))::fs) k))):=by
  intro hg hq;split at hq
  ·exact hq.elim
  ·rename_i e he;obtain⟨hask,h2⟩:=ud hq;refine⟨hg,e,he,hask,?_⟩
   show(match bA C o (aE s.t) (ae s.b)with
     |none=>aU C ops draw kp r (i+1) (s.put o.dst e) ((au C o (aE s.t) (ae s.b),e.upd.map (·.1))::fs) k
     |some (b,pv,u)=>draw=false/\(b=true->kp pv ⟨s.t,b5 s.b u⟩)/\(b=false->aU C ops draw kp r (i+1) (s.put o.dst e) ((au C o (aE s.t) (ae s.b),e.upd.map (·.1))::fs) k))
   cases hp:bA C o (aE s.t) (ae s.b)with
   |none=>
    rw[hp]at h2;simp only at h2⊢;split at h2
    ·rename_i b _ hb;unfold sp at h2;split at h2
     ·rename_i hbt;subst hbt;have:({e with val:=.bool true}:Eff)=e:=by rw[<-hb]
      rw[this]at h2;exact h2
     ·rename_i hbt;have hbf:b=false:=by simpa using hbt
      subst hbf;have:({e with val:=.bool false}:Eff)=e:=by rw[<-hb]
      rw[this]at h2;exact h2
    ·exact h2.elim
    ·exact h2
   |some x=>
    obtain⟨b,pv,u⟩:=x;rw[hp]at h2;simp only at h2⊢;split at h2
    ·exact h2.elim
    ·rename_i hdr;simp only[yx]at hdr;unfold sp at h2;refine⟨hdr.1,fun hb=>?_,fun hb=>?_⟩
     ·rw[wh hb]at h2;exact h2
     ·subst hb;simpa using h2
 simp only[aU]at h;split at h
 ·rename_i hgd;exact Or.inl (on (by simp[fx,hgd]) h)
 ·rename_i j want hgd;split at h
  ·exact h.elim
  ·rename_i d hd;split at h
   ·rename_i hb;cases want
    ·exact Or.inr ⟨by simp[fx,hgd,hd,St.abs,hb],h⟩
    ·exact Or.inl (on (by simp[fx,hgd,hd,St.abs,hb]) h)
   ·rename_i hb;cases want
    ·exact Or.inl (on (by simp[fx,hgd,hd,St.abs,hb]) h)
    ·exact Or.inr ⟨by simp[fx,hgd,hd,St.abs,hb],h⟩
   ·rename_i hb;exact Or.inr ⟨by simp[fx,hgd,hd,St.abs,hb],h⟩
   ·exact h.elim
theorem hU(C:Cfg)(ops:List Oper)(kp:AV->St->Prop)(k:St->List bw->Prop):∀(l:List Oper)(i:Nat)(s:St)(fs:List bw),aU C ops true kp l i s fs k->
  ∃s' fs',pq C ops l s.abs fs' s'.abs/\k s' (fs.reverse++fs')
 |[],i,s,fs,h=>⟨s,[],⟨rfl,rfl⟩,by simpa[aU]using h⟩
 |o::r,i,s,fs,h=>by
  rcases jm h with⟨hg,e,he,hask,hq⟩|⟨hg,hq⟩
  ·cases hp:bA C o s.abs.T s.abs.B with
   |none=>rw[hp]at hq;obtain⟨s',fs',h1,h2⟩:=hU C ops kp k r (i+1) _ _ hq;rw[mW]at h1;exact⟨s',_::fs',⟨_,_,fs',Or.inl ⟨hg,e,he,hask,hp,rfl,rfl⟩,h1,rfl⟩,by simpa[St.abs]using h2⟩
   |some x=>rw[hp]at hq;cases hq.1
  ·obtain⟨s',fs',h1,h2⟩:=hU C ops kp k r (i+1) _ _ hq;have e:(⟨jG s.t o.dst (.tup []),s.b⟩:St).abs=⟨aZ s.abs.T o.dst (.tup []),s.abs.B⟩:=by simp only[St.abs,kF]
   rw[e]at h1;exact⟨s',_::fs',⟨_,_,fs',Or.inr ⟨hg,rfl,rfl⟩,h1,rfl⟩,by simpa[St.abs]using h2⟩
section
variable {P:Program} {C:Cfg} {ops:Array Oper} {Q:Exit->Act->World->Prop} {F:Fr}
theorem V.skip{E:Om}:V E (.tup []) Go.undef:=.tup [] [] rfl (fun j c v h=>by simp at h)
theorem V.tup0_inv{E:Om}{v:Value}(h:V E (.tup []) v):v=.tuple #[]:=by
 cases h with|tup _ vs h1 _=>have:vs=[]:=wi h1.symm;subst this;rfl
theorem jn{o:Oper}{s:AS}{a:Act}{E:Om}(h:Holds F s a E):∀b,fx ops.toList o s.T=some b->Region.wanted o (yielded ops a.tmps)=b:=by
 intro b hb;unfold fx at hb;unfold Region.wanted;split at hb
 ·rename_i hg;simp only[hg];simpa using hb
 ·rename_i j want hg;simp only[hg];split at hb
  ·simp at hb
  ·rename_i d hd';split at hb
   ·rename_i c hc;simp at hb;have hv:=h.tmps d;rw[hc]at hv;have hv:=hv.bool_inv
    have hsome:a.tmps[d]?=some (.bool c):=by
     rw[w9]at hv
     cases ht:a.tmps[d]? with|none=>rw[ht]at hv;simp[undef]at hv|some v=>rw[ht]at hv;simp at hv;rw[hv]
    have hdst:(ops[j]?).bind (·.dst)=some d:=by rw[fT,wg]at hd';exact hd'
    simp only[yielded,hdst,Option.bind_some,hsome];rw[<-hb];cases c<;>cases want<;>rfl
   ·rename_i hc;simp at hb;subst hb;have hv:=h.tmps d;rw[hc]at hv;have hdst:(ops[j]?).bind (·.dst)=some d:=by rw[fT,wg]at hd';exact hd'
    have hsome:a.tmps[d]?=none∨a.tmps[d]?=some (.tuple #[]):=by
     rw[w9]at hv
     cases ht:a.tmps[d]? with|none=>exact .inl rfl|some v=>rw[ht]at hv;simp only[wN]at hv;exact .inr (by rw[hv.tup0_inv])
    rcases hsome with e|e<;>simp only[yielded,hdst,Option.bind_some,e]<;>cases want<;>rfl
   ·simp at hb
theorem pr(hT:aG P C.tbl)(hS:aX P C.spec){o:Oper}{i:Nat}(hi:ops[i]?=some o)(hd:∀d,o.dst=some d->d<F.n)
 {s s':AS}{f:bw}{a:Act}{E:Om}(h:Holds F s a E)(hs:kG C ops.toList o s s' f){K:Act->World->Prop}
 (hK:∀a' E',Holds F s' a' E'->K a' E'.w):wpOp P ops Q i K a E.w:=by
 have hgate:=jn (ops:=ops) (o:=o) h;unfold wpOp;rw[hi];rcases hs with⟨hg,e,he,ho,hp,rfl,rfl⟩|⟨hg,rfl,rfl⟩
 ·simp only[hgate true hg,wR];refine Or.inl (uM hT hS o F s a E e K Q h hd he ho ?_);rw[hp];exact hK
 ·simp only[hgate false hg,wX,wA];exact hK _ E (h.pure V.skip hd)
theorem gF(hT:aG P C.tbl)(hS:aX P C.spec)(hd:∀(o:Oper),o∈ops.toList->∀d,o.dst=some d->d<F.n){draw:Bool}{kp:AV->St->Prop}{k:St->List bw->Prop}
 (hQ:∀s fs a' E',k s fs->Holds F s.abs a' E'->Q .normal a' E'.w)(hP:∀pv s a' E' v,kp pv s->Holds F s.abs a' E'->V E' pv v->Q (.panic [{v,recovered:=false}]) a' E'.w) :
  ∀(l:List Oper)(i:Nat)(s:St)(fs:List bw)(a:Act)(E:Om),ops.toList.drop i=l->aU C ops.toList draw kp l i s fs k->Holds F s.abs a E->
   wpOps P ops Q (List.range' i l.length) a E.w
 |[],i,s,fs,a,E,_,hr,h=>hQ s _ a E (by simpa[aU]using hr) h
 |o::r,i,s,fs,a,E,hl,hr,h=>by
  have hi:ops[i]?=some o:=by
   have:(ops.toList.drop i)[0]?=some o:=by rw[hl];rfl
   rw[wO]at this;simpa using this
  have hl':ops.toList.drop (i+1)=r:=by rw[<-List.tail_drop,hl];rfl
  have hdo:=hd o (wq (by rw[wg];exact hi));have hgate:=jn (ops:=ops) (o:=o) h;simp only[wo,List.range'_succ];rw[wpOps_cons];unfold wpOp;rw[hi];rcases jm hr with⟨hg,e,he,hask,hq⟩|⟨hg,hq⟩
  ·simp only[hgate true hg,wR];refine Or.inl (uM hT hS o F s.abs a E e _ Q h hdo he hask ?_)
   cases hp:bA C o s.abs.T s.abs.B with
   |none=>rw[hp]at hq;intro a' E' h';rw[<-mW]at h';exact gF hT hS hd hQ hP r (i+1) _ _ a' E' hl' hq h'
   |some x=>
    obtain⟨b,pv,u⟩:=x;rw[hp]at hq;refine⟨fun hb a' E' h'=>?_,fun hb E' v h' hv=>?_⟩
    ·rw[<-mW]at h';exact gF hT hS hd hQ hP r (i+1) _ _ a' E' hl' (hq.2.2 hb) h'
    ·refine hP pv _ a E' v (hq.2.1 hb) ?_ hv;have e2:(⟨s.t,b5 s.b u⟩:St).abs=⟨s.abs.T,b7 s.abs.B u⟩:=by simp only[St.abs,eR]
     rw[e2];exact h'
  ·simp only[hgate false hg,wX,wA];have e2:(⟨jG s.t o.dst (.tup []),s.b⟩:St).abs=⟨aZ s.abs.T o.dst (.tup []),s.abs.B⟩:=by simp only[St.abs,kF]
   exact gF hT hS hd hQ hP r (i+1) _ _ _ E hl' hq (by rw[e2];exact h.pure V.skip hdo)
end
end Go.AL
end
noncomputable section
namespace Go.AL
variable [Tabs]
theorem iX(look:Nat->Option SObj):∀(n:Nat)(todo acc:List Nat),∀i∈acc,i∈eI look n todo acc
 |0,todo,acc,i,h=>by simpa[eI]using h
 |n+1,[],acc,i,h=>by simpa[eI]using h
 |n+1,j::r,acc,i,h=>by
  simp only[eI];split
  ·exact iX look n r acc i h
  ·exact iX look n _ _ i (by simp[h])
theorem gg{look look':Nat->Option SObj}:∀(n:Nat)(todo acc:List Nat),(∀i∈eI look n todo acc,look i=look' i)->eI look n todo acc=eI look' n todo acc
 |0,todo,acc,h=>rfl
 |n+1,[],acc,h=>rfl
 |n+1,j::r,acc,h=>by
  simp only[eI]at h⊢;split
  ·rename_i hc;rw[wh hc]at h;exact gg n r acc h
  ·rename_i hc;rw[w5 hc]at h;have hj:=h j (iX look n _ _ j (by simp));rw[<-hj];exact gg n _ _ h
theorem iA{C:Cfg}{f:Nat}{args:List AV}{look look':Nat->Option SObj}(h:∀i∈(cQ C f args look).map (·.1),look i=look' i):cQ C f args look=cQ C f args look':=by
 have hm:(cQ C f args look).map (·.1)=eI look 64 (ids.idsL args) []:=by simp[cQ,yM]
 rw[hm]at h;have hr:=gg 64 (ids.idsL args) [] h;unfold cQ;rw[<-hr];apply y8;intro i hi;have hb:qi look i=qi look' i:=by unfold qi;rw[h i hi]
 rw[hb]
theorem kH{look look':Nat->Option SObj}{L:List bz}:∀(l:List bz)(j:Nat),(∀i∈l.map (·.1),look i=look' i)->ir look L l j=ir look' L l j
 |[],j,_=>rfl
 |(i,r)::l,j,h=>by simp only[ir];rw[<-h i (by simp),kH l (j+1) (fun k hk=>h k (by simp only[wu];exact wa _ hk))]
theorem dm{look look':Nat->Option SObj}{L:List bz}{d:Nat}:∀(u:List (Nat×SObj)),(∀i∈L.map (·.1),look i=look' i)->(∀i∈cD L d u,look i=look' i)->fI look L d u=fI look' L d u
 |[],_,_=>rfl
 |(k,o)::u,h,hn=>by
  simp only[fI]
  cases hk:aI L k with
  |some x=>obtain⟨i,r⟩:=x;have hm:i∈L.map (·.1):=wz.2 ⟨(i,r),mV L _ _ (cw hk).2,rfl⟩;have ih:=dm u h (fun j hj=>hn j (by simp only[cD,yC,hk]at hj⊢;exact hj));simp only[<-h i hm,ih]
  |none=>
   have ih:=dm u h (fun j hj=>hn j (by
    simp only[cD,yC,hk]at hj⊢;exact wa _ hj))
   have h1:=hn (nid d k) (by simp only[cD,yC,hk];exact wK ..);simp only[<-h1,ih]
theorem gh{L:List bz}{d:Nat}{S u:List (Nat×SObj)}(hS:∀x∈S,∃y,aI L x.1=some y):cD L d (dz S u)=cD L d u:=by
 have e:∀v w:List (Nat×SObj),cD L d (v++w)=cD L d v++cD L d w:=fun v w=>List.filterMap_append;have z:cD L d (S.filter fun x=>!(u.map (·.1)).contains x.1)=[]:=by unfold cD;rw[List.filterMap_eq_nil_iff];intro x hx;obtain⟨y,hy⟩:=hS x (wI.1 hx).1;simp[hy]
 unfold dz;rw[e,z,xO]
theorem o6{C:Cfg}{d f:Nat}{args args':List AV}{look look':Nat->Option SObj}{r:CallR}(hr:kc C d f args look=some r)(hst:ff (C.keeps f) args=some args')
 (h1:∀i∈(cQ C f args' look).map (·.1),look i=look' i)(h2:∀i∈r.foot,look i=look' i):kc C d f args look'=some r:=by
 unfold kc at hr⊢;rw[hst]at hr⊢;simp only at hr⊢;rw[<-iA h1];generalize cQ C f args' look=L at hr h1⊢;unfold s8 at hr⊢;split at hr
 ·rename_i hck;have hd:aF (L.map (·.1))=true:=by simp only[vW]at hck;exact hck.1.1
  rw[<-kH L 900 h1];split at hr
  ·rename_i as S has hS;split at hr
   ·rename_i A hA;have hSl:∀x∈S,∃y,aI L x.1=some y:=by intro x hx;obtain⟨q,i,r,o,e1,e2,_⟩:=(dM L 900 S hS).1 x.1 x.2 (kE L 900 S hS x hx);rw[e1];exact⟨(i,r),b9 (gE L i 900 q r hd e2)⟩
    unfold qj at hr⊢;split at hr
    ·rename_i v u c1 c2 c3;split at hr
     ·rename_i hp;simp at hr;subst hr;rw[c1,<-dm (dz S A.upd) h1 (by rw[gh hSl];exact h2),c2,c3]
     ·rename_i b pv pu hp;split at hr
      ·rename_i pv' pu' q1 q2 q3;simp at hr;subst hr;rw[c1,<-dm (dz S A.upd) h1 (by rw[gh hSl];exact fun i hi=>h2 i (by simp[hi])),c2,c3];simp only;rw[q1,<-dm (dz S pu) h1 (by rw[gh hSl];exact fun i hi=>h2 i (by simp[hi])),q2,q3]
      ·cases hr
    ·cases hr
   ·cases hr
  ·cases hr
 ·cases hr
theorem gS{B B':Nat->Option SObj}:∀(u:List (Nat×SObj)),(∀i∈u.map (·.1),B i=B' i)->cZ B u=cZ B' u
 |[],_=>rfl
 |(i,o)::r,h=>by simp only[cZ];rw[h i (by simp),gS r (fun j hj=>h j (by simp only[wu];exact wa _ hj))]
theorem gi{B B':Nat->Option SObj}:∀(u:List (Nat×SObj)),(∀i∈u.map (·.1),B i=B' i)->df B u=df B' u
 |[],_=>rfl
 |(i,o)::r,h=>by simp only[df];rw[h i (by simp),gi r (fun j hj=>h j (by simp only[wu];exact wa _ hj))]
theorem DP.same{d e:DP}(h1:d.p=e.p)(h2:d.b=e.b):d=e:=by cases d;cases e;cases h1;cases h2;rfl
theorem kI{B B':Nat->Option SObj}:∀(u:List (Nat×SObj)),(∀i∈u.map (·.1),B i=B' i)->nB B u=nB B' u
 |[],_=>rfl
 |(i,o)::r,h=>by simp only[nB];rw[h i (by simp),kI r (fun j hj=>h j (by simp only[wu];exact wa _ hj))]
def sH:Op->Bool
 |.call {callee:=.value _,..}=>true
 |_=>false
theorem pw(C:Cfg)(o:Oper)(T T':Nat->AV)(B B':Nat->Option SObj)(hnc:sH o.op=false)(h:∀x∈o.op.operands.toList,opd T x=opd T' x)
 (hb:∀id∈au C o T B,B id=B' id):au C o T B=au C o T' B'/\ah C o T B=ah C o T' B'/\bA C o T B=bA C o T' B':=by
 suffices hs:au C o T B=au C o T' B'/\ah C o T B=ah C o T' B' by
  refine⟨hs.1,hs.2,?_⟩;unfold bA
  cases hop:o.op with
  |panic x=>simp[hop,Op.operands]at h;simp[h]
  |call c=>
   obtain⟨callee,args,ts⟩:=c
   cases callee with
   |builtin b=>simp[cR,hop,bp];cases o.dst<;>rfl
   |value f=>rw[hop]at hnc;cases hnc
   |invoke r m=>simp[cR,hop,bp];cases o.dst<;>rfl
  |_=>rfl
 have mapEq:∀ps:Array (Nat×Operand),(∀x∈(ps.toList.map (·.2)),opd T x=opd T' x)->
   (ps.toList.map fun(i,x)=>(i,opd T x))=(ps.toList.map fun(i,x)=>(i,opd T' x)):=by
  intro ps hps;apply y8;rintro⟨i,x⟩ hx;simp only[yq,xz];exact hps x (wz.2 ⟨(i,x),hx,rfl⟩)
 have bndEq:∀x:Option Operand,(∀y∈x.toArray.toList,opd T y=opd T' y)->bnd T x=bnd T' x:=by
  intro x hx
  cases x with|none=>rfl|some y=>simp only[bnd];rw[hx y (by simp)]
 cases hop:o.op with
 |move x=>simp[hop,Op.operands]at h;simp[au,ah,hop,h]
 |assign x=>simp[hop,Op.operands]at h;simp[au,ah,hop,h]
 |pick c x y=>simp[hop,Op.operands]at h;obtain⟨h1,h2,h3⟩:=h;simp only[au,ah,hop,h1,h2,h3,yT]
 |alloc e=>
  simp only[au,hop]at hb;refine⟨by simp only[au,hop],?_⟩;simp only[ah,hop];split
  ·rename_i d r h1 h2;rw[hb d (by simp[h1])]
  ·rfl
 |box e x=>
  simp[hop,Op.operands]at h;simp only[au,hop]at hb;refine⟨by simp only[au,hop],?_⟩;simp only[ah,hop];split
  ·rename_i d r h1 h2;rw[hb d (by simp[h1]),h]
  ·rfl
 |build t ps=>simp only[hop,Op.operands]at h;refine⟨by simp only[au,hop],?_⟩;simp only[ah,hop];rw[mapEq ps (by simpa using h)]
 |buildSlice t n ps=>
  simp only[hop,Op.operands]at h;simp only[au,hop]at hb;refine⟨by simp only[au,hop],?_⟩;simp only[ah,hop];split
  ·rename_i d e sz by' z ty h1 h2
   rw[hb d (by simp[h1]),mapEq ps (by simpa using h)]
  ·rfl
 |load t x=>
  simp[hop,Op.operands]at h;simp only[au,hop]at hb;refine⟨by simp only[au,hop,h],?_⟩;simp only[ah,hop];split
  ·rw[<-h];split
   ·rename_i id off hx;rw[hx]at hb;rw[hb id (by simp)]
   ·rfl
   ·rename_i id i w off hx;rw[hx]at hb;rw[hb id (by simp)]
   ·rfl
  ·rfl
 |store t x y=>
  simp[hop,Op.operands]at h;simp only[au,hop]at hb;refine⟨by simp only[au,hop,h.1],?_⟩;simp only[ah,hop];split
  ·rw[<-h.1,<-h.2];split
   ·rfl
   split
   ·rename_i id off hx;rw[hx]at hb;rw[hb id (by simp)]
   ·rename_i id i w off hx;rw[hx]at hb;rw[hb id (by simp)]
   ·rename_i I n k hx;rw[hx]at hb;rw[hb k (by simp)]
   ·rfl
  ·rfl
 |nilCheck x=>simp[hop,Op.operands]at h;exact⟨by simp only[au,hop],by simp only[ah,hop];rw[h]⟩
 |binOp op t x y t'=>simp[hop,Op.operands]at h;exact⟨by simp only[au,hop],by simp only[ah,hop];rw[h.1,h.2]⟩
 |unOp op t x=>simp[hop,Op.operands]at h;exact⟨by simp only[au,hop],by simp only[ah,hop];rw[h]⟩
 |convert t t' x=>simp[hop,Op.operands]at h;exact⟨by simp only[au,hop],by simp only[ah,hop];rw[h]⟩
 |fieldAddr t x f=>simp[hop,Op.operands]at h;exact⟨by simp only[au,hop],by simp only[ah,hop];rw[h]⟩
 |field t x f=>simp[hop,Op.operands]at h;exact⟨by simp only[au,hop],by simp only[ah,hop];rw[h]⟩
 |indexAddr t x y=>simp[hop,Op.operands]at h;exact⟨by simp only[au,hop],by simp only[ah,hop];rw[h.1,h.2]⟩
 |index t x y=>simp[hop,Op.operands]at h;exact⟨by simp only[au,hop],by simp only[ah,hop];rw[h.1,h.2]⟩
 |slice t x lo hi mx=>
  cases mx with|some _=>simp only[au,ah,hop,yT]|none=>simp only[hop,Op.operands]at h;have h1:opd T x=opd T' x:=h x (by simp);have h2:bnd T lo=bnd T' lo:=bndEq lo (fun y hy=>h y (by simp at hy⊢;simp[hy]));have h3:bnd T hi=bnd T' hi:=bndEq hi (fun y hy=>h y (by simp at hy⊢;simp[hy]));simp only[au,ah,hop,h1,h2,h3,yT]
 |extract x i=>simp[hop,Op.operands]at h;exact⟨by simp only[au,hop],by simp only[ah,hop];rw[h]⟩
 |call c=>
  obtain⟨callee,args,ts⟩:=c
  cases callee with
  |builtin b=>
   cases b with
   |len=>
    simp only[hop,Op.operands,Call.operands]at h;simp only[au,hop]at hb;refine⟨?_,?_⟩
    ·simp only[au,hop];split
     ·rename_i x hx;rw[h x (by simp[hx])]
     ·rfl
    ·simp only[ah,hop];split
     ·rename_i x t hx ht;rw[hx]at hb;simp only at hb;have hx':=h x (by simp[hx]);rw[<-hx'];unfold uZ;split
      ·rfl
      ·rfl
      ·rfl
      ·rfl
      ·rename_i id _ hxe;rw[hxe]at hb;rw[hb id (by simp)]
      ·rfl
     ·rfl
   |append=>
    simp only[hop,Op.operands,Call.operands]at h;simp only[au,hop]at hb;refine⟨?_,?_⟩
    ·simp only[au,hop];split
     ·rename_i x y hx;rw[h x (by simp[hx])]
     ·rfl
    ·simp only[ah,hop];split
     ·rename_i x y t t' d hx ht hdst;split
      ·rw[<-h x (by simp[hx]),<-h y (by simp[hx])];rw[hx]at hb;simp only at hb;split
       ·unfold jN;split
        ·split
         ·split
          ·rename_i hxe hye;rw[hxe]at hb;simp only at hb;rw[hb _ (by simp)]
          ·rename_i hxe hye;rw[hxe]at hb;simp only at hb;rw[hb d (by simp[hdst])]
          ·rfl
         ·rfl
        ·rfl
       unfold mw;split
       ·split
        ·split
         ·rfl
         ·rfl
         ·rename_i hxe hye;rw[hxe]at hb;simp only at hb;rw[hb _ (by simp)]
         ·rename_i hxe hye;rw[hxe]at hb;simp only at hb;rw[hb d (by simp[hdst])]
         ·rfl
        ·rfl
       ·rfl
      ·rw[<-h x (by simp[hx]),<-h y (by simp[hx])];rw[hx]at hb;simp only at hb;split
       ·unfold jO;split
        ·split
         ·split
          ·rename_i xs k hxe;rw[hxe]at hb;simp only at hb;rw[hb k (by simp)]
          ·rfl
         ·rfl
        ·rfl
       ·rfl
     ·rfl
   |max=>
    simp only[hop,Op.operands,Call.operands]at h;refine⟨by simp only[au,hop,bp],?_⟩;simp only[ah,hop];split
    ·rename_i x y hx;rw[h x (by simp[hx]),h y (by simp[hx])]
    ·rfl
   |min=>
    simp only[hop,Op.operands,Call.operands]at h;refine⟨by simp only[au,hop,bp],?_⟩;simp only[ah,hop];split
    ·rename_i x y hx;rw[h x (by simp[hx]),h y (by simp[hx])]
    ·rfl
   |_=>simp only[au,ah,hop,bp,yT]
  |value f=>rw[hop]at hnc;cases hnc
  |invoke r m=>simp only[au,ah,hop,cR,bp];exact⟨trivial,by cases o.dst<;>rfl⟩
 |lookup t x k ok=>
  simp[hop,Op.operands]at h;simp only[au,hop]at hb;refine⟨by simp only[au,hop,h.1],?_⟩;simp only[ah,hop,<-h.1,<-h.2,mA];split
  ·rename_i kt e sz by' z ty id hr hxe
   rw[hxe]at hb;rw[hb id (by simp)]
  ·rfl
  ·rfl
 |mapUpdate t x k v=>
  simp[hop,Op.operands]at h;simp only[au,hop]at hb;refine⟨by simp only[au,hop,h.1],?_⟩;simp only[ah,hop,<-h.1,<-h.2.1,<-h.2.2,fh];split
  ·rename_i kt e sz by' z ty id hr hxe
   rw[hxe]at hb;rw[hb id (by simp)]
  ·rfl
 |insert t x k v=>
  simp[hop,Op.operands]at h;simp only[au,hop]at hb;refine⟨by simp only[au,hop,h.1],?_⟩;simp only[ah,hop,<-h.1,<-h.2.1,<-h.2.2,fh];split
  ·rename_i kt e sz by' z ty id hr hxe
   rw[hxe]at hb;rw[hb id (by simp)]
  ·rfl
 |makeMap t r=>
  simp only[hop,Op.operands]at h;simp only[au,hop]at hb;refine⟨by simp only[au,hop],?_⟩
  have hr:r.map (opd T)=r.map (opd T'):=by
   cases r with|none=>rfl|some y=>simp only[wV];rw[h y (by simp)]
  simp only[ah,hop,hr];split
  ·rename_i d k e sz by' z ty hd ht
   rw[hb d (by simp[hd])]
  ·rfl
 |makeSlice t x y=>
  simp[hop,Op.operands]at h;simp only[au,hop]at hb;refine⟨by simp only[au,hop],?_⟩;simp only[ah,hop,h.1,h.2];split
  ·rename_i d e sz by' z ty m n hd ht hx hy
   rw[hb d (by simp[hd])]
  ·rfl
 |makeFunc f x y=>refine⟨by simp only[au,hop],?_⟩;simp only[hop,Op.operands]at h;have hy:y.toList.map (opd T)=y.toList.map (opd T'):=y8 fun z hz=>h z (by simp at hz⊢;simp[hz]);cases f<;>simp only[ah,hop,hy]
 |makeInterface t x=>simp[hop,Op.operands]at h;exact⟨by simp only[au,hop],by simp only[ah,hop];rw[h]⟩
 |typeAssert x t t' b=>cases b<;>(simp[hop,Op.operands]at h;exact⟨by simp only[au,hop],by simp only[ah,hop];first|done|rw[h]⟩)
 |panic x=>simp[hop,Op.operands]at h;exact⟨by simp only[au,hop],by simp only[ah,hop];rw[h]⟩
 |_=>simp only[au,ah,hop,yT]
theorem rq(C:Cfg)(o:Oper)(T T':Nat->AV)(B B':Nat->Option SObj){e:Eff}(h:∀x∈o.op.operands.toList,opd T x=opd T' x)
 (hb:∀id∈au C o T B,B id=B' id)(he:ah C o T B=some e):au C o T B=au C o T' B'/\ah C o T' B'=some e/\bA C o T B=bA C o T' B':=by
 cases hc:sH o.op with
 |false=>obtain⟨h1,h2,h3⟩:=pw C o T T' B B' hc h hb;exact⟨h1,by rw[<-h2,he],h3⟩
 |true=>
  obtain⟨f0,args0,ts,hop⟩:∃f0 args0 ts,o.op=.call {callee:=.value f0,args:=args0,argTypes:=ts}:=by
   cases hop:o.op with
   |call c=>
    obtain⟨callee,args,ts⟩:=c
    cases callee with
    |value f=>exact⟨f,args,ts,rfl⟩
    |builtin b=>rw[hop]at hc;cases hc
    |invoke r m=>rw[hop]at hc;cases hc
   |_=>rw[hop]at hc;cases hc
  have hcal:bp T {callee:=.value f0,args:=args0,argTypes:=ts}=bp T' {callee:=.value f0,args:=args0,argTypes:=ts}:=by
   simp only[hop,Op.operands,Call.operands]at h;have ha:args0.toList.map (opd T)=args0.toList.map (opd T'):=y8 fun z hz=>h z (by simp at hz⊢;simp[hz])
   cases f0 with|func f=>simp only[bp,ha]|tmp t=>have ht:T t=T' t:=h (.tmp t) (by simp);simp only[bp,ha,ht]|_=>rfl
  have heff:∃r,cR C o T B=some r/\cE (fR C o) B r.eff=e:=by
   simp only[ah,hop]at he;split at he
   ·rename_i r hr;simp at he;exact⟨r,hr,he⟩
   ·cases he
  obtain⟨r,hr,rfl⟩:=heff;have hr0:=hr;simp only[cR,hop]at hr;split at hr
  ·rename_i c d hc' hdst;simp at hc';subst hc';split at hr
   ·rename_i f args hca;have hca':=hca;rw[hcal]at hca'
    obtain⟨args',hst⟩:∃args',ff (C.keeps f) args=some args':=by
     cases hs:ff (C.keeps f) args with|none=>simp[kc,hs]at hr|some x=>exact⟨x,rfl⟩
    have hneed:au C o T B=(cQ C f args' B).map (·.1)++(r.foot++sd (fR C o) r.eff.upd):=by simp only[au,hop,hca,hst];simp only[hr0]
    rw[hneed]at hb;have h1:∀i∈(cQ C f args' B).map (·.1),B i=B' i:=fun i hi=>hb i (by simp only[x9];exact Or.inl hi);have hr1:=o6 hr hst h1 (fun i hi=>hb i (by simp only[x9];exact Or.inr (Or.inl hi)))
    have hds:cE (fR C o) B' r.eff=cE (fR C o) B r.eff:=by
     cases hsm:fR C o with
     |false=>rfl
     |true=>rw[hsm]at hb;have hb2:∀i∈r.eff.upd.map (·.1),B i=B' i:=fun i hi=>hb i (by simp only[x9];exact Or.inr (Or.inr hi));simp only[cE];rw[kI r.eff.upd hb2];have e1:=gS r.eff.upd hb2;have e2:=gi r.eff.upd hb2;congr 2;exact DP.same (xq (r.eff.asks/\ ·) e1.symm) (xq (okO r.eff.ob&&·) e2.symm)
    have hr2:cR C o T' B'=some r:=by simp only[cR,hop,hdst,hca',hr1]
    refine⟨?_,?_,?_⟩
    ·rw[hneed];simp only[au,hop,hca',hst,hr2];rw[iA h1]
    ·simp only[ah,hop,hr2];exact xq some hds
    ·simp only[bA,hop,hr0,hr2]
   ·cases hr
  ·cases hr
theorem rr{o:Oper}{T T':Nat->AV}(h:∀t∈oV o,T t=T' t):∀x∈o.op.operands.toList,opd T x=opd T' x:=by
 intro x hx
 cases x with|tmp t=>simp only[opd];exact h t (by simp only[oV,List.mem_filterMap];exact⟨.tmp t,hx,rfl⟩)|_=>rfl
theorem px{ops:List Oper}{o:Oper}{T T':Nat->AV}(h:∀t∈fj ops o,T t=T' t):fx ops o T=fx ops o T':=by
 unfold fx;split
 ·rfl
 ·rename_i j want hg;split
  ·rfl
  ·rename_i d hd;rw[h d (by simp only[fj,hg,x9];right;simp[hd])]
def lZ(C:Cfg)(ops:List Oper)(o:Oper)(s:AS)(v:AV)(u:List (Nat×SObj))(f:bw):Prop:=
 (fx ops o s.T=some true/\∃e,ah C o s.T s.B=some e/\e.asks/\bA C o s.T s.B=none/\v=e.val/\u=e.upd/\f=(au C o s.T s.B,e.upd.map (·.1)))∨
 (fx ops o s.T=some false/\v=.tup []/\u=[]/\f=([],[]))
theorem kG.eff{C:Cfg}{ops:List Oper}{o:Oper}{s s1:AS}{f:bw}(hs:kG C ops o s s1 f) :
  ∃v u,lZ C ops o s v u f/\s1=⟨aZ s.T o.dst v,b7 s.B u⟩/\f.2=u.map (·.1):=by
 rcases hs with⟨h1,e,h2,h3,hp,rfl,rfl⟩|⟨h1,rfl,rfl⟩
 ·exact⟨e.val,e.upd,Or.inl ⟨h1,e,h2,h3,hp,rfl,rfl,rfl⟩,rfl,rfl⟩
 ·exact⟨.tup [],[],Or.inr ⟨h1,rfl,rfl,rfl⟩,rfl,rfl⟩
theorem lZ.step{C:Cfg}{ops:List Oper}{o:Oper}{s:AS}{v:AV}{u:List (Nat×SObj)}{f:bw}(hs:lZ C ops o s v u f) :
  kG C ops o s ⟨aZ s.T o.dst v,b7 s.B u⟩ f:=by
 rcases hs with⟨h1,e,h2,h3,hp,rfl,rfl,rfl⟩|⟨h1,rfl,rfl,rfl⟩
 ·exact Or.inl ⟨h1,e,h2,h3,hp,rfl,rfl⟩
 ·exact Or.inr ⟨h1,rfl,rfl⟩
theorem lZ.other{C:Cfg}{ops:List Oper}{o:Oper}{s s':AS}{v:AV}{u:List (Nat×SObj)}{f:bw}(hs:lZ C ops o s v u f)
 (hT:∀t∈fj ops o,s.T t=s'.T t)(hB:∀id∈f.1,s.B id=s'.B id):lZ C ops o s' v u f:=by
 have hg:=px hT;rcases hs with⟨h1,e,h2,h3,hp,rfl,rfl,rfl⟩|⟨h1,rfl,rfl,rfl⟩
 ·obtain⟨l1,l2,l3⟩:=rq C o s.T s'.T s.B s'.B (rr fun t ht=>hT t (by simp[fj,ht])) hB h2;exact Or.inl ⟨by rw[<-hg,h1],e,l2,h3,by rw[<-l3,hp],rfl,rfl,by rw[l1]⟩
 ·exact Or.inr ⟨by rw[<-hg,h1],rfl,rfl,rfl⟩
theorem fy:∀(u:List (Nat×SObj))(B:Nat->Option SObj)(j:Nat),j∉u.map (·.1)->b7 B u j=B j
 |[],B,j,_=>rfl
 |(i,o)::r,B,j,h=>by simp at h;simp only[b7];rw[fy r _ j (by simpa using h.2)];have:¬i=j:=fun e=>h.1 e.symm;simp[this]
theorem hX:∀(u:List (Nat×SObj))(B B':Nat->Option SObj)(j:Nat),B j=B' j->b7 B u j=b7 B' u j
 |[],B,B',j,h=>h
 |(i,o)::r,B,B',j,h=>by simp only[b7];exact hX r _ _ j (by show(if i=j then _ else _)=(if i=j then _ else _);rw[h])
theorem ru(u v:List (Nat×SObj))(B:Nat->Option SObj)(h:∀x∈u.map (·.1),x∉v.map (·.1)):b7 (b7 B u) v=b7 (b7 B v) u:=by
 funext j;by_cases hu:j∈u.map (·.1)
 ·rw[fy v _ j (h j hu)];exact hX u _ _ j (fy v B j (h j hu)).symm
 ·rw[fy u _ j hu];exact hX v _ _ j (fy u B j hu)
theorem rv{T:Nat->AV}{d d':Option Nat}{x y:AV}(h:∀i,d=some i->d'≠some i):aZ (aZ T d x) d' y=aZ (aZ T d' y) d x:=by
 cases d with
 |none=>rfl
 |some i=>
  cases d' with
  |none=>rfl
  |some j=>
   have hij:¬i=j:=fun e=>h i rfl (by rw[e]);funext k;simp only[aZ];by_cases h1:i=k
   ·subst h1;have:¬j=i:=fun e=>hij e.symm;simp[this]
   ·simp[h1]
theorem qx{T:Nat->AV}{d:Option Nat}{v:AV}{t:Nat}(h:d≠some t):aZ T d v t=T t:=by
 cases d with|none=>rfl|some d=>simp only[aZ];rw[w5 (fun e=>h (by rw[e]))]
theorem dO{a b:List Nat}(h:nC a b=true):∀x∈a,x∉b:=by intro x hx;have:=wk.1 h x hx;simpa using this
theorem kG.swap{C:Cfg}{ops:List Oper}{x y:Oper}{s s1 s2:AS}{f g:bw}(hy:kG C ops y s s1 g)(hx:kG C ops x s1 s2 f)
 (ha:ke ops y x=true)(hf:dS g f=true):∃s1',kG C ops x s s1' f/\kG C ops y s1' s2 g:=by
 simp only[ke,vW]at ha;obtain⟨ha1,ha2⟩:=ha;simp only[dS,vW]at hf;have hf1:=dO hf.1;have hf2:=dO hf.2;have yd:∀t,y.dst=some t->t∉fj ops x/\x.dst≠some t:=by intro t ht;rw[ht]at ha1;simp at ha1;exact ha1
 have xd:∀t,x.dst=some t->t∉fj ops y:=by intro t ht;rw[ht]at ha2;simpa using ha2
 obtain⟨vy,uy,hy0,e1,ey⟩:=hy.eff;subst e1;obtain⟨vx,ux,hx0,e2,ex⟩:=hx.eff;subst e2
 have hx1:=hx0.other (s':=s)
  (fun t ht=>qx (fun e=>(yd t e).1 ht))
  (fun id hid=>fy uy _ id (fun hm=>hf1 id (by rw[ey];exact hm) (by simp[hid])))
 have hy1:=hy0.other (s':=⟨aZ s.T x.dst vx,b7 s.B ux⟩)
  (fun t ht=>(qx (fun e=>xd t e ht)).symm)
  (fun id hid=>(fy ux _ id (fun hm=>hf2 id (by rw[ex];exact hm) hid)).symm)
 refine⟨_,hx1.step,?_⟩;have h2:=hy1.step;have hgoal:(⟨aZ (aZ s.T y.dst vy) x.dst vx,b7 (b7 s.B uy) ux⟩:AS)=⟨aZ (aZ s.T x.dst vx) y.dst vy,b7 (b7 s.B ux) uy⟩:=by rw[rv (fun i hi=>(yd i hi).2),ru uy ux _ (fun i hi hi'=>hf1 i (by rw[ey];exact hi) (by simp[ex,hi']))]
 rw[hgoal];exact h2
def o7(C:Cfg)(ops:List Oper)(fs:Nat->bw):List Nat->AS->AS->Prop
 |[],s,s'=>s=s'
 |i::r,s,s'=>∃o s1,ops[i]?=some o/\kG C ops o s s1 (fs i)/\o7 C ops fs r s1 s'
def sI(ops:List Oper)(fs:Nat->bw)(j i:Nat):Prop:=
 ∀x y,ops[j]?=some x->ops[i]?=some y->ke ops x y=true/\dS (fs j) (fs i)=true
theorem o7.front{C:Cfg}{ops:List Oper}{fs:Nat->bw}:∀(r1:List Nat)(i:Nat)(r2:List Nat)(s sN:AS),
  o7 C ops fs (r1++i::r2) s sN->(∀j∈r1,sI ops fs j i)->o7 C ops fs (i::(r1++r2)) s sN
 |[],i,r2,s,sN,h,_=>h
 |j::r1,i,r2,s,sN,h,ha=>by obtain⟨o,s1,ho,hs,hr⟩:=h;obtain⟨o',s2,ho',hs',hr'⟩:=o7.front r1 i r2 s1 sN hr (fun j hj=>ha j (by simp[hj]));obtain⟨a1,a2⟩:=ha j (by simp) o o' ho ho';obtain⟨s1',k1,k2⟩:=hs.swap hs' a1 a2;exact⟨o',s1',ho',k1,o,s2,ho,k2,hr'⟩
theorem jo(C:Cfg)(ops:List Oper):∀(l:List Oper)(i:Nat)(s sN:AS)(fl:List bw)(fs:Nat->bw),ops.drop i=l->pq C ops l s fl sN->
  (∀k,fs (i+k)=fl.getD k ([],[]))->o7 C ops fs (List.range' i l.length) s sN
 |[],i,s,sN,fl,fs,_,h,_=>h.1
 |o::r,i,s,sN,fl,fs,hl,h,hf=>by
  obtain⟨s1,f,fs',hs,hr,rfl⟩:=h
  have hi:ops[i]?=some o:=by
   have:(ops.drop i)[0]?=some o:=by rw[hl];rfl
   rw[wO]at this;simpa using this
  have hl':ops.drop (i+1)=r:=by rw[<-List.tail_drop,hl];rfl
  refine⟨o,s1,hi,?_,jo C ops r (i+1) s1 sN fs' fs hl' hr (fun k=>?_)⟩
  ·have:=hf 0;simp at this;rw[this];exact hs
  ·have:=hf (k+1);simp at this;rw[vZ,<-this];congr 1;omega
end Go.AL
end
