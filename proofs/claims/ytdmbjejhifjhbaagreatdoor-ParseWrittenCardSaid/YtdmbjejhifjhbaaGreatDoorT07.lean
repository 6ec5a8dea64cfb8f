/- Plain facts. What the functions' conditions say, proved. The contracts of the functions. No condition. -/
import Derived.Test.YtdmbjejhifjhbaaGreatDoorT06
set_option linter.all false
set_option maxRecDepth 100000
section
namespace Go.Pd
open Go.AL
section
variable {l:List Tokn} {f:Int} {R:Par->Trm×Par} {n:Nat}
theorem bp{α:Type}{x:List α}(h:x.length=0):x=[]:=Ni h
theorem lA{t:Trm}(h:aJ t=true):(t.kind≠1->t.n=0)/\(t.kind≠5->t.pkg=[])/\t.shapes.all aS=true/\cY t=true:=by unfold aJ at h;rw[N4]at h;obtain⟨h1,h2⟩:=h;unfold jt at h1;simp only[N4,NW,N8]at h1;exact⟨fun k=>h1.1.1.2.resolve_right k,fun k=>h1.1.2.resolve_right k,h1.2,h2⟩
theorem KR{qs:List Trm}{sep:List KT}(hl:(joinG sep (toksTL qs)).length<n):∀q∈qs,(toksT q).length<n:=fun q hq=>by
 have hm:toksT q∈toksTL qs:=by rw[eB];exact Q3 hq
 have:=pz sep hm;omega
theorem Ll{K:Nat->List KT}{m:Nat}{sep:List KT}{x:List KT}{j:Nat}(hj:j<m)(hx:x.length<=(K j).length):x.length<=(joinG sep (ix m K)).length:=by
 have:K j∈ix m K:=by unfold ix;exact O5.2 ⟨j,Pu.2 hj,rfl⟩
 exact NG hx (pz sep this)
theorem nosl{q:Int}{c:Int}{w:Str}{r:List KT}(h:At l q ((c,w)::r))(hw:w≠[47]):jK l q [47]=false:=by have h5:=h.1;unfold kt at h5;unfold jK;rw[show(dP l _).text=w from OH Prod.snd h5,Xf hw,Ov]
theorem vK(hR:∀q,(toksT q).length<n->allT aJ q=true->Bk l f R q):∀(m:Nat)(t:Trm),(toksT t).length<=m->(toksT t).length<=n->allT aJ t=true->cH t.kind=false->∀p,0<=p->At l p (toksT t)->
  jK l (p+((toksT t).length:Int)) [47]=false->tX l f R t (toksT t) p
 |m,⟨k,g,a,z,ns,vs,ss,ps,q⟩,hm,hn,hf,hk,p,hp,ha,hs=>by
  rw[dQ,N4,fh]at hf;obtain⟨h1,h2⟩:=hf;obtain⟨hz,hg,hss,hb⟩:=lA h1;have et:toksT ⟨k,g,a,z,ns,vs,ss,ps,q⟩=gQ k g a z ns vs (ss.map toksS) (toksTL ps) (fa ps):=by rw[toksT]
  rw[et]at hm hn ha hs⊢;clear et;unfold cY bg at hb;simp only at hb h2 hss hz hg hk;unfold gQ at hm hn ha hs⊢;have e1:k≠1:=by rintro rfl;exact absurd hk (by decide)
  have e6:k≠6:=by rintro rfl;exact absurd hk (by decide)
  have e11:k≠11:=by rintro rfl;exact absurd hk (by decide)
  have e12:k≠12:=by rintro rfl;exact absurd hk (by decide)
  have e13:k≠13:=by rintro rfl;exact absurd hk (by decide)
  have e14:k≠14:=by rintro rfl;exact absurd hk (by decide)
  have hz0:=hz e1;rw[N3 e1]at hm hn ha hs hb⊢;by_cases e2:k=2
  ·rw[N6 e2]at hm hn ha hs hb⊢;have hg0:=hg (by rw[e2];decide);simp only[N4,N8]at hb;obtain⟨k1,k2⟩:=gX (f:=f) ha;refine dW (u:=⟨2,[],a,0,[],[],[],[],(an (St0 l p f)).pos⟩) (dw e2.symm hg0.symm rfl hz0.symm (bp hb.2.1.1.1).symm (bp hb.2.1.1.2).symm (bp hb.2.1.2).symm (by rw[bp hb.2.2])) ?_;unfold cE;rw[N3 nb,N3 (by rw[k1];decide),N6 k1,k2];rfl
  rw[N3 e2]at hm hn ha hs hb⊢;by_cases e3:k=3
  ·rw[N6 e3]at hm hn ha hs⊢;rw[N6 (.inl e3)]at hb;have hg0:=hg (by rw[e3];decide);simp only[N4,N8]at hb;refine dW (u:=⟨3,[],[],0,[],[],[],[],(an (St0 l p f)).pos⟩) (dw e3.symm hg0.symm hb.1.symm hz0.symm (bp hb.2.1.1.1).symm (bp hb.2.1.1.2).symm (bp hb.2.1.2).symm (by rw[bp hb.2.2])) ?_;rw[jR ha (.inl rfl),N6 rfl];rfl
  rw[N3 e3]at hm hn ha hs⊢;by_cases e4:k=4
  ·rw[N6 e4]at hm hn ha hs⊢;rw[N6 (.inr e4)]at hb;have hg0:=hg (by rw[e4];decide);simp only[N4,N8]at hb;refine dW (u:=⟨4,[],[],0,[],[],[],[],(an (St0 l p f)).pos⟩) (dw e4.symm hg0.symm hb.1.symm hz0.symm (bp hb.2.1.1.1).symm (bp hb.2.1.1.2).symm (bp hb.2.1.2).symm (by rw[bp hb.2.2])) ?_;rw[jR ha (.inl rfl),N3 (by decide),N6 rfl];rfl
  rw[N3 e4]at hm hn ha hs⊢;rw[N3 (by simp[e3,e4])]at hb;by_cases e5:k=5
  ·rw[N6 e5]at hm hn ha hs hb⊢;simp only[N4,N8]at hb;have hbe:∀(gg:Str),gg=g->bareT ⟨5,gg,a,0,[],[],[],[],(an (St0 l p f)).pos⟩=bareT ⟨k,g,a,z,ns,vs,ss,ps,q⟩:=fun gg e=>dw e5.symm e rfl hz0.symm (bp hb.2.1.1.1).symm (bp hb.2.1.1.2).symm (bp hb.2.1.2).symm (by rw[bp hb.2.2]);by_cases hgg:g=[]
   ·rw[N6 hgg]at hm hn ha hs⊢;obtain⟨k1,k2⟩:=gX (f:=f) ha;refine dW (hbe [] hgg.symm) ?_;unfold cE;rw[N3 nb,N3 (by rw[k1];decide),N3 (by rw[k1];decide),N6 k1,jy,CM (show jK l (p+1) [47]=false from hs),N3 (by decide),k2];rfl
   ·rw[N3 hgg]at hm hn ha hs⊢;have ha':At l p ((1,g)::(6,[47])::[(1,a)]):=ha;obtain⟨k1,k2⟩:=gX (f:=f) ha';obtain⟨t1,t2⟩:=iI (f:=f) ha'.2.2;refine dW (hbe g rfl) ?_;unfold cE;rw[N3 nb,N3 (by rw[k1];decide),N3 (by rw[k1];decide),N6 k1,jy,dR ha'.2,N6 (by decide)];simp only[jy,t1,t2,k2];refine OB rfl (fv ?_);simp only[N5,N7,Na];omega
  rw[N3 e5,N3 e6]at hb;rw[N3 e5]at hm hn ha hs⊢;have hg0:=hg e5
  have opp:∀(o:Trm)(r:List Trm),ps=o::r->(opK (fa ps) ((toksTL ps).headD [])).length<m->(opK (fa ps) ((toksTL ps).headD [])).length<n->At l p (opK (fa ps) ((toksTL ps).headD []))->jK l (p+((opK (fa ps) ((toksTL ps).headD [])).length:Int)) [47]=false->
    opK (fa ps) ((toksTL ps).headD [])=opK (cH o.kind) (toksT o)/\tX l f R o (opK (cH o.kind) (toksT o)) p:=fun o r hps om on oa os=>by
   have e:opK (fa ps) ((toksTL ps).headD [])=opK (cH o.kind) (toksT o):=by rw[hps,toksTL];rfl
   rw[e]at om on oa os;have hoo:allT aJ o=true:=Ng.1 h2 o (by rw[hps];exact NF);refine⟨e,KQ hR hoo hp on oa (fun hno=>?_)⟩;have eo:opK (cH o.kind) (toksT o)=toksT o:=by unfold opK;rw[N3 (by rw[hno];decide)]
   rw[eo]at om on oa os;obtain⟨m',rfl⟩:∃m',m=m'+1:=⟨m-1,by omega⟩;exact vK hR m' o (by omega) (by omega) hoo hno p hp oa os
  by_cases e7:k=7
  ·rw[N6 e7]at hm hn ha hs hb⊢;simp only[N4,N8]at hb;obtain⟨o,r,hps⟩:=Oo (O2.1 hb.1.2);have ha1:At l p (opK (fa ps) ((toksTL ps).headD [])++((6,[40])::(joinG [(6,[44])] (toksTL ps).tail++[(6,[41])]))):=by simpa using ha
   have hlen:=hn;have hlen2:=hm;simp only[N5,N7,Na]at hlen hlen2;obtain⟨eo,po⟩:=opp o r hps (by omega) (by omega) ha1.hd1 (nosl ha1.tl1 (by decide));have et:(toksTL ps).tail=toksTL r:=by rw[hps,toksTL];rfl
   rw[eo,et]at hn ha⊢;have:=G7 (q:=q) hR (o:=o) (gs:=r) _ rfl hp po (Ng.2 fun y hy=>Ng.1 h2 y (by rw[hps];exact Nn _ hy)) hn ha;have eb:bareT ⟨7,[],[],0,[],[],[],o::r,q⟩=bareT ⟨k,g,a,z,ns,vs,ss,ps,q⟩:=dw e7.symm hg0.symm hb.1.1.symm hz0.symm (bp hb.2.1.1.1).symm (bp hb.2.1.1.2).symm (bp hb.2.1.2).symm (by rw[hps]);unfold tX at this⊢;rw[<-eb];exact this
  rw[N3 e7]at hm hn ha hs hb⊢;by_cases e9:k=9
  ·rw[N6 e9]at hm hn ha hs⊢;rw[N3 (by rw[e9];decide),N6 (.inl e9)]at hb;simp only[N4,N8]at hb;obtain⟨o,hps⟩:=kL hb.2.2;have ha1:At l p (opK (fa ps) ((toksTL ps).headD [])++((6,[46])::[(1,a)])):=by simpa using ha
   have hlen:=hn;have hlen2:=hm;simp only[N5,N7,Na]at hlen hlen2;obtain⟨eo,po⟩:=opp o [] hps (by omega) (by omega) ha1.hd1 (nosl ha1.tl1 (by decide));rw[eo]at ha⊢;have:=CN (q:=q) _ po ha;have eb:bareT ⟨9,[],a,0,[],[],[],[o],q⟩=bareT ⟨k,g,a,z,ns,vs,ss,ps,q⟩:=dw e9.symm hg0.symm rfl hz0.symm (bp hb.2.1.1.1).symm (bp hb.2.1.1.2).symm (bp hb.2.1.2).symm (by rw[hps]);unfold tX at this⊢;rw[<-eb];exact this
  rw[N3 e9]at hm hn ha hs⊢;have hfp:∀y∈ps,allT aJ y=true:=fun y hy=>Ng.1 h2 y hy;have hd1:∀y,ps=[y]->(toksTL ps).headD []=toksT y:=fun y e=>by rw[e,toksTL];rfl
  by_cases e10:k=10
  ·rw[N6 e10]at hm hn ha hs⊢;rw[N3 (by rw[e10];decide),N6 (.inr e10)]at hb;simp only[N4,N8]at hb;obtain⟨y,hps⟩:=kL hb.2.2;rw[hd1 y hps]at hm hn ha hs⊢;have ha1:At l p ((6,[64])::(1,a)::(6,[40])::(toksT y++[(6,[41])])):=by simpa using ha
   have hlen:=hn;simp only[N5,N7,Na]at hlen;obtain⟨t1,t2⟩:=iI (f:=f) ha1.2;obtain⟨u,u1,u2⟩:=oi hR (q:=y) (by omega) (hfp y (by rw[hps];simp)) (by omega) ha1.2.2;refine dW (u:=⟨10,[],a,0,[],[],[],[u],(an (St0 l p f)).pos⟩) (dw e10.symm hg0.symm rfl hz0.symm (bp hb.2.1.1.1).symm (bp hb.2.1.1.2).symm (bp hb.2.1.2).symm (by rw[hps,Nj,Nj,u1])) ?_;rw[jR ha1 (.inr rfl),N3 (by decide),N3 (by decide),N3 (by decide),N3 (by decide),N6 rfl];simp only[t1,t2,u2];refine OB rfl (fv ?_);simp only[N5,N7,Na];omega
  rw[N3 e10,N3 e14]at hm hn ha hs⊢;by_cases e16:k=16
  ·rw[N6 e16]at hm hn ha hs⊢;rw[N3 (by rw[e16];decide),N3 (by simp[e9,e10]),N3 e11,N3 e12,N3 e13,N3 e14,N3 (by rw[e16];decide),N6 (.inl e16)]at hb;simp only[N4,N8]at hb;obtain⟨y,hps⟩:=kL hb.2.2;rw[hd1 y hps]at hm hn ha hs⊢;have ha1:At l p ((5,G3)::(2,a)::(6,[40])::(toksT y++[(6,[41])])):=by simpa using ha
   have hlen:=hn;simp only[N5,N7,Na]at hlen;obtain⟨t1,t2⟩:=iI (f:=f) ha1.2;obtain⟨u,u1,u2⟩:=oi hR (q:=y) (by omega) (hfp y (by rw[hps];simp)) (by omega) ha1.2.2;refine dW (u:=⟨16,[],a,0,[],[],[],[u],(an (St0 l p f)).pos⟩) (dw e16.symm hg0.symm rfl hz0.symm (bp hb.2.1.1.1).symm (bp hb.2.1.1.2).symm (bp hb.2.1.2).symm (by rw[hps,Nj,Nj,u1])) ?_;rw[jR ha1 (.inl rfl),N3 (by decide),N3 (by decide),N3 (by decide),N3 (by decide),N3 (by decide),N6 rfl];simp only[t1,t2,u2];refine OB rfl (fv ?_);simp only[N5,N7,Na];omega
  rw[N3 e16]at hm hn ha hs⊢;by_cases e17:k=17
  ·rw[N6 e17]at hm hn ha hs⊢;rw[N3 (by rw[e17];decide),N3 (by simp[e9,e10]),N3 e11,N3 e12,N3 e13,N3 e14,N3 (by rw[e17];decide),N6 (.inr e17)]at hb;simp only[N4,N8]at hb;obtain⟨y,hps⟩:=kL hb.2.2;rw[hd1 y hps]at hm hn ha hs⊢;have ha1:At l p ((5,G4)::(2,a)::(6,[40])::(toksT y++[(6,[41])])):=by simpa using ha
   have hlen:=hn;simp only[N5,N7,Na]at hlen;obtain⟨t1,t2⟩:=iI (f:=f) ha1.2;obtain⟨u,u1,u2⟩:=oi hR (q:=y) (by omega) (hfp y (by rw[hps];simp)) (by omega) ha1.2.2;refine dW (u:=⟨17,[],a,0,[],[],[],[u],(an (St0 l p f)).pos⟩) (dw e17.symm hg0.symm rfl hz0.symm (bp hb.2.1.1.1).symm (bp hb.2.1.1.2).symm (bp hb.2.1.2).symm (by rw[hps,Nj,Nj,u1])) ?_;rw[jR ha1 (.inl rfl),N3 (by decide),N3 (by decide),N3 (by decide),N3 (by decide),N3 (by decide),N3 (by decide),N6 rfl];simp only[t1,t2,u2];refine OB rfl (fv ?_);simp only[N5,N7,Na];omega
  rw[N3 e17,N3 e6]at hm hn ha hs⊢;by_cases e8:k=8
  ·rw[N6 e8]at hm hn ha hs hb⊢;simp only[N4,N8,cK]at hb;have ha1:At l p ((6,[123])::(joinG [(6,[44])] (ix ns.length (xF ns (toksTL ps)))++[(6,[125])])):=by simpa using ha
   have hlen:=hn;simp only[N5,N7,Na]at hlen;have hpl:=hb.2.2
   obtain⟨us,u1,u2⟩:=Am (l:=l) (f:=f) (R:=R) (ns:=ns) (ps:=ps) (by omega) hb.1.2.2 (fun y hy=>by
    refine hR y ?_ (hfp y hy);obtain⟨j,hj,rfl⟩:=P4.1 hy;have:(toksT ps[j]).length<=(xF ns (toksTL ps) j).length:=by unfold xF;rw[fV ps j hj];simp[Nb,hj];omega
    have:=Ll (sep:=[((6,[44]):KT)]) (m:=ns.length) (by omega) this;omega) (an (St0 l p f)).pos (by omega) ha1.2
   refine dW (u:=⟨8,[],[],0,ns,[],[],us,(an (St0 l p f)).pos⟩) (dw e8.symm hg0.symm hb.1.1.symm hz0.symm rfl (bp hb.2.1.1.2).symm (bp hb.2.1.2).symm u1) ?_;rw[jR ha1 (.inr rfl),N3 (by decide),N3 (by decide),N3 (by decide),N6 rfl,u2];refine OB rfl (fv ?_);simp only[N5,N7,Na];omega
  rw[N3 e8,N3 e11,N3 e12,N3 e13]at hm hn ha hs⊢;rw[N3 e8,N3 (by simp[e9,e10]),N3 e11,N3 e12,N3 e13,N3 e14]at hb;by_cases e15:k=15
  ·rw[N6 e15]at hb;simp only[N4,N8]at hb;obtain⟨y,hps⟩:=kL hb.2.2;obtain⟨s,hs1⟩:∃s,ss=[s]:=Oh.1 hb.2.1.2;have hts:aS s=true:=Ng.1 hss s (by rw[hs1];simp);have hsd:(ss.map toksS).headD []=toksS s:=by rw[hs1];rfl
   rw[hd1 y hps,hsd]at hm hn ha hs⊢;have ha1:At l p ((6,[40])::(toksT y++((5,wAs)::(toksS s++[(6,[41])])))):=by simpa using ha
   have hlen:=hn;simp only[N5,N7,Na]at hlen;obtain⟨u,u1,u2⟩:=hR y (by omega) (hfp y (by rw[hps];simp)) (p+1) (by omega) ha1.2.hd1 (eP ha1.2.tl1 (by decide));have tb:=vI (f:=f) hts (by omega) ha1.2.tl1.2.hd1;refine dW (u:=⟨15,[],[],0,[],[],[s],[u],(an (St0 l p f)).pos⟩) (dw e15.symm hg0.symm hb.1.symm hz0.symm (bp hb.2.1.1.1).symm (bp hb.2.1.1.2).symm hs1.symm (by rw[hps,Nj,Nj,u1])) ?_;rw[jR ha1 (.inr rfl),N3 (by decide),N3 (by decide),N6 rfl,u2];simp only[gx ha1.2.tl1 (.inl rfl),jy,tb,cJ ha1.2.tl1.2.tl1 (.inl rfl)];rw[N6 (by decide)];refine OB rfl (fv ?_);simp only[N5,N7,Na];omega
  ·rw[N3 e15,N3 (by simp[e16,e17])]at hb;cases hb
end
end Go.Pd
end
section
namespace Go.Pd
open Go.AL
section
variable {l:List Tokn} {f:Int} {R:Par->Trm×Par} {n:Nat}
theorem At.one{p:Int}{ks:List KT}{k:KT}{r:List KT}(h:At l p (ks++k::r)):At l p (ks++[k]):=(mD ks [k] p).2 ⟨h.hd1,h.tl1.1,trivial⟩
theorem vL{P e:Int}(h:tT l e):∀(N:Nat)(u:Trm),dU R P N u (St0 l e f)=(u,St0 l e f)
 |0,u=>rfl
 |N+1,u=>by obtain⟨h1,h2⟩:=KP (f:=f) h;rw[dU,N3 nb,h1,N3 (by decide),h2,N3 (by decide)]
theorem vM{p c:Int}{w:Str}{r:List KT}(h:At l p ((c,w)::r))(hw:(c=5∨c=6)->w∈nSt):fC R (St0 l p f)=fT R (St0 l p f):=by
 have no:∀u∈pSt,isF u (St0 l p f)=false:=fun u hu=>by
  by_cases hc:c=5∨c=6
  ·rw[gx h hc,Xf];rintro rfl;have:∀x∈nSt,¬x∈pSt:=by decide
   exact this _ (hw hc) hu
  ·exact tV h hc
 unfold fC;rw[no Al (by decide),N3 (by decide),no CH (by decide),N3 (by decide),no wIf (by decide),N3 (by decide),no vG (by decide),N3 (by decide),no [91] (by decide),N3 (by decide)]
theorem J6{α:Type}:∀{x:List α},x.length=2->∃a b,x=[a,b]
 |[a,b],_=>⟨a,b,rfl⟩
theorem Ao{α:Type}:∀{x:List α},x.length=3->∃a b c,x=[a,b,c]
 |[a,b,c],_=>⟨a,b,c,rfl⟩
theorem CO(hR:∀q,(toksT q).length<n->allT aJ q=true->Bk l f R q){t:Trm}(hn:(toksT t).length<=n)(hf:allT aJ t=true)(hk:cH t.kind=true){p:Int}(hp:0<=p)(ha:At l p (toksT t))(hst:tT l (p+((toksT t).length:Int))) :
  ∃u,bareT u=bareT t/\fC R (St0 l p f)=(u,St0 l (p+((toksT t).length:Int)) f):=by
 obtain⟨k,g,a,z,ns,vs,ss,ps,q⟩:=t;rw[dQ,N4,fh]at hf;obtain⟨h1,h2⟩:=hf;obtain⟨hz,hg,hss,hb⟩:=lA h1;have et:toksT ⟨k,g,a,z,ns,vs,ss,ps,q⟩=gQ k g a z ns vs (ss.map toksS) (toksTL ps) (fa ps):=by rw[toksT]
 rw[et]at hn ha hst⊢;clear et;unfold cY bg at hb;simp only at hb h2 hss hz hg hk;have hfp:∀y∈ps,allT aJ y=true:=fun y hy=>Ng.1 h2 y hy;have pt:∀j,j<ps.length->(toksTL ps).getD j []=toksT (ps.getD j cd)/\allT aJ (ps.getD j cd)=true:=fun j hj=>⟨fV ps j hj,hfp _ (bT ps j cd hj)⟩;by_cases e1:k=1
 ·unfold gQ at hn ha hst⊢;rw[N6 e1]at hn ha hst hb⊢;have hg0:=hg (by rw[e1];decide);simp only[N4,N8]at hb;obtain⟨k1,k2⟩:=gX (f:=f) ha;rw[vM ha (fun y=>by simp at y)];refine⟨⟨1,[],[],z,[],[],[],[],(an (St0 l p f)).pos⟩,dw e1.symm hg0.symm hb.1.1.1.symm rfl (bp hb.2.1.1.1).symm (bp hb.2.1.1.2).symm (bp hb.2.1.2).symm (by rw[bp hb.2.2]),?_⟩;have e:cE R (St0 l p f)=(⟨1,[],[],z,[],[],[],[],(an (St0 l p f)).pos⟩,St0 l (p+1) f):=by unfold cE;rw[N3 nb,N6 k1,k2,(vE hb.1.1.2 hb.1.2).2.2];rfl
  unfold fT;rw[e];exact vL hst _ _
 have hz0:=hz e1;by_cases e6:k=6
 ·have hg0:=hg (by rw[e6];decide);subst e6;simp only[gQ,show((6:Int)=1)=False by simp,show((6:Int)=2)=False by simp,show((6:Int)=3)=False by simp,show((6:Int)=4)=False by simp,show((6:Int)=5)=False by simp,show((6:Int)=7)=False by simp,show((6:Int)=9)=False by simp,show((6:Int)=10)=False by simp,show((6:Int)=14)=False by simp,show((6:Int)=16)=False by simp,show((6:Int)=17)=False by simp,ND,NS]at hn ha hst⊢;rw[N3 (by decide),N3 (by decide),N3 (by decide),N3 (by decide),N6 rfl]at hb;simp only[N4,N8,cK]at hb;have hsl:=hb.2.1.2;have hpl:=hb.2.2;rw[aI,(pt 0 (by omega)).1]at hn ha hst⊢;have ha1:At l p ((5,Al)::(6,[40])::(joinG [(6,[44])] (ix ns.length (xE ns (ss.map toksS)))++((6,[41])::(6,[45,62])::toksT (ps.getD 0 cd)))):=by simpa using ha
  have hlen:=hn;simp only[N5,N7,Na]at hlen;have A:=G8 (f:=f) (P:=(an (St0 l p f)).pos) (by omega) hb.1.2.2 hss (by omega) ha1.2.2.one;have hB:=ha1.2.2.tl1;have heq:p+1+1+((joinG [((6,[44]):KT)] (ix ns.length (xE ns (ss.map toksS)))).length:Int)+1+1+((toksT (ps.getD 0 cd)).length:Int)=p+((([(5,Al),(6,[40])]:List KT)++joinG [((6,[44]):KT)] (ix ns.length (xE ns (ss.map toksS)))++[(6,[41]),(6,[45,62])]++toksT (ps.getD 0 cd)).length:Int):=by simp only[N5,N7,Na];omega
  obtain⟨u,u1,u2⟩:=hR (ps.getD 0 cd) (by omega) (pt 0 (by omega)).2 _ (by omega) hB.2.2 (by rw[heq];exact hst);obtain⟨y,hps⟩:=kL hpl;refine⟨⟨6,[],[],0,ns,[],ss,[u],(an (St0 l p f)).pos⟩,dw rfl hg0.symm hb.1.1.1.symm hz0.symm rfl (bp hb.2.1.1.2).symm rfl (by rw[hps]at u1⊢;rw[Nj,Nj,u1];rfl),?_⟩;unfold fC;rw[gx ha1 (.inl rfl),N6 (by decide),jy,cJ ha1.2 (.inl rfl),A];simp only[cJ hB.2 (.inl rfl)];unfold aA;rw[u2,heq];rfl
 by_cases e11:k=11
 ·have hg0:=hg (by rw[e11];decide);subst e11;simp only[gQ,show((11:Int)=1)=False by simp,show((11:Int)=2)=False by simp,show((11:Int)=3)=False by simp,show((11:Int)=4)=False by simp,show((11:Int)=5)=False by simp,show((11:Int)=7)=False by simp,show((11:Int)=9)=False by simp,show((11:Int)=10)=False by simp,show((11:Int)=14)=False by simp,show((11:Int)=16)=False by simp,show((11:Int)=17)=False by simp,show((11:Int)=6)=False by simp,show((11:Int)=8)=False by simp,ND,NS]at hn ha hst⊢;rw[N3 (by decide),N3 (by decide),N3 (by decide),N3 (by decide),N3 (by decide),N3 (by decide),N3 (by decide),N3 (by decide),N6 rfl]at hb;simp only[N4,N8,cK]at hb;have hsl:=hb.2.1.2;obtain⟨s,hs1⟩:∃s,ss=[s]:=Oh.1 hb.2.1.2;have hts:aS s=true:=Ng.1 hss s (by rw[hs1];simp);have hsd:(ss.map toksS).headD []=toksS s:=by rw[hs1];rfl
  rw[hsd]at hn ha hst⊢;have ha1:At l p ((6,[91])::(joinG [(6,[44])] (toksTL ps)++((6,[93])::(5,wOf)::toksS s))):=by simpa using ha
  have hlen:=hn;simp only[N5,N7,Na]at hlen;obtain⟨us,u1,u2⟩:=tW (l:=l) (f:=f) (R:=R) (btw:=[44]) (en:=[93]) (by decide) (by decide) (.inr rfl) (qs:=ps) (fun y hy=>⟨hR y (KR (n:=n) (sep:=[((6,[44]):KT)]) (by omega) y hy) (hfp y hy),hfp y hy⟩) ⟨11,[],[],0,[],[],[],[],(an (St0 l p f)).pos⟩ (by omega) ha1.2.one;have hB:=ha1.2.tl1;refine⟨⟨11,[],[],0,[],[],[s],us,(an (St0 l p f)).pos⟩,dw rfl hg0.symm hb.1.symm hz0.symm (bp hb.2.1.1.1).symm (bp hb.2.1.1.2).symm hs1.symm u1,?_⟩;unfold fC;rw[dR ha1,N3 (by decide),dR ha1,N3 (by decide),dR ha1,N3 (by decide),dR ha1,N3 (by decide),dR ha1,N6 (by decide),jy,u2];simp only[mG hts (by omega) (.inr rfl) hB.2];refine OB rfl (fv ?_);simp only[N5,N7,Na];omega
 by_cases e12:k=12
 ·have hg0:=hg (by rw[e12];decide);subst e12;simp only[gQ,show((12:Int)=1)=False by simp,show((12:Int)=2)=False by simp,show((12:Int)=3)=False by simp,show((12:Int)=4)=False by simp,show((12:Int)=5)=False by simp,show((12:Int)=7)=False by simp,show((12:Int)=9)=False by simp,show((12:Int)=10)=False by simp,show((12:Int)=14)=False by simp,show((12:Int)=16)=False by simp,show((12:Int)=17)=False by simp,show((12:Int)=6)=False by simp,show((12:Int)=8)=False by simp,show((12:Int)=11)=False by simp,ND,NS]at hn ha hst⊢;rw[N3 (by decide),N3 (by decide),N3 (by decide),N3 (by decide),N3 (by decide),N3 (by decide),N3 (by decide),N3 (by decide),N3 (by decide),N6 rfl]at hb;simp only[N4,N8,cK]at hb;have hpl:=hb.2.2;obtain⟨s,hs1⟩:∃s,ss=[s]:=Oh.1 hb.2.1.2;have hts:aS s=true:=Ng.1 hss s (by rw[hs1];simp);have hsd:(ss.map toksS).headD []=toksS s:=by rw[hs1];rfl
  rw[hsd,aI,(pt 0 (by omega)).1,(pt 1 (by omega)).1,(pt 2 (by omega)).1]at hn ha hst⊢;have ha1:At l p ((5,wIf)::(toksT (ps.getD 0 cd)++((5,DN)::(toksT (ps.getD 1 cd)++((5,DO)::(toksT (ps.getD 2 cd)++((5,wAs)::toksS s))))))):=by simpa using ha
  have hlen:=hn;simp only[N5,N7,Na]at hlen;have hA:=ha1.2.tl1;have hB:=hA.2.tl1;have hC:=hB.2.tl1;obtain⟨u,u1,u2⟩:=hR (ps.getD 0 cd) (by omega) (pt 0 (by omega)).2 _ (by omega) ha1.2.hd1 (eP hA (by decide));obtain⟨v,v1,v2⟩:=hR (ps.getD 1 cd) (by omega) (pt 1 (by omega)).2 _ (by omega) hA.2.hd1 (eP hB (by decide));obtain⟨w,w1,w2⟩:=hR (ps.getD 2 cd) (by omega) (pt 2 (by omega)).2 _ (by omega) hB.2.hd1 (eP hC (by decide));obtain⟨y0,y1,y2,hps⟩:∃y0 y1 y2,ps=[y0,y1,y2]:=Ao hpl
  refine⟨⟨12,[],[],0,[],[],[s],[u,v,w],(an (St0 l p f)).pos⟩,dw rfl hg0.symm hb.1.symm hz0.symm (bp hb.2.1.1.1).symm (bp hb.2.1.1.2).symm hs1.symm (by
   rw[hps]at u1 v1 w1⊢;simp only[Nj,P6,u1,v1,w1];rfl),?_⟩
  unfold fC;rw[gx ha1 (.inl rfl),N3 (by decide),gx ha1 (.inl rfl),N3 (by decide),gx ha1 (.inl rfl),N6 (by decide),jy];unfold aA;simp only[u2,cJ hA (.inr rfl),v2,cJ hB (.inr rfl),w2];rw[mG hts (by omega) (.inr rfl) hC];refine OB rfl (fv ?_);simp only[N5,N7,Na];omega
 by_cases e13:k=13
 ·have hg0:=hg (by rw[e13];decide);subst e13;simp only[gQ,show((13:Int)=1)=False by simp,show((13:Int)=2)=False by simp,show((13:Int)=3)=False by simp,show((13:Int)=4)=False by simp,show((13:Int)=5)=False by simp,show((13:Int)=7)=False by simp,show((13:Int)=9)=False by simp,show((13:Int)=10)=False by simp,show((13:Int)=14)=False by simp,show((13:Int)=16)=False by simp,show((13:Int)=17)=False by simp,show((13:Int)=6)=False by simp,show((13:Int)=8)=False by simp,show((13:Int)=11)=False by simp,show((13:Int)=12)=False by simp,ND,NS]at hn ha hst⊢;rw[N3 (by decide),N3 (by decide),N3 (by decide),N3 (by decide),N3 (by decide),N3 (by decide),N3 (by decide),N3 (by decide),N3 (by decide),N3 (by decide),N6 rfl]at hb;simp only[N4,N8,cK]at hb;have hsl:=hb.2.1.2;have hvl:=hb.2.1.1.2;have hpl:=hb.2.2;rw[aI,(pt 0 (by omega)).1,tY ss ns.length (by omega)]at hn ha hst⊢;have hts:aS (ss.getD ns.length eF)=true:=pA hss _ (by omega);have ha1:At l p ((5,vG)::(toksT (ps.getD 0 cd)++((5,wOf)::(6,[123])::(joinG [(6,[124])] (ix ns.length (uR ns vs (ss.map toksS) (toksTL ps)))++((6,[125])::(5,wAs)::toksS (ss.getD ns.length eF)))))):=by simpa using ha
  have hlen:=hn;simp only[N5,N7,Na]at hlen;have hA:=ha1.2.tl1;have hB:=hA.2.2.tl1;obtain⟨u,u1,u2⟩:=hR (ps.getD 0 cd) (by omega) (pt 0 (by omega)).2 _ (by omega) ha1.2.hd1 (eP hA (by decide))
  obtain⟨us,w1,w2⟩:=G9 (l:=l) (f:=f) (R:=R) (ns:=ns) (vs:=vs) (ss:=ss) (ps:=ps) (u0:=u) hvl hsl hpl hb.1.1.2.2 hss (fun y hy=>by
   refine hR y ?_ (hfp y hy);obtain⟨j,hj,rfl⟩:=P4.1 hy;have e0:ps[j]=ps.getD j cd:=by simp[Nb,hj]
   rw[e0]
   cases j with
   |zero=>omega
   |succ j=>
    have:(toksT (ps.getD (j+1) cd)).length<=(uR ns vs (ss.map toksS) (toksTL ps) j).length:=by unfold uR;rw[(pt (j+1) hj).1];simp only[N5];omega
    have:=Ll (sep:=[((6,[124]):KT)]) (m:=ns.length) (by omega) this;omega) u1 (an (St0 l p f)).pos (by omega) hA.2.2.one
  refine⟨⟨13,[],[],0,ns,vs,ss,us,(an (St0 l p f)).pos⟩,dw rfl hg0.symm hb.1.1.1.symm hz0.symm rfl rfl rfl w1,?_⟩;unfold fC;rw[gx ha1 (.inl rfl),N3 (by decide),gx ha1 (.inl rfl),N3 (by decide),gx ha1 (.inl rfl),N3 (by decide),gx ha1 (.inl rfl),N6 (by decide),jy];unfold aA;simp only[u2,cJ hA (.inr rfl),cJ hA.2 (.inl rfl)];have hx:ca ⟨13,[],[],0,[],[],[],[],(an (St0 l p f)).pos⟩ u=⟨13,[],[],0,[],[],[],[u],(an (St0 l p f)).pos⟩:=rfl;rw[hx,w2];simp only[mG hts (by omega) (.inr rfl) hB.2];refine OB ?_ (fv ?_)
  ·unfold bd;simp only;rw[<-eH ss ns.length eF (by omega),<-hsl,O4]
  ·simp only[N5,N7,Na];omega
 have e14:k=14:=by unfold cH at hk;simpa[e1,e6,e11,e12,e13]using hk
 have hg0:=hg (by rw[e14];decide);subst e14;simp only[gQ,show((14:Int)=1)=False by simp,show((14:Int)=2)=False by simp,show((14:Int)=3)=False by simp,show((14:Int)=4)=False by simp,show((14:Int)=5)=False by simp,show((14:Int)=7)=False by simp,show((14:Int)=9)=False by simp,show((14:Int)=10)=False by simp,ND,NS]at hn ha hst⊢;rw[N3 (by decide),N3 (by decide),N3 (by decide),N3 (by decide),N3 (by decide),N3 (by decide),N3 (by decide),N3 (by decide),N3 (by decide),N3 (by decide),N3 (by decide),N6 rfl]at hb;simp only[N4,N8,cK]at hb;have hpl:=hb.2.2;rw[aI,(pt 0 (by omega)).1,(pt 1 (by omega)).1]at hn ha hst⊢;have ha1:At l p ((5,CH)::(1,a)::(6,[61])::(toksT (ps.getD 0 cd)++((5,wIn)::toksT (ps.getD 1 cd)))):=by simpa using ha
 have hlen:=hn;simp only[N5,N7,Na]at hlen;have hA:=ha1.2.2.2.tl1;have heq:p+1+1+1+((toksT (ps.getD 0 cd)).length:Int)+1+((toksT (ps.getD 1 cd)).length:Int)=p+((([(5,CH)]:List KT)++[(1,a)]++[(6,[61])]++toksT (ps.getD 0 cd)++[(5,wIn)]++toksT (ps.getD 1 cd)).length:Int):=by simp only[N5,N7,Na];omega
 obtain⟨t1,t2⟩:=iI (f:=f) ha1.2;obtain⟨u,u1,u2⟩:=hR (ps.getD 0 cd) (by omega) (pt 0 (by omega)).2 _ (by omega) ha1.2.2.2.hd1 (eP hA (by decide));obtain⟨v,v1,v2⟩:=hR (ps.getD 1 cd) (by omega) (pt 1 (by omega)).2 _ (by omega) hA.2 (by rw[heq];exact hst);obtain⟨y0,y1,hps⟩:∃y0 y1,ps=[y0,y1]:=J6 hpl
 refine⟨⟨14,[],a,0,[],[],[],[u,v],(an (St0 l p f)).pos⟩,dw rfl hg0.symm rfl hz0.symm (bp hb.2.1.1.1).symm (bp hb.2.1.1.2).symm (bp hb.2.1.2).symm (by
  rw[hps]at u1 v1⊢;simp only[Nj,P6,u1,v1];rfl),?_⟩
 unfold fC;rw[gx ha1 (.inl rfl),N3 (by decide),gx ha1 (.inl rfl),N6 (by decide),jy];unfold aA;simp only[t1,t2,cJ ha1.2.2 (.inl rfl),u2,cJ hA (.inr rfl),v2,heq];rfl
end
end Go.Pd
end
section
namespace Go.Pd
open Go.AL
mutual
theorem countT_bare:∀(t:Trm)(m:Int),countT (bareT t) m=countT t m
 |⟨_,_,_,_,_,_,_,ps,_⟩,m=>by rw[bareT,countT,countT,countL_bare ps]
theorem countL_bare:∀(l:List Trm)(m n d:Int),countL (bareTL l) m n d=countL l m n d
 |[],_,_,_=>by rw[bareTL]
 |p::r,m,n,d=>by rw[bareTL,countL,countL,countT_bare p,countL_bare r]
end
theorem CP{u t:Trm}(h:bareT u=bareT t)(ht:b6 t=0):¬(b6 u=3∨b6 u=91):=by
 unfold b6 at ht⊢;have e:countT u 4096=countT t 4096:=by rw[<-countT_bare u,h,countT_bare]
 rw[e];by_cases a:4096<(countT t 4096).1
 ·rw[N6 a]at ht;exact absurd ht (by decide)
 rw[N3 a]at ht⊢;by_cases b:40<(countT t 4096).2
 ·rw[N6 b]at ht;exact absurd ht (by decide)
 rw[N3 b];split<;>decide
theorem CQ{t:Trm}(ht:b6 t=0):allT aJ t=true:=by
 unfold b6 at ht;by_cases a:4096<(countT t 4096).1
 ·rw[N6 a]at ht;exact absurd ht (by decide)
 rw[N3 a]at ht;by_cases b:40<(countT t 4096).2
 ·rw[N6 b]at ht;exact absurd ht (by decide)
 rw[N3 b]at ht;by_cases c:allT aJ t=true
 ·exact c
 ·rw[N3 c]at ht;exact absurd ht (by decide)
theorem vN{l:List Tokn}{f:Int}:∀(n:Nat)(t:Trm),(toksT t).length<n->(toksT t).length<=l.length+2->allT aJ t=true->Bk l f (a7 n) t
 |0,t,h,_,_=>absurd h (OO _)
 |n+1,t,hn,hl,hf=>fun p hp ha hst=>by
  have hR:∀q,(toksT q).length<min n (l.length+3)->allT aJ q=true->Bk l f (a7 n) q:=fun q h hq=>vN n q (by omega) (by omega) hq;show ∃u,bareT u=bareT t/\fC (a7 n) (St0 l p f)=_;by_cases hk:cH t.kind=true
  ·exact CO hR (by omega) hf hk hp ha hst
  ·obtain⟨c,w,r,e,_,h4⟩:=oh t hf;rw[N3 hk]at h4;have ha1:=ha;rw[e]at ha1;obtain⟨k,u,u1,u2,u3⟩:=vK hR _ t (Nf _) (by omega) hf (by simpa using hk) p hp ha hst.2.2 (an (St0 l p f)).pos;refine⟨u,u1,?_⟩;rw[vM ha1 h4];show dU (a7 n) (an (St0 l p f)).pos (l.length+2) _ _=_;rw[u3 (l.length+2) (by omega),vL hst]
theorem Ap{t:Trm}(hc:b6 t=0)(hl:(showT t).length<=4096):(bm (showT t)).2=⟨0,0⟩/\bareT (bm (showT t)).1=bareT t/\b6 (bm (showT t)).1=0:=by
 have hf:=CQ hc;obtain⟨ts,e1,e2,e3,e4,e5,e6⟩:=DJ (term_pc t hf).1 (J4 J1) hl;have hlen:(aN (showT t)).1.length=(toksT t).length+1:=by rw[e1,N5,Nc,e4]
 have hst:tT (aN (showT t)).1 (0+((toksT t).length:Int)):=by
  have hk:(dP (aN (showT t)).1 (0+((toksT t).length:Int))).kind=0:=by have:=(nZ (s:=showT t) (by rw[e2])).2;rw[hlen]at this;rw[show(0:Int)+((toksT t).length:Int)=(((toksT t).length+1:Nat):Int)-1 by omega];exact this
  unfold tT jK;rw[hk];simp
 have hb:=vN (l:=(aN (showT t)).1) (f:=0) 5000 t (by omega) (by omega) hf 0 (OE _) e6 hst;obtain⟨u,u1,u2⟩:=hb;have hB:aZ (aN (showT t)).1 0=St0 (aN (showT t)).1 0 0:=by unfold aZ;rw[N3 (by omega),N3 (by omega)]
 have hT:bA (aN (showT t)).1 0=(u,0+((toksT t).length:Int),⟨0,0⟩):=by unfold bA;rw[hB,N3 nb,u2];unfold vp;simp only;rw[N3 nb,N3 (CP u1 hc)];rfl
 have hP:cM (aN (showT t)).1 (0+((toksT t).length:Int))=⟨0,0⟩:=by unfold cM;rw[N6 (by omega)]
 have hX:bm (showT t)=(u,⟨0,0⟩):=by unfold bm lG;simp only[hT,hP,e2,NS]
 have hce:=ly (s:=showT t) (by rw[hX]);rw[hX]at hce⊢;exact⟨rfl,u1,hce⟩
end Go.Pd
end
section
namespace Go.Pd
open Go.AL
section
variable {l:List Tokn} {L:Int}
def Wit(l:List Tokn)(L:Int):Prop:=0<=L/\∀t∈l,0<=t.pos/\t.pos<=L
def Fs9(l:List Tokn)(L:Int)(s:Par):Prop:=s.toks=l/\(¬s.err=0->0<=s.fat/\s.fat<=L)
theorem J7(h:Wit l L)(a:Int):0<=(dP l a).pos/\(dP l a).pos<=L:=by
 have g:∀k:Nat,0<=(l.getD k (dfl (.st .token))).pos/\(l.getD k (dfl (.st .token))).pos<=L:=fun k=>by
  by_cases c:k<l.length
  ·exact h.2 _ (bT l k _ c)
  ·rw[Nb,Nd (by omega)];exact⟨OE _,h.1⟩
 unfold dP;split
 ·exact g _
 split
 ·exact⟨OE _,h.1⟩
 ·exact g _
theorem jz(h:Wit l L){s:Par}(hs:Fs9 l L s):0<=(an s).pos/\(an s).pos<=L:=by unfold an;rw[hs.1];exact J7 h _
theorem lB{s:Par}(hs:Fs9 l L s){e a:Int}(ha:0<=a/\a<=L):Fs9 l L (cC e a s):=by
 unfold cC;split
 ·exact⟨hs.1,fun _=>ha⟩
 ·exact hs
theorem fw{s:Par}(hs:Fs9 l L s):Fs9 l L (aD s):=hs
theorem cP(h:Wit l L){s:Par}(hs:Fs9 l L s)(t:Str):Fs9 l L (aj t s):=by
 unfold aj;split
 ·exact fw hs
 ·exact lB hs (jz h hs)
theorem iJ(h:Wit l L){s:Par}(hs:Fs9 l L s)(k:Int):Fs9 l L (aM k s).2/\0<=(aM k s).1.pos/\(aM k s).1.pos<=L:=by
 unfold aM;split
 ·exact⟨fw hs,jz h hs⟩
 ·exact⟨lB hs (jz h hs),OE _,h.1⟩
theorem pB(h:Wit l L){s:Par}(hs:Fs9 l L s)(ns:List Str):Fs9 l L (bN ns s).2:=by
 obtain⟨a,b⟩:=iJ h hs 1;unfold bN;simp only;split
 ·exact lB a b
 ·exact a
def Ok1(l:List Tokn)(L:Int){σ:Type}(one:σ->Par->σ×Par):Prop:=∀x s,Fs9 l L s->Fs9 l L (one x s).2
def OkR(l:List Tokn)(L:Int){σ:Type}(R:Par->σ×Par):Prop:=∀s,Fs9 l L s->Fs9 l L (R s).2
theorem DQ(h:Wit l L){σ:Type}{one:σ->Par->σ×Par}(ho:Ok1 l L one)(btw en:Str):∀(n:Nat)(x:σ)(s:Par),Fs9 l L s->Fs9 l L (aV btw en one n x s).2
 |0,x,s,hs=>hs
 |n+1,x,s,hs=>by
  rw[aV];split
  ·exact hs
  split
  ·exact fw (ho x s hs)
  ·exact DQ h ho btw en n _ _ (cP h (ho x s hs) btw)
theorem jS(h:Wit l L){σ:Type}{one:σ->Par->σ×Par}(ho:Ok1 l L one)(btw en:Str)(x:σ){s:Par}(hs:Fs9 l L s):Fs9 l L (ab btw en one x s).2:=by
 unfold ab;split
 ·exact fw hs
 ·exact DQ h ho btw en _ _ _ hs
theorem Aq(h:Wit l L){R:Par->Shape×Par}(hR:OkR l L R):Ok1 l L (az R):=fun x s hs=>hR _ (cP h (pB h hs _) _)
theorem DR{R:Par->Shape×Par}(hR:OkR l L R):Ok1 l L (aB R):=fun x s hs=>hR _ hs
theorem Ar(h:Wit l L):∀n,OkR l L (ah n)
 |0=>fun s hs=>hs
 |n+1=>fun s hs=>by
  have ih:=Ar h n;show Fs9 l L (eV (ah n) s).2;unfold eV;simp only;split
  ·exact fw hs
  split
  ·exact(iJ h (cP h (fw hs) _) _).1
  split
  ·exact cP h (ih _ (fw hs)) _
  split
  ·exact jS h (Aq h ih) _ _ _ (fw hs)
  split
  ·exact jS h (Aq h ih) _ _ _ (fw hs)
  split
  ·exact DR ih _ _ (cP h (jS h (DR ih) _ _ _ (fw hs)) _)
  ·exact lB hs (jz h hs)
theorem tZ(h:Wit l L):OkR l L bw:=fun s hs=>by
 have a:=Ar h big s hs;unfold bw;simp only;split
 ·exact a
 split
 ·exact a
 ·exact lB a (jz h hs)
theorem u6(h:Wit l L)(a:Str):Ok1 l L (eQ a):=fun x s hs=>tZ h _ (cP h hs _)
theorem pC{R:Par->Trm×Par}(hR:OkR l L R):Ok1 l L (aA R):=fun x s hs=>hR _ hs
theorem LZ(h:Wit l L):Ok1 l L aC:=fun x s hs=>u6 h _ _ _ (pB h hs _)
theorem M0(h:Wit l L){R:Par->Trm×Par}(hR:OkR l L R):Ok1 l L (ak R):=fun x s hs=>pC hR _ _ (cP h (cP h (u6 h _ _ _ (iJ h (cP h (pB h hs _) _) _).1) _) _)
theorem J8(h:Wit l L){R:Par->Trm×Par}(hR:OkR l L R):Ok1 l L (ai R):=fun x s hs=>pC hR _ _ (cP h (pB h hs _) _)
theorem u7(h:Wit l L){R:Par->Trm×Par}(hR:OkR l L R):OkR l L (cz R):=fun s hs=>cP h (hR _ (cP h hs _)) _
theorem gR{α:Type}{c:Prop}[Decidable c]{x y:α×Par}(hx:Fs9 l L x.2)(hy:Fs9 l L y.2):Fs9 l L (if c then x else y).2:=by
 by_cases k:c
 ·rw[N6 k];exact hx
 ·rw[N3 k];exact hy
theorem KS(h:Wit l L){R:Par->Trm×Par}(hR:OkR l L R):OkR l L (cE R):=fun s hs=>by
 have ad:=fw hs;unfold cE;refine gR hs (gR ad (gR ad (gR (gR (iJ h (fw ad) 1).1 ad) (gR ad (gR ad (gR (gR (cP h (tZ h _ (fw (hR _ ad))) _) (cP h (hR _ ad) _)) (gR (jS h (J8 h hR) _ _ _ ad) (gR ?_ (gR ?_ (gR ?_ ?_))))))))))
 ·exact u7 h hR _ (iJ h ad _).1
 ·exact u7 h hR _ (iJ h ad _).1
 ·exact u7 h hR _ (iJ h ad _).1
 ·exact lB hs (jz h hs)
theorem ua(h:Wit l L){R:Par->Trm×Par}(hR:OkR l L R)(p:Int):∀(n:Nat)(t:Trm)(s:Par),Fs9 l L s->Fs9 l L (dU R p n t s).2
 |0,t,s,hs=>hs
 |n+1,t,s,hs=>by
  rw[dU];split
  ·exact hs
  split
  ·exact ua h hR p n _ _ (jS h (pC hR) _ _ _ (fw hs))
  split
  ·exact ua h hR p n _ _ (iJ h (fw hs) _).1
  ·exact hs
theorem J9(h:Wit l L){R:Par->Trm×Par}(hR:OkR l L R):OkR l L (fC R):=fun s hs=>by
 have ad:=fw hs;have pt:=pC hR;unfold fC;simp only;split
 ·exact pt _ _ (cP h (jS h (LZ h) _ _ _ (cP h ad _)) _)
 split
 ·exact pt _ _ (cP h (pt _ _ (cP h (iJ h ad _).1 _)) _)
 split
 ·exact u6 h _ _ _ (pt _ _ (cP h (pt _ _ (cP h (pt _ _ ad) _)) _))
 split
 ·exact u6 h _ _ _ (jS h (M0 h hR) _ _ _ (cP h (cP h (pt _ _ ad) _) _))
 split
 ·exact u6 h _ _ _ (jS h pt _ _ _ ad)
 ·exact ua h hR _ _ _ _ (KS h hR s hs)
theorem DS(h:Wit l L):∀n,OkR l L (a7 n)
 |0=>fun s hs=>hs
 |n+1=>J9 h (DS h n)
theorem As(h:Wit l L)(hp:0<=L):Fs9 l L (aZ l 0):=by
 unfold aZ
 repeat' split
 all_goals exact⟨rfl,fun _=>⟨OE _,hp⟩⟩
def jA(f:Flt)(L:Int):Prop:=¬f.err=0->0<=f.pos/\f.pos<=L
theorem Ja{α:Type}{z:α}{p:α×Par}(h:Fs9 l L p.2):jA (ni z p).2.2 L:=by
 unfold ni;split
 ·exact fun e=>h.2 e
 ·exact fun e=>absurd rfl e
theorem Jb(h:Wit l L):jA (eL l 0).2.2 L:=by
 have b:=As h h.1;unfold eL;split
 ·exact fun e=>b.2 e
 ·exact Ja (tZ h _ b)
theorem Ga(h:Wit l L):jA (bA l 0).2.2 L:=by
 have b:=As h h.1;unfold bA;split
 ·exact fun e=>b.2 e
 unfold vp;have a:=DS h 5000 _ b;refine Ja (l:=l) ?_;split
 ·exact a
 split
 ·exact lB a (jz h b)
 ·exact a
theorem vO(h:Wit l L)(a:Int):jA (cM l a) L:=by
 unfold cM;split
 ·exact fun e=>absurd rfl e
 ·intro _;by_cases c:a.toNat<l.length
  ·exact h.2 _ (bT l _ _ c)
  ·show 0<=(l.getD a.toNat (dfl (.st .token))).pos/\_;rw[Nb,Nd (by omega)];exact⟨OE _,h.1⟩
theorem DT{α:Type}{z:α}{F:List Tokn->α×Int×Flt}{s:Str}(hw:(aN s).2.err=0->Wit (aN s).1 (s.length:Int))(hs:jA (aN s).2 (s.length:Int))(hF:∀l,Wit l (s.length:Int)->jA (F l).2.2 (s.length:Int)):jA (lG z F s).2 (s.length:Int):=by
 unfold lG;split
 ·rename_i c;split
  ·split
   ·exact vO (hw c) _
   ·exact vO (hw c) _
  ·exact hF _ (hw c)
 ·exact hs
end
end Go.Pd
end
section
namespace Go.Pd
open Go.AL
theorem Jc{s:Str}{a b:Int}{k:Nat}(h0:0<=a)(h1:a<=b)(h2:b<=(s.length:Int))(h:bO (cut s a b)=some k):0<=a+(k:Int)/\a+(k:Int)<=(s.length:Int):=by have:=vj h;have:=oX h0 h1 h2;omega
theorem mI(s:Str)(fr:Int)(hf:0<=fr/\fr<=(s.length:Int)):∀(n:Nat)(acc:Str)(c:SC),0<=c.pos->c.pos<=(s.length:Int)->(s.length:Int)<c.pos+(n:Int)->(bW s fr n acc c).2.1=false->0<=(bW s fr n acc c).2.2.fat/\(bW s fr n acc c).2.2.fat<=(s.length:Int)
 |0,acc,c,h0,h1,h2,_=>by omega
 |n+1,acc,c,h0,h1,h2,h=>by
  rw[bW]at h⊢;by_cases a:bAt s c.pos<32
  ·rw[N6 a];exact hf
  rw[N3 a]at h⊢;by_cases b:bAt s c.pos=34
  ·rw[N6 b]at h;cases h
  rw[N3 b]at h⊢;by_cases d:bAt s c.pos=92
  ·rw[N6 d]at h⊢
   cases he:jn (bAt s (c.pos+1))with|none=>exact hf|some x=>rw[he]at h;have hp:=mU he;exact mI s fr hf n _ _ (by show 0<=c.pos+2;omega) (by show c.pos+2<=_;omega) (by show _<c.pos+2+(n:Int);omega) h
  rw[N3 d]at h⊢;obtain⟨p1,p2⟩:=q8 a b d;have p2:=p2 h0;have hw:=dp (pr:=aH) h0 h1
  cases hb:bO (cut s c.pos (c.pos+(aq aH s c.pos:Int)))with|some k=>exact Jc h0 (by omega) hw hb|none=>rw[hb]at h;exact mI s fr hf n _ _ (by show 0<=c.pos+_;omega) hw (by show _<c.pos+_+(n:Int);omega) h
theorem CR{s:Str}{c:SC}(h0:0<=c.pos)(h1:c.pos<(s.length:Int))(h:(aP s c).1=false):0<=(aP s c).2.fat/\(aP s c).2.fat<=(s.length:Int):=by
 have d60:0<=c.pos/\c.pos<=(s.length:Int):=⟨h0,by omega⟩;unfold aP at h⊢;by_cases a:bL (bAt s c.pos)=true∨bM (bAt s c.pos)=true
 ·rw[N6 a]at h⊢;unfold sG at h⊢;split at h
  ·cases h
  rename_i x;rw[N3 x];split at h
  ·cases h
  rename_i y;rw[N3 y];split at h
  ·cases h
  ·rename_i z;rw[N3 z];exact d60
 rw[N3 a]at h⊢;by_cases b:cv (bAt s c.pos)=true
 ·rw[N6 b]at h⊢;unfold wT at h⊢;split at h
  ·cases h
  rename_i x;rw[N3 x];split at h
  ·cases h
  ·rename_i y;rw[N3 y];exact d60
 rw[N3 b]at h⊢;by_cases d:bAt s c.pos=34
 ·rw[N6 d]at h⊢;unfold wU at h⊢;split at h
  ·cases h
  ·rename_i x;rw[N3 x];exact mI s c.pos d60 (s.length+2) [] (bV c (c.pos+1)) (by show 0<=c.pos+1;omega) (by show c.pos+1<=_;omega) (by show _<c.pos+1+((s.length+2:Nat):Int);omega) (Og.2 x)
 rw[N3 d]at h⊢;unfold sH at h⊢;split at h
 ·cases h
 rename_i x;rw[N3 x];split at h
 ·cases h
 ·rename_i y;rw[N3 y];exact d60
theorem pD(s:Str):∀(n:Nat)(c:SC),0<=c.pos->c.pos<=(s.length:Int)->(s.length:Int)<c.pos+(n:Int)->Wit c.out (s.length:Int)->
  ((dE s n c).2.err=0->Wit (dE s n c).1 (s.length:Int))/\jA (dE s n c).2 (s.length:Int)
 |0,c,h0,h1,h2,_=>by omega
 |n+1,c,h0,h1,h2,ho=>by
  have add:∀t:Tokn,0<=t.pos->t.pos<=(s.length:Int)->Wit (c.out++[t]) (s.length:Int):=fun t a b=>⟨ho.1,fun x hx=>by
   rcases NV.1 hx with k|k
   ·exact ho.2 x k
   ·rw[NK.1 k];exact⟨a,b⟩⟩
  rw[dE];by_cases a:c.pos=(s.length:Int)
  ·rw[N6 a];exact⟨fun _=>add _ (by show(0:Int)<=(s.length:Int);omega) (OE _),fun e=>absurd rfl e⟩
  rw[N3 a];have hlt:c.pos<(s.length:Int):=by omega
  by_cases b:gO (bAt s c.pos)=true
  ·rw[N6 b];exact pD s n _ (by show 0<=c.pos+1;omega) (by show c.pos+1<=_;omega) (by show _<c.pos+1+(n:Int);omega) ho
  rw[N3 b];by_cases d:bAt s c.pos=45/\bAt s (c.pos+1)=45
  ·rw[N6 d];have hw:=dp (pr:=cG) h0 h1;have hh:=cN (pr:=cG) h0 hlt (by rw[<-jo hlt,d.1];rfl)
   cases hb:bO (cut s c.pos (c.pos+(aq cG s c.pos:Int)))with|some k=>exact⟨fun e=>absurd (show(30:Int)=0 from e) (by decide),fun _=>Jc h0 (by omega) hw hb⟩|none=>exact pD s n _ (by show 0<=c.pos+_;omega) hw (by show _<c.pos+_+(n:Int);omega) ho
  rw[N3 d];by_cases e:(aP s c).1=true
  ·rw[N6 e];obtain⟨t1,t2,t3⟩:=fg h0 hlt e;obtain⟨t,g1,_,g3⟩:=qP h0 hlt e;refine pD s n _ (by omega) t2 (by omega) ?_;rw[g1];exact add t (by omega) (by omega)
  ·rw[N3 e];have ef:(aP s c).1=false:=by simpa using e
   exact⟨fun x=>absurd x (lg h0 hlt ef),fun _=>CR h0 hlt ef⟩
theorem pE(s:Str):((aN s).2.err=0->Wit (aN s).1 (s.length:Int))/\jA (aN s).2 (s.length:Int):=by
 unfold aN;split
 ·exact⟨fun e=>absurd e (by decide),fun _=>⟨by show(0:Int)<=4096;decide,by show(4096:Int)<=_;omega⟩⟩
 ·exact pD s (s.length+2) ⟨0,[],0,0⟩ (by show(0:Int)<=0;omega) (by show(0:Int)<=_;omega) (by show _<(0:Int)+((s.length+2:Nat):Int);omega) ⟨by omega,fun t ht=>by cases ht⟩
theorem Gb(s:Str):jA (cX s).2 (s.length:Int):=DT (pE s).1 (pE s).2 (fun l h=>Jb h)
theorem Gc(s:Str):jA (bm s).2 (s.length:Int):=DT (pE s).1 (pE s).2 (fun l h=>Ga h)
theorem xH{s:Str}(h:(cX s).2.err=0):aS (cX s).1=true:=by
 unfold cX lG at h⊢;by_cases a:(aN s).2.err=0
 ·rw[N6 a]at h⊢;by_cases b:(eL (aN s).1 0).2.2.err=0
  ·rw[N6 b]at h⊢;by_cases c:(cM (aN s).1 (eL (aN s).1 0).2.1).err=0
   ·rw[N6 c];show aS (eL (aN s).1 0).1=true;unfold eL at b⊢;by_cases d:aY (aZ (aN s).1 0)=true
    ·rw[N6 d]at b;exact absurd b (bY.1 d)
    rw[N3 d]at b⊢;unfold ni at b⊢;by_cases e:aY (bw (aZ (aN s).1 0)).2=true
    ·rw[N6 e]at b;exact absurd b (bY.1 e)
    rw[N3 e];exact mw (bK.1 (by simpa using e))
   ·rw[N3 c]at h;exact absurd h c
  ·rw[N3 b]at h;exact absurd h b
 ·rw[N3 a]at h;exact absurd h a
theorem Jd{s:Str}(h:(cX s).2.err=0):bz (cX s).1=0/\((showS (cX s).1).length<=4096->cX (showS (cX s).1)=((cX s).1,⟨0,0⟩)):=by have ht:=xH h;unfold aS at ht;rw[N4,N8]at ht;exact⟨ht.1,fun hl=>Ah ht.1 ht.2 hl⟩
theorem Je{s:Str}(h:(bm s).2.err=0):b6 (bm s).1=0/\((showT (bm s).1).length<=4096->(bm (showT (bm s).1)).2=⟨0,0⟩/\bareT (bm (showT (bm s).1)).1=bareT (bm s).1/\b6 (bm (showT (bm s).1)).1=0):=
 ⟨ly h,fun hl=>Ap (ly h) hl⟩
end Go.Pd
end
section
namespace Go.Pd
open Go.AL
mutual
theorem eqT_bare:∀a b:Trm,bareT a=bareT b->eqT a b false=true
 |⟨k,g,q,z,ns,vs,ss,ps,pp⟩,⟨k',g',q',z',ns',vs',ss',ps',pp'⟩,h=>by
  rw[bareT,bareT]at h;injection h with h1 h2 h3 h4 h5 h6 h7 h8 h9
  subst h1 h2 h3 h4 h5 h6 h7;rw[eqT,eqTL_bare ps ps' h8,eqL_self];simp
theorem eqTL_bare:∀l m:List Trm,bareTL l=bareTL m->eqTL l m false=true
 |[],[],_=>by rw[eqTL]
 |[],y::s,h=>by rw[bareTL,bareTL]at h;cases h
 |x::r,[],h=>by rw[bareTL,bareTL]at h;cases h
 |x::r,y::s,h=>by
  rw[bareTL,bareTL]at h;injection h with h1 h2
  rw[eqTL,eqT_bare x y h1,eqTL_bare r s h2];rfl
end
end Go.Pd
end
section
namespace Go.Pd
open Go.AL
theorem jT{α:Type}(sep:List α):∀xs:List (List α),(joinG sep xs).length<=(xs.map fun x=>x.length+sep.length).sum
 |[]=>Nt _
 |[x]=>by rw[iZ];simp
 |x::y::r=>by have:=jT sep (y::r);rw[joinG_two,Nj,Oz,N5,N5];omega
theorem jB{x:Str}(h:aG x=true):x.length<=24:=by unfold aG de at h;simp only[N4,N8]at h;exact h.1.1.1.2
theorem qo{x:Str}(h:cW x=true):x.length<=24:=by unfold cW de at h;simp only[N4,N8]at h;exact h.1.1.2
theorem qp:∀(ns:List Str)(ps:List Shape),(∀m∈ns,aG m=true)->(∀p∈ps,(showS p).length+29<=80 *sz p)->((showP ns ps).map fun x=>x.length+3).sum<=80 *szL ps
 |_,[],_,_=>by simp[showP]
 |[],p::r,hn,h=>by have:=qp [] r hn (fun q hq=>h q (Nn _ hq));have:=h p NF;simp only[showP,szL,Nj,Oz];omega
 |m::ns,p::r,hn,h=>by have:=qp ns r (fun q hq=>hn q (Nn _ hq)) (fun q hq=>h q (Nn _ hq));have:=h p NF;have:=jB (hn m NF);simp only[showP,szL,Nj,Oz,N5,N7,Na];omega
theorem ub{xs:List Str}(k:Nat)(hk:k<=3):(xs.map fun x=>x.length+k).sum<=(xs.map fun x=>x.length+3).sum:=by
 induction xs with
 |nil=>simp
 |cons x r ih=>simp only[Nj,Oz];omega
theorem nc:∀(n:Nat)(s:Shape),sz s<=n->allS bc s=true->(showS s).length+29<=80 *sz s
 |0,s,hn,_=>by have:=gj s;omega
 |n+1,s,hn,hf=>by
  rw[fH,N4,eX,Ng]at hf;obtain⟨f1,f2⟩:=hf;have hz:=ky s;have hps:∀p∈s.parts,(showS p).length+29<=80 *sz p:=fun p hp=>nc n p (by have:=gi hp;omega) (f2 p hp)
  have hnm:∀m∈s.names,aG m=true:=by
   unfold bc dm at f1;simp only at f1;intro m hm
   repeat' split at f1
   all_goals simp only[N4,N8,Ng,NC]at f1
   all_goals first
    |exact f1.2.1.2 m hm
    |(have e:=f1.1.2;rw[e]at hm;cases hm)
  have hs:=qp s.names s.parts hnm hps;have j1:(joinG [(44:UInt8),32] (showP s.names s.parts)).length<=((showP s.names s.parts).map fun x:Str=>x.length+2).sum:=jT [(44:UInt8),32] (showP s.names s.parts);have j2:(joinG [(32:UInt8),124,32] (showP s.names s.parts)).length<=((showP s.names s.parts).map fun x:Str=>x.length+3).sum:=jT [(32:UInt8),124,32] (showP s.names s.parts);have m1:((showP s.names s.parts).map fun x:Str=>x.length+2).sum<=((showP s.names s.parts).map fun x:Str=>x.length+3).sum:=ub (xs:=showP s.names s.parts) 2 (by decide);replace hs:((showP s.names s.parts).map fun x:Str=>x.length+3).sum<=80 *szL s.parts:=hs;rw[tu];unfold zl;by_cases k1:s.kind=1
  ·rw[N6 k1];simp;omega
  rw[N3 k1];by_cases k2:s.kind=2
  ·rw[N6 k2];simp;omega
  rw[N3 k2];by_cases k3:s.kind=3
  ·rw[N6 k3];simp;omega
  rw[N3 k3];by_cases k4:s.kind=4
  ·rw[N6 k4];simp;omega
  rw[N3 k4];by_cases k5:s.kind=5
  ·rw[N6 k5]
   cases hx:showP s.names s.parts with|nil=>simp;omega|cons x r=>rw[hx]at hs;simp at hs⊢;omega
  rw[N3 k5];by_cases k6:s.kind=6
  ·rw[N6 k6];simp only[N5,N7,Na];omega
  rw[N3 k6];by_cases k7:s.kind=7
  ·rw[N6 k7];simp only[N5,N7,Na];omega
  rw[N3 k7];by_cases k8:s.kind=8
  ·rw[N6 k8]
   cases hx:showP s.names s.parts with
   |nil=>simp[joinG];omega
   |cons x r=>
    have hne:showP s.names s.parts≠[]:=by rw[hx];simp
    rw[<-hx];have hd:showP s.names s.parts=(showP s.names s.parts).dropLast++[(showP s.names s.parts).getLastD []]:=by rw[Oq,OS hne];exact(OV hne).symm
    have j3:(joinG [(44:UInt8),32] (showP s.names s.parts).dropLast).length<=((showP s.names s.parts).dropLast.map fun x:Str=>x.length+2).sum:=jT [(44:UInt8),32] (showP s.names s.parts).dropLast
    have e:((showP s.names s.parts).map fun x:Str=>x.length+2).sum=((showP s.names s.parts).dropLast.map fun x:Str=>x.length+2).sum+((showP s.names s.parts).getLastD []).length+2:=by
     conv=>lhs;rw[hd]
     simp;omega
    simp only[N5,N7,Na];omega
  rw[N3 k8]
  have f3:s.pkg.length<=24/\s.name.length<=24:=by
   unfold bc at f1;simp only at f1;rw[N3 (by simp[k1,k2,k3,k4]),N3 k5,N3 (by simp[k6,k7]),N3 k8]at f1;by_cases k9:s.kind=9
   ·rw[N6 k9]at f1;simp only[N4,NW,N8]at f1;refine⟨?_,qo f1.1.1.1⟩;rcases f1.1.1.2 with c|c
    ·rw[c.1];decide
    ·exact jB c
   rw[N3 k9]at f1;by_cases k10:s.kind=10
   ·rw[N6 k10]at f1;simp only[N4,N8]at f1;exact⟨jB f1.1.1.2,qo f1.1.1.1⟩
   rw[N3 k10]at f1;cases f1
  split
  ·omega
  ·simp only[N5,N7,Na];omega
end Go.Pd
end
section
namespace Go.Pd
open Go.AL
theorem vP(x:Str):(jw x).length<=2 *x.length+2:=by
 have:∀n:Str,(n.flatMap dc).length<=2 *n.length:=fun n=>by
  induction n with
  |nil=>simp
  |cons b r ih=>
   have h1:(dc b).length<=2:=by
    unfold dc
    repeat' split
    all_goals simp
   rw[O9,N5,N7];omega
 have:=this x;unfold jw;simp only[N5,N7,Na];omega
theorem Au{n:Int}(h0:0<=n)(h1:n<=999999999999999):(Go.Lib.itoa n).length<=15:=by rw[Ai h0,Go.Lib.decDigits_length];exact IZ 14 _ (by omega)
theorem Gd{s:Shape}(h:aS s=true):(showS s).length<=32000:=by unfold aS at h;rw[N4,N8]at h;obtain⟨c1,_,c3⟩:=jJ h.1;have:=nc _ s (Nf _) c3;omega
theorem CS(n:Nat)(f:Nat->Str)(c:Nat)(w:Nat->Nat)(h:∀i,i<n->(f i).length+3<=c+w i):((ix n f).map fun x:Str=>x.length+3).sum<=n *c+((List.range n).map w).sum:=by
 unfold ix
 induction n with
 |zero=>simp
 |succ n ih=>have h1:=ih (fun i hi=>h i (by omega));have h2:=h n (by omega);rw[PB,Ox,Ox,PZ,Ox,PZ,Nat.succ_mul];simp only[Nj,P6,Oz,List.sum_nil]at h1⊢;omega
theorem nd{ss:List Shape}(h:ss.all aS=true)(i:Nat):((ss.map showS).getD i []).length<=32000:=by
 by_cases c:i<ss.length
 ·rw[jx showS ss i eF [] c];exact Gd (pA h i c)
 ·rw[Nb,Nd (by rw[Oc];omega)];simp
end Go.Pd
end
section
namespace Go.Pd
open Go.AL
theorem Jf(ps:List Trm):∀i,((showTL ps).getD i []).length<=((showTL ps).map fun x:Str=>x.length+8).sum:=fun i=>by
 have g:∀(xs:List Str)(i:Nat),(xs.getD i []).length<=(xs.map fun x:Str=>x.length+8).sum:=fun xs=>by
  induction xs with
  |nil=>intro i;simp
  |cons x r ih=>
   intro i
   cases i with|zero=>simp;omega|succ i=>have:=ih i;simp at this⊢;omega
 exact g _ i
theorem sum8{xs:List Str}:(xs.map fun x:Str=>x.length+2).sum<=(xs.map fun x:Str=>x.length+8).sum:=by
 induction xs with
 |nil=>simp
 |cons x r ih=>simp only[Nj,Oz];omega
theorem Jg(b:Bool)(x:Str):(opS b x).length<=x.length+2:=by
 unfold opS;split
 ·simp
 ·omega
end Go.Pd
end
section
namespace Go.Pd
open Go.AL
abbrev nJ(ps:List Trm):Nat:=((showTL ps).map fun x:Str=>x.length+8).sum
theorem qq:∀(xs:List Str)(n:Nat),((List.range n).map fun i=>(xs.getD i []).length).sum<=(xs.map fun x:Str=>x.length+8).sum
 |[],n=>by
  have:∀n:Nat,((List.range n).map fun i=>(([]:List Str).getD i []).length).sum=0:=fun n=>by
   induction n with
   |zero=>rfl
   |succ n ih=>rw[PB,Ox,PZ,ih];simp
  rw[this];exact Nt _
 |x::r,0=>by simp
 |x::r,n+1=>by
  have:=qq r n;rw[List.range_succ_eq_map,Nj,Oz,Q5,Nj,Oz];have e:((fun i=>((x::r).getD i []).length) ∘ Nat.succ)=fun i=>(r.getD i []).length:=by funext i;simp
  rw[e];show x.length+_<=_;omega
theorem ei{ns:List Str}(h:ns.all aG=true)(i:Nat):(ns.getD i []).length<=24:=by
 by_cases c:i<ns.length
 ·exact jB (py h i c)
 ·rw[Nb,Nd (by omega)];simp
theorem Jh{ns:List Str}{ss:List Shape}(hn:ns.all aG=true)(hs:ss.all aS=true):(joinG [44,32] (ix ns.length (mE ns (ss.map showS)))).length<=ns.length *32029:=by
 have h1:(joinG [(44:UInt8),32] (ix ns.length (mE ns (ss.map showS)))).length<=((ix ns.length (mE ns (ss.map showS))).map fun x:Str=>x.length+2).sum:=jT [(44:UInt8),32] _
 have h2:=CS ns.length (mE ns (ss.map showS)) 32029 (fun _=>0) (fun i hi=>by
  have:=ei hn i;have:=nd hs i;unfold mE;simp only[N5,N7,Na];omega)
 have h3:((ix ns.length (mE ns (ss.map showS))).map fun x:Str=>x.length+2).sum<=((ix ns.length (mE ns (ss.map showS))).map fun x:Str=>x.length+3).sum:=ub 2 (by decide)
 have h4:((List.range ns.length).map fun _:Nat=>0).sum=0:=by
  induction ns.length with
  |zero=>rfl
  |succ n ih=>rw[PB,Ox,PZ,ih];rfl
 rw[h4]at h2;omega
theorem Ji{ns:List Str}{ps:List Trm}(hn:ns.all aG=true):(joinG [44,32] (ix ns.length (mF ns (showTL ps)))).length<=ns.length *30+nJ ps:=by
 have h1:(joinG [(44:UInt8),32] (ix ns.length (mF ns (showTL ps)))).length<=((ix ns.length (mF ns (showTL ps))).map fun x:Str=>x.length+2).sum:=jT [(44:UInt8),32] _
 have h2:=CS ns.length (mF ns (showTL ps)) 30 (fun i=>((showTL ps).getD i []).length) (fun i hi=>by
  have:=ei hn i;unfold mF;simp only[N5,N7,Na];omega)
 have h3:((ix ns.length (mF ns (showTL ps))).map fun x:Str=>x.length+2).sum<=((ix ns.length (mF ns (showTL ps))).map fun x:Str=>x.length+3).sum:=ub 2 (by decide);have h4:((List.range ns.length).map fun i=>((showTL ps).getD i []).length).sum<=nJ ps:=qq (showTL ps) ns.length;omega
theorem Jj{ns vs:List Str}{ss:List Shape}{xs:List Str}{x0:Str}(hn:ns.all aG=true)(hv:vs.all aG=true)(hs:ss.all aS=true):(joinG [32,124,32] (ix ns.length (oe ns vs (ss.map showS) (x0::xs)))).length<=ns.length *32059+(xs.map fun x:Str=>x.length+8).sum:=by
 have h1:(joinG [(32:UInt8),124,32] (ix ns.length (oe ns vs (ss.map showS) (x0::xs)))).length<=((ix ns.length (oe ns vs (ss.map showS) (x0::xs))).map fun x:Str=>x.length+3).sum:=jT [(32:UInt8),124,32] _
 have h2:=CS ns.length (oe ns vs (ss.map showS) (x0::xs)) 32059 (fun i=>(xs.getD i []).length) (fun i hi=>by
  have:=ei hn i;have:=ei hv i;have:=nd hs i;unfold oe;simp only[N5,N7,Na,OL];omega)
 have h4:=qq xs ns.length;omega
theorem vQ(xs:List Str):(joinG [44,32] xs).length<=(xs.map fun x:Str=>x.length+8).sum:=by have h1:(joinG [(44:UInt8),32] xs).length<=(xs.map fun x:Str=>x.length+2).sum:=jT [(44:UInt8),32] _;exact NG h1 sum8
theorem CT{k z q:Int}{g a:Str}{ns vs:List Str}{ss:List Shape}{ps:List Trm}(hf:aJ ⟨k,g,a,z,ns,vs,ss,ps,q⟩=true)(hn:ns.length<=4096)(hm:a.length<=4096) :
  (showT ⟨k,g,a,z,ns,vs,ss,ps,q⟩).length+8<=200000000+nJ ps:=by
 obtain⟨hz,hg,hss,hb⟩:=lA hf;unfold cY bg at hb;simp only at hb hss;rw[showT];unfold qn;have ty:=fun i=>nd hss i;have ty0:((ss.map showS).headD []).length<=32000:=by rw[aI];exact ty 0
 have hd:∀x:Str,∀xs:List Str,showTL ps=x::xs->nJ ps=x.length+8+(xs.map fun x:Str=>x.length+8).sum:=fun x xs e=>by unfold nJ;rw[e];simp
 by_cases e1:k=1
 ·rw[N6 e1]at hb⊢;simp only[N4,N8]at hb;have:=Au hb.1.1.2 hb.1.2;omega
 rw[N3 e1]at hb⊢;by_cases e2:k=2
 ·rw[N6 e2];have:=vP a;omega
 rw[N3 e2]at hb⊢;by_cases e3:k=3
 ·rw[N6 e3];simp;omega
 rw[N3 e3];by_cases e4:k=4
 ·rw[N6 e4];simp;omega
 rw[N3 e4];rw[N3 (by simp[e3,e4])]at hb;by_cases e5:k=5
 ·rw[N6 e5]at hb⊢;simp only[N4,NW,N8]at hb;split
  ·omega
  ·rename_i c;have:=jB (hb.1.2.resolve_left c);simp only[N5,N7,Na];omega
 rw[N3 e5]at hb⊢;have sl:(showTL ps).length=ps.length:=by rw[dO];simp
 have h0:((showTL ps).headD []).length<=nJ ps:=by rw[aI];exact Jf ps 0
 by_cases e7:k=7
 ·rw[N6 e7];have o:=Jg (fa ps) ((showTL ps).headD [])
  cases hx:showTL ps with|nil=>rw[hx]at o;simp[joinG]at o⊢;omega|cons x xs=>rw[hx]at o;have:=hd x xs hx;have:=vQ xs;simp only[N5,N7,Na,List.headD_cons,List.tail_cons]at o⊢;omega
 rw[N3 e7];by_cases e9:k=9
 ·rw[N6 e9];have o:=Jg (fa ps) ((showTL ps).headD []);simp only[N5,N7,Na];omega
 rw[N3 e9];by_cases e10:k=10
 ·rw[N6 e10];simp only[N5,N7,Na];omega
 rw[N3 e10];by_cases e14:k=14
 ·rw[N6 e14];rw[N3 (by rw[e14];decide),N3 e7,N3 (by rw[e14];decide),N3 (by rw[e14];decide),N3 (by rw[e14];decide),N3 (by rw[e14];decide),N3 (by rw[e14];decide),N6 e14]at hb;simp only[N4,N8]at hb;obtain⟨x,y,hx⟩:=J6 (x:=showTL ps) (by omega);have:=hd x [y] hx;rw[hx];simp at this⊢;omega
 rw[N3 e14];by_cases e16:k=16
 ·rw[N6 e16];simp only[N5,N7,Na];omega
 rw[N3 e16];by_cases e17:k=17
 ·rw[N6 e17];simp only[N5,N7,Na];omega
 rw[N3 e17];by_cases e6:k=6
 ·rw[N6 e6]at hb⊢;simp only[N4,N8,cK]at hb;have:=Jh (ns:=ns) hb.1.2.1 hss;simp only[N5,N7,Na];omega
 rw[N3 e6]at hb⊢;rw[N3 e7]at hb;by_cases e8:k=8
 ·rw[N6 e8]at hb⊢;simp only[N4,N8,cK]at hb;have:=Ji (ns:=ns) (ps:=ps) hb.1.2.1;simp only[N5,N7,Na];omega
 rw[N3 e8]at hb⊢;rw[N3 (by simp[e9,e10])]at hb;by_cases e11:k=11
 ·rw[N6 e11];have:(joinG [44,32] (showTL ps)).length<=nJ ps:=vQ (showTL ps);simp only[N5,N7,Na];omega
 rw[N3 e11]at hb⊢;by_cases e12:k=12
 ·rw[N6 e12]at hb⊢;simp only[N4,N8]at hb;obtain⟨x,y,z,hx⟩:=Ao (x:=showTL ps) (by omega);have:=hd x [y,z] hx;rw[hx];simp at this ty0⊢;omega
 rw[N3 e12]at hb⊢;by_cases e13:k=13
 ·rw[N6 e13]at hb⊢;simp only[N4,N8,cK]at hb;obtain⟨x,xs,hx⟩:=Oo (l:=showTL ps) (fun e=>by rw[e]at sl;simp at sl;omega);have:=hd x xs hx;have w:=Jj (ns:=ns) (vs:=vs) (ss:=ss) (xs:=xs) (x0:=x) hb.1.1.2.1 hb.1.2 hss;have:=ty ns.length;rw[hx];simp only[N5,N7,Na,List.headD_cons];omega
 rw[N3 e13];simp only[N5,N7,Na];omega
def nmT(x:Trm):Bool:=decide (x.names.length<=4096)&&decide (x.name.length<=4096)
mutual
theorem showT_len:∀t:Trm,allT aJ t=true->allT nmT t=true->(showT t).length+8<=200000000 *szT t
 |⟨k,g,a,z,ns,vs,ss,ps,q⟩,hf,hs=>by rw[dQ,N4]at hf hs;have h1:=showTL_len ps hf.2 hs.2;have h2:=hs.1;unfold nmT at h2;rw[N4,N8,N8]at h2;have h3:=CT hf.1 h2.1 h2.2;rw[szT];omega
theorem showTL_len:∀l:List Trm,allTL aJ l=true->allTL nmT l=true->nJ l<=200000000 *szTL l
 |[],_,_=>by unfold nJ;rw[showTL];simp
 |p::r,hf,hs=>by rw[allTL,N4]at hf hs;have h1:=showT_len p hf.1 hs.1;have h2:=showTL_len r hf.2 hs.2;unfold nJ at h2⊢;rw[showTL,szTL,Nj,Oz];omega
end
end Go.Pd
end
section
namespace Go.Pd
open Go.AL
def mJ(k:Int):Bool:=decide (k=6)||decide (k=8)||decide (k=11)||decide (k=12)||decide (k=13)||decide (k=15)
theorem KU{s:Shape}(h:bc s=true):s.names=[]∨s.names.length=s.parts.length:=by
 unfold bc dm at h;simp only at h
 repeat' split at h
 all_goals simp only[N4,N8,Ng,NC]at h
 all_goals first
  |exact .inl h.1.2
  |exact .inr h.2.1.1.2
  |exact .inr h.2.1.1
  |skip
theorem iK:∀(ns:List Str)(ps:List Shape),(showP ns ps).length=ps.length
 |_,[]=>by simp[showP]
 |[],p::r=>by rw[showP,N7,N7,iK [] r]
 |m::ns,p::r=>by rw[showP,N7,N7,iK ns r]
theorem uc:∀(ns:List Str)(ps:List Shape),(ns=[]∨ns.length=ps.length)->∀k,k<ps.length->
  (showP ns ps).getD k []=if ns=[]then showS (ps.getD k eF)else ns.getD k []++[58,32]++showS (ps.getD k eF)
 |_,[],_,k,hk=>absurd hk (OO _)
 |[],p::r,_,0,_=>by rw[showP,N6 rfl];rfl
 |[],p::r,_,k+1,hk=>by have:=uc [] r (.inl rfl) k (by simpa using hk);rw[N6 rfl]at this;rw[showP,N6 rfl,OL,this,OL]
 |m::ns,p::r,h,0,_=>by rw[showP,N3 (by simp)];rfl
 |m::ns,p::r,h,k+1,hk=>by
  have hl:ns.length=r.length:=by rcases h with h|h;cases h;simpa using h
  have hne:ns≠[]:=fun e=>by subst e;simp at hl;simp[<-hl]at hk
  have:=uc ns r (.inr hl) k (by simpa using hk);rw[N3 hne]at this;rw[showP,N3 (by simp),OL,this,OL,OL]
theorem CU{ns:List Str}{ps:List Shape}(h:ns=[]∨ns.length=ps.length){k:Nat}(hk:k<ps.length) :
  (showP ns ps).take (k+1)=(showP ns ps).take k++[if ns=[]then showS (ps.getD k eF)else ns.getD k []++[58,32]++showS (ps.getD k eF)]:=by
 rw[<-uc ns ps h k hk];exact(kx (showP ns ps) k [] (by rw[iK];exact hk))
theorem Ge{l:List Str}(h:l≠[]):l.getLastD []=l.getD (l.length-1) []:=by rw[Oq,Px,Nb]
theorem Gf{s:Shape}(h:bz s=0):sz s<=400/\allS bc s=true:=by
 unfold bz at h;by_cases c:400<sz s
 ·rw[N6 c]at h;exact absurd h (by decide)
 ·rw[N3 c]at h;refine⟨by omega,?_⟩
  repeat' split at h
  all_goals first
   |assumption
   |(exact absurd h (by decide))
theorem dk(t:Trm):showT t=qn t.kind t.pkg t.name t.n t.names t.vars (t.shapes.map showS) (showTL t.parts) (fa t.parts):=by cases t;rw[showT]
def OkT(n:Nat)(t:Trm):Prop:=szT t<=n/\szT t<=500000/\allT aJ t=true/\allT nmT t=true
theorem OkT.part{n:Nat}{t x:Trm}(h:OkT (n+1) t)(hx:x∈t.parts):OkT n x:=by obtain⟨h1,h2,h3,h4⟩:=h;have:=oV hx;have:=mi t;rw[dQ,N4,fh,Ng]at h3 h4;exact⟨by omega,by omega,h3.2 x hx,h4.2 x hx⟩
theorem OkT.len{n:Nat}{t:Trm}(h:OkT n t):(showT t).length<=100000000000000:=by obtain⟨h1,h2,h3,h4⟩:=h;have:=showT_len t h3 h4;omega
theorem OkT.fit{n:Nat}{t:Trm}(h:OkT n t):aJ t=true:=by have:=h.2.2.1;rw[dQ,N4]at this;exact this.1
theorem hU(l:List Trm):(showTL l).length=l.length:=by rw[dO,Oc]
theorem dX{α:Type}(n:Nat)(f:Nat->α):(ix n f).length=n:=by unfold ix;simp
theorem xI{α:Type}(f:Nat->α)(k:Nat):ix (k+1) f=ix k f++[f k]:=by unfold ix;rw[PB,Ox];rfl
theorem ud{x:Trm}:∀{l:List Trm},x∈l->szT x<=szTL l
 |p::r,h=>by
  rw[szTL];rcases Nw.1 h with rfl|h
  ·omega
  ·have:=ud h;omega
theorem vR(l:List Trm)(k:Nat)(hk:k<l.length):[(showTL l).getD k []]=[showT (l.getD k (dfl (.st .term)))]:=by rw[dO,Nb,NM,Nb,N9 hk];rfl
theorem KV{s:Shape}(h:bc s=true):∀m∈s.names,aG m=true:=by
 unfold bc dm at h;simp only at h;intro m hm
 repeat' split at h
 all_goals simp only[N4,N8,Ng,NC]at h
 all_goals first
  |exact h.2.1.2 m hm
  |(have e:=h.1.2;rw[e]at hm;cases hm)
theorem Gg{s:Shape}(h:bc s=true)(hk:s.kind=5∨s.kind=8):0<s.parts.length:=by
 unfold bc at h;simp only at h;rcases hk with k|k
 ·rw[k,N3 (by decide),N6 rfl]at h;simp only[N4,N8]at h;omega
 ·rw[k,N3 (by decide),N3 (by decide),N3 (by decide),N6 rfl]at h;simp only[N4,Np,Ns]at h
  cases hp:s.parts with|nil=>exact absurd hp h.2|cons x r=>simp
theorem Jk(n:Str):(n.flatMap dc).length<=2 *n.length:=by
 induction n with
 |nil=>simp
 |cons b r ih=>
  have h1:(dc b).length<=2:=by
   unfold dc
   repeat' split
   all_goals simp
  rw[O9,N5,N7];omega
abbrev pT(t:Trm)(i:Nat):Trm:=t.parts.getD i (dfl (.st .term))
theorem OkT.body{n:Nat}{t:Trm}(h:OkT n t):cY t=true:=(lA h.fit).2.2.2
theorem OkT.name{n:Nat}{t:Trm}(h:OkT n t):t.name.length<=4096:=by have:=h.2.2.2;rw[dQ,N4]at this;have:=this.1;unfold nmT at this;simp only[N4,N8]at this;exact this.2
theorem OkT.at{n:Nat}{t:Trm}(h:OkT (n+1) t){i:Nat}(hi:i<t.parts.length):OkT n (pT t i):=h.part (bT t.parts i (dfl (.st .term)) hi)
theorem ue:∀l:List Trm,l.length<=szTL l
 |[]=>Nt _
 |p::r=>by have:=ue r;have:=jL p;rw[szTL,N7];omega
theorem OkT.plen{n:Nat}{t:Trm}(h:OkT n t):t.parts.length<=500000:=by have h1:=ue t.parts;have h2:=mi t;have:=h.2.1;omega
theorem Jl{t:Trm}{i:Nat}(hi:i<t.parts.length):(showTL t.parts).getD i []=showT (pT t i):=by have:=vR t.parts i hi;simpa using this
theorem nf{t:Trm}(hi:0<t.parts.length):(showTL t.parts).headD []=showT (pT t 0):=by rw[aI,Jl hi]
theorem uf{t:Trm}(hi:0<t.parts.length):fa t.parts=cH (pT t 0).kind:=by
 unfold pT
 cases hp:t.parts with|nil=>rw[hp]at hi;exact absurd hi (by decide)|cons p r=>rfl
theorem MC{t:Trm}(h:t.kind=5):showT t=if t.pkg=[]then t.name else t.pkg++[47]++t.name:=by rw[dk,h];rfl
theorem MD{t:Trm}(hb:cY t=true)(h:t.kind=7):0<t.parts.length:=by unfold cY at hb;rw[h]at hb;simp[bg]at hb;omega
theorem ME{t:Trm}(h:t.kind=7)(h0:0<t.parts.length):showT t=opS (cH (pT t 0).kind) (showT (pT t 0))++[40]++joinG [44,32] (showTL (t.parts.drop 1))++[41]:=by
 rw[dk,h,<-nf h0,<-uf h0];have e:showTL (t.parts.drop 1)=(showTL t.parts).tail:=by cases t.parts<;>rfl
 rw[e];rfl
theorem DU{t:Trm}(hb:cY t=true)(h:t.kind=9∨t.kind=10∨t.kind=16∨t.kind=17):t.parts.length=1:=by unfold cY at hb;rcases h with h|h|h|h<;>rw[h]at hb<;>simp[bg]at hb<;>omega
theorem MF{t:Trm}(h:t.kind=9)(h0:0<t.parts.length):showT t=opS (cH (pT t 0).kind) (showT (pT t 0))++[46]++t.name:=by rw[dk,h,<-nf h0,<-uf h0];rfl
theorem M1{t:Trm}(h:t.kind=10)(h0:0<t.parts.length):showT t=[64]++t.name++[40]++showT (pT t 0)++[41]:=by rw[dk,h,<-nf h0];rfl
theorem M3{t:Trm}(hb:cY t=true)(h:t.kind=14):t.parts.length=2:=by unfold cY at hb;rw[h]at hb;simp[bg]at hb;omega
theorem M4{t:Trm}(h:t.kind=14)(h0:1<t.parts.length):showT t=[108,101,116,32]++t.name++[32,61,32]++showT (pT t 0)++[32,105,110,32]++showT (pT t 1):=by rw[dk,h,<-nf (by omega),<-Jl h0];rfl
theorem M5{t:Trm}(h:t.kind=16)(h0:0<t.parts.length):showT t=[110,101,119,32]++t.name++[40]++showT (pT t 0)++[41]:=by rw[dk,h,<-nf h0];rfl
theorem M6{t:Trm}(h:t.kind=17)(h0:0<t.parts.length):showT t=[114,97,119,32]++t.name++[40]++showT (pT t 0)++[41]:=by rw[dk,h,<-nf h0];rfl
theorem qT{t:Trm}{i:Nat}(hi:i<t.shapes.length):(t.shapes.map showS).getD i []=showS (t.shapes.getD i (dfl (.st .shape))):=by rw[Nb,NM,Nb,N9 hi];rfl
theorem OkT.ty{n:Nat}{t:Trm}(h:OkT n t){i:Nat}(hi:i<t.shapes.length):bz (t.shapes.getD i (dfl (.st .shape)))=0:=by have:=Ng.1 (lA h.fit).2.2.1 _ (bT t.shapes i (dfl (.st .shape)) hi);unfold aS at this;simp only[N4,N8]at this;exact this.1
theorem MG{t:Trm}(h:t.kind=6)(h0:0<t.parts.length):showT t=[102,117,110,32,40]++joinG [44,32] (ix t.names.length (mE t.names (t.shapes.map showS)))++[41,32,45,62,32]++(showTL t.parts).getD 0 []:=by rw[dk,h,<-aI];rfl
theorem MH{t:Trm}(h:t.kind=8):showT t=[123]++joinG [44,32] (ix t.names.length (mF t.names (showTL t.parts)))++[125]:=by rw[dk,h];rfl
theorem M7{t:Trm}(h:t.kind=11)(h0:0<t.shapes.length):showT t=[91]++joinG [44,32] (showTL t.parts)++[93,32,111,102,32]++showS (t.shapes.getD 0 (dfl (.st .shape))):=by rw[dk,h,<-qT h0,<-aI];rfl
theorem M8{t:Trm}(h:t.kind=12)(h0:0<t.shapes.length):showT t=[105,102,32]++(showTL t.parts).getD 0 []++[32,116,104,101,110,32]++(showTL t.parts).getD 1 []++[32,101,108,115,101,32]++(showTL t.parts).getD 2 []++[32,97,115,32]++showS (t.shapes.getD 0 (dfl (.st .shape))):=by rw[dk,h,<-qT h0,<-aI,<-aI];rfl
theorem M9{t:Trm}(h:t.kind=13)(h0:t.names.length<t.shapes.length):showT t=[99,97,115,101,32]++(showTL t.parts).getD 0 []++[32,111,102,32,123]++joinG [32,124,32] (ix t.names.length (oe t.names t.vars (t.shapes.map showS) (showTL t.parts)))++[125,32,97,115,32]++showS (t.shapes.getD t.names.length (dfl (.st .shape))):=by rw[dk,h,<-qT h0,<-aI];rfl
theorem Ma{t:Trm}(h:t.kind=15)(h0:0<t.shapes.length):showT t=[40]++(showTL t.parts).getD 0 []++[32,97,115,32]++showS (t.shapes.getD 0 (dfl (.st .shape)))++[41]:=by rw[dk,h,<-qT h0,<-aI,<-aI];rfl
theorem rA{t:Trm}{a b c d:Nat}(h:bg t a b c d=true):t.names.length=a/\t.vars.length=b/\t.shapes.length=c/\t.parts.length=d:=by unfold bg at h;simp only[N4,N8]at h;exact⟨h.1.1.1,h.1.1.2,h.1.2,h.2⟩
theorem CV{t:Trm}(hb:cY t=true)(e1:¬t.kind=1)(e2:¬t.kind=2)(e3:¬t.kind=3)(e4:¬t.kind=4)(e5:¬t.kind=5)(e7:¬t.kind=7)(e9:¬t.kind=9)(e10:¬t.kind=10)(e14:¬t.kind=14)(e16:¬t.kind=16)(e17:¬t.kind=17):mJ t.kind=true:=by
 by_cases h6:t.kind=6
 ·rw[h6];rfl
 by_cases h8:t.kind=8
 ·rw[h8];rfl
 by_cases h11:t.kind=11
 ·rw[h11];rfl
 by_cases h12:t.kind=12
 ·rw[h12];rfl
 by_cases h13:t.kind=13
 ·rw[h13];rfl
 by_cases h15:t.kind=15
 ·rw[h15];rfl
 unfold cY at hb;simp[e1,e2,e3,e4,e5,e7,e9,e10,e14,e16,e17,h6,h8,h11,h12,h13,h15]at hb
theorem ug{l:List Str}(h:cK l=true):l.all aG=true:=by unfold cK at h;rw[N4]at h;exact h.1
theorem MI{t:Trm}(hb:cY t=true)(h:t.kind=6):t.names.all aG=true/\t.shapes.length=t.names.length/\t.parts.length=1:=by unfold cY at hb;rw[h,N3 (by decide),N3 (by decide),N3 (by decide),N3 (by decide),N6 rfl]at hb;simp only[N4]at hb;obtain⟨_,_,r1,r2⟩:=rA hb.2;exact⟨ug hb.1.2,r1,r2⟩
theorem MJ{t:Trm}(hb:cY t=true)(h:t.kind=8):t.names.all aG=true/\t.parts.length=t.names.length:=by unfold cY at hb;rw[h,N3 (by decide),N3 (by decide),N3 (by decide),N3 (by decide),N3 (by decide),N3 (by decide),N6 rfl]at hb;simp only[N4]at hb;obtain⟨_,_,_,r2⟩:=rA hb.2;exact⟨ug hb.1.2,r2⟩
theorem Mb{t:Trm}(hb:cY t=true)(h:t.kind=11):t.shapes.length=1:=by unfold cY at hb;rw[h]at hb;simp[bg]at hb;omega
theorem Mc{t:Trm}(hb:cY t=true)(h:t.kind=12):t.shapes.length=1/\t.parts.length=3:=by unfold cY at hb;rw[h]at hb;simp[bg]at hb;omega
theorem Md{t:Trm}(hb:cY t=true)(h:t.kind=15):t.shapes.length=1/\t.parts.length=1:=by unfold cY at hb;rw[h]at hb;simp[bg]at hb;omega
theorem Me{t:Trm}(hb:cY t=true)(h:t.kind=13):t.names.all aG=true/\t.vars.all aG=true/\t.vars.length=t.names.length/\t.shapes.length=t.names.length+1/\t.parts.length=t.names.length+1:=by unfold cY at hb;rw[h,N3 (by decide),N3 (by decide),N3 (by decide),N3 (by decide),N3 (by decide),N3 (by decide),N3 (by decide),N3 (by decide),N3 (by decide),N3 (by decide),N6 rfl]at hb;simp only[N4]at hb;obtain⟨_,r1,r2,r3⟩:=rA hb.2;exact⟨ug hb.1.1.2,hb.1.2,r1,r2,r3⟩
theorem KW(a L:List Str)(k:Nat)(ha:a.length=k):(a++L.drop k).getD k []=L.getD k []:=by subst ha;rw[Nb,Nr (Nf _),Qk,O6,P5,Nb]
theorem KX(a L:List Str)(k:Nat)(v:Str)(ha:a.length=k)(hk:k<L.length):(a++L.drop k).set k v=(a++[v])++L.drop (k+1):=by subst ha;rw[List.set_append_right _ _ (Nf _),Qk,P0 hk,List.set_cons_zero,Nl];rfl
theorem OkT.names{n:Nat}{t:Trm}(h:OkT n t):t.names.length<=4096:=by have:=h.2.2.2;rw[dQ,N4]at this;have:=this.1;unfold nmT at this;simp only[N4,N8]at this;exact this.1
theorem OkT.tys{n:Nat}{t:Trm}(h:OkT n t)(i:Nat):((t.shapes.map showS).getD i []).length<=32000:=nd (lA h.fit).2.2.1 i
theorem OkT.pl{n:Nat}{t:Trm}(h:OkT (n+1) t){i:Nat}(hi:i<t.parts.length):((showTL t.parts).getD i []).length<=100000000000000:=by rw[Jl hi];exact(h.at hi).len
end Go.Pd
end
section
namespace Go.AL
open Go.Pd
variable [Tabs] {P:Program} {f:Nat}
def Jm(g h:Pat):Pat:=fun args S=>match g args S with|some A=>some A|none=>h args S
theorem Gh{g h:Pat}(hg:ae P f g)(hh:ae P f h):ae P f (Jm g h):=by
 intro args S A hA ho hk;unfold Jm at hA;split at hA
 ·rename_i e;cases hA;exact hg _ _ _ e ho hk
 ·exact hh _ _ _ hA ho hk
def pcS(F:Trm->List Trm->Ans):Pat
 |[a,.ptr 900 0],[(900,.box (.lst (.st .term) l none))]=>(match arg (.st .term) a with|some x=>some (F x l)|none=>none)
 |_,_=>none
theorem Mf{F:Trm->List Trm->Ans}(he:aw P f)(h:∀x l,(∀q,(F x l).ob=some q->q)->ax P f [.st .term x,.ptr 900 0] [(900,.box (.lst (.st .term) l none))] (F x l)):ae P f (pcS F):=by
 intro args S A hA ho _;unfold pcS at hA;split at hA
 ·split at hA
  ·rename_i hx;simp only[Xs]at hA;subst hA;exact⟨he,ax.args (.cons (Rd.arg hx) (.cons (Rd.refl _) .nil)) (h _ _ ho)⟩
  ·cases hA
 ·cases hA
def pkS(g:Nat)(F:Trm->List Trm->Ans):Pat
 |[a,.ptr 900 0],[(900,.box (.fn h [.ptr 901 0])),(901,.box (.lst (.st .term) l none))]=>(match Nat.beq h g,arg (.st .term) a with|true,some x=>some (F x l)|_,_=>none)
 |_,_=>none
theorem Mg{g:Nat}{F:Trm->List Trm->Ans}(he:aw P f)(h:∀x l,(∀q,(F x l).ob=some q->q)->ax P f [.st .term x,.ptr 900 0] [(900,.box (.fn g [.ptr 901 0])),(901,.box (.lst (.st .term) l none))] (F x l)):ae P f (pkS g F):=by
 intro args S A hA ho _;unfold pkS at hA;split at hA
 ·split at hA
  ·rename_i hc hx;simp only[Xs]at hA;subst hA;have e:=Nx hc;subst e;exact⟨he,ax.args (.cons (Rd.arg hx) (.cons (Rd.refl _) .nil)) (h _ _ ho)⟩
  ·cases hA
 ·cases hA
def pmS(m g:Nat)(F:List Trm->List Trm->Ans):Pat
 |[a,.fn k [.ptr 900 0]],[(900,.box (.fn h [.ptr 901 0])),(901,.box (.lst (.st .term) l none))]=>(match Nat.beq k m,Nat.beq h g,arg (.lst (.st .term)) a with|true,true,some x=>some (F x l)|_,_,_=>none)
 |_,_=>none
theorem Jn{m g:Nat}{F:List Trm->List Trm->Ans}(he:aw P f)(h:∀x l,Wf (.lst (.st .term)) x->(∀q,(F x l).ob=some q->q)->ax P f [.lst (.st .term) x none,.fn m [.ptr 900 0]] [(900,.box (.fn g [.ptr 901 0])),(901,.box (.lst (.st .term) l none))] (F x l)):ae P f (pmS m g F):=by
 intro args S A hA ho _;unfold pmS at hA;split at hA
 ·split at hA
  ·rename_i hb hc hx;simp only[Xs]at hA;subst hA;have e:=Nx hc;have e':=Nx hb;subst e e';exact⟨he,ax.args (.cons (Rd.arg hx) (.cons (Rd.refl _) .nil)) (ax.wf fun hw=>h _ _ (WfL.one (τ:=.lst (.st .term)) hw) ho)⟩
  ·cases hA
 ·cases hA
def pfS(g:Nat)(F:List Trm->List Trm->Ans):Pat
 |[a,.fn h [.ptr 900 0]],[(900,.box (.lst (.st .term) l none))]=>(match Nat.beq h g,arg (.lst (.st .term)) a with|true,some x=>some (F x l)|_,_=>none)
 |_,_=>none
theorem Mh{g:Nat}{F:List Trm->List Trm->Ans}(he:aw P f)(h:∀x l,(∀q,(F x l).ob=some q->q)->ax P f [.lst (.st .term) x none,.fn g [.ptr 900 0]] [(900,.box (.lst (.st .term) l none))] (F x l)):ae P f (pfS g F):=by
 intro args S A hA ho _;unfold pfS at hA;split at hA
 ·split at hA
  ·rename_i hc hx;simp only[Xs]at hA;subst hA;have e:=Nx hc;subst e;exact⟨he,ax.args (.cons (Rd.arg hx) (.cons (Rd.refl _) .nil)) (h _ _ ho)⟩
  ·cases hA
 ·cases hA
end Go.AL
namespace Go.Pd
open Go.AL
def fx(x:Trm):Bool:=decide (b6 x=0)
def eqH(l:List Trm)(x:Trm):Bool:=eqT x (l.getD 0 default) false
theorem uh{t u:Trm}(h1:b6 t=0)(h2:b6 u=0)(h3:bareT t=bareT u) :
  (∀x∈[t,u],bP x=true)/\[t,u].all fx=true/\[t,u].all (eqH [t,u])=true:=by
 refine⟨fun x hx=>?_,?_,?_⟩
 ·simp only[Nw,Ph,or_false]at hx;rcases hx with rfl|rfl
  ·exact(mA h1).2
  ·exact(mA h2).2
 ·simp[fx,h1,h2]
 ·have e1:eqH [t,u] t=true:=eqT_self t false;have e2:eqH [t,u] u=true:=eqT_bare u t h3.symm;simp[e1,e2]
end Go.Pd
end
section
namespace Go.Pd
open Go.AL
theorem MK{t:Trm}(hn:szT t<=4096)(h:aJ t=true)(hl:zb t=true):nmT t=true:=by
 have hb:=(lA h).2.2.2;have hp:t.parts.length<=4096:=by have h1:=ue t.parts;have:=mi t;omega
 unfold nmT;rw[N4,N8,N8];have nil:∀{l:Str},l=[]->l.length<=4096:=fun e=>by rw[e];exact Nt _
 have nm:∀{l:Str},aG l=true->l.length<=4096:=fun e=>NG (jB e) (by decide);have up:∀{l:Str},cW l=true->l.length<=4096:=fun e=>NG (qo e) (by decide)
 have sp:∀{c:Prop} [Decidable c] {a b:Bool} {X:Prop},(if c then a else b)=true->(c->a=true->X)->(¬c->b=true->X)->X:=fun{c} _ {a b X} h h1 h2=>by
  by_cases k:c
  ·rw[N6 k]at h;exact h1 k h
  ·rw[N3 k]at h;exact h2 k h
 have rm:∀{b:Bool} {n v s p:Nat},(b&&bg t n v s p)=true->b=true/\t.names.length=n/\t.parts.length=p:=fun h=>by rw[N4]at h;obtain⟨r,_,_,r'⟩:=rA h.2;exact⟨h.1,r,r'⟩
 unfold cY at hb
 refine sp hb (fun _ h=>?_) (fun _ hb=>sp hb (fun k h=>?_) (fun _ hb=>sp hb (fun _ h=>?_) (fun _ hb=>sp hb (fun _ h=>?_) (fun _ hb=>sp hb (fun _ h=>?_) (fun _ hb=>sp hb (fun _ h=>?_) (fun _ hb=>sp hb (fun _ h=>?_) (fun _ hb=>sp hb (fun _ h=>?_)
  (fun _ hb=>sp hb (fun _ h=>?_) (fun _ hb=>sp hb (fun _ h=>?_) (fun _ hb=>sp hb (fun _ h=>?_) (fun _ hb=>sp hb (fun _ h=>?_) (fun _ hb=>sp hb (fun _ h=>?_) (fun _ hb=>sp hb (fun _ h=>?_) (fun _ hb=>absurd hb (by decide)))))))))))))))
 case refine_2=>
  have r:=rm h;unfold zb at hl;rw[k]at hl;exact⟨by omega,by simpa using hl⟩
 all_goals
  have r:=rm h;have r1:=r.1
  try simp only[N4,NW,N8]at r1
  refine⟨by omega,?_⟩
  first
   |exact nil r1
   |exact nm r1
   |exact up r1
   |exact nil r1.1
   |exact nm r1.1
   |exact nil r1.1.1
theorem KY{s:Str}(h:(bm s).2.err=0):b6 (bm s).1=0/\bP (bm s).1=true/\OkT (szT (bm s).1) (bm s).1:=by
 obtain⟨h1,h2⟩:=nG h;refine⟨h1,(mA h1).2,Nf _,?_⟩;generalize (bm s).1=t at h1 h2;unfold b6 at h1;by_cases a:4096<(countT t 4096).1
 ·rw[N6 a]at h1;exact absurd h1 (by decide)
 have hz:szT t<=4096:=by rw[countT_size t 4096 (by omega)]at a;omega
 exact⟨by omega,(fitsQ_T t h2).1,pd 4096 t hz (fun x hx hf=>by unfold fo at hf;rw[N4]at hf;exact MK hx hf.1 hf.2) h2⟩
theorem Gi(s:Str)(h:(cX s).2.err=0):bz (cX s).1=0/\((showS (cX s).1).length<=4096->(cX (showS (cX s).1)).2.err=0/\(cX (showS (cX s).1)).1=(cX s).1):=by obtain⟨h1,h2⟩:=Jd h;exact⟨h1,fun l=>by rw[h2 l];exact⟨rfl,rfl⟩⟩
theorem Gj(s:Str)(h:(bm s).2.err=0):(b6 (bm s).1=0/\bP (bm s).1=true/\OkT (szT (bm s).1) (bm s).1)/\((showT (bm s).1).length<=4096->(bm (showT (bm s).1)).2.err=0/\bareT (bm s).1=bareT (bm (showT (bm s).1)).1/\b6 (bm (showT (bm s).1)).1=0):=by refine⟨KY h,fun l=>?_⟩;obtain⟨a,b,c⟩:=(Je h).2 l;exact⟨by rw[a],b.symm,c⟩
end Go.Pd
end
section
open Go Go.AL Go.Pd
namespace Go.AL.Seat
theorem Gk(n:Nat)(s:Shape)(hs:Wf (.st .shape) s)(ho:sz s<=n+1/\sz s<=400/\allS bc s=true) :
  let A:=showP s.names s.parts;let B:=(0:Int);let C:=lH UInt8=lH UInt8;let D:=s.parts=s.parts;let E:=(↑(List.length s.parts):Int);let F:=True;let G:=s=s/\F;let H:=dfl (Ty.st SN.shape);let I:=(↑(List.length s.names):Int);let J:=dfl Ty.str;let K:=([58,32]:Str);let L:=(9223372036854775807:Nat);let M:=(140737488355328:Nat);let N:=(1:Int);let O:=([91]:Str);let P:=Int.toNat B;let Q:=([44,32]:Str);let R:=([123]:Str);let S:=([32,124,32]:Str);let T:=([60]:Str);let U:=([40]:Str);let V:=([41,32,45,62,32]:Str);let W:=([47]:Str);(∃(x:Nat),x<=List.length s.parts/\List.take x A=[]/\B=(↑x:Int)/\s=s/\C/\D/\E=E/\List.length (List.take x A)=(0:Nat)/\G)/\∀(x:Nat),let X:=(↑x:Int);let Y:=Int.toNat X;let Z:=List.getD s.parts Y H;let a:=List.take x A;let b:=List.length a=List.length a;let c:=[List.getD s.names Y J++K++showS Z];let d:=inR IntKind.i64 (X+N);let e:=[showS Z];let f:=(↑(List.length a):Int);let g:=List.length a<=M;let h:=Int.toNat (f-N);let i:=List.drop P (List.take h a);x<=List.length s.parts->if decide (X<E)=true then(B<=X/\X<E)/\(sz Z<=n/\sz Z<=(400:Nat)/\allS bc Z=true)/\if decide (B<I)=true then(B<=X/\X<I)/\List.length (List.getD s.names Y J)+List.length K<=L/\List.length (List.getD s.names Y J++K)+List.length (showS Z)<=L/\(b/\(List.length a+List.length c)*(16:Nat)<=M)/\d/\∃(y:Nat),y<=List.length s.parts/\List.length s.parts-y<List.length s.parts-x/\List.take x A++c=List.take y A/\X+N=(↑y:Int)/\s=s/\C/\D/\E=E/\List.length (List.take x A++c)=List.length (List.take y A)/\G else(b/\(List.length a+List.length e)*(16:Nat)<=M)/\d/\∃(y:Nat),y<=List.length s.parts/\List.length s.parts-y<List.length s.parts-x/\List.take x A++e=List.take y A/\X+N=(↑y:Int)/\s=s/\C/\D/\E=E/\List.length (List.take x A++e)=List.length (List.take y A)/\G else if decide (s.kind=N)=true then F/\([73,110,116]:Str)=showS s/\F else if decide (s.kind=(2:Int))=true then F/\([66,111,111,108]:Str)=showS s/\F else if decide (s.kind=(3:Int))=true then F/\([84,101,120,116]:Str)=showS s/\F else if decide (s.kind=(4:Int))=true then F/\([65,110,121]:Str)=showS s/\F else if decide (s.kind=(5:Int))=true then(B<=B/\B<f)/\List.length O+List.length (List.getD a P J)<=L/\List.length (O++List.getD a P J)+List.length ([93]:Str)<=L/\F/\O++List.getD a P J++([93]:Str)=showS s/\F else if decide (s.kind=(6:Int))=true then(g/\List.length (joinG Q a)<=M)/\List.length R+List.length (joinG Q a)<=L/\List.length (R++joinG Q a)+List.length ([125]:Str)<=L/\F/\R++joinG Q a++([125]:Str)=showS s/\F else if decide (s.kind=(7:Int))=true then(g/\List.length (joinG S a)<=M)/\List.length T+List.length (joinG S a)<=L/\List.length (T++joinG S a)+List.length ([62]:Str)<=L/\F/\T++joinG S a++([62]:Str)=showS s/\F else if decide (s.kind=(8:Int))=true then inR IntKind.i64 (f-N)/\(B<=B/\B<=f-N/\f-N<=f)/\(List.length i<=M/\List.length (joinG Q i)<=M)/\List.length U+List.length (joinG Q i)<=L/\List.length (U++joinG Q i)+List.length V<=L/\(B<=f-N/\f-N<f)/\List.length (U++joinG Q i++V)+List.length (List.getD a h J)<=L/\F/\U++joinG Q i++V++List.getD a h J=showS s/\F else if(!decide (s.pkg=[]))=true then List.length s.pkg+List.length W<=L/\List.length (s.pkg++W)+List.length s.name<=L/\F/\s.pkg++W++s.name=showS s/\F else F/\s.name=showS s/\F:=by
 conv=>zeta
 obtain⟨o1,o2,o3⟩:=ho;have hlen:=nc 400 s o2 o3;have hz:=ky s;have hc:=oR s.parts;have o3':=o3;rw[fH,N4,eX,Ng]at o3';obtain⟨f1,f2⟩:=o3';have hnm:=KU f1;have hin:∀m∈s.names,aG m=true:=KV f1;have hpl:=iK s.names s.parts;simp only[Nu,OG,NZ,NX];refine⟨⟨0,Nt _,rfl,rfl,rfl⟩,?_⟩;intro k h1;apply a6<;>intro h
 ·replace h:=Xo h;have hk:k<s.parts.length:=by omega
  have hm:=bT s.parts k (dfl (.st .shape)) hk;have hs:=gi hm;have hl:=nc 400 (s.parts.getD k (dfl (.st .shape))) (by omega) (f2 _ hm);have hx:=CU hnm hk;refine⟨by omega,⟨by omega,by omega,f2 _ hm⟩,a6 (fun c=>?_) (fun c=>?_)⟩
  ·have hne:s.names≠[]:=fun e=>by rw[e]at c;simp at c
   have hln:s.names.length=s.parts.length:=hnm.resolve_left hne;rw[N3 hne]at hx;have hq:=jB (hin _ (bT s.names k (dfl .str) (by omega)));refine⟨by omega,by simp only[N7,Na];omega,by simp only[N5,N7,Na];omega,?_,aK (by omega) (by omega),k+1,by omega,by omega,hx.symm,by omega,by rw[hx];rfl⟩;rw[OP,Nc];omega
  ·have he:s.names=[]:=by have:¬0<s.names.length:=fun e=>c (Xd (by omega));exact OT.1 (by omega)
   rw[N6 he]at hx;refine⟨?_,aK (by omega) (by omega),k+1,by omega,by omega,hx.symm,by omega,by rw[hx];rfl⟩;rw[OP,Nc];omega
 ·have e:k=(showP s.names s.parts).length:=by have:¬((k:Int)<(s.parts.length:Int)):=fun e=>h (Xd e);omega
  rw[e,O4];have kind_at:∀c:Int,decide (s.kind=c)=true->s.kind=c:=fun c h=>Xo h;have hp:∀c:Int,(c=5∨c=8)->s.kind=c->0<s.parts.length:=fun c hc hk=>Gg f1 (by rw[hk];exact hc);rw[tu]at hlen⊢;unfold zl at hlen⊢;refine a6 (fun h=>?_) (fun h1=>a6 (fun h=>?_) (fun h2=>a6 (fun h=>?_) (fun h3=>a6 (fun h=>?_) (fun h4=>a6 (fun h=>?_) (fun h5=>a6 (fun h=>?_) (fun h6=>a6 (fun h=>?_) (fun h7=>a6 (fun h=>?_) (fun h8=>?_))))))))
  ·rw[Xo h];rfl
  ·rw[Xo h];rfl
  ·rw[Xo h];rfl
  ·rw[Xo h];rfl
  ·have hk:=Xo h;have h0:=hp 5 (.inl rfl) hk;rw[hk]at hlen⊢;simp only[show ¬(5:Int)=1 by decide,show ¬(5:Int)=2 by decide,show ¬(5:Int)=3 by decide,show ¬(5:Int)=4 by decide,ND,NS,Pn,P3]at hlen⊢;rw[aI]at hlen⊢;simp only[N5,N7,Na]at hlen⊢;have hd:dfl Ty.str=([]:Str):=rfl;rw[hd];exact⟨⟨by decide,by omega⟩,by show 0+1+((showP s.names s.parts).getD 0 []).length<=_;omega,by show 0+1+((showP s.names s.parts).getD 0 []).length+(0+1)<=_;omega,by first|trivial|rfl⟩
  ·have hk:=Xo h;rw[hk]at hlen⊢;simp only[show ¬(6:Int)=1 by decide,show ¬(6:Int)=2 by decide,show ¬(6:Int)=3 by decide,show ¬(6:Int)=4 by decide,show ¬(6:Int)=5 by decide,ND,NS,Pn,P3]at hlen⊢;simp only[N5,N7,Na]at hlen⊢;exact⟨⟨by omega,by omega⟩,by omega,by omega,by first|trivial|rfl⟩
  ·have hk:=Xo h;rw[hk]at hlen⊢;simp only[show ¬(7:Int)=1 by decide,show ¬(7:Int)=2 by decide,show ¬(7:Int)=3 by decide,show ¬(7:Int)=4 by decide,show ¬(7:Int)=5 by decide,show ¬(7:Int)=6 by decide,ND,NS,Pn,P3]at hlen⊢;simp only[N5,N7,Na]at hlen⊢;exact⟨⟨by omega,by omega⟩,by omega,by omega,by first|trivial|rfl⟩
  ·have hk:=Xo h;have h0:=hp 8 (.inr rfl) hk;rw[hk]at hlen⊢;have hne:showP s.names s.parts≠[]:=fun e=>by rw[e]at hpl;simp at hpl;omega
   have q:(((showP s.names s.parts).length:Int)-1).toNat=(showP s.names s.parts).length-1:=by omega
   have q0:(0:Int).toNat=0:=rfl;simp only[show ¬(8:Int)=1 by decide,show ¬(8:Int)=2 by decide,show ¬(8:Int)=3 by decide,show ¬(8:Int)=4 by decide,show ¬(8:Int)=5 by decide,show ¬(8:Int)=6 by decide,show ¬(8:Int)=7 by decide,ND,NS,Pn,P3]at hlen⊢;rw[Ge hne,List.dropLast_eq_take]at hlen⊢;rw[q,q0,List.drop_zero];have hd:dfl Ty.str=([]:Str):=rfl;rw[hd];simp only[N5,N7,Na]at hlen⊢;exact⟨aK (by omega) (by omega),⟨by decide,by omega,by omega⟩,⟨by rw[OP];omega,by omega⟩,by omega,by omega,⟨by omega,by omega⟩,by omega,by first|trivial|rfl⟩
  ·rw[N3 (fun e=>h1 (Xd e)),N3 (fun e=>h2 (Xd e)),N3 (fun e=>h3 (Xd e)),N3 (fun e=>h4 (Xd e)),N3 (fun e=>h5 (Xd e)),N3 (fun e=>h6 (Xd e)),N3 (fun e=>h7 (Xd e)),N3 (fun e=>h8 (Xd e))]at hlen⊢;apply a6<;>intro c
   ·have c:¬s.pkg=[]:=by simpa using c
    rw[N3 c]at hlen⊢;simp only[N5,N7,Na]at hlen⊢;exact⟨by omega,by omega,by first|trivial|rfl⟩
   ·have c:s.pkg=[]:=by simpa using c
    rw[N6 c]
theorem Jo(s:Shape)(ho:bz s=0) :
  let A:=(0:Int);let B:=sz s<=(400:Nat);if(!decide (bz s=A))=true then True/\[]=showS s/\bz s=A/\True else(B/\B/\allS bc s=true)/\True/\showS s=showS s/\A=A/\True:=by
 conv=>zeta
 obtain⟨h1,h2⟩:=Gf ho;rw[ho];exact a6 (fun k=>absurd k (by decide)) (fun _=>⟨⟨h1,h1,h2⟩,trivial,rfl,rfl,trivial⟩)
theorem Jp(s:Shape)(ho:bz s=0) :
  bz s=(0:Int)/\True/\showS s=showS s/\True:=by
 exact⟨ho,trivial,rfl,trivial⟩
theorem CW(s:Str)(hs:Wf .str s)(ho:s.length<=4096) :
  let A:=(0:Int);let B:=(34:Int);let C:=(256:Int);let D:=A<=B/\B<C;let E:=(1:Nat);let F:=(140737488355328:Nat);let G:=s=s;let H:=lH UInt8=lH UInt8;let I:=b9 s=b9 s;let J:=b9 s;let K:=(↑(List.length J):Int);let L:=K=K;let M:=[UInt8.ofNat (Int.toNat B)];let N:=([34]:Str);let O:=True;let P:=dfl (Ty.int IntKind.u8);let Q:=([92,110]:Str);let R:=(1:Int);let S:=([92,116]:Str);let T:=(92:Int);let U:=A<=T/\T<C;let V:=[UInt8.ofNat (Int.toNat T)];(D/\List.length ([]:Str)+E<=F)/\(∃(x:Nat),x<=List.length s/\A=(↑x:Int)/\G/\H/\I/\L/\[]++M=N++List.flatMap dc (List.take x s)/\O)/\∀(x:Nat),let W:=(↑x:Int);let X:=Int.toNat W;let Y:=List.take x s;let Z:=N++List.flatMap dc Y;let a:=inR IntKind.i64 (W+R);let b:=List.length Z+E<=F;let c:=A<=List.getD J X P/\List.getD J X P<C;let d:=[UInt8.ofNat (Int.toNat (List.getD J X P))];let e:=(U/\b)/\(c/\List.length (N++List.flatMap dc Y++V)+E<=F)/\a/\∃(y:Nat),y<=List.length s/\List.length s-y<List.length s-x/\W+R=(↑y:Int)/\G/\H/\I/\L/\N++List.flatMap dc Y++V++d=N++List.flatMap dc (List.take y s)/\O;x<=List.length s->if decide (W<K)=true then(A<=W/\W<K)/\if decide (List.getD J X P=(10:Int))=true then List.length Z+List.length Q<=F/\a/\∃(y:Nat),y<=List.length s/\List.length s-y<List.length s-x/\W+R=(↑y:Int)/\G/\H/\I/\L/\N++List.flatMap dc Y++Q=N++List.flatMap dc (List.take y s)/\O else if decide (List.getD J X P=(9:Int))=true then List.length Z+List.length S<=F/\a/\∃(y:Nat),y<=List.length s/\List.length s-y<List.length s-x/\W+R=(↑y:Int)/\G/\H/\I/\L/\N++List.flatMap dc Y++S=N++List.flatMap dc (List.take y s)/\O else if decide (List.getD J X P=B)=true then e else if decide (List.getD J X P=T)=true then e else(c/\b)/\a/\∃(y:Nat),y<=List.length s/\List.length s-y<List.length s-x/\W+R=(↑y:Int)/\G/\H/\I/\L/\N++List.flatMap dc Y++d=N++List.flatMap dc (List.take y s)/\O else(D/\b)/\List.length (N++List.flatMap dc Y++M)<=cm/\O/\N++List.flatMap dc Y++M=jw s/\O:=by
 conv=>zeta
 have hq:=vP s;have hb:(b9 s).length=s.length:=Oc ..
 have hcut:∀k,((s.take k).flatMap dc).length<=2 *s.length:=fun k=>by
  have h1:=Jk (s.take k);have h2:(s.take k).length<=s.length:=by rw[OP];omega
  omega
 simp only[Nu,OG,NZ,NX,hb];refine⟨⟨by decide,by decide⟩,⟨0,Nt _,rfl,rfl⟩,?_⟩;intro k h1;have hc:=hcut k;apply a6<;>intro h
 ·replace h:=Xo h;have hk:k<s.length:=by omega
  have hg:=qN s k hk;have hn:=Mo (s.getD k 0);have hx:(s.take (k+1)).flatMap dc=(s.take k).flatMap dc++dc (s.getD k 0):=by rw[kx s k 0 hk,Q4,List.flatMap_singleton]
  have hu:UInt8.ofNat (bI (s.getD k 0)).toNat=s.getD k 0:=by unfold bI;rw[Nu,UInt8.ofNat_toNat]
  simp only[hg,hx,hu];have hr:=aK (n:=(k:Int)+1) (by omega) (by omega)
  have nx:∀{t:Str},dc (s.getD k 0)=t->∃y,y<=s.length/\s.length-y<s.length-k/\(k:Int)+1=(y:Int)/\[(34:UInt8)]++(s.take k).flatMap dc++t=[(34:UInt8)]++(s.take y).flatMap dc:=fun e=>
   ⟨k+1,by omega,by omega,by omega,by rw[hx,e,Nl]⟩
  have nx2:∀{t u:Str},dc (s.getD k 0)=t++u->∃y,y<=s.length/\s.length-y<s.length-k/\(k:Int)+1=(y:Int)/\[(34:UInt8)]++(s.take k).flatMap dc++t++u=[(34:UInt8)]++(s.take y).flatMap dc:=fun e=>
   ⟨k+1,by omega,by omega,by omega,by rw[hx,e,Nl,Nl]⟩
  have is:∀j:Nat,j<256->decide (bI (s.getD k 0)=(j:Int))=true->s.getD k 0=UInt8.ofNat j:=fun j hj h=>Ak hj (Xo h);refine⟨by omega,a6 (fun c=>?_) (fun c1=>a6 (fun c=>?_) (fun c2=>a6 (fun c=>?_) (fun c3=>a6 (fun c=>?_) (fun c4=>?_))))⟩
  ·exact⟨by simp only[N5,N7,Na];omega,hr,nx (by rw[is 10 (by decide) c];rfl)⟩
  ·exact⟨by simp only[N5,N7,Na];omega,hr,nx (by rw[is 9 (by decide) c];rfl)⟩
  ·exact⟨⟨by decide,by simp only[N5,N7,Na];omega⟩,⟨⟨hn.1,by omega⟩,by simp only[N5,N7,Na];omega⟩,hr,nx2 (by rw[is 34 (by decide) c];rfl)⟩
  ·exact⟨⟨by decide,by simp only[N5,N7,Na];omega⟩,⟨⟨hn.1,by omega⟩,by simp only[N5,N7,Na];omega⟩,hr,nx2 (by rw[is 92 (by decide) c];rfl)⟩
  ·have ne:∀j:Nat,j<256->¬decide (bI (s.getD k 0)=(j:Int))=true->¬s.getD k 0=UInt8.ofNat j:=fun j hj h e=>h (by rw[e];unfold bI;rw[UInt8.toNat_ofNat_of_lt' (by show j<256;exact hj)];exact Xd rfl);refine⟨⟨⟨hn.1,by omega⟩,by simp only[N5,N7,Na];omega⟩,hr,nx ?_⟩;unfold dc;rw[N3 (show ¬s.getD k 0=10 from ne 10 (by decide) c1),N3 (show ¬s.getD k 0=9 from ne 9 (by decide) c2),N3 (show ¬(s.getD k 0=34∨s.getD k 0=92)from fun e=>e.elim (ne 34 (by decide) c3) (ne 92 (by decide) c4))]
 ·have e:k=s.length:=by have:¬((k:Int)<(s.length:Int)):=fun e=>h (Xd e);omega
  rw[e,O4]at hc⊢;refine⟨⟨by decide,by simp only[N5,N7,Na];omega⟩,?_,rfl⟩;unfold cm;simp only[N5,N7,Na];omega
theorem Av(n:Nat)(t:Trm)(ho:OkT n t) :
  let A:=([40]:Str);let B:=showT t;let C:=(9223372036854775807:Nat);let D:=cH t.kind;let E:=OkT n t/\List.length A+List.length B<=C/\List.length (A++showT t)+List.length ([41]:Str)<=C/\True/\A++showT t++([41]:Str)=opS D B/\True;if decide (t.kind=(1:Int))=true then E else if decide (t.kind=(6:Int))=true then E else if decide (t.kind=(11:Int))=true then E else if decide (t.kind=(12:Int))=true then E else if decide (t.kind=(13:Int))=true then E else if decide (t.kind=(14:Int))=true then E else OkT n t/\True/\showT t=opS D B/\True:=by
 conv=>zeta
 have hl:=ho.len;have yes:∀k:Int,decide (t.kind=k)=true->cH k=true->opS (cH t.kind) (showT t)=[(40:UInt8)]++showT t++[(41:UInt8)]:=fun k h hp=>by rw[Xo h,hp];rfl
 have b1:List.length [(40:UInt8)]+(showT t).length<=9223372036854775807:=by simp only[N7,Na];omega
 have b2:([(40:UInt8)]++showT t).length+List.length [(41:UInt8)]<=9223372036854775807:=by simp only[N5,N7,Na];omega
 refine a6 (fun h=>⟨ho,b1,b2,trivial,(yes 1 h rfl).symm,trivial⟩) (fun h1=>a6 (fun h=>⟨ho,b1,b2,trivial,(yes 6 h rfl).symm,trivial⟩) (fun h2=>a6 (fun h=>⟨ho,b1,b2,trivial,(yes 11 h rfl).symm,trivial⟩) (fun h3=>
  a6 (fun h=>⟨ho,b1,b2,trivial,(yes 12 h rfl).symm,trivial⟩) (fun h4=>a6 (fun h=>⟨ho,b1,b2,trivial,(yes 13 h rfl).symm,trivial⟩) (fun h5=>a6 (fun h=>⟨ho,b1,b2,trivial,(yes 14 h rfl).symm,trivial⟩) (fun h6=>⟨ho,trivial,?_,trivial⟩))))))
 have e:cH t.kind=false:=by unfold cH;rw[NO]at h1 h2 h3 h4 h5 h6;rw[h1,h2,h3,h4,h5,h6];rfl
 rw[e];rfl
theorem Gl(n:Nat)(l:List Trm)(hl:Wf (.lst (.st .term)) l)(ho:(∀x∈l,OkT (n) x)/\l.length<=500000) :
  let A:=showTL l;let B:=(↑(List.length l):Int);let C:=dfl (Ty.st SN.term);(∃(x:Nat),x<=List.length l/\List.take x A=[]/\(0:Int)=(↑x:Int)/\l=l/\l=l/\B=B/\List.length (List.take x A)=(0:Nat)/\True)/\∀(x:Nat),let D:=(↑x:Int);let E:=List.getD l (Int.toNat D) C;let F:=List.take x A;let G:=[showT E];x<=List.length l->if decide (D<B)=true then((0:Int)<=D/\D<B)/\OkT n E/\(List.length F=List.length F/\(List.length F+List.length G)*(16:Nat)<=(140737488355328:Nat))/\inR IntKind.i64 (D+(1:Int))/\∃(y:Nat),y<=List.length l/\List.length l-y<List.length l-x/\List.take x A++G=List.take y A/\D+(1:Int)=(↑y:Int)/\l=l/\l=l/\B=B/\List.length (List.take x A++G)=List.length (List.take y A)/\True else True/\List.take x A=showTL l/\List.length F=List.length A/\True:=by
 conv=>zeta
 obtain⟨ho,hn⟩:=ho;simp only[Nu,OG,NZ,NX];refine⟨⟨0,Nt _,rfl,rfl,rfl⟩,?_⟩;intro k h1;apply a6<;>intro h
 ·replace h:=Xo h;have hk:k<l.length:=by omega
  have hx:(showTL l).take k++[showT (l.getD k (dfl (.st .term)))]=(showTL l).take (k+1):=by rw[kx (showTL l) k [] (by rw[hU];exact hk),vR l k hk]
  refine⟨by omega,ho _ (bT l k (dfl (.st .term)) hk),?_,aK (by omega) (by omega),k+1,by omega,by omega,hx,by omega,by rw[hx]⟩;rw[OP,Nc];omega
 ·have e:k=l.length:=by have:¬((k:Int)<(l.length:Int)):=fun e=>h (Xd e);omega
  rw[e,<-hU l,O4];exact⟨rfl,rfl⟩
theorem Gm(n:Nat)(t:Trm)(ht:Wf (.st .term) t)(ho:OkT (n+1) t)(hk:mJ t.kind=true) :
  let A:=List.map showS t.shapes;let B:=mE t.names A;let C:=(0:Int);let D:=t=t;let E:=lH UInt8=lH UInt8;let F:=showTL t.parts;let G:=List.length F=List.length F;let H:=t.kind=t.kind;let I:=true=true;let J:=t.names=t.names;let K:=(↑(List.length t.names):Int);let L:=K=K;let M:=True;let N:=D/\showTL t.parts=showTL t.parts/\M;let O:=dfl Ty.str;let P:=32;let Q:=([58,P]:Str);let R:=(9223372036854775807:Nat);let S:=(↑(List.length t.shapes):Int);let T:=dfl (Ty.st SN.shape);let U:=(140737488355328:Nat);let V:=(1:Int);let W:=([44,P]:Str);let X:=([102,117,110,P,40]:Str);let Y:=([41,P,45,62,P]:Str);let Z:=(↑(List.length F):Int);let a:=C<=C/\C<Z;let b:=Int.toNat C<List.length F;let c:=Int.toNat C;let d:=List.getD F c O;let e:=false=false;let f:=mF t.names F;let g:=([P,61,P]:Str);let h:=([123]:Str);let i:=([91]:Str);let j:=([93,P,111,102,P]:Str);let k:=C<=C/\C<S;let l:=List.getD t.shapes c T;let m:=bz l=C;let o:=showS l;let p:=([105,102,P]:Str);let q:=([P,116,104,101,110,P]:Str);let r:=Int.toNat V;let s:=([P,101,108,115,101,P]:Str);let u:=(2:Int);let v:=Int.toNat u;let w:=([P,97,115,P]:Str);let z:=oe t.names t.vars A F;let A0:=([40]:Str);let A1:=([99,97,115,101,P]:Str);let A2:=([P,111,102,P,123]:Str);let A3:=([P,124,P]:Str);let A4:=([125,P,97,115,P]:Str);let A5:=List.getD t.shapes (Int.toNat K) T;((∀(x:Trm),x∈t.parts->OkT n x)/\List.length t.parts<=(500000:Nat))/\if decide (t.kind=(6:Int))=true then(∃(x:Nat),x<=List.length t.names/\ix x B=[]/\C=(↑x:Int)/\D/\E/\G/\H/\I/\J/\L/\List.length (ix x B)=(0:Nat)/\N)/\∀(x:Nat),let A6:=(↑x:Int);let A7:=Int.toNat A6;let A8:=List.getD t.shapes A7 T;let A9:=ix x B;let B0:=[List.getD t.names A7 O++Q++showS A8];x<=List.length t.names->if decide (A6<K)=true then(C<=A6/\A6<K)/\List.length (List.getD t.names A7 O)+List.length Q<=R/\(C<=A6/\A6<S)/\bz A8=C/\List.length (List.getD t.names A7 O++Q)+List.length (showS A8)<=R/\(List.length A9=List.length A9/\(List.length A9+List.length B0)*(16:Nat)<=U)/\inR IntKind.i64 (A6+V)/\∃(y:Nat),y<=List.length t.names/\List.length t.names-y<List.length t.names-x/\ix x B++B0=ix y B/\A6+V=(↑y:Int)/\D/\E/\G/\H/\I/\J/\L/\List.length (ix x B++B0)=List.length (ix y B)/\N else(List.length A9<=U/\List.length (joinG W A9)<=U)/\List.length X+List.length (joinG W A9)<=R/\List.length (X++joinG W A9)+List.length Y<=R/\a/\b/\List.length (X++joinG W A9++Y)+List.length d<=R/\M/\X++joinG W A9++Y++List.getD F c O=showT t/\M else if decide (t.kind=(8:Int))=true then(∃(x:Nat),x<=List.length t.names/\C=(↑x:Int)/\D/\E/\G/\H/\e/\I/\J/\L/\showTL t.parts=ix x f++List.drop x F/\D/\M)/\∀(x:Nat),let A6:=(↑x:Int);let A7:=Int.toNat A6;let A8:=C<=A6/\A6<Z;let A9:=ix x f++List.drop x F;let B0:=Int.toNat A6<List.length A9;x<=List.length t.names->if decide (A6<K)=true then(C<=A6/\A6<K)/\List.length (List.getD t.names A7 O)+List.length g<=R/\A8/\B0/\List.length (List.getD t.names A7 O++g)+List.length (List.getD A9 A7 O)<=R/\A8/\B0/\inR IntKind.i64 (A6+V)/\∃(y:Nat),y<=List.length t.names/\List.length t.names-y<List.length t.names-x/\A6+V=(↑y:Int)/\D/\E/\G/\H/\e/\I/\J/\L/\List.set A9 A7 (List.getD t.names A7 O++g++List.getD A9 A7 O)=ix y f++List.drop y F/\D/\M else(List.length F=List.length A9/\List.length A9<=U/\List.length (joinG W A9)<=U)/\List.length h+List.length (joinG W A9)<=R/\List.length (h++joinG W A9)+List.length ([125]:Str)<=R/\M/\h++joinG W A9++([125]:Str)=showT t/\M else if decide (t.kind=(11:Int))=true then(G/\List.length F<=U/\List.length (joinG W F)<=U)/\List.length i+List.length (joinG W F)<=R/\List.length (i++joinG W F)+List.length j<=R/\k/\m/\List.length (i++joinG W F++j)+List.length o<=R/\M/\i++joinG W F++j++showS l=showT t/\M else if decide (t.kind=(12:Int))=true then a/\b/\List.length p+List.length d<=R/\List.length (p++List.getD F c O)+List.length q<=R/\(C<=V/\V<Z)/\Int.toNat V<List.length F/\List.length (p++List.getD F c O++q)+List.length (List.getD F r O)<=R/\List.length (p++List.getD F c O++q++List.getD F r O)+List.length s<=R/\(C<=u/\u<Z)/\Int.toNat u<List.length F/\List.length (p++List.getD F c O++q++List.getD F r O++s)+List.length (List.getD F v O)<=R/\List.length (p++List.getD F c O++q++List.getD F r O++s++List.getD F v O)+List.length w<=R/\k/\m/\List.length (p++List.getD F c O++q++List.getD F r O++s++List.getD F v O++w)+List.length o<=R/\M/\p++List.getD F c O++q++List.getD F r O++s++List.getD F v O++w++showS l=showT t/\M else if decide (t.kind=(13:Int))=true then(∃(x:Nat),x<=List.length t.names/\ix x z=[]/\C=(↑x:Int)/\D/\E/\G/\H/\e/\e/\e/\e/\I/\J/\L/\List.length (ix x z)=(0:Nat)/\N)/\∀(x:Nat),let A6:=(↑x:Int);let A7:=Int.toNat A6;let A8:=List.getD t.shapes A7 T;let A9:=inR IntKind.i64 (A6+V);let B0:=Int.toNat (A6+V);let B1:=ix x z;let B2:=[List.getD t.names A7 O++A0++List.getD t.vars A7 O++Q++showS A8++Y++List.getD F B0 O];x<=List.length t.names->if decide (A6<K)=true then(C<=A6/\A6<K)/\List.length (List.getD t.names A7 O)+List.length A0<=R/\(C<=A6/\A6<(↑(List.length t.vars):Int))/\List.length (List.getD t.names A7 O++A0)+List.length (List.getD t.vars A7 O)<=R/\List.length (List.getD t.names A7 O++A0++List.getD t.vars A7 O)+List.length Q<=R/\(C<=A6/\A6<S)/\bz A8=C/\List.length (List.getD t.names A7 O++A0++List.getD t.vars A7 O++Q)+List.length (showS A8)<=R/\List.length (List.getD t.names A7 O++A0++List.getD t.vars A7 O++Q++showS A8)+List.length Y<=R/\A9/\(C<=A6+V/\A6+V<Z)/\Int.toNat (A6+V)<List.length F/\List.length (List.getD t.names A7 O++A0++List.getD t.vars A7 O++Q++showS A8++Y)+List.length (List.getD F B0 O)<=R/\(List.length B1=List.length B1/\(List.length B1+List.length B2)*(16:Nat)<=U)/\A9/\∃(y:Nat),y<=List.length t.names/\List.length t.names-y<List.length t.names-x/\ix x z++B2=ix y z/\A6+V=(↑y:Int)/\D/\E/\G/\H/\e/\e/\e/\e/\I/\J/\L/\List.length (ix x z++B2)=List.length (ix y z)/\N else a/\b/\List.length A1+List.length d<=R/\List.length (A1++List.getD F c O)+List.length A2<=R/\(List.length B1<=U/\List.length (joinG A3 B1)<=U)/\List.length (A1++List.getD F c O++A2)+List.length (joinG A3 B1)<=R/\List.length (A1++List.getD F c O++A2++joinG A3 B1)+List.length A4<=R/\(C<=K/\K<S)/\bz A5=C/\List.length (A1++List.getD F c O++A2++joinG A3 B1++A4)+List.length (showS A5)<=R/\M/\
  A1++List.getD F c O++A2++joinG A3 B1++A4++showS A5=showT t/\M else a/\b/\List.length A0+List.length d<=R/\List.length (A0++List.getD F c O)+List.length w<=R/\k/\m/\List.length (A0++List.getD F c O++w)+List.length o<=R/\List.length (A0++List.getD F c O++w++showS l)+List.length ([41]:Str)<=R/\M/\A0++List.getD F c O++w++showS l++([41]:Str)=showT t/\M:=by
 conv=>zeta
 have hl:=ho.len;have hb:=ho.body;have hp:=ho.plen;have hnn:=ho.names;have hpl:=hU t.parts;have hty:=ho.tys;have t0:(0:Int).toNat=0:=rfl;have t1:(1:Int).toNat=1:=rfl;have t2:(2:Int).toNat=2:=rfl;have tz:dfl Ty.str=([]:Str):=rfl;simp only[t0,t1,t2,tz,Nu,OG,NZ,NX];refine⟨⟨fun x hx=>ho.part hx,hp⟩,a6 (fun h=>?_) (fun h6=>a6 (fun h=>?_) (fun h8=>a6 (fun h=>?_) (fun h11=>a6 (fun h=>?_) (fun h12=>a6 (fun h=>?_) (fun h13=>?_)))))⟩
 ·have h:=Xo h;obtain⟨r1,r2,r3⟩:=MI hb h;refine⟨⟨0,Nt _,rfl,rfl,rfl⟩,?_⟩;intro k k1;apply a6<;>intro c
  ·replace c:=Xo c;have hk:k<t.names.length:=by omega
   have hks:k<t.shapes.length:=by omega
   have hn:=ei r1 k;have hs:=hty k;have hx:ix k (mE t.names (t.shapes.map showS))++[t.names.getD k []++[(58:UInt8),32]++showS (t.shapes.getD k (dfl (.st .shape)))]=ix (k+1) (mE t.names (t.shapes.map showS)):=by rw[xI];unfold mE;rw[qT hks]
   rw[qT hks]at hs;refine⟨⟨by omega,by omega⟩,by simp only[N7,Na];omega,⟨by omega,by omega⟩,ho.ty hks,by simp only[N5,N7,Na];omega,?_,aK (by omega) (by omega),k+1,by omega,by omega,hx,by omega,by rw[hx]⟩;rw[dX,Nc];omega
  ·have e:k=t.names.length:=by have:¬((k:Int)<(t.names.length:Int)):=fun e=>c (Xd e);omega
   rw[e];rw[MG h (by omega)]at hl⊢;simp only[N5,N7,Na,dX,hpl]at hl⊢;exact⟨⟨by omega,by omega⟩,by omega,by omega,⟨by decide,by omega⟩,by omega,by omega,by first|trivial|rfl⟩
 ·have h:=Xo h;obtain⟨r1,r2⟩:=MJ hb h;refine⟨⟨0,Nt _,rfl,rfl⟩,?_⟩;intro k k1;have hrl:(ix k (mF t.names (showTL t.parts))++(showTL t.parts).drop k).length=t.names.length:=by rw[N5,dX,NU,hpl];omega
  apply a6<;>intro c
  ·replace c:=Xo c;have hk:k<t.names.length:=by omega
   have hn:=ei r1 k;have hq:=ho.pl (i:=k) (by omega);have hg:=KW (ix k (mF t.names (showTL t.parts))) (showTL t.parts) k (dX _ _);have hx:(ix k (mF t.names (showTL t.parts))++(showTL t.parts).drop k).set k (t.names.getD k []++[(32:UInt8),61,32]++(showTL t.parts).getD k [])=ix (k+1) (mF t.names (showTL t.parts))++(showTL t.parts).drop (k+1):=by rw[KX _ _ k _ (dX _ _) (by omega),xI];rfl
   simp only[hg,hrl,hpl,hx];exact⟨⟨by omega,by omega⟩,by simp only[N7,Na];omega,⟨by omega,by omega⟩,by omega,by simp only[N5,N7,Na];omega,⟨by omega,by omega⟩,by omega,aK (by omega) (by omega),k+1,by omega,by omega,by omega,rfl⟩
  ·have e:k=t.names.length:=by have:¬((k:Int)<(t.names.length:Int)):=fun e=>c (Xd e);omega
   have hdr:(showTL t.parts).drop t.names.length=[]:=OI (by omega);rw[e,hdr,OD];rw[MH h]at hl⊢;simp only[N5,N7,Na,dX,hpl]at hl⊢;exact⟨⟨by omega,by omega,by omega⟩,by omega,by omega,by first|trivial|rfl⟩
 ·have h:=Xo h;have r:=Mb hb h;rw[M7 h (by omega)]at hl⊢;simp only[N5,N7,Na,dX,hpl]at hl⊢;exact⟨⟨by omega,by omega⟩,by omega,by omega,⟨by decide,by omega⟩,ho.ty (by omega),by omega,by first|trivial|rfl⟩
 ·have h:=Xo h;obtain⟨r1,r2⟩:=Mc hb h;rw[M8 h (by omega)]at hl⊢;simp only[N5,N7,Na,dX,hpl]at hl⊢;exact⟨⟨by decide,by omega⟩,by omega,by omega,by omega,⟨by decide,by omega⟩,by omega,by omega,by omega,⟨by decide,by omega⟩,by omega,by omega,by omega,⟨by decide,by omega⟩,ho.ty (by omega),by omega,by first|trivial|rfl⟩
 ·have h:=Xo h;obtain⟨r1,r2,r3,r4,r5⟩:=Me hb h;refine⟨⟨0,Nt _,rfl,rfl,rfl⟩,?_⟩;intro k k1;have t3:((k:Int)+1).toNat=k+1:=by omega
  simp only[t3];apply a6<;>intro c
  ·replace c:=Xo c;have hk:k<t.names.length:=by omega
   have hks:k<t.shapes.length:=by omega
   have hn:=ei r1 k;have hv:=ei r2 k;have hs:=hty k;have hq:=ho.pl (i:=k+1) (by omega);have hx:ix k (oe t.names t.vars (t.shapes.map showS) (showTL t.parts))++[t.names.getD k []++[(40:UInt8)]++t.vars.getD k []++[(58:UInt8),32]++showS (t.shapes.getD k (dfl (.st .shape)))++[(41:UInt8),32,45,62,32]++(showTL t.parts).getD (k+1) []]=ix (k+1) (oe t.names t.vars (t.shapes.map showS) (showTL t.parts)):=by rw[xI];unfold oe;rw[qT hks]
   rw[qT hks]at hs;simp only[hx];refine⟨⟨by omega,by omega⟩,by simp only[N7,Na];omega,⟨by omega,by omega⟩,by simp only[N5,N7,Na];omega,by simp only[N5,N7,Na];omega,⟨by omega,by omega⟩,ho.ty hks,by simp only[N5,N7,Na];omega,by simp only[N5,N7,Na];omega,aK (by omega) (by omega),⟨by omega,by omega⟩,by omega,by simp only[N5,N7,Na];omega,?_,aK (by omega) (by omega),k+1,by omega,by omega,rfl,by omega,rfl⟩;rw[dX,Nc];omega
  ·have e:k=t.names.length:=by have:¬((k:Int)<(t.names.length:Int)):=fun e=>c (Xd e);omega
   rw[e];rw[M9 h (by omega)]at hl⊢;simp only[N5,N7,Na,dX,hpl]at hl⊢;exact⟨⟨by decide,by omega⟩,by omega,by omega,by omega,⟨by omega,by omega⟩,by omega,by omega,⟨by omega,by omega⟩,ho.ty (by omega),by omega,by first|trivial|rfl⟩
 ·have h:t.kind=15:=by unfold mJ at hk;rw[NO]at h6 h8 h11 h12 h13;rw[h6,h8,h11,h12,h13]at hk;simpa using hk
  obtain⟨r1,r2⟩:=Md hb h;rw[Ma h (by omega)]at hl⊢;simp only[N5,N7,Na,dX,hpl]at hl⊢;exact⟨⟨by decide,by omega⟩,by omega,by omega,by omega,⟨by decide,by omega⟩,ho.ty (by omega),by omega,by omega,by first|trivial|rfl⟩
theorem CX(n:Nat)(t:Trm)(ht:Wf (.st .term) t)(ho:OkT (n+1) t) :
  let A:=(1:Int);let B:=True;let C:=([47]:Str);let D:=(9223372036854775807:Nat);let E:=(0:Int);let F:=(↑(List.length t.parts):Int);let G:=E<=E/\E<F;let H:=dfl (Ty.st SN.term);let I:=List.getD t.parts (Int.toNat E) H;let J:=OkT n I;let K:=cH I.kind;let L:=showT I;let M:=([40]:Str);let N:=Int.toNat A;let O:=List.take (Int.toNat F) t.parts;let P:=List.drop N O;let Q:=showTL P;let R:=(140737488355328:Nat);let S:=([44,32]:Str);let T:=([41]:Str);let U:=([46]:Str);let V:=([64]:Str);let W:=([108,101,116,32]:Str);let X:=([32,61,32]:Str);let Y:=([32,105,110,32]:Str);let Z:=List.getD t.parts N H;let a:=([110,101,119,32]:Str);let b:=([114,97,119,32]:Str);if decide (t.kind=A)=true then List.length (Lib.itoa t.n)<=(1000:Nat)/\B/\Lib.itoa t.n=showT t/\B else if decide (t.kind=(2:Int))=true then List.length t.name<=(4096:Nat)/\B/\jw t.name=showT t/\B else if decide (t.kind=(3:Int))=true then B/\([116,114,117,101]:Str)=showT t/\B else if decide (t.kind=(4:Int))=true then B/\([102,97,108,115,101]:Str)=showT t/\B else if decide (t.kind=(5:Int))=true then if(!decide (t.pkg=[]))=true then List.length t.pkg+List.length C<=D/\List.length (t.pkg++C)+List.length t.name<=D/\B/\t.pkg++C++t.name=showT t/\B else B/\t.name=showT t/\B else if decide (t.kind=(7:Int))=true then G/\J/\List.length (opS K L)+List.length M<=D/\(E<=A/\A<=F/\F<=F)/\((∀(x:Trm),x∈List.drop N O->OkT n x)/\List.length P<=(500000:Nat))/\(List.length Q<=R/\List.length (joinG S Q)<=R)/\List.length (opS K L++M)+List.length (joinG S Q)<=D/\List.length (opS K L++M++joinG S Q)+List.length T<=D/\B/\opS K L++M++joinG S Q++T=showT t/\B else if decide (t.kind=(9:Int))=true then G/\J/\List.length (opS K L)+List.length U<=D/\List.length (opS K L++U)+List.length t.name<=D/\B/\opS K L++U++t.name=showT t/\B else if decide (t.kind=(10:Int))=true then List.length V+List.length t.name<=D/\List.length (V++t.name)+List.length M<=D/\G/\J/\List.length (V++t.name++M)+List.length L<=D/\List.length (V++t.name++M++showT I)+List.length T<=D/\B/\V++t.name++M++showT I++T=showT t/\B else if decide (t.kind=(14:Int))=true then List.length W+List.length t.name<=D/\List.length (W++t.name)+List.length X<=D/\G/\J/\List.length (W++t.name++X)+List.length L<=D/\List.length (W++t.name++X++showT I)+List.length Y<=D/\(E<=A/\A<F)/\OkT n Z/\List.length (W++t.name++X++showT I++Y)+List.length (showT Z)<=D/\B/\W++t.name++X++showT I++Y++showT Z=showT t/\B else if decide (t.kind=(16:Int))=true then List.length a+List.length t.name<=D/\List.length (a++t.name)+List.length M<=D/\G/\J/\List.length (a++t.name++M)+List.length L<=D/\List.length (a++t.name++M++showT I)+List.length T<=D/\B/\a++t.name++M++showT I++T=showT t/\B else if decide (t.kind=(17:Int))=true then List.length b+List.length t.name<=D/\List.length (b++t.name)+List.length M<=D/\G/\J/\List.length (b++t.name++M)+List.length L<=D/\List.length (b++t.name++M++showT I)+List.length T<=D/\B/\b++t.name++M++showT I++T=showT t/\B else(OkT (n+(1:Nat)) t/\mJ t.kind=true)/\B/\showT t=showT t/\B:=by
 conv=>zeta
 have hl:=ho.len;have hb:=ho.body;have hnm:=ho.name;have t0:(0:Int).toNat=0:=rfl;have t1:(1:Int).toNat=1:=rfl;simp only[t0,t1,Nu,O4,OG,NZ,NX];refine a6 (fun h=>?_) (fun h1=>a6 (fun h=>?_) (fun h2=>a6 (fun h=>?_) (fun h3=>a6 (fun h=>?_) (fun h4=>a6 (fun h=>?_) (fun h5=>a6 (fun h=>?_) (fun h7=>a6 (fun h=>?_) (fun h9=>a6 (fun h=>?_) (fun h10=>a6 (fun h=>?_) (fun h14=>a6 (fun h=>?_) (fun h16=>a6 (fun h=>?_) (fun h17=>?_)))))))))))
 ·have h:=Xo h;refine⟨?_,?_⟩
  ·unfold cY at hb;rw[N6 h]at hb;simp only[N4,N8]at hb;exact NG (Au hb.1.1.2 hb.1.2) (by decide)
  ·rw[dk,h];rfl
 ·have h:=Xo h;exact⟨hnm,by rw[dk,h];rfl⟩
 ·rw[dk,Xo h];rfl
 ·rw[dk,Xo h];rfl
 ·have e:=MC (Xo h);rw[e]at hl⊢;apply a6<;>intro c
  ·have c:¬t.pkg=[]:=by simpa using c
   rw[N3 c]at hl⊢;simp only[N5,N7,Na]at hl⊢;exact⟨by omega,by omega,by first|trivial|rfl⟩
  ·have c:t.pkg=[]:=by simpa using c
   rw[N6 c]
 ·have h:=Xo h;have r:=MD hb h;have e:=ME h r;have hp:=ho.plen;unfold pT at e;rw[e]at hl⊢;have hd:(showTL (t.parts.drop 1)).length<=500000:=by rw[hU,NU];omega
  have hd2:(t.parts.drop 1).length<=500000:=by rw[NU];omega
  simp only[N5,N7,Na]at hl⊢;exact⟨⟨by decide,by omega⟩,ho.at r,by omega,⟨by decide,by omega,OE _⟩,⟨fun x hx=>ho.part (List.mem_of_mem_drop hx),hd2⟩,⟨by omega,by omega⟩,by omega,by omega,by first|trivial|rfl⟩
 ·have h:=Xo h;have r:=DU hb (.inl h);have e:=MF h (by omega);unfold pT at e;rw[e]at hl⊢;simp only[N5,N7,Na]at hl⊢;exact⟨⟨by decide,by omega⟩,ho.at (by omega),by omega,by omega,by first|trivial|rfl⟩
 ·have h:=Xo h;have r:=DU hb (.inr (.inl h));have e:=M1 h (by omega);unfold pT at e;rw[e]at hl⊢;simp only[N5,N7,Na]at hl⊢;exact⟨by omega,by omega,⟨by decide,by omega⟩,ho.at (by omega),by omega,by omega,by first|trivial|rfl⟩
 ·have h:=Xo h;have r:=M3 hb h;have e:=M4 h (by omega);unfold pT at e;rw[e]at hl⊢;simp only[N5,N7,Na]at hl⊢;exact⟨by omega,by omega,⟨by decide,by omega⟩,ho.at (by omega),by omega,by omega,⟨by decide,by omega⟩,ho.at (by omega),by omega,by first|trivial|rfl⟩
 ·have h:=Xo h;have r:=DU hb (.inr (.inr (.inl h)));have e:=M5 h (by omega);unfold pT at e;rw[e]at hl⊢;simp only[N5,N7,Na]at hl⊢;exact⟨by omega,by omega,⟨by decide,by omega⟩,ho.at (by omega),by omega,by omega,by first|trivial|rfl⟩
 ·have h:=Xo h;have r:=DU hb (.inr (.inr (.inr h)));have e:=M6 h (by omega);unfold pT at e;rw[e]at hl⊢;simp only[N5,N7,Na]at hl⊢;exact⟨by omega,by omega,⟨by decide,by omega⟩,ho.at (by omega),by omega,by omega,by first|trivial|rfl⟩
 ·refine⟨ho,?_⟩;exact CV hb (fun e=>h1 (Xd e)) (fun e=>h2 (Xd e)) (fun e=>h3 (Xd e)) (fun e=>h4 (Xd e)) (fun e=>h5 (Xd e)) (fun e=>h7 (Xd e)) (fun e=>h9 (Xd e)) (fun e=>h10 (Xd e)) (fun e=>h14 (Xd e)) (fun e=>h16 (Xd e)) (fun e=>h17 (Xd e))
theorem Gn(t:Trm)(ho:b6 t=0/\bP t=true/\OkT (szT t) t) :
  let A:=(0:Int);bP t=true/\if(!decide (b6 t=A))=true then True/\[]=showT t/\b6 t=A/\True else OkT (szT t) t/\True/\showT t=showT t/\A=A/\True:=by
 conv=>zeta
 obtain⟨h1,h2,h3⟩:=ho;rw[h1];exact⟨h2,a6 (fun k=>absurd k (by decide)) (fun _=>⟨h3,trivial,rfl,rfl,trivial⟩)⟩
theorem Jq(n:Nat)(a b:List Shape)(ha:Wf (.lst (.st .shape)) a)(hb:Wf (.lst (.st .shape)) b)(hn:szL a<=n) :
  let A:=(↑(List.length a):Int);let B:=(↑(List.length b):Int);let C:=True/\false=eqL a b/\True;let D:=List.length a=List.length b;let E:=(0:Int);let F:=a=a/\b=b/\false=false/\a=a/\A=A/\True;let G:=dfl (Ty.st SN.shape);if(!decide (A=B))=true then C else(∃(x:Nat),(x<=List.length a/\D/\eqL a b=eqL (List.drop x a) (List.drop x b))/\E=(↑x:Int)/\F)/\∀(x:Nat),let H:=(↑x:Int);let I:=List.getD a (Int.toNat H) G;x<=List.length a/\D/\eqL a b=eqL (List.drop x a) (List.drop x b)->if decide (H<A)=true then(E<=H/\H<A)/\(E<=H/\H<B)/\sz I<=n/\if(!eqS I (List.getD b (Int.toNat H) G))=true then C else inR IntKind.i64 (H+(1:Int))/\∃(y:Nat),(y<=List.length a/\D/\eqL a b=eqL (List.drop y a) (List.drop y b))/\List.length a-y<List.length a-x/\H+(1:Int)=(↑y:Int)/\F else True/\true=eqL a b/\True:=by
 conv=>zeta
 have la:=ha.len;simp only[Nu,OG,NZ,NX];apply a6<;>intro h
 ·symm;exact wL (fun e=>by simp[e]at h)
 have hl:a.length=b.length:=by simp at h;omega
 refine⟨⟨0,⟨by omega,hl,by simp⟩,by simp⟩,?_⟩;rintro k ⟨h1,_,h3⟩;apply a6<;>intro h
 ·replace h:=Xo h;have hk:k<a.length:=by omega
  have hk':k<b.length:=by omega
  have hm:=bT a k (dfl (.st .shape)) hk;have hz:=NG (gi hm) hn;clear hm;rw[b8 a k (dfl (.st .shape)) hk,b8 b k (dfl (.st .shape)) hk']at h3;refine⟨by omega,by omega,?_⟩;generalize a.getD k _=x at h3 hz⊢;generalize b.getD k _=y at h3⊢;refine⟨hz,?_⟩;simp only[eqL]at h3;cases e:eqS x y
  ·rw[h3];simp[e]
  ·simp only[e,O3]at h3;simp;exact⟨cO hk la,k+1,⟨by omega,hl,h3⟩,by omega,by omega⟩
 ·replace h:¬((k:Int)<(a.length:Int)):=fun e=>h (Xd e);have e:k=a.length:=by omega
  subst e;rw[h3,NJ,hl,NJ];rfl
theorem KZ(n:Nat)(a b:Shape)(hn:sz a<=n+1) :
  let A:=True/\false=eqS a b/\True;if decide (a.kind=b.kind)=true then if decide (a.pkg=b.pkg)=true then if decide (a.name=b.name)=true then if decide (a.names=b.names)=true then szL a.parts<=n/\True/\eqL a.parts b.parts=eqS a b/\True else A else A else A else A:=by
 conv=>zeta
 obtain⟨k,p,n',ns,ps⟩:=a;obtain⟨k',p',m',ms,qs⟩:=b;simp only[sz]at hn;rw[eqS];by_cases e1:k=k'<;>by_cases e2:p=p'<;>by_cases e3:n'=m'<;>by_cases e4:ns=ms<;>simp[e1,e2,e3,e4]<;>omega
theorem Jr(n:Nat)(a b:List Trm)(ha:Wf (.lst (.st .term)) a)(hb:Wf (.lst (.st .term)) b)(hn:szTL a<=n) :
  let A:=(↑(List.length a):Int);let B:=(↑(List.length b):Int);let C:=True/\false=eqTL a b false/\True;let D:=List.length a=List.length b;let E:=(0:Int);let F:=a=a/\b=b/\false=false/\a=a/\A=A/\True;let G:=dfl (Ty.st SN.term);if(!decide (A=B))=true then C else(∃(x:Nat),(x<=List.length a/\D/\eqTL a b false=eqTL (List.drop x a) (List.drop x b) false)/\E=(↑x:Int)/\F)/\∀(x:Nat),let H:=(↑x:Int);let I:=List.getD a (Int.toNat H) G;x<=List.length a/\D/\eqTL a b false=eqTL (List.drop x a) (List.drop x b) false->if decide (H<A)=true then(E<=H/\H<A)/\(E<=H/\H<B)/\szT I<=n/\if(!eqT I (List.getD b (Int.toNat H) G) false)=true then C else inR IntKind.i64 (H+(1:Int))/\∃(y:Nat),(y<=List.length a/\D/\eqTL a b false=eqTL (List.drop y a) (List.drop y b) false)/\List.length a-y<List.length a-x/\H+(1:Int)=(↑y:Int)/\F else True/\true=eqTL a b false/\True:=by
 conv=>zeta
 have la:=ha.len;simp only[Nu,OG,NZ,NX];apply a6<;>intro h
 ·symm;exact z6 (fun e=>by simp[e]at h)
 have hl:a.length=b.length:=by simp at h;omega
 refine⟨⟨0,⟨by omega,hl,by simp⟩,by simp⟩,?_⟩;rintro k ⟨h1,_,h3⟩;apply a6<;>intro h
 ·replace h:=Xo h;have hk:k<a.length:=by omega
  have hk':k<b.length:=by omega
  have hm:=bT a k (dfl (.st .term)) hk;have hz:=NG (ud hm) hn;clear hm;rw[b8 a k (dfl (.st .term)) hk,b8 b k (dfl (.st .term)) hk']at h3;refine⟨by omega,by omega,?_⟩;generalize a.getD k _=x at h3 hz⊢;generalize b.getD k _=y at h3⊢;refine⟨hz,?_⟩;simp only[eqTL]at h3;cases e:eqT x y false
  ·rw[h3];simp[e]
  ·simp only[e,O3]at h3;simp;exact⟨cO hk la,k+1,⟨by omega,hl,h3⟩,by omega,by omega⟩
 ·replace h:¬((k:Int)<(a.length:Int)):=fun e=>h (Xd e);have e:k=a.length:=by omega
  subst e;rw[h3,NJ,hl,NJ];rfl
theorem L0(n:Nat)(a b:Trm)(hn:szT a<=n+1) :
  let A:=True/\false=eqT a b false/\True;if decide (a.kind=b.kind)=true then if decide (a.pkg=b.pkg)=true then if decide (a.name=b.name)=true then if decide (a.n=b.n)=true then if decide (a.names=b.names)=true then if decide (a.vars=b.vars)=true then szL a.shapes<=szL a.shapes/\if eqL a.shapes b.shapes=true then szTL a.parts<=n/\True/\eqTL a.parts b.parts false=eqT a b false/\True else A else A else A else A else A else A else A:=by
 conv=>zeta
 obtain⟨k,g,q,z,ns,vs,ss,ps,pp⟩:=a;obtain⟨k',g',q',z',ns',vs',ss',ps',pp'⟩:=b;simp only[szT]at hn;rw[eqT];by_cases e1:k=k'<;>by_cases e2:g=g'<;>by_cases e3:q=q'<;>by_cases e4:z=z'<;>by_cases e5:ns=ns'<;>by_cases e6:vs=vs'<;>simp[e1,e2,e3,e4,e5,e6];cases e7:eqL ss ss'<;>simp;omega
theorem Gp(x:Trm)(ho:bP x=true) :
  bP x=true/\True/\decide (b6 x=(0:Int))=fx x/\True:=by
 exact⟨ho,trivial,rfl,trivial⟩
theorem Gq (x:Trm) (ho:bP x=true) :
  bP x=true/\True/\(!fx x)=!fx x/\True:=by
 exact⟨ho,trivial,by trivial,trivial⟩
theorem Gr (l:List Trm) (hl:Wf (.lst (.st .term)) l)(ho:∀x∈l,bP x=true) :
  let A:=(0:Nat);let B:=(↑(List.length l):Int);let C:=l=l/\B=B/\True;let D:=dfl (Ty.st SN.term);(∃(x:Nat),(x<=List.length l/\bu fx (List.drop x l) x=bu fx l A)/\(0:Int)=(↑x:Int)/\C)/\∀(x:Nat),let E:=(↑x:Int);let F:=List.getD l (Int.toNat E) D;x<=List.length l/\bu fx (List.drop x l) x=bu fx l A->if decide (E<B)=true then((0:Int)<=E/\E<B)/\bP F=true/\if(!fx F)=true then True/\E=bu fx l A/\True else inR IntKind.i64 (E+(1:Int))/\∃(y:Nat),(y<=List.length l/\bu fx (List.drop y l) y=bu fx l A)/\List.length l-y<List.length l-x/\E+(1:Int)=(↑y:Int)/\C else True/\(-1:Int)=bu fx l A/\True:=by
 conv=>zeta
 have ln:=hl.len;simp only[Nu];refine⟨⟨0,⟨Nt _,by simp⟩,rfl,by trivial,by trivial,trivial⟩,?_⟩;rintro k ⟨h1,h2⟩;apply a6<;>intro h
 ·replace h:=Xo h;have hk:k<l.length:=by omega
  rw[b8 l k (dfl (.st .term)) hk,bu]at h2;refine⟨by omega,ho _ (bT l k _ hk),a6 (fun c=>?_) (fun c=>?_)⟩
  ·have c:fx (l.getD k (dfl (.st .term)))=false:=by simpa using c
   rw[c,N3 NL]at h2;rw[<-h2];exact Xr
  ·have c:fx (l.getD k (dfl (.st .term)))=true:=by simpa using c
   rw[N6 c]at h2;refine⟨cO hk ln,k+1,⟨by omega,h2⟩,by omega,by omega,by trivial,by trivial,trivial⟩
 ·replace h:¬((k:Int)<(l.length:Int)):=fun e=>h (Xd e);have e:k=l.length:=by omega
  subst e;rw[NJ,bu]at h2;rw[<-h2];exact Xr
theorem Gs (l:List Trm) (ho:∀x∈l,bP x=true) :
  (∀(x:Trm),x∈l->bP x=true)/\True/\decide ((0:Int)<=bu fx l (0:Nat))=!List.all l fx/\True:=by
 exact⟨ho,trivial,jl fx l 0,trivial⟩
theorem L1 (l:List Trm) (ho:∀x∈l,bP x=true) :
  (∀(x:Trm),x∈l->bP x=true)/\True/\(!!List.all l fx)=List.all l fx/\True:=by
 exact⟨ho,trivial,Pm _,trivial⟩
theorem Gt(n:Nat)(x:Trm)(l:List Trm)(hx:x∈l)(ho:∀x∈l,szT x<=n) :
  let A:=(0:Int);(A<=A/\A<(↑(List.length l):Int))/\szT x<=n/\True/\eqT x (List.getD l (Int.toNat A) (dfl (Ty.st SN.term))) false=eqH l x/\l=l/\True:=by
 conv=>zeta
 have:=List.length_pos_of_mem hx;exact⟨⟨by decide,by omega⟩,ho x hx,trivial,rfl,rfl,trivial⟩
theorem Js(n:Nat)(x:Trm)(l:List Trm)(hx:x∈l)(ho:∀x∈l,szT x<=n) :
  (x∈l/\∀(x:Trm),x∈l->szT x<=n)/\True/\(!eqH l x)=!eqH l x/\l=l/\True:=by
 exact⟨⟨hx,ho⟩,trivial,rfl,rfl,trivial⟩
theorem Jt(n:Nat)(l:List Trm)(hl:Wf (.lst (.st .term)) l)(ho:∀x∈l,szT x<=n) :
  let A:=eqH l;let B:=(0:Nat);let C:=(↑(List.length l):Int);let D:=l=l/\True;let E:=l=l/\C=C/\D;let F:=dfl (Ty.st SN.term);(∃(x:Nat),(x<=List.length l/\bu A (List.drop x l) x=bu A l B)/\(0:Int)=(↑x:Int)/\E)/\∀(x:Nat),let G:=(↑x:Int);x<=List.length l/\bu A (List.drop x l) x=bu A l B->if decide (G<C)=true then((0:Int)<=G/\G<C)/\(List.getD l (Int.toNat G) F∈l/\∀(x:Trm),x∈l->szT x<=n)/\if(!eqH l (List.getD l (Int.toNat G) F))=true then True/\G=bu A l B/\D else inR IntKind.i64 (G+(1:Int))/\∃(y:Nat),(y<=List.length l/\bu A (List.drop y l) y=bu A l B)/\List.length l-y<List.length l-x/\G+(1:Int)=(↑y:Int)/\E else True/\(-1:Int)=bu A l B/\D:=by
 conv=>zeta
 have ln:=hl.len;simp only[Nu,OG,NZ,NX];refine⟨⟨0,⟨Nt _,by simp⟩,rfl⟩,?_⟩;rintro k ⟨h1,h2⟩;apply a6<;>intro h
 ·replace h:=Xo h;have hk:k<l.length:=by omega
  rw[b8 l k (dfl (.st .term)) hk,bu]at h2;refine⟨by omega,⟨bT l k (dfl (.st .term)) hk,ho⟩,a6 (fun c=>?_) (fun c=>?_)⟩
  ·have c:eqH l (l.getD k (dfl (.st .term)))=false:=by simpa using c
   rw[c,N3 NL]at h2;exact h2
  ·have c:eqH l (l.getD k (dfl (.st .term)))=true:=by simpa using c
   rw[N6 c]at h2;exact⟨cO hk ln,k+1,⟨by omega,h2⟩,by omega,by omega⟩
 ·replace h:¬((k:Int)<(l.length:Int)):=fun e=>h (Xd e);have e:k=l.length:=by omega
  subst e;rw[NJ,bu]at h2;exact h2
theorem Ju(n:Nat)(l:List Trm)(ho:∀x∈l,szT x<=n) :
  (l=l/\∀(x:Trm),x∈l->szT x<=n)/\True/\decide ((0:Int)<=bu (eqH l) l (0:Nat))=!List.all l (eqH l)/\l=l/\True:=by
 exact⟨⟨rfl,ho⟩,trivial,jl (eqH l) l 0,rfl,trivial⟩
theorem Jv(n:Nat)(l:List Trm)(ho:∀x∈l,szT x<=n) :
  (l=l/\∀(x:Trm),x∈l->szT x<=n)/\True/\(!!List.all l (eqH l))=List.all l (eqH l)/\l=l/\True:=by
 exact⟨⟨rfl,ho⟩,trivial,Pm _,rfl,trivial⟩
theorem Jw(l:List Trm)(ho:∀x∈l,bP x=true) :
  let A:=List.all l fx&&List.all l (eqH l);(∀(x:Trm),x∈l->bP x=true)/\if List.all l fx=true then(l=l/\∀(x:Trm),x∈l->szT x<=szTL l)/\True/\List.all l (eqH l)=A/\True else True/\false=A/\True:=by
 conv=>zeta
 refine⟨ho,a6 (fun h=>?_) (fun h=>?_)⟩
 ·rw[h];exact⟨⟨rfl,fun x hx=>ud hx⟩,trivial,rfl,trivial⟩
 ·have h:l.all fx=false:=by simpa using h
  rw[h];exact Xr
theorem qt(GY:Str->Shape×Flt)(GT:Str->Trm×Flt)(s:Str)(hs:Wf .str s)(hY:(GY s).2.err=0->bz (GY s).1=0/\((showS (GY s).1).length<=4096->(GY (showS (GY s).1)).2.err=0/\(GY (showS (GY s).1)).1=(GY s).1))(hT:(GT s).2.err=0->(b6 (GT s).1=0/\bP (GT s).1=true/\OkT (szT (GT s).1) (GT s).1)/\((showT (GT s).1).length<=4096->(GT (showT (GT s).1)).2.err=0/\bareT (GT s).1=bareT (GT (showT (GT s).1)).1/\b6 (GT (showT (GT s).1)).1=0))(hI:jA (GY s).2 (s.length:Int))(hJ:jA (GT s).2 (s.length:Int)) :
  let A:=GY s;let B:=(0:Int);let C:=GY (showS A.1);let D:=True/\false=true/\True;let E:=GT s;let F:=GT (showT E.1);let G:=[E.1,F.1];let H:=True/\true=true/\True;let I:=(↑(List.length s):Int);let J:=if decide (E.2.err=B)=true then H else if decide (B<=E.2.pos)=true then if decide (E.2.pos<=I)=true then H else D else D;let K:=if decide (A.2.err=B)=true then J else if decide (B<=A.2.pos)=true then if decide (A.2.pos<=I)=true then J else D else D;let L:=if decide (E.2.err=B)=true then(b6 E.1=B/\bP E.1=true/\OkT (szT E.1) E.1)/\if decide ((↑(List.length (showT E.1)):Int)<=(4096:Int))=true then if(!decide (F.2.err=B))=true then D else(∀(x:Trm),x∈G->bP x=true)/\if(!(List.all G fx&&List.all G (eqH G)))=true then D else K else K else K;if decide (A.2.err=B)=true then bz A.1=B/\if decide ((↑(List.length (showS A.1)):Int)<=(4096:Int))=true then if(!decide (C.2.err=B))=true then D else sz A.1<=sz A.1/\if(!eqS A.1 C.1)=true then D else L else L else L:=by
 conv=>zeta
 by_cases e1:(GY s).2.err=0
 ·obtain⟨a1,a2⟩:=hY e1;by_cases c1:(showS (GY s).1).length<=4096
  ·obtain⟨a3,a4⟩:=a2 c1;have a5:eqS (GY s).1 (GY (showS (GY s).1)).1=true:=by rw[a4,eqS_self]
   have c1':((showS (GY s).1).length:Int)<=4096:=by omega
   by_cases e2:(GT s).2.err=0
   ·obtain⟨b1,b2⟩:=hT e2;by_cases c2:(showT (GT s).1).length<=4096
    ·obtain⟨b3,b4,b5⟩:=b2 c2;obtain⟨q1,q2,q3⟩:=uh b1.1 b5 b4;have c2':((showT (GT s).1).length:Int)<=4096:=by omega
     simp only[e1,a1,a3,a5,c1',e2,b1,b3,c2',q1,q2,q3,OY,Oy,Oa,NS,Pn,ND,P3,NC,NX,NZ,OG,Nf]
     all_goals trivial
    ·have c2':¬((showT (GT s).1).length:Int)<=4096:=by omega
     simp only[e1,a1,a3,a5,c1',e2,b1,c2',OY,OA,Oy,Oa,NS,Pn,ND,P3,NC,NX,NZ,OG,Nf]
     all_goals trivial
   ·obtain⟨j1,j2⟩:=hJ e2;simp only[e1,a1,a3,a5,c1',e2,j1,j2,OY,OA,Oy,Oa,NS,Pn,ND,P3,NC,NX,NZ,OG,Nf]
  ·have c1':¬((showS (GY s).1).length:Int)<=4096:=by omega
   by_cases e2:(GT s).2.err=0
   ·obtain⟨b1,b2⟩:=hT e2;by_cases c2:(showT (GT s).1).length<=4096
    ·obtain⟨b3,b4,b5⟩:=b2 c2;obtain⟨q1,q2,q3⟩:=uh b1.1 b5 b4;have c2':((showT (GT s).1).length:Int)<=4096:=by omega
     simp only[e1,a1,c1',e2,b1,b3,c2',q1,q2,q3,OY,OA,Oy,Oa,NS,Pn,ND,P3,NC,NX,NZ,OG,Nf]
     all_goals trivial
    ·have c2':¬((showT (GT s).1).length:Int)<=4096:=by omega
     simp only[e1,a1,c1',e2,b1,c2',OY,OA,Oy,Oa,NS,Pn,ND,P3,NC,NX,NZ,OG,Nf]
   ·obtain⟨j1,j2⟩:=hJ e2;simp only[e1,a1,c1',e2,j1,j2,OY,OA,Oy,Oa,NS,Pn,ND,P3,NC,NX,NZ,OG,Nf]
 ·obtain⟨i1,i2⟩:=hI e1;by_cases e2:(GT s).2.err=0
  ·obtain⟨b1,b2⟩:=hT e2;by_cases c2:(showT (GT s).1).length<=4096
   ·obtain⟨b3,b4,b5⟩:=b2 c2;obtain⟨q1,q2,q3⟩:=uh b1.1 b5 b4;have c2':((showT (GT s).1).length:Int)<=4096:=by omega
    simp only[e1,i1,i2,e2,b1,b3,c2',q1,q2,q3,OY,OA,Oy,Oa,NS,Pn,ND,P3,NC,NX,NZ,OG,Nf]
    all_goals trivial
   ·have c2':¬((showT (GT s).1).length:Int)<=4096:=by omega
    simp only[e1,i1,i2,e2,b1,c2',OY,OA,Oy,Oa,NS,Pn,ND,P3,NC,NX,NZ,OG,Nf]
  ·obtain⟨j1,j2⟩:=hJ e2;simp only[e1,i1,i2,e2,j1,j2,OY,OA,Oy,Oa,NS,Pn,ND,P3,NC,NX,NZ,OG,Nf]
end Go.AL.Seat
end
section
open Go Go.AL Go.Proofs Go.Shelf Go.Pd
namespace Go.AL.Seat
open Go.Proofs.Tryz
variable [Tabs]
variable [SeatLaid] [SeatPow]
theorem vS:aw prog 47:=ee func47
theorem xJ(n:Nat)(s:AL.Shape)(hs:Wf (.st .shape) s)(ho:sz s<=n+1/\sz s<=400/\allS bc s=true)(hA:ae prog 47 (p1 (.st .shape) fun s=>⟨some (sz s<=n/\sz s<=400/\allS bc s=true),none,.str (showS s),[]⟩)):ax prog 47 [.st .shape s] [] (⟨some (sz s<=n+1/\sz s<=400/\allS bc s=true),none,.str (showS s),[]⟩):=
 g0 (sc (hA) (sc (tx) sn)) ⟨[(3,fun S0=>⟨Nat,fun k=>k<=s.parts.length,fun k=>[(3,.lst .str ((showP s.names s.parts).take k) (some 701)),(11,.int .i64 k)],fun k=>[(701,.tail .str ((showP s.names s.parts).take k).length)],fun k=>s.parts.length-k⟩)],[],[]⟩ func47 (Gk n s hs ho)
theorem ui:∀n:Nat,ae prog 47 (p1 (.st .shape) fun s=>⟨some (sz s<=n/\sz s<=400/\allS bc s=true),none,.str (showS s),[]⟩)
 |0=>bX vS fun s _ ho=>absurd (ho _ rfl).1 (by have:=gj s;omega)
 |n+1=>bX vS fun s hs ho=>xJ n s hs (ho _ rfl) (ui n)
theorem vT:ae prog 25 (p1 (.st .shape) fun s=>⟨some (bz s=0),none,.tup [.str (showS s),.int .i64 0],[]⟩):=
 bX (ee func25) fun s _ ho=>g0 (sc qh (sc (ui 400) sn)) a0 func25 (Jo s (ho _ rfl))
theorem Gu:ae prog 160 (p1 (.st .shape) fun s=>⟨some (bz s=0),none,.str (showS s),[]⟩):=
 bX (ee func160) fun s _ ho=>g0 (sc vT sn) a0 func160 (Jp s (ho _ rfl))
theorem Aw:ae prog 95 (p1 .str fun s=>⟨some (s.length<=4096),none,.str (jw s),[]⟩):=
 bX (ee func95) fun s hs ho=>g0 (sc (uJ) (sc (EN) (sc (BV) sn))) ⟨[(4,fun S0=>⟨Nat,fun k=>k<=s.length,fun k=>[(10,.int .i64 k)],fun k=>[(3,.bld 152 5 ([34]++(s.take k).flatMap dc))],fun k=>s.length-k⟩)],[],[]⟩ func95 (CW s hs (ho _ rfl))
theorem Ax:aw prog 96:=ee func96
theorem uj(n:Nat)(t:Trm)(ho:OkT n t)(hA:ae prog 48 (p1 (.st .term) fun t=>⟨some (OkT (n) t),none,.str (showT t),[]⟩)):ax prog 96 [.st .term t] [] (⟨some (OkT n t),none,.str (opS (cH t.kind) (showT t)),[]⟩):=
 g0 (sc (hA) sn) a0 func96 (Av n t ho)
theorem xK(n:Nat)(hA:ae prog 48 (p1 (.st .term) fun t=>⟨some (OkT (n) t),none,.str (showT t),[]⟩)):ae prog 96 (p1 (.st .term) fun t=>⟨some (OkT (n) t),none,.str (opS (cH t.kind) (showT t)),[]⟩):=
 bX Ax fun t _ ho=>uj n t (ho _ rfl) hA
theorem vU:aw prog 97:=ee func97
theorem pF(n:Nat)(l:List Trm)(hl:Wf (.lst (.st .term)) l)(ho:(∀x∈l,OkT (n) x)/\l.length<=500000)(hA:ae prog 48 (p1 (.st .term) fun t=>⟨some (OkT (n) t),none,.str (showT t),[]⟩)):ax prog 97 [.lst (.st .term) l none] [] (⟨some ((∀x∈l,OkT (n) x)/\l.length<=500000),none,.lst .str (showTL l) (some 701),[(701,.tail .str (showTL l).length)]⟩):=
 g0 (sc (hA) sn) ⟨[(3,fun S0=>⟨Nat,fun k=>k<=l.length,fun k=>[(3,.lst .str ((showTL l).take k) (some 701)),(8,.int .i64 k)],fun k=>[(701,.tail .str ((showTL l).take k).length)],fun k=>l.length-k⟩)],[],[]⟩ func97 (Gl n l hl ho)
theorem Ay(n:Nat)(hA:ae prog 48 (p1 (.st .term) fun t=>⟨some (OkT (n) t),none,.str (showT t),[]⟩)):ae prog 97 (p1 (.lst (.st .term)) fun l=>⟨some ((∀x∈l,OkT (n) x)/\l.length<=500000),none,.lst .str (showTL l) none,[]⟩):=bX vU fun l hl ho=>yZ (pF n l hl (ho _ rfl) hA)
theorem Az(n:Nat)(hA:ae prog 48 (p1 (.st .term) fun t=>⟨some (OkT (n) t),none,.str (showT t),[]⟩)):ae prog 97 (p1 (.lst (.st .term)) fun l=>⟨some ((∀x∈l,OkT (n) x)/\l.length<=500000),none,.arr 0 (showTL l).length 1,[(0,.box (.row .str (showTL l)))]⟩):=bX vU fun l hl ho=>yY (pF n l hl (ho _ rfl) hA)
theorem Gv:aw prog 98:=ee func98
theorem xL(n:Nat)(t:Trm)(ht:Wf (.st .term) t)(ho:OkT (n+1) t)(hk:mJ t.kind=true)(hT:ae prog 97 (p1 (.lst (.st .term)) fun l=>⟨some ((∀x∈l,OkT (n) x)/\l.length<=500000),none,.arr 0 (showTL l).length 1,[(0,.box (.row .str (showTL l)))]⟩)):ax prog 98 [.st .term t] [] (⟨some (OkT (n+1) t/\mJ t.kind=true),none,.str (showT t),[]⟩):=
 g0 (sc (hT) (sc Gu (sc (tx) sn))) ⟨[(6,fun S0=>⟨Nat,fun k=>k<=t.names.length,fun k=>[(4,.lst .str (ix k (mE t.names (t.shapes.map showS))) (some 702)),(22,.int .i64 k)],fun k=>[(702,.tail .str (ix k (mE t.names (t.shapes.map showS))).length)],fun k=>t.names.length-k⟩),
 (13,fun S0=>⟨Nat,fun k=>k<=t.names.length,fun k=>[(53,.int .i64 k)],fun k=>[(1014,.box (.row .str (ix k (mF t.names (showTL t.parts))++(showTL t.parts).drop k)))],fun k=>t.names.length-k⟩),
 (25,fun S0=>⟨Nat,fun k=>k<=t.names.length,fun k=>[(9,.lst .str (ix k (oe t.names t.vars (t.shapes.map showS) (showTL t.parts))) (some 703)),(113,.int .i64 k)],fun k=>[(703,.tail .str (ix k (oe t.names t.vars (t.shapes.map showS) (showTL t.parts))).length)],fun k=>t.names.length-k⟩)],[],[]⟩ func98 (Gm n t ht ho hk)
theorem CY(n:Nat)(hT:ae prog 97 (p1 (.lst (.st .term)) fun l=>⟨some ((∀x∈l,OkT (n) x)/\l.length<=500000),none,.arr 0 (showTL l).length 1,[(0,.box (.row .str (showTL l)))]⟩)):ae prog 98 (p1 (.st .term) fun t=>⟨some (OkT (n+1) t/\mJ t.kind=true),none,.str (showT t),[]⟩):=bX Gv fun t ht ho=>xL n t ht (ho _ rfl).1 (ho _ rfl).2 hT
theorem uk:aw prog 48:=ee func48
theorem uS(n:Nat)(t:Trm)(ht:Wf (.st .term) t)(ho:OkT (n+1) t)(hA:ae prog 48 (p1 (.st .term) fun t=>⟨some (OkT (n) t),none,.str (showT t),[]⟩))(hO:ae prog 96 (p1 (.st .term) fun t=>⟨some (OkT (n) t),none,.str (opS (cH t.kind) (showT t)),[]⟩))(hT:ae prog 97 (p1 (.lst (.st .term)) fun l=>⟨some ((∀x∈l,OkT (n) x)/\l.length<=500000),none,.lst .str (showTL l) none,[]⟩))(hY:ae prog 98 (p1 (.st .term) fun t=>⟨some (OkT (n+1) t/\mJ t.kind=true),none,.str (showT t),[]⟩)):ax prog 48 [.st .term t] [] (⟨some (OkT (n+1) t),none,.str (showT t),[]⟩):=
 g0 (sc (I0) (sc Aw (sc (hO) (sc (hT) (sc (tx) (sc (hA) (sc (hY) sn))))))) a0 func48 (CX n t ht ho)
theorem iw:∀n:Nat,ae prog 48 (p1 (.st .term) fun t=>⟨some (OkT (n) t),none,.str (showT t),[]⟩)
 |0=>bX uk fun t _ ho=>absurd (ho _ rfl).1 (by have:=jL t;omega)
 |n+1=>bX uk fun t ht ho=>uS n t ht (ho _ rfl) (iw n) (xK n (iw n)) (Ay n (iw n)) (CY n (Az n (iw n)))
theorem CZ:ae prog 26 (p1 (.st .term) fun t=>⟨some (b6 t=0/\bP t=true/\OkT (szT t) t),none,.tup [.str (showT t),.int .i64 0],[]⟩):=
 bX (ee func26) fun t _ ho=>g0 (sc oc (sc (iw (szT t)) sn)) a0 func26 (Gn t (ho _ rfl))
theorem AA:aw prog 102:=ee func102
theorem qU(n:Nat)(a b:List AL.Shape)(ha:Wf (.lst (.st .shape)) a)(hb:Wf (.lst (.st .shape)) b)(hn:szL a<=n)(hE:ae prog 103 (p2 (.st .shape) (.st .shape) fun a b=>⟨some (sz a<=n),none,.bool (eqS a b),[]⟩)):ax prog 102 [.lst (.st .shape) a none,.lst (.st .shape) b none,.fn 103 []] [] (.ret (.bool (eqL a b))):=
 g0 (sc (hE) sn) ⟨[(4,fun S0=>⟨Nat,fun k=>k<=a.length/\a.length=b.length/\eqL a b=eqL (a.drop k) (b.drop k),fun k=>[(17,.int .i64 k)],fun _=>[],fun k=>a.length-k⟩)],[],[]⟩ func102 (Jq n a b ha hb hn)
theorem DV:aw prog 103:=ee func103
theorem D0(n:Nat)(a b:Shape)(hn:sz a<=n+1)(hL:ae prog 102 (pff (.lst (.st .shape)) (.lst (.st .shape)) 103 fun a b=>⟨some (szL a<=n),none,.bool (eqL a b),[]⟩)):ax prog 103 [.st .shape a,.st .shape b] [] (.ret (.bool (eqS a b))):=
 g0 (sc tB (sc (hL) sn)) a0 func103 (KZ n a b hn)
theorem AB:∀n:Nat,ae prog 103 (p2 (.st .shape) (.st .shape) fun a b=>⟨some (sz a<=n),none,.bool (eqS a b),[]⟩)
 |0=>fB DV fun a b _ _ ho=>absurd (ho _ rfl) (by have:=gj a;omega)
 |n+1=>fB DV fun a b _ _ ho=>D0 n a b (ho _ rfl) (Bt AA fun a b ha hb ho=>qU n a b ha hb (ho _ rfl) (AB n))
theorem Gw(n:Nat):ae prog 102 (pff (.lst (.st .shape)) (.lst (.st .shape)) 103 fun x y=>⟨some (szL x<=n),none,.bool (eqL x y),[]⟩):=Bt AA fun a b ha hb ho=>qU n a b ha hb (ho _ rfl) (AB n)
theorem Jx:aw prog 104:=ee func104
theorem AD(n:Nat)(a b:List Trm)(ha:Wf (.lst (.st .term)) a)(hb:Wf (.lst (.st .term)) b)(hn:szTL a<=n)(hE:ae prog 52 (p2 (.st .term) (.st .term) fun a b=>⟨some (szT a<=n),none,.bool (eqT a b false),[]⟩)):ax prog 104 [.lst (.st .term) a none,.lst (.st .term) b none,.fn 52 []] [] (.ret (.bool (eqTL a b false))):=
 g0 (sc (hE) sn) ⟨[(4,fun S0=>⟨Nat,fun k=>k<=a.length/\a.length=b.length/\eqTL a b false=eqTL (a.drop k) (b.drop k) false,fun k=>[(17,.int .i64 k)],fun _=>[],fun k=>a.length-k⟩)],[],[]⟩ func104 (Jr n a b ha hb hn)
theorem DW:aw prog 52:=ee func52
theorem D1(n:Nat)(a b:Trm)(hn:szT a<=n+1)(hL:ae prog 104 (pff (.lst (.st .term)) (.lst (.st .term)) 52 fun a b=>⟨some (szTL a<=n),none,.bool (eqTL a b false),[]⟩)):ax prog 52 [.st .term a,.st .term b] [] (.ret (.bool (eqT a b false))):=
 g0 (sc tB (sc (Gw (szL a.shapes)) (sc (hL) sn))) a0 func52 (L0 n a b hn)
theorem AE:∀n:Nat,ae prog 52 (p2 (.st .term) (.st .term) fun a b=>⟨some (szT a<=n),none,.bool (eqT a b false),[]⟩)
 |0=>fB DW fun a b _ _ ho=>absurd (ho _ rfl) (by have:=jL a;omega)
 |n+1=>fB DW fun a b _ _ ho=>D1 n a b (ho _ rfl) (Bt Jx fun a b ha hb ho=>AD n a b ha hb (ho _ rfl) (AE n))
theorem D2:ae prog 50 (p1 (.st .term) fun x=>⟨some (bP x=true),none,.bool (fx x),[]⟩):=
 bX (ee func50) fun x _ ho=>g0 (sc oc sn) a0 func50 (Gp x (ho _ rfl))
theorem D3:ae prog 100 (pcl (.st .term) 50 fun x=>⟨some (bP x=true),none,.bool (!fx x),[]⟩):=
 sF (ee func100) fun x _ ho=>g0 (sc D2 sn) a0 func100 (Gq x (ho _ rfl))
theorem D4:ae prog 161 (pfc (.lst (.st .term)) 100 50 fun l=>⟨some (∀x∈l,bP x=true),none,.int .i64 (bu fx l 0),[]⟩):=
 jV (ee func161) fun l hl ho=>g0 (sc D3 sn) ⟨[(2,fun S0=>⟨Nat,fun k=>k<=l.length/\bu fx (l.drop k) k=bu fx l 0,fun k=>[(8,.int .i64 k)],fun _=>[],fun k=>l.length-k⟩)],[],[]⟩ func161 (Gr l hl (ho _ rfl))
theorem D5:ae prog 99 (pfc (.lst (.st .term)) 100 50 fun l=>⟨some (∀x∈l,bP x=true),none,.bool (!l.all fx),[]⟩):=
 jV (ee func99) fun l _ ho=>g0 (sc D4 sn) a0 func99 (Gs l (ho _ rfl))
theorem Jy:ae prog 49 (pf (.lst (.st .term)) 50 fun l=>⟨some (∀x∈l,bP x=true),none,.bool (l.all fx),[]⟩):=
 oN (ee func49) fun l _ ho=>g0 (sc D5 sn) a0 func49 (L1 l (ho _ rfl))
theorem Gx:aw prog 51:=ee func51
theorem xM(n:Nat)(x:Trm)(l:List Trm)(hx:x∈l)(ho:∀x∈l,szT x<=n) :ax prog 51 [.st .term x,.ptr 900 0] [(900,.box (.lst (.st .term) l none))] (⟨some (x∈l/\∀x∈l,szT x<=n),none,.bool (eqH l x),[]⟩):=
 g0 (sc (AE n) sn) a0 func51 (Gt n x l hx ho)
theorem D6(n:Nat):ae prog 51 (pcS fun x l=>⟨some (x∈l/\∀x∈l,szT x<=n),none,.bool (eqH l x),[]⟩):=Mf Gx fun x l ho=>xM n x l (ho _ rfl).1 (ho _ rfl).2
theorem Jz:aw prog 100:=ee func100
theorem AF(n:Nat)(x:Trm)(l:List Trm)(hx:x∈l)(ho:∀x∈l,szT x<=n) :ax prog 100 [.st .term x,.ptr 900 0] [(900,.box (.fn 51 [.ptr 901 0])),(901,.box (.lst (.st .term) l none))] (⟨some (x∈l/\∀x∈l,szT x<=n),none,.bool (!eqH l x),[]⟩):=
 g0 (sc (D6 n) sn) a0 func100 (Js n x l hx ho)
theorem Gy(n:Nat):ae prog 100 (pkS 51 fun x l=>⟨some (x∈l/\∀x∈l,szT x<=n),none,.bool (!eqH l x),[]⟩):=Mg Jz fun x l ho=>AF n x l (ho _ rfl).1 (ho _ rfl).2
theorem JA:aw prog 161:=ee func161
theorem AG(n:Nat)(l:List Trm)(hl:Wf (.lst (.st .term)) l)(ho:∀x∈l,szT x<=n) :ax prog 161 [.lst (.st .term) l none,.fn 100 [.ptr 900 0]] [(900,.box (.fn 51 [.ptr 901 0])),(901,.box (.lst (.st .term) l none))] (⟨some (l=l/\∀x∈l,szT x<=n),none,.int .i64 (bu (eqH l) l 0),[]⟩):=
 g0 (sc (Gy n) sn) ⟨[(2,fun S0=>⟨Nat,fun k=>k<=l.length/\bu (eqH l) (l.drop k) k=bu (eqH l) l 0,fun k=>[(8,.int .i64 k)],fun _=>[],fun k=>l.length-k⟩)],[],[]⟩ func161 (Jt n l hl ho)
theorem Gz(n:Nat):ae prog 161 (pmS 100 51 fun m l=>⟨some (m=l/\∀x∈l,szT x<=n),none,.int .i64 (bu (eqH l) m 0),[]⟩):=Jn JA fun m l hm ho=>by obtain⟨rfl,h⟩:=ho _ rfl;exact AG n m hm h
theorem JB:aw prog 99:=ee func99
theorem AH(n:Nat)(l:List Trm)(ho:∀x∈l,szT x<=n) :ax prog 99 [.lst (.st .term) l none,.fn 100 [.ptr 900 0]] [(900,.box (.fn 51 [.ptr 901 0])),(901,.box (.lst (.st .term) l none))] (⟨some (l=l/\∀x∈l,szT x<=n),none,.bool (!l.all (eqH l)),[]⟩):=
 g0 (sc (Gz n) sn) a0 func99 (Ju n l ho)
theorem GA(n:Nat):ae prog 99 (pmS 100 51 fun m l=>⟨some (m=l/\∀x∈l,szT x<=n),none,.bool (!m.all (eqH l)),[]⟩):=Jn JB fun m l _ ho=>by obtain⟨rfl,h⟩:=ho _ rfl;exact AH n m h
theorem JC:aw prog 49:=ee func49
theorem AI(n:Nat)(l:List Trm)(ho:∀x∈l,szT x<=n) :ax prog 49 [.lst (.st .term) l none,.fn 51 [.ptr 900 0]] [(900,.box (.lst (.st .term) l none))] (⟨some (l=l/\∀x∈l,szT x<=n),none,.bool (l.all (eqH l)),[]⟩):=
 g0 (sc (GA n) sn) a0 func49 (Jv n l ho)
theorem D7:ae prog 49 (pfS 51 fun m l=>⟨some (m=l/\∀x∈l,szT x<=szTL l),none,.bool (m.all (eqH l)),[]⟩):=Mh JC fun m l ho=>by obtain⟨rfl,h⟩:=ho _ rfl;exact AI (szTL m) m h
theorem GB:ae prog 27 (p1 (.lst (.st .term)) fun l=>⟨some (∀x∈l,bP x=true),none,.bool (l.all fx&&l.all (eqH l)),[]⟩):=
 bX (ee func27) fun l _ ho=>g0 (sc (Gh Jy D7) sn) a0 func27 (Jw l (ho _ rfl))
theorem nk(GY:Str->Shape×Flt)(GT:Str->Trm×Flt)(s:Str)(hs:Wf .str s)(hY:(GY s).2.err=0->bz (GY s).1=0/\((showS (GY s).1).length<=4096->(GY (showS (GY s).1)).2.err=0/\(GY (showS (GY s).1)).1=(GY s).1))(hT:(GT s).2.err=0->(b6 (GT s).1=0/\bP (GT s).1=true/\OkT (szT (GT s).1) (GT s).1)/\((showT (GT s).1).length<=4096->(GT (showT (GT s).1)).2.err=0/\bareT (GT s).1=bareT (GT (showT (GT s).1)).1/\b6 (GT (showT (GT s).1)).1=0))(hI:jA (GY s).2 (s.length:Int))(hJ:jA (GT s).2 (s.length:Int))(hP:ae prog 18 (p1 .str fun s=>.ret (.tup [.st .shape (GY s).1,.st .fault (GY s).2])))(hG:ae prog 20 (p1 .str fun s=>.ret (.tup [.st .term (GT s).1,.st .fault (GT s).2]))):ax prog 8 [.str s] [] (.ret (.bool true)):=
 g0 (sc (hP) (sc (hG) (sc vT (sc CZ (sc (CD (sz (GY s).1)) (sc GB (sc (CE) sn))))))) a0 func8 (qt GY GT s hs hY hT hI hJ)
end Go.AL.Seat
end
