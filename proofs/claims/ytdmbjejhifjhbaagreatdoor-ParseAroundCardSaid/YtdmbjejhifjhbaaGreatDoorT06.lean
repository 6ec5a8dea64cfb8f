/- What the functions' conditions say, proved. The contracts of the functions. Plain facts. No condition. -/
import Derived.Test.YtdmbjejhifjhbaaGreatDoorT05
import Derived.Shelf.Slices.Clone
import Derived.Test.YtdmbjejhifjhbaaGreatDoorProg
set_option linter.all false
set_option maxRecDepth 100000
section
open Go Go.AL Go.Pd
namespace Go.AL.Seat
theorem Cb(F:Str->Shape×Flt)(G:Str->Trm×Flt)  :
  let A:=(F ([40,73,110,116,44,32,91,75,101,121,93,41,32,45,62,32,123,97,58,32,113,47,73,100,125]:Str));let B:=(0:Int);let C:=(F ([123,97,58,32,73,110,116,44,32,97,58,32,73,110,116,125]:Str));let D:=(G ([102,46,97,40,49,41]:Str));let E:=(↑(List.length D.1.parts):Int);let H:=(1:Int);let I:=True/\false=qZ F G/\True;if decide (A.2.err=B)=true then if decide (A.1.kind=(8:Int))=true then if decide ((↑(List.length A.1.parts):Int)=(3:Int))=true then if(decide (C.2.err=(111:Int))&&(decide (C.2.pos=(9:Int))&&true))=true then if decide (D.2.err=B)=true then if decide (D.1.kind=(7:Int))=true then if decide (E=(2:Int))=true then(B<=H/\H<E)/\if decide ((List.getD D.1.parts (Int.toNat H) (dfl (Ty.st SN.term))).pos=(4:Int))=true then True/\decide ((G ([91,73,110,116]:Str)).2.err=(90:Int))=qZ F G/\True else I else I else I else I else I else I else I else I:=by
 conv=>zeta
 unfold qZ;simp only[Jx,Ii,Ij,Int.toNat_one];apply a6<;>intro h1
 ·rw[h1];apply a6<;>intro h2
  ·rw[h2];apply a6<;>intro h3
   ·have h3n:=Xo h3;rw[Xd (show _=3 by omega)];apply a6<;>intro h4
    ·rw[Hk,IP]at h4;rw[h4.1,h4.2];apply a6<;>intro h5
     ·rw[h5];apply a6<;>intro h6
      ·rw[h6];apply a6<;>intro h7
       ·have h7n:=Xo h7;rw[Xd (show _=2 by omega)];refine⟨by omega,a6 (fun h8=>?_) (fun h8=>?_)⟩
        ·rw[h8];simp
        ·rw[HV]at h8;rw[h8];simp
       ·rw[Xf (fun e=>h7 (Xd (by omega)))];simp
      ·rw[HV]at h6;rw[h6];simp
     ·rw[HV]at h5;rw[h5];simp
    ·rw[HV,IP,Jv]at h4;rcases h4 with h4|h4<;>rw[h4]<;>simp
   ·rw[Xf (fun e=>h3 (Xd (by omega)))];simp
  ·rw[HV]at h2;rw[h2];simp
 ·rw[HV]at h1;rw[h1];simp
end Go.AL.Seat
end
section
open Go Go.AL Go.Proofs Go.Shelf Go.Pd
namespace Go.AL.Seat
open Go.Proofs.Tryz
variable [Tabs]
variable [SeatLaid]
theorem Cc:az prog 11:=ee func11
def Hg(G:Str->Trm×Flt):=p1 .str fun s=>.ret (.tup [.st .term (G s).1,.st .fault (G s).2])
theorem uB(F:Str->Shape×Flt)(G:Str->Trm×Flt) (hF:ah prog 18 (p1 .str fun s=>.ret (.tup [.st .shape (F s).1,.st .fault (F s).2])))(hG:ah prog 20 (Hg G)):ay prog 11 [] [] (.ret (.bool (qZ F G))):=
 g0 (sc (hF) (sc (hG) sn)) a0 func11 (Cb F G)
theorem zl:ah prog 11 (p0 (.ret (.bool true))):=GW Cc (zk ▸ uB nQ dp uv nj)
end Go.AL.Seat
end
section
namespace Go.Pd
open Go.AL
def gO(l:List Tokn)(p:Int):Bool:=l.any fun k=>decide (k.pos=p)&&!decide (k.kind=0)
mutual
def standT(l:List Tokn)(fr:Int):Trm->Bool
 |⟨_,_,_,_,_,_,_,ps,pp⟩=>gO l pp&&!decide (pp<fr)&&standTL l pp ps
def standTL(l:List Tokn)(fr:Int):List Trm->Bool
 |[]=>true
 |p::r=>standT l fr p&&standTL l fr r
end
theorem oF(l:List Tokn)(p:Int):∀r:List Trm,standTL l p r=r.all (standT l p)
 |[]=>rfl
 |a::r=>by rw[HZ,<-oF l p r];rw[standTL]
theorem nV(l:List Tokn)(t:Trm)(fr:Int):standT l fr t=((gO l t.pos&&!decide (t.pos<fr))&&standTL l t.pos t.parts):=by cases t;rw[standT]
def ec(l:List Tokn):Prop:=∀i j:Nat,i<=j->j<l.length->(l.getD i (dfl (.st .token))).pos<=(l.getD j (dfl (.st .token))).pos
theorem nq{l:List Tokn}{t:Trm}{p q:Int}(h:standT l p t=true)(hq:q<=p):standT l q t=true:=by rw[nV]at h⊢;simp only[Hk,HB,HI]at h⊢;exact⟨⟨h.1.1,by omega⟩,h.2⟩
theorem Eo{l:List Tokn}(hs:ec l){a b:Int}(h0:0<=a)(hab:a<=b)(hb:b<=(l.length:Int)):(cK l a).pos<=(cK l b).pos:=by
 unfold cK;by_cases h:b<(l.length:Int)
 ·rw[Hj h,Hj (by omega)];exact hs _ _ (by omega) (by omega)
 ·rw[Hh h];by_cases h2:a<(l.length:Int)
  ·rw[Hj h2,Hh (by omega)];exact hs _ _ (by omega) (by omega)
  ·rw[Hh h2];exact Iv _
theorem Goes.err{s s':Par}(h:Goes s s')(e:s'.err=0):s.err=0:=by
 by_cases k:s.err=0
 ·exact k
 ·have:=h.le;rw[tS k]at this;have:=bA e;omega
theorem Goes.peek{s s':Par}(hs:ec s.toks)(hi:a8 s)(h:Goes s s')(e:s'.err=0):(ai s).pos<=(ai s').pos:=by have e0:=h.err e;have h1:=h.le;obtain⟨i0,i1,_⟩:=hi;obtain⟨j0,j1,_⟩:=h.good;rw[h.toks]at j1;simp only[rem,e,e0,Ia,h.toks]at h1;unfold ai;rw[h.toks];exact Eo hs i0 (by omega) j1
theorem wQ{l:List Tokn}{a:Int}(h0:0<=a)(h:¬(cK l a).kind=0):gO l (cK l a).pos=true:=by have hl:=fC h;unfold gO;rw[List.any_eq_true];refine⟨cK l a,?_,by simp[h]⟩;unfold cK;rw[Hj hl];exact cY l _ _ (by omega)
section
variable {l:List Tokn}
def PP(l:List Tokn)(p:Int)(t:Trm):Prop:=t.pos=p/\∀x∈t.parts,standT l p x=true
theorem PP.stand{p:Int}{t:Trm}(h:PP l p t)(hp:gO l p=true):standT l p t=true:=by rw[nV,h.1,hp,oF];simp only[Int.lt_irrefl,IX,IV,IP,HR,HE];exact h.2
def k6(l:List Tokn)(n:Nat)(R:Par->Trm×Par):Prop:=∀s,s.toks=l->a8 s->rem s<n->(R s).2.err=0->standT l (ai s).pos (R s).1=true
def nW(l:List Tokn)(n:Nat)(p:Int)(one:Trm->Par->Trm×Par):Prop:=
 ∀x s,s.toks=l->a8 s->s.err=0->rem s<=n->p<=(ai s).pos->(one x s).2.err=0->PP l p x->PP l p (one x s).1
theorem PP.add{p:Int}{t u:Trm}(h:PP l p t)(hu:standT l p u=true):PP l p (aM t u):=by
 refine⟨h.1,fun x hx=>?_⟩;rcases HX.1 (show x∈t.parts++[u]from hx)with k|k
 ·exact h.2 x k
 ·rw[HM.1 k];exact hu
theorem r8{n:Nat}{p:Int}{R:Par->Trm×Par}(h:k6 l (n+1) R):nW l n p (ax R):=fun x s hs hi _ hn hp he hx=>
 hx.add (nq (h s hs hi (by omega) he) hp)
theorem ra{n:Nat}{p:Int}{one:Trm->Par->Trm×Par}(hl:ec l)(hr:dn one n)(h:nW l n p one)(btw en:Str):∀(k:Nat)(x:Trm)(s:Par),s.toks=l->a8 s->rem s<=n->rem s<k+1->p<=(ai s).pos->
  (aX btw en one k x s).2.err=0->PP l p x->PP l p (aX btw en one k x s).1
 |0,x,s,_,_,_,_,_,_,hx=>hx
 |k+1,x,s,hs,hi,hn,hk,hp,he,hx=>by
  simp only[aX]at he⊢;by_cases b:aQ s=true
  ·rw[Hj b];exact hx
  rw[Hh b]at he⊢;have h0:s.err=0:=bf.1 (by simpa using b);obtain⟨g,e⟩:=hr x s hi h0 hn;by_cases c:isF en (one x s).2=true
  ·rw[Hj c]at he⊢;exact h x s hs hi h0 hn hp he hx
  rw[Hh c]at he⊢;have gm:=g.trans (ba (t:=btw) g.good);have gl:=ib hr btw en k (one x s).1 (ak btw (one x s).2) gm.good (I2 gm.le hn);have em:=gl.err he;have eo:=(ba (t:=btw) g.good).err em;have gp:=Goes.peek (by rw[hs];exact hl) hi gm em
  exact ra hl hr h btw en k _ _ (gm.toks.trans hs) gm.good (I2 gm.le hn) (by
   have:=e.then (ba (t:=btw) g.good);have:=bA h0;have:=bA em;rcases e.then (ba (t:=btw) g.good)with q|q<;>omega) (by omega) he (h x s hs hi h0 hn hp eo hx)
theorem iF{n:Nat}{p:Int}{one:Trm->Par->Trm×Par}(hl:ec l)(hr:dn one n)(h:nW l n p one)(btw en:Str){x:Trm}{s:Par}(hs:s.toks=l)(hi:a8 s)(hn:rem s<=n)(hp:p<=(ai s).pos)
 (he:(ab btw en one x s).2.err=0)(hx:PP l p x):PP l p (ab btw en one x s).1:=by
 unfold ab at he⊢;by_cases c:isF en s=true
 ·rw[Hj c];exact hx
 rw[Hh c]at he⊢;refine ra hl hr h btw en _ x s hs hi hn ?_ hp he hx;obtain⟨i0,i1,_⟩:=hi;unfold rem;split<;>omega
theorem nX{p:Int}{a:Str}{t:Trm}{s:Par}(h:PP l p t):PP l p (dF a t s).1:=h
theorem Cd{n:Nat}{p:Int}:nW l n p aB:=fun _ _ _ _ _ _ _ _ hx=>hx
theorem Ce{n:Nat}{p:Int}{R:Par->Trm×Par}(hl:ec l)(hR:cP R n)(h:k6 l n R):nW l n p (an R):=fun x s hs hi h0 hn hp he hx=>by
 have m1:=bN (ns:=x.names) hi;have m2:=m1.then (ae (t:=[40]) m1.good);have m3:=m2.then (aO (k:=1) m2.good (by decide));have m4:=m3.then (cO (a:=[58]) (t:=bY (aY x (aJ x.names s).1) (aE 1 (ak [40] (aJ x.names s).2)).1.text) m3.good);have m5:=m4.then (ae (t:=[41]) m4.good);have m6:=m5.then (ae (t:=[45,62]) m5.good);have m7:=hR.moves m6.good (m6.lt hn h0);have e6:=m7.goes.err he
 exact PP.add (t:=(dF [58] (bY (aY x (aJ x.names s).1) (aE 1 (ak [40] (aJ x.names s).2)).1.text) (aE 1 (ak [40] (aJ x.names s).2)).2).1) hx
  (nq (h _ (m6.goes.toks.trans hs) m6.good (m6.lt hn h0) he) (IZ hp (m6.goes.peek (by rw[hs];exact hl) hi e6)))
theorem wR{n:Nat}{p:Int}{R:Par->Trm×Par}(hl:ec l)(hR:cP R n)(h:k6 l n R):nW l n p (aj R):=fun x s hs hi h0 hn hp he hx=>by
 have m1:=bN (ns:=x.names) hi;have m2:=m1.then (ae (t:=[61]) m1.good);have m3:=hR.moves m2.good (m2.lt hn h0);have e2:=m3.goes.err he
 exact PP.add (t:=aY x (aJ x.names s).1) hx
  (nq (h _ (m2.goes.toks.trans hs) m2.good (m2.lt hn h0) he) (IZ hp (m2.goes.peek (by rw[hs];exact hl) hi e2)))
theorem du{p k x:Int}{a b:Str}{ns vs:List Str}{ss:List Shape}:PP l p ⟨k,a,b,x,ns,vs,ss,[],p⟩:=⟨rfl,fun x hx=>by cases hx⟩
theorem nY{p k x:Int}{a b:Str}{ns vs:List Str}{ss:List Shape}{u:Trm}(h:standT l p u=true):PP l p ⟨k,a,b,x,ns,vs,ss,[u],p⟩:=⟨rfl,fun y hy=>by rw[HM.1 hy];exact h⟩
theorem cU{n:Nat}{R:Par->Trm×Par}(hl:ec l)(hR:cP R n)(h:k6 l n R){s s':Par}(hs:s.toks=l)(hi:a8 s)(g:Goes s s')(hn:rem s'<n)(he:(R s').2.err=0):standT l (ai s).pos (R s').1=true:=
 nq (h s' (g.toks.trans hs) g.good hn he) (g.peek (by rw[hs];exact hl) hi ((hR s' g.good hn).1.err he))
theorem wS{n:Nat}{R:Par->Trm×Par}(hl:ec l)(hR:cP R n)(h:k6 l n R){s s':Par}(hs:s.toks=l)(hi:a8 s)(g:Goes s s')(hn:rem s'<n)(he:(bP R s').2.err=0) :
  ∀x∈(bP R s').1,standT l (ai s).pos x=true:=by
 have m1:=ae (t:=[40]) g.good;have m2:=hR.moves m1.good (JN m1.goes.le hn);have e2:=(ae (t:=[41]) m2.good).goes.err he;intro x hx;rw[HM.1 (show x∈[(R (ak [40] s')).1]from hx)];exact cU hl hR h hs hi (g.trans m1.goes) (JN m1.goes.le hn) e2
theorem iY{s:Par}(h:¬aQ s=true):s.err=0:=bf.1 (by simpa using h)
theorem dV{e a:Int}{s:Par}(he:¬e=0):¬(cC e a s).err=0:=by
 unfold cC;split
 ·exact he
 ·rename_i h;exact h
def kT(l:List Tokn)(p:Int)(q:Trm×Par):Prop:=q.2.err=0->standT l p q.1=true
theorem bM{p:Int}{c:Prop}[Decidable c]{q r:Trm×Par}(h1:c->kT l p q)(h2:¬c->kT l p r):kT l p (if c then q else r):=by
 split
 ·rename_i h;exact h1 h
 ·rename_i h;exact h2 h
theorem lV{t:Str}{s:Par}(hs:s.toks=l)(hi:a8 s)(h:isF t s=true):gO l (ai s).pos=true:=by have:=wQ hi.1 (qj h);rw[hs]at this;unfold ai;rw[hs];exact this
theorem pd{s:Par}(hs:s.toks=l)(hi:a8 s)(h:¬(ai s).kind=0):gO l (ai s).pos=true:=by have:=wQ hi.1 h;rw[hs]at this;unfold ai;rw[hs];exact this
theorem zm{n:Nat}{R:Par->Trm×Par}(hl:ec l)(hR:cP R n)(h:k6 l n R){s:Par}(hs:s.toks=l)(hi:a8 s)(hn:rem s<n+1):kT l (ai s).pos (cr R s):=by
 unfold cr;refine bM (fun b e=>absurd e (b7.1 b)) (fun b=>?_);have h0:=iY b;refine bM (fun c _=>du.stand (pd hs hi (by rw[c];decide))) (fun _=>?_);refine bM (fun c _=>du.stand (pd hs hi (by rw[c];decide))) (fun _=>?_);refine bM (fun c=>?_) (fun _=>?_)
 ·have k:=pd hs hi (by rw[c];decide);exact bM (fun _ _=>du.stand k) (fun _ _=>du.stand k)
 refine bM (fun c _=>du.stand (lV hs hi c)) (fun _=>?_);refine bM (fun c _=>du.stand (lV hs hi c)) (fun _=>?_);refine bM (fun c=>?_) (fun _=>?_)
 ·have k:=lV hs hi c;have m:=aC hi c;have r:=aG hi c;have m2:=hR.moves m.good (by omega);refine bM (fun d e=>?_) (fun d e=>?_)
  ·have m3:=aC m2.good d;have m4:=dK m3.good;have e1:=m3.goes.err (m4.goes.err ((ae (t:=[41]) m4.good).goes.err e));exact(nY (cU hl hR h hs hi m.goes (by omega) e1)).stand k
  ·have e1:=(ae (t:=[41]) m2.good).goes.err e;exact cU hl hR h hs hi m.goes (by omega) e1
 refine bM (fun c e=>?_) (fun _=>?_)
 ·have k:=lV hs hi c;have m:=aC hi c;have r:=aG hi c;have gl:=aI (fm hR) [44] [125] (⟨8,[],[],0,[],[],[],[],(ai s).pos⟩:Trm) m.good (by omega);exact(iF hl (fm hR) (wR hl hR h) [44] [125] (m.goes.toks.trans hs) m.good (by omega) (m.goes.peek (by rw[hs];exact hl) hi (gl.err e)) e du).stand k
 have inn:∀(k:Int)(hk:¬k=0)(q:Int)(t:Str),isF t s=true->kT l (ai s).pos ((⟨q,[],(aE k (au s)).1.text,0,[],[],[],(bP R (aE k (au s)).2).1,(ai s).pos⟩:Trm),(bP R (aE k (au s)).2).2):=fun k hk q t c e=>by have m:=aC hi c;have r:=aG hi c;have m2:=m.then (aO (k:=k) m.good hk);have hle:=(aO (k:=k) m.good hk).goes.le;exact PP.stand (p:=(ai s).pos) ⟨rfl,wS hl hR h hs hi m2.goes (by omega) e⟩ (lV hs hi c)
 refine bM (fun c=>inn 1 (by decide) 10 _ c) (fun _=>?_);refine bM (fun c=>inn 2 (by decide) 16 _ c) (fun _=>?_);refine bM (fun c=>inn 2 (by decide) 17 _ c) (fun _=>?_);exact fun e=>absurd e (dV (by decide))
theorem my{n:Nat}{R:Par->Trm×Par}(hl:ec l)(hR:cP R n)(h:k6 l n R){p:Int}(hk:gO l p=true):∀(k:Nat)(t:Trm)(s:Par),s.toks=l->a8 s->rem s<n+1->p<=(ai s).pos->standT l p t=true->
  kT l p (dJ R p k t s)
 |0,t,s,_,_,_,_,ht=>fun _=>ht
 |k+1,t,s,hs,hi,hn,hp,ht=>by
  rw[dJ];refine bM (fun _ _=>ht) (fun b=>?_);refine bM (fun c e=>?_) (fun _=>?_)
  ·have m:=aC hi c;have r:=aG hi c;have hq:=bA (ct c).2;obtain⟨j,rfl⟩:∃j,n=j+1:=⟨n-1,by omega⟩;have g:=aI (bC hR) [44] [41] (⟨7,[],[],0,[],[],[],[t],p⟩:Trm) m.good (by omega);have gp:=dt hR p k (ab [44] [41] (ax R) (⟨7,[],[],0,[],[],[],[t],p⟩:Trm) (au s)).1 _ g.good (by have:=g.le;omega);have eg:=gp.err e;have ps:ec s.toks:=by rw[hs];exact hl
   have hm:=m.goes.peek ps hi (g.err eg);have hg:=(m.goes.trans g).peek ps hi eg;have hpp:=iF hl (bC hR) (r8 h) [44] [41] (m.goes.toks.trans hs) m.good (by omega) (IZ hp hm) eg (nY (k:=7) (x:=0) (a:=[]) (b:=[]) (ns:=[]) (vs:=[]) (ss:=[]) ht);exact my hl hR h hk k _ _ ((m.goes.trans g).toks.trans hs) g.good (by have:=g.le;omega) (IZ hp hg) (hpp.stand hk) e
  refine bM (fun c e=>?_) (fun _ _=>ht);have m:=aC hi c;have m2:=m.then (aO (k:=1) m.good (by decide));have gp:=dt hR p k (⟨9,[],(aE 1 (au s)).1.text,0,[],[],[],[t],p⟩:Trm) _ m2.good (by have:=m2.goes.le;omega);have eg:=gp.err e;have hg:=m2.goes.peek (by rw[hs];exact hl) hi eg;exact my hl hR h hk k _ _ (m2.goes.toks.trans hs) m2.good (by have:=m2.goes.le;omega) (IZ hp hg) ((nY ht).stand hk) e
theorem wT{n:Nat}{R:Par->Trm×Par}(hl:ec l)(hR:cP R n)(h:k6 l n R){s:Par}(hs:s.toks=l)(hi:a8 s)(hn:rem s<n+1):kT l (ai s).pos (dT R s):=by
 intro e;have m:=fa hR hi hn;have gp:=dt hR (ai s).pos (s.toks.length+2) (cr R s).1 _ m.good (by have:=m.goes.le;omega);have ea:=gp.err e;have e0:=m.goes.err ea;have ta:=zm hl hR h hs hi hn ea;have hg:=m.goes.peek (by rw[hs];exact hl) hi ea
 have hk:gO l (ai s).pos=true:=pd hs hi (fun hk=>by
  have h1:=fa hR hi hn;have h2:=h1.goes.cap s.pos (by exact hk) (Iv _);have h3:=h1.eats;obtain⟨i0,i1,_⟩:=h1.good;obtain⟨j0,j1,_⟩:=hi;rw[h1.goes.toks]at i1;simp only[j7,rem,ea,e0,Ia,h1.goes.toks]at h3;omega)
 exact my hl hR h hk _ _ _ (m.goes.toks.trans hs) m.good (by have:=m.goes.le;omega) hg ta e
theorem rf(hl:ec l):∀n,k6 l n (a7 n)
 |0=>fun s _ _ h=>absurd h (It _)
 |n+1=>fun s hs hi hn=>by
  have hR:=cD n;have h:=rf hl n;have ps:ec s.toks:=by rw[hs];exact hl
  have e2:∀{s':Par} {t:Trm} {a:Str},a8 s'->(dF a t s').2.err=0->s'.err=0:=fun i e=>(cO i).goes.err e;show kT l (ai s).pos (gw (a7 n) s);unfold gw;refine bM (fun c e=>?_) (fun _=>?_)
  ·have k:=lV hs hi c;have m:=aC hi c;have r:=aG hi c;have m2:=m.then (ae (t:=[40]) m.good);have l1:=(ae (t:=[40]) m.good).goes.le;have g:=aI (dW n) [44] [41] (⟨6,[],[],0,[],[],[],[],(ai s).pos⟩:Trm) m2.good (by omega);have l2:=g.le;have m3:=ae (t:=[45,62]) g.good;have l3:=m3.goes.le;have m4:=hR.moves m3.good (by omega);have e3:=m4.goes.err e;have e4:=m3.goes.err e3;have hm:=m2.goes.peek ps hi (g.err e4);have hpp:=iF hl (dW n) Cd [44] [41] (m2.goes.toks.trans hs) m2.good (by omega) hm e4 (du (k:=6) (x:=0) (a:=[]) (b:=[]) (ns:=[]) (vs:=[]) (ss:=[]));exact(hpp.add (cU hl hR h hs hi ((m2.goes.trans g).trans m3.goes) (by omega) e)).stand k
  refine bM (fun c e=>?_) (fun _=>?_)
  ·have k:=lV hs hi c;have m:=aC hi c;have r:=aG hi c;have a:=aO (k:=1) m.good (by decide);have b:=m.then (a.then (ae (t:=[61]) a.good));have lb:=(a.then (ae (t:=[61]) a.good)).goes.le;have p1:=hR.moves b.good (by omega);have q:=p1.then (ae (t:=[105,110]) p1.good);have lq:=q.goes.le;have p2:=hR.moves q.good (by omega);have eq:=p2.goes.err e;have e1:=(ae (t:=[105,110]) p1.good).goes.err eq;exact((du.add (cU hl hR h hs hi b.goes (by omega) e1)).add (cU hl hR h hs hi (b.then q).goes (by omega) e)).stand k
  refine bM (fun c e=>?_) (fun _=>?_)
  ·have k:=lV hs hi c;have m:=aC hi c;have r:=aG hi c;have p1:=hR.moves m.good (by omega);have b:=p1.then (ae (t:=[116,104,101,110]) p1.good);have lb:=b.goes.le;have p2:=hR.moves b.good (by omega);have d:=p2.then (ae (t:=[101,108,115,101]) p2.good);have ld:=d.goes.le;have p3:=hR.moves d.good (by omega);have e3:=e2 p3.good e;have ed:=p3.goes.err e3;have e2':=(ae (t:=[101,108,115,101]) p2.good).goes.err ed;have eb:=p2.goes.err e2';have e1:=(ae (t:=[116,104,101,110]) p1.good).goes.err eb;exact(nX (((du.add (cU hl hR h hs hi m.goes (by omega) e1)).add (cU hl hR h hs hi (m.then b).goes (by omega) e2')).add (cU hl hR h hs hi ((m.then b).then d).goes (by omega) e3))).stand k
  refine bM (fun c e=>?_) (fun _=>?_)
  ·have k:=lV hs hi c;have m:=aC hi c;have r:=aG hi c;have p1:=hR.moves m.good (by omega);have b:=p1.then (ae (t:=[111,102]) p1.good);have d:=b.then (ae (t:=[123]) b.good);have ld:=d.goes.le;have g:=aI (eI hR) [124] [125] (ax (a7 n) ⟨13,[],[],0,[],[],[],[],(ai s).pos⟩ (au s)).1 d.good (by omega);have eg:=e2 g.good e;have ed:=g.err eg;have e1:=(ae (t:=[111,102]) p1.good).goes.err ((ae (t:=[123]) b.good).goes.err ed);have hm:=(m.then d).goes.peek ps hi ed;have hp1:PP l (ai s).pos (ax (a7 n) ⟨13,[],[],0,[],[],[],[],(ai s).pos⟩ (au s)).1:=du.add (cU hl hR h hs hi m.goes (by omega) e1);exact(nX (iF hl (eI hR) (Ce hl hR h) [124] [125] ((m.then d).goes.toks.trans hs) d.good (by omega) hm eg hp1)).stand k
  refine bM (fun c e=>?_) (fun _=>wT hl hR h hs hi hn);have k:=lV hs hi c;have m:=aC hi c;have r:=aG hi c;have hp:=bA (ct c).2;obtain⟨j,rfl⟩:∃j,n=j+1:=⟨n-1,by omega⟩;have g:=aI (bC hR) [44] [93] (⟨11,[],[],0,[],[],[],[],(ai s).pos⟩:Trm) m.good (by omega);have eg:=e2 g.good e;have hm:=m.goes.peek ps hi (g.err eg);exact(nX (iF hl (bC hR) (r8 h) [44] [93] (m.goes.toks.trans hs) m.good (by omega) hm eg du)).stand k
end
def zo(l:List Tokn)(a:Int):Prop:=ec l/\∀t∈l,t.pos<=a
theorem zo.add{l:List Tokn}{a:Int}{t:Tokn}(h:zo l a)(ht:a<=t.pos):zo (l++[t]) t.pos:=by
 have hl:(l++[t]).length=l.length+1:=by simp
 have gl:∀i:Nat,i<l.length->(l++[t]).getD i (dfl (.st .token))=l.getD i (dfl (.st .token)):=fun i hi=>by rw[Hl,Hr hi,<-Hl]
 have ge:(l++[t]).getD l.length (dfl (.st .token))=t:=by simp[Hl]
 refine⟨fun i j hij hj=>?_,fun x hx=>?_⟩
 ·by_cases c:j<l.length
  ·rw[gl i (by omega),gl j c];exact h.1 i j hij c
  ·have ej:j=l.length:=by omega
   subst ej;rw[ge];by_cases d:i<l.length
   ·rw[gl i d];exact IZ (h.2 _ (cY l i _ d)) ht
   ·rw[show i=l.length by omega,ge];exact Iv _
 ·rcases HX.1 hx with k|k
  ·exact IZ (h.2 x k) ht
  ·rw[HM.1 k];exact Iv _
theorem zo.le{l:List Tokn}{a b:Int}(h:zo l a)(hab:a<=b):zo l b:=⟨h.1,fun t ht=>IZ (h.2 t ht) hab⟩
theorem gP(s:Str):∀(n:Nat)(c:SC),0<=c.pos->c.pos<=(s.length:Int)->(s.length:Int)<c.pos+(n:Int)->zo c.out c.pos->(cM s n c).2.err=0->ec (cM s n c).1
 |0,c,h0,h1,h2,_,_=>by omega
 |n+1,c,h0,h1,h2,ho,h=>by
  rw[cM]at h⊢;by_cases a:c.pos=(s.length:Int)
  ·rw[Hj a];exact(ho.add (t:=⟨0,[],(s.length:Int)⟩) (by show c.pos<=(s.length:Int);omega)).1
  rw[Hh a]at h⊢;have hlt:c.pos<(s.length:Int):=by omega
  by_cases b:iB (bAt s c.pos)=true
  ·rw[Hj b]at h⊢;exact gP s n _ (by show 0<=c.pos+1;omega) (by show c.pos+1<=_;omega) (by show _<c.pos+1+(n:Int);omega) (ho.le (by show c.pos<=c.pos+1;omega)) h
  rw[Hh b]at h⊢;by_cases d:bAt s c.pos=45/\bAt s (c.pos+1)=45
  ·rw[Hj d]at h⊢;have hw:=cG (pr:=ca) h0 h1;have hh:=cE (pr:=ca) h0 hlt (by rw[<-eA hlt,d.1];rfl)
   cases hb:bS (cut s c.pos (c.pos+(ao ca s c.pos:Int)))with|some k=>rw[hb]at h;exact absurd (show(30:Int)=0 from h) (by decide)|none=>rw[hb]at h;exact gP s n _ (by show 0<=c.pos+_;omega) hw (by show _<c.pos+_+(n:Int);omega) (ho.le (by show c.pos<=c.pos+(ao ca s c.pos:Int);omega)) h
  rw[Hh d]at h⊢;by_cases e:(aK s c).1=true
  ·rw[Hj e]at h⊢;obtain⟨t1,t2,t3⟩:=eJ h0 hlt e;obtain⟨t,g1,_,g3⟩:=oD h0 hlt e;refine gP s n _ (by omega) t2 (by omega) ?_ h;rw[g1];exact(ho.add (t:=t) (by omega)).le (by omega)
  ·rw[Hh e]at h
   exact absurd h (by
    have:(aK s c).1=false:=by simpa using e
    exact jY h0 hlt this)
theorem uC{s:Str}(h:(aU s).2.err=0):ec (aU s).1:=by
 unfold aU at h⊢;split at h
 ·exact absurd h (by decide)
 ·rename_i x;rw[Hh x];exact gP s (s.length+2) ⟨0,[],0,0⟩ (by show(0:Int)<=0;omega) (by show(0:Int)<=_;omega) (by show _<(0:Int)+((s.length+2:Nat):Int);omega) ⟨fun i j _ hj=>absurd hj (It _),fun t ht=>by cases ht⟩ h
theorem zq{l:List Tokn}{t:Trm}{p:Int}(h:standT l p t=true):standT l t.pos t=true:=by rw[nV]at h⊢;simp only[Hk,Int.lt_irrefl,IX,IV]at h⊢;exact⟨⟨h.1.1,trivial⟩,h.2⟩
theorem rW{l:List Tokn}(hN:ml l)(hl:ec l)(h:(b5 l 0).2.2.err=0):standT l (b5 l 0).1.pos (b5 l 0).1=true:=by
 unfold b5 at h⊢;by_cases b:aQ (b9 l 0)=true
 ·rw[Hj b]at h;exact absurd h (b7.1 b)
 rw[Hh b]at h⊢;have b':aQ (b9 l 0)=false:=by simpa using b
 have g:=fU hN b';obtain⟨e1,e2⟩:=lB b'
 have key:∀q:Trm×Par,q.1=(a7 5000 (b9 l 0)).1->(q.2.err=0->(a7 5000 (b9 l 0)).2.err=0)->(iJ lR q).2.2.err=0->standT l (iJ lR q).1.pos (iJ lR q).1=true:=by
  intro q h1 h2 h3;unfold iJ at h3⊢;by_cases c:aQ q.2=true
  ·rw[Hj c]at h3;exact absurd h3 (b7.1 c)
  rw[Hh c,h1];exact zq (rf hl 5000 _ e1 g (by have:=j8 g;omega) (h2 (iY c)))
 unfold sD at h⊢;refine key _ ?_ ?_ h
 ·split
  ·rfl
  split<;>rfl
 ·intro e;split at e
  ·exact e
  split at e
  ·unfold cC at e;split at e
   ·assumption
   ·exact e
  ·exact e
theorem lW{s:Str}(h:(dp s).2.err=0):(aU s).2.err=0/\standT (aU s).1 (dp s).1.pos (dp s).1=true:=by
 unfold dp nh at h⊢;by_cases a:(aU s).2.err=0
 ·rw[Hj a]at h⊢;refine⟨a,?_⟩;by_cases b:(b5 (aU s).1 0).2.2.err=0
  ·rw[Hj b]at h⊢;by_cases c:(cR (aU s).1 (b5 (aU s).1 0).2.1).err=0
   ·rw[Hj c];exact rW (iE a) (uC a) b
   ·rw[Hh c]at h;exact absurd h c
  ·rw[Hh b]at h;exact absurd h b
 ·rw[Hh a]at h;exact absurd h a
end Go.Pd
end
section
namespace Go.Pd
open Go.AL
structure TokQ(t:Tokn):Prop where
 name:t.kind=1->aW t.text=true
 upper:t.kind=2->dM t.text=true
 num:t.kind=3->js t.text
 quot:t.kind=4->eB t.text=true
 pos:0<=t.pos
def nr(l:List Tokn):Prop:=∀t∈l,TokQ t
theorem nr.look{l:List Tokn}(h:nr l)(a:Int):TokQ (cK l a):=by
 have d:∀p:Int,0<=p->TokQ ⟨0,[],p⟩:=fun p hp=>⟨fun e=>absurd e (by show ¬(0:Int)=1;decide),fun e=>absurd e (by show ¬(0:Int)=2;decide),fun e=>absurd e (by show ¬(0:Int)=3;decide),fun e=>absurd e (by show ¬(0:Int)=4;decide),hp⟩
 have g:∀a:Int,TokQ (l.getD a.toNat (dfl (.st .token))):=fun a=>by
  by_cases c:a.toNat<l.length
  ·exact h _ (cY l _ _ c)
  ·rw[Hl,Hn (by omega)];exact d 0 (Iv _)
 unfold cK;split
 ·exact g a
 ·split
  ·exact d 0 (Iv _)
  ·exact d _ (g _).pos
theorem sL{a:List Shape}{s:Shape}(h:allL bn a=true)(hs:allS bn s=true):allL bn (a++[s])=true:=by rw[jt]at h⊢;rw[J2,h,HZ,hs];rfl
theorem rh(p n:Str):allS bn (jS p n)=true:=by
 unfold jS
 repeat' split
 all_goals rfl
def GX(R:Par->Shape×Par):Prop:=∀s,allS bn (R s).1=true
theorem kU{s:Shape}:allS bn s=true↔¬s.kind=10/\allL bn s.parts=true:=by rw[lh,Hk];unfold bn;simp
theorem ri:∀n,GX (ag n)
 |0=>fun s=>rfl
 |n+1=>fun s=>by
  have ih:=ri n
  have nm:∀(btw en:Str)(k:Int)(s:Par),¬k=10->allS bn (ab btw en (aw (ag n)) ⟨k,[],[],[],[]⟩ s).1=true:=fun btw en k s hk=>
   ck (fun x:Shape=>allS bn x=true) (fun x s hx=>by
    rw[kU]at hx⊢;exact⟨hx.1,sL hx.2 (ih _)⟩) btw en s (kU.2 ⟨hk,rfl⟩)
  have pt:∀(x:Shape)(s:Par),allS bn x=true->allS bn (aA (ag n) x s).1=true:=fun x s hx=>by rw[kU]at hx⊢;exact⟨hx.1,sL hx.2 (ih _)⟩
  show allS bn (gA (ag n) s).1=true;unfold gA;simp only;split
  ·exact rh _ _
  split
  ·exact rh _ _
  split
  ·rw[kU];refine⟨by show ¬(5:Int)=10;decide,?_⟩;show(allS bn (ag n (au s)).1&&true)=true;rw[ih];rfl
  split
  ·exact nm _ _ 6 _ (by decide)
  split
  ·exact nm _ _ 7 _ (by decide)
  split
  ·exact pt _ _ (ck (fun x:Shape=>allS bn x=true) pt _ _ _ (kU.2 ⟨by show ¬(8:Int)=10;decide,rfl⟩))
  ·rfl
theorem oG{s:Par}(h:(bg s).2.err=0):bQ (bg s).1=true:=by
 have ho:=ri big s;unfold bg at h⊢;simp only at h⊢;unfold bQ;rw[ho];by_cases b:aQ (ag big s).2=true
 ·rw[Hj b]at h;exact absurd h (b7.1 b)
 rw[Hh b]at h;by_cases c:di (ag big s).1=0
 ·rw[Xd c];rfl
 ·rw[Hh c]at h;exact absurd h (dV c)
theorem Ai{k:Int}{s:Par}(h:(aE k s).2.err=0)(hs:s.err=0):(aE k s).1=ai s/\(ai s).kind=k:=by
 unfold aE at h⊢;by_cases c:(ai s).kind=k/\aQ s=false
 ·rw[Hj c];exact⟨rfl,c.1⟩
 ·rw[Hh c]at h;exact absurd h (dV (by decide))
section
variable {l:List Tokn}
theorem nt(hl:nr l){s:Par}(hs:s.toks=l):TokQ (ai s):=by unfold ai;rw[hs];exact hl.look _
theorem ic(hl:nr l){s:Par}(hs:s.toks=l)(h0:s.err=0)(h:(aE 1 s).2.err=0):aW (aE 1 s).1.text=true:=by obtain⟨e,k⟩:=Ai h h0;rw[e];exact(nt hl hs).name k
theorem rj(hl:nr l){s:Par}(hs:s.toks=l)(h0:s.err=0)(h:(aE 2 s).2.err=0):dM (aE 2 s).1.text=true:=by obtain⟨e,k⟩:=Ai h h0;rw[e];exact(nt hl hs).upper k
theorem mz{ns:List Str}{s:Par}(h:(aJ ns s).2.err=0):(aE 1 s).2.err=0/\¬(aE 1 s).1.text∈ns:=by
 unfold aJ at h;simp only at h;by_cases c:aQ (aE 1 s).2=false/\(aE 1 s).1.text∈ns
 ·rw[Hj c]at h;exact absurd h (dV (by decide))
 ·rw[Hh c]at h;exact⟨h,fun m=>c ⟨bf.2 h,m⟩⟩
theorem mA(hl:nr l){ns:List Str}{s:Par}(hs:s.toks=l)(h0:s.err=0)(h:(aJ ns s).2.err=0):aW (aJ ns s).1=true/\¬(aJ ns s).1∈ns:=
 ⟨ic hl hs h0 (mz h).1,(mz h).2⟩
theorem nZ{ns:List Str}{x:Str}(h:eM ns=true)(hx:aW x=true)(hn:¬x∈ns):eM (ns++[x])=true:=by unfold eM at h⊢;rw[Hk,Hq]at h⊢;refine⟨by rw[J2,h.1,HZ,hx];rfl,?_⟩;rw[List.nodup_append];exact⟨h.2,by simp,fun a ha b hb=>by rw[HM.1 hb];exact fun e=>hn (e ▸ ha)⟩
structure AccT(k:Int)(nm:Str)(t:Trm):Prop where
 kind:t.kind=k
 pkg:t.pkg=[]
 name:t.name=nm
 n:t.n=0
 pos:0<=t.pos
 shapes:t.shapes.all bQ=true
 parts:∀x∈t.parts,allT aV x=true
theorem AccT.head{k:Int}{nm:Str}{t:Trm}(h:AccT k nm t):jw t=true:=by unfold jw;rw[Xd h.pos,Xd h.n,Xd h.pkg,h.shapes];rfl
theorem AccT.fit{k:Int}{nm:Str}{t:Trm}(h:AccT k nm t)(hb:qE t=true):allT aV t=true:=by rw[iV,fV,Hk,HE];refine⟨?_,h.parts⟩;unfold aV;rw[h.head,hb];rfl
theorem AccT.addP{k:Int}{nm:Str}{t u:Trm}(h:AccT k nm t)(hu:allT aV u=true):AccT k nm (aM t u):=
 ⟨h.kind,h.pkg,h.name,h.n,h.pos,h.shapes,fun x hx=>by
  rcases HX.1 (show x∈t.parts++[u]from hx)with m|m
  ·exact h.parts x m
  ·rw[HM.1 m];exact hu⟩
theorem AccT.addS{k:Int}{nm:Str}{t:Trm}{s:Shape}(h:AccT k nm t)(hs:bQ s=true):AccT k nm (b4 t s):=
 ⟨h.kind,h.pkg,h.name,h.n,h.pos,by show(t.shapes++[s]).all bQ=true;rw[J2,h.shapes,HZ,hs];rfl,h.parts⟩
theorem AccT.addN{k:Int}{nm:Str}{t:Trm}{x:Str}(h:AccT k nm t):AccT k nm (aY t x):=⟨h.kind,h.pkg,h.name,h.n,h.pos,h.shapes,h.parts⟩
theorem AccT.addV{k:Int}{nm:Str}{t:Trm}{x:Str}(h:AccT k nm t):AccT k nm (bY t x):=⟨h.kind,h.pkg,h.name,h.n,h.pos,h.shapes,h.parts⟩
theorem lE{k p:Int}{nm:Str}{ns vs:List Str}(hp:0<=p):AccT k nm ⟨k,[],nm,0,ns,vs,[],[],p⟩:=⟨rfl,rfl,rfl,rfl,hp,rfl,fun x hx=>by cases hx⟩
theorem Aj{k p:Int}{nm:Str}{u:Trm}(hp:0<=p)(hu:allT aV u=true):AccT k nm ⟨k,[],nm,0,[],[],[],[u],p⟩:=⟨rfl,rfl,rfl,rfl,hp,rfl,fun x hx=>by rw[HM.1 hx];exact hu⟩
def Cf(l:List Tokn)(n:Nat)(R:Par->Trm×Par):Prop:=∀s,s.toks=l->a8 s->rem s<n->(R s).2.err=0->allT aV (R s).1=true
def sM(l:List Tokn)(n:Nat)(I:Trm->Prop)(one:Trm->Par->Trm×Par):Prop:=
 ∀x s,s.toks=l->a8 s->s.err=0->rem s<=n->(one x s).2.err=0->I x->I (one x s).1
theorem rk{n:Nat}{I:Trm->Prop}{one:Trm->Par->Trm×Par}(hr:dn one n)(h:sM l n I one)(btw en:Str):∀(k:Nat)(x:Trm)(s:Par),s.toks=l->a8 s->rem s<=n->
  (aX btw en one k x s).2.err=0->I x->I (aX btw en one k x s).1
 |0,x,s,_,_,_,_,hx=>hx
 |k+1,x,s,hs,hi,hn,he,hx=>by
  simp only[aX]at he⊢;by_cases b:aQ s=true
  ·rw[Hj b];exact hx
  rw[Hh b]at he⊢;have h0:=iY b;obtain⟨g,e⟩:=hr x s hi h0 hn;by_cases c:isF en (one x s).2=true
  ·rw[Hj c]at he⊢;exact h x s hs hi h0 hn he hx
  rw[Hh c]at he⊢;have gm:=g.trans (ba (t:=btw) g.good);have gl:=ib hr btw en k (one x s).1 (ak btw (one x s).2) gm.good (I2 gm.le hn);have eo:=(ba (t:=btw) g.good).err (gl.err he);exact rk hr h btw en k _ _ (gm.toks.trans hs) gm.good (I2 gm.le hn) he (h x s hs hi h0 hn eo hx)
theorem iG{n:Nat}{I:Trm->Prop}{one:Trm->Par->Trm×Par}(hr:dn one n)(h:sM l n I one)(btw en:Str){x:Trm}{s:Par}(hs:s.toks=l)(hi:a8 s)(hn:rem s<=n)
 (he:(ab btw en one x s).2.err=0)(hx:I x):I (ab btw en one x s).1:=by
 unfold ab at he⊢;by_cases c:isF en s=true
 ·rw[Hj c];exact hx
 rw[Hh c]at he⊢;exact rk hr h btw en _ x s hs hi hn he hx
theorem wU{n:Nat}{one:Trm->Par->Trm×Par}(hr:dn one n)(m:Trm->Nat)(hm:∀x s,m (one x s).1<=m x+1)(btw en:Str):∀(k:Nat)(x:Trm)(s:Par),a8 s->rem s<=n->
  m (aX btw en one k x s).1+rem (aX btw en one k x s).2<=m x+rem s
 |0,x,s,_,_=>Hu _
 |k+1,x,s,hi,hn=>by
  simp only[aX];by_cases b:aQ s=true
  ·rw[Hj b];exact Hu _
  rw[Hh b];have h0:=iY b;obtain⟨g,e⟩:=hr x s hi h0 hn;have hp:=bA h0;have h1:=hm x s;have hd:m (one x s).1+rem (one x s).2<=m x+rem s:=by rcases e with q|q<;>omega
  by_cases c:isF en (one x s).2=true
  ·rw[Hj c];have:=aG g.good c;show m (one x s).1+rem (au (one x s).2)<=_;omega
  rw[Hh c];have gm:=ba (t:=btw) g.good;have:=wU hr m hm btw en k (one x s).1 (ak btw (one x s).2) gm.good (I2 (g.trans gm).le hn);have:=gm.le;omega
theorem Ep{n:Nat}{one:Trm->Par->Trm×Par}(hr:dn one n)(m:Trm->Nat)(hm:∀x s,m (one x s).1<=m x+1)(btw en:Str){x:Trm}{s:Par}(hi:a8 s)(hn:rem s<=n) :
  m (ab btw en one x s).1+rem (ab btw en one x s).2<=m x+rem s:=by
 unfold ab;by_cases c:isF en s=true
 ·rw[Hj c];have:=aG hi c;show m x+rem (au s)<=_;omega
 rw[Hh c];exact wU hr m hm btw en _ x s hi hn
end
end Go.Pd
end
section
namespace Go.Pd
open Go.AL
section
variable {l:List Tokn}
theorem jB{a:Str}{t:Trm}{s:Par}(h:(dF a t s).2.err=0):bQ (bg (ak a s)).1=true:=oG h
theorem nu{s:Par}{t:Trm}{a:Str}(i:a8 s)(e:(dF a t s).2.err=0):s.err=0:=(cO i).goes.err e
def FunI(t:Trm):Prop:=AccT 6 [] t/\eM t.names=true/\t.vars=[]/\t.shapes.length=t.names.length/\t.parts=[]
def WayI(t:Trm):Prop:=AccT 13 [] t/\eM t.names=true/\t.vars.all aW=true/\t.vars.length=t.names.length/\t.shapes.length=t.names.length/\t.parts.length=t.names.length+1
def Er(t:Trm):Prop:=AccT 8 [] t/\eM t.names=true/\t.vars=[]/\t.shapes=[]/\t.parts.length=t.names.length
def Gb(k:Int)(t:Trm):Prop:=AccT k [] t/\t.names=[]/\t.vars=[]/\t.shapes=[]/\(k=7->0<t.parts.length)
theorem Cg(hl:nr l)(n:Nat):sM l n FunI aB:=fun x s hs hi h0 hn he hx=>by obtain⟨h1,h2,h3,h4,h5⟩:=hx;have m1:=bN (ns:=x.names) hi;have ef:=nu m1.good he;obtain⟨q1,q2⟩:=mA hl hs h0 ef;refine⟨(h1.addN).addS (jB he),nZ h2 q1 q2,h3,?_,h5⟩;show(x.shapes++[_]).length=(x.names++[_]).length;simp[h4]
theorem Ch(hl:nr l){n:Nat}{R:Par->Trm×Par}(hR:cP R n)(h:Cf l n R):sM l n WayI (an R):=fun x s hs hi h0 hn he hx=>by
 obtain⟨h1,h2,h3,h4,h5,h6⟩:=hx;have m1:=bN (ns:=x.names) hi;have m2:=m1.then (ae (t:=[40]) m1.good);have m3:=m2.then (aO (k:=1) m2.good (by decide));have m4:=m3.then (cO (a:=[58]) (t:=bY (aY x (aJ x.names s).1) (aE 1 (ak [40] (aJ x.names s).2)).1.text) m3.good);have m5:=m4.then (ae (t:=[41]) m4.good);have m6:=m5.then (ae (t:=[45,62]) m5.good);have m7:=hR.moves m6.good (m6.lt hn h0);have e6:=m7.goes.err he;have e5:=(ae (t:=[45,62]) m5.good).goes.err e6;have e4:=(ae (t:=[41]) m4.good).goes.err e5;have e3:=nu m3.good e4;have e2:=(aO (k:=1) m2.good (by decide)).goes.err e3;have e1:=(ae (t:=[40]) m1.good).goes.err e2;obtain⟨q1,q2⟩:=mA hl hs h0 e1;have q3:=ic hl (m2.goes.toks.trans hs) e2 e3;have q4:=jB e4;have q5:=h _ (m6.goes.toks.trans hs) m6.good (m6.lt hn h0) he;refine⟨(((h1.addN).addV).addS q4).addP q5,nZ h2 q1 q2,?_,?_,?_,?_⟩
 ·show(x.vars++[_]).all aW=true;rw[J2,h3,HZ,q3];rfl
 ·show(x.vars++[_]).length=(x.names++[_]).length;simp[h4]
 ·show(x.shapes++[_]).length=(x.names++[_]).length;simp[h5]
 ·show(x.parts++[_]).length=(x.names++[_]).length+1;simp[h6]
theorem wV(hl:nr l){n:Nat}{R:Par->Trm×Par}(hR:cP R n)(h:Cf l n R):sM l n Er (aj R):=fun x s hs hi h0 hn he hx=>by obtain⟨h1,h2,h3,h4,h5⟩:=hx;have m1:=bN (ns:=x.names) hi;have m2:=m1.then (ae (t:=[61]) m1.good);have m3:=hR.moves m2.good (m2.lt hn h0);have e2:=m3.goes.err he;have e1:=(ae (t:=[61]) m1.good).goes.err e2;obtain⟨q1,q2⟩:=mA hl hs h0 e1;have q5:=h _ (m2.goes.toks.trans hs) m2.good (m2.lt hn h0) he;refine⟨(h1.addN).addP q5,nZ h2 q1 q2,h3,h4,?_⟩;show(x.parts++[_]).length=(x.names++[_]).length;simp[h5]
theorem rn{n:Nat}{R:Par->Trm×Par}(h:Cf l (n+1) R)(k:Int):sM l n (Gb k) (ax R):=fun x s hs hi h0 hn he hx=>
 ⟨hx.1.addP (h s hs hi (by omega) he),hx.2.1,hx.2.2.1,hx.2.2.2.1,fun e=>by
  have:=hx.2.2.2.2 e;show 0<(x.parts++[_]).length;simp⟩
theorem nv{t:Trm}{n v s p:Nat}(h1:t.names.length=n)(h2:t.vars.length=v)(h3:t.shapes.length=s)(h4:t.parts.length=p):bJ t n v s p=true:=by unfold bJ;rw[Xd h1,Xd h2,Xd h3,Xd h4];rfl
def zr(q:Trm×Par):Prop:=q.2.err=0->allT aV q.1=true
theorem cX{c:Prop}[Decidable c]{q r:Trm×Par}(h1:c->zr q)(h2:¬c->zr r):zr (if c then q else r):=by
 split
 ·rename_i h;exact h1 h
 ·rename_i h;exact h2 h
theorem dP{t:Trm}{k:Int}(hk:t.kind=k):qE t=if k=1 then decide (t.name=[])&&decide (0<=t.n)&&decide (t.n<=999999999999999)&&bJ t 0 0 0 0
 else if k=2 then eB t.name&&bJ t 0 0 0 0
 else if k=3∨k=4 then decide (t.name=[])&&bJ t 0 0 0 0
 else if k=5 then aW t.name&&(decide (t.pkg=[])||aW t.pkg)&&bJ t 0 0 0 0
 else if k=6 then decide (t.name=[])&&decide (t.names.length<=4096)&&eM t.names&&bJ t t.names.length 0 t.names.length 1
 else if k=7 then decide (t.name=[])&&decide (0<t.parts.length)&&bJ t 0 0 0 t.parts.length
 else if k=8 then decide (t.name=[])&&eM t.names&&bJ t t.names.length 0 0 t.names.length
 else if k=9∨k=10 then aW t.name&&bJ t 0 0 0 1
 else if k=11 then decide (t.name=[])&&bJ t 0 0 1 t.parts.length
 else if k=12 then decide (t.name=[])&&bJ t 0 0 1 3
 else if k=13 then decide (t.name=[])&&eM t.names&&t.vars.all aW&&bJ t t.names.length t.names.length (t.names.length+1) (t.names.length+1)
 else if k=14 then aW t.name&&bJ t 0 0 0 2
 else if k=15 then decide (t.name=[])&&bJ t 0 0 1 1
 else if k=16∨k=17 then dM t.name&&bJ t 0 0 0 1
 else false:=by subst hk;rfl
theorem jC{k n p:Int}{g q:Str}(hp:0<=p)(hn:n=0∨k=1)(hg:g=[]∨k=5)(hb:qE ⟨k,g,q,n,[],[],[],[],p⟩=true):allT aV ⟨k,g,q,n,[],[],[],[],p⟩=true:=by
 rw[iV,Hk];refine⟨?_,rfl⟩;unfold aV;rw[hb,IP];unfold jw;rw[Xd hp];rcases hn with hn|hn<;>rcases hg with hg|hg
 ·simp[hn,hg]
 ·simp[hn,hg]
 ·simp[hn,hg]
 ·exact absurd (hn.symm.trans hg) (by decide)
theorem Es{t:Trm}(h:Gb 7 t):allT aV t=true:=by obtain⟨h1,h2,h3,h4,h5⟩:=h;refine h1.fit ?_;rw[dP h1.kind];show(decide (t.name=[])&&decide (0<t.parts.length)&&bJ t 0 0 0 t.parts.length)=true;rw[nv (t:=t) (by rw[h2];rfl) (by rw[h3];rfl) (by rw[h4];rfl) rfl,Xd h1.name,Xd (h5 rfl)];rfl
theorem FM{t:Trm}(h:Er t):allT aV t=true:=by obtain⟨h1,h2,h3,h4,h5⟩:=h;refine h1.fit ?_;rw[dP h1.kind];show(decide (t.name=[])&&eM t.names&&bJ t t.names.length 0 0 t.names.length)=true;rw[nv (t:=t) rfl (by rw[h3];rfl) (by rw[h4];rfl) h5,Xd h1.name,h2];rfl
theorem Ci{T:Trm}(h:WayI T){u:Shape}(hu:bQ u=true):allT aV (b4 T u)=true:=by obtain⟨f1,f2,f3,f4,f5,f6⟩:=h;refine(f1.addS hu).fit ?_;rw[dP (t:=b4 T u) (show(b4 T u).kind=13 from f1.kind)];have hr:bJ (b4 T u) T.names.length T.names.length (T.names.length+1) (T.names.length+1)=true:=nv rfl f4 (by show(T.shapes++[u]).length=_;simp[f5]) f6;show(decide (T.name=[])&&eM T.names&&T.vars.all aW&&bJ (b4 T u) T.names.length T.names.length (T.names.length+1) (T.names.length+1))=true;rw[hr,Xd f1.name,f2,f3];rfl
theorem sO{k p:Int}{q:Str}{u:Trm}(hp:0<=p)(hu:allT aV u=true)(hk:(k=9∨k=10)/\aW q=true∨(k=16∨k=17)/\dM q=true):allT aV ⟨k,[],q,0,[],[],[],[u],p⟩=true:=by refine(Aj (k:=k) (nm:=q) hp hu).fit ?_;rcases hk with⟨hk|hk,hq⟩|⟨hk|hk,hq⟩<;>subst hk<;>rw[dP rfl]<;>simp[hq,bJ]
theorem Et{n:Nat}(hl:nr l){R:Par->Trm×Par}(hR:cP R n)(h:Cf l n R){s:Par}(hs:s.toks=l)(hi:a8 s)(hn:rem s<n+1):zr (cr R s):=by
 have tk:=nt hl hs;have hp:=tk.pos;unfold cr;refine cX (fun b e=>absurd e (b7.1 b)) (fun b=>?_);have h0:=iY b;refine cX (fun c _=>?_) (fun _=>?_)
 ·obtain⟨_,a1,a2⟩:=Go.AL.atoi_num (tk.num c);refine jC hp (.inr rfl) (.inl rfl) ?_;rw[dP rfl];simp[bJ,a1,show iR (ai s).text<=999999999999999 by omega]
 refine cX (fun c _=>?_) (fun _=>?_)
 ·refine jC hp (.inl rfl) (.inl rfl) ?_;rw[dP rfl];simp[bJ,tk.quot c]
 refine cX (fun c=>?_) (fun _=>?_)
 ·have mk:=eZ hi (by decide) c (bf.2 h0);refine cX (fun d e=>?_) (fun d _=>?_)
  ·have m2:=aC mk.1.good d;have q:=ic hl ((mk.1.goes.trans m2.goes).toks.trans hs) ((aO (k:=1) m2.good (by decide)).goes.err e) e;refine jC hp (.inl rfl) (.inr rfl) ?_;rw[dP rfl];simp[bJ,q,tk.name c]
  ·refine jC hp (.inl rfl) (.inl rfl) ?_;rw[dP rfl];simp[bJ,tk.name c]
 refine cX (fun c _=>?_) (fun _=>?_)
 ·refine jC hp (.inl rfl) (.inl rfl) ?_;rw[dP rfl];simp[bJ]
 refine cX (fun c _=>?_) (fun _=>?_)
 ·refine jC hp (.inl rfl) (.inl rfl) ?_;rw[dP rfl];simp[bJ]
 refine cX (fun c=>?_) (fun _=>?_)
 ·have m:=aC hi c;have r:=aG hi c;have m2:=hR.moves m.good (by omega);have fu:(R (au s)).2.err=0->allT aV (R (au s)).1=true:=h _ (m.goes.toks.trans hs) m.good (by omega);refine cX (fun d e=>?_) (fun d e=>?_)
  ·have m3:=aC m2.good d;have m4:=dK m3.good;have e4:=(ae (t:=[41]) m4.good).goes.err e;have e1:=m3.goes.err (m4.goes.err e4);have ht:=oG e4;refine AccT.fit (k:=15) (nm:=[]) ⟨rfl,rfl,rfl,rfl,hp,by show(bQ _&&true)=true;rw[ht];rfl,fun x hx=>by rw[HM.1 hx];exact fu e1⟩ ?_;rw[dP rfl];simp[bJ]
  ·exact fu ((ae (t:=[41]) m2.good).goes.err e)
 refine cX (fun c e=>?_) (fun _=>?_)
 ·have m:=aC hi c;have r:=aG hi c;exact FM (iG (fm hR) (wV hl hR h) [44] [125] (m.goes.toks.trans hs) m.good (by omega) e ⟨lE hp,by rfl,rfl,rfl,rfl⟩)
 have inn:∀(k:Int)(hk:¬k=0)(q:Int)(t:Str),isF t s=true->(∀x:Str,(aE k (au s)).2.err=0->x=(aE k (au s)).1.text->(q=9∨q=10)/\aW x=true∨(q=16∨q=17)/\dM x=true)->
   zr ((⟨q,[],(aE k (au s)).1.text,0,[],[],[],(bP R (aE k (au s)).2).1,(ai s).pos⟩:Trm),(bP R (aE k (au s)).2).2):=fun k hk q t c hq e=>by
  have m:=aC hi c;have r:=aG hi c;have m1:=aO (k:=k) m.good hk;have m2:=m.then m1;have m3:=ae (t:=[40]) m2.good;have hle:=m1.goes.le;have hle3:=m3.goes.le;have m4:=hR.moves m3.good (by omega);have e4:=(ae (t:=[41]) m4.good).goes.err e;have e3:=m4.goes.err e4;have e2:=m3.goes.err e3;exact sO hp (h _ ((m2.goes.trans m3.goes).toks.trans hs) m3.good (by omega) e4) (hq _ e2 rfl)
 refine cX (fun c=>inn 1 (by decide) 10 _ c (fun x e ex=>.inl ⟨.inr rfl,by
  have m:=aC hi c;rw[ex];exact ic hl (m.goes.toks.trans hs) ((aO (k:=1) m.good (by decide)).goes.err e) e⟩)) (fun _=>?_)
 refine cX (fun c=>inn 2 (by decide) 16 _ c (fun x e ex=>.inr ⟨.inl rfl,by
  have m:=aC hi c;rw[ex];exact rj hl (m.goes.toks.trans hs) ((aO (k:=2) m.good (by decide)).goes.err e) e⟩)) (fun _=>?_)
 refine cX (fun c=>inn 2 (by decide) 17 _ c (fun x e ex=>.inr ⟨.inr rfl,by
  have m:=aC hi c;rw[ex];exact rj hl (m.goes.toks.trans hs) ((aO (k:=2) m.good (by decide)).goes.err e) e⟩)) (fun _=>?_)
 exact fun e=>absurd e (dV (by decide))
theorem rq{n:Nat}(hl:nr l){R:Par->Trm×Par}(hR:cP R n)(h:Cf l n R){p:Int}(hp:0<=p):∀(k:Nat)(t:Trm)(s:Par),s.toks=l->a8 s->rem s<n+1->allT aV t=true->zr (dJ R p k t s)
 |0,t,s,_,_,_,ht=>fun _=>ht
 |k+1,t,s,hs,hi,hn,ht=>by
  rw[dJ];refine cX (fun _ _=>ht) (fun b=>?_);refine cX (fun c e=>?_) (fun _=>?_)
  ·have m:=aC hi c;have r:=aG hi c;have hq:=bA (ct c).2;obtain⟨j,rfl⟩:∃j,n=j+1:=⟨n-1,by omega⟩;have g:=aI (bC hR) [44] [41] (⟨7,[],[],0,[],[],[],[t],p⟩:Trm) m.good (by omega);have gp:=dt hR p k (ab [44] [41] (ax R) (⟨7,[],[],0,[],[],[],[t],p⟩:Trm) (au s)).1 _ g.good (by have:=g.le;omega);have eg:=gp.err e;have hpp:=iG (bC hR) (rn h 7) [44] [41] (m.goes.toks.trans hs) m.good (by omega) eg ⟨Aj hp ht,rfl,rfl,rfl,fun _=>Nat.one_pos⟩;exact rq hl hR h hp k _ _ ((m.goes.trans g).toks.trans hs) g.good (by have:=g.le;omega) (Es hpp) e
  refine cX (fun c e=>?_) (fun _ _=>ht);have m:=aC hi c;have m1:=aO (k:=1) m.good (by decide);have m2:=m.then m1;have gp:=dt hR p k (⟨9,[],(aE 1 (au s)).1.text,0,[],[],[],[t],p⟩:Trm) _ m2.good (by have:=m2.goes.le;omega);have eg:=gp.err e;have q:=ic hl (m.goes.toks.trans hs) (m1.goes.err eg) eg;exact rq hl hR h hp k _ _ (m2.goes.toks.trans hs) m2.good (by have:=m2.goes.le;omega) (sO hp ht (.inl ⟨.inl rfl,q⟩)) e
theorem wX(hl:nr l):∀n,Cf l n (a7 n)
 |0=>fun s _ _ h=>absurd h (It _)
 |n+1=>fun s hs hi hn=>by
  have hR:=cD n;have h:=wX hl n;have hp:=(nt hl hs).pos;have rl:=j8 hi;show zr (gw (a7 n) s);unfold gw;refine cX (fun c e=>?_) (fun _=>?_)
  ·have m:=aC hi c;have r:=aG hi c;have mm:=ae (t:=[40]) m.good;have m2:=m.then mm;have l1:=mm.goes.le;have g:=aI (dW n) [44] [41] (⟨6,[],[],0,[],[],[],[],(ai s).pos⟩:Trm) m2.good (by omega);have l2:=g.le;have m3:=ae (t:=[45,62]) g.good;have l3:=m3.goes.le;have m4:=hR.moves m3.good (by omega);have e3:=m4.goes.err e;have e4:=m3.goes.err e3;have e5:=g.err e4
   have r5:rem (ak [40] (au s))<rem (au s):=by
    rcases mm.eats with q|q
    ·exact q
    ·have:=bA e5;omega
   have hb:=Ep (dW n) (fun x:Trm=>x.names.length) (fun x s=>by show(x.names++[_]).length<=_;simp) [44] [41] (x:=(⟨6,[],[],0,[],[],[],[],(ai s).pos⟩:Trm)) m2.good (by omega);have hb4:=bA e4;obtain⟨f1,f2,f3,f4,f5⟩:=iG (dW n) (Cg hl n) [44] [41] (m2.goes.toks.trans hs) m2.good (by omega) e4 (x:=(⟨6,[],[],0,[],[],[],[],(ai s).pos⟩:Trm)) ⟨lE hp,by rfl,rfl,rfl,rfl⟩;have hR':=h _ (((m2.goes.trans g).trans m3.goes).toks.trans hs) m3.good (by omega) e;refine(f1.addP hR').fit ?_;have hlen:(ab [44] [41] aB (⟨6,[],[],0,[],[],[],[],(ai s).pos⟩:Trm) (ak [40] (au s))).1.names.length<=4096:=by have:(⟨6,[],[],0,[],[],[],[],(ai s).pos⟩:Trm).names.length=0:=rfl;omega
   generalize (ab [44] [41] aB (⟨6,[],[],0,[],[],[],[],(ai s).pos⟩:Trm) (ak [40] (au s))).1=T at f1 f2 f3 f4 f5 hlen⊢;rw[dP (t:=aM T _) (show(aM T _).kind=6 from f1.kind)];have hr:∀u,bJ (aM T u) T.names.length 0 T.names.length 1=true:=fun u=>nv rfl (by show T.vars.length=0;rw[f3];rfl) f4 (by show(T.parts++[u]).length=1;rw[f5];rfl);show(decide (T.name=[])&&decide (T.names.length<=4096)&&eM T.names&&bJ (aM T _) T.names.length 0 T.names.length 1)=true;rw[hr,Xd f1.name,Xd hlen,f2];rfl
  refine cX (fun c e=>?_) (fun _=>?_)
  ·have m:=aC hi c;have r:=aG hi c;have a1:=aO (k:=1) m.good (by decide);have a:=m.then a1;have b1:=ae (t:=[61]) a.good;have b:=a.then b1;have lb:=(a1.then b1).goes.le;have p1:=hR.moves b.good (by omega);have q1:=ae (t:=[105,110]) p1.good;have q:=p1.then q1;have lq:=q.goes.le;have p2:=hR.moves q.good (by omega);have eq:=p2.goes.err e;have e1:=q1.goes.err eq;have eb:=p1.goes.err e1;have ea:=b1.goes.err eb;have nm:=ic hl (m.goes.toks.trans hs) (a1.goes.err ea) ea;have u1:=h _ (b.goes.toks.trans hs) b.good (by omega) e1;have u2:=h _ ((b.then q).goes.toks.trans hs) q.good (by omega) e;refine(((lE (k:=14) (nm:=(aE 1 (au s)).1.text) (ns:=[]) (vs:=[]) hp).addP u1).addP u2).fit ?_;rw[dP rfl];simp[aM,bJ,nm]
  refine cX (fun c e=>?_) (fun _=>?_)
  ·have m:=aC hi c;have r:=aG hi c;have p1:=hR.moves m.good (by omega);have b1:=ae (t:=[116,104,101,110]) p1.good;have b:=p1.then b1;have lb:=b.goes.le;have p2:=hR.moves b.good (by omega);have d1:=ae (t:=[101,108,115,101]) p2.good;have d:=p2.then d1;have ld:=d.goes.le;have p3:=hR.moves d.good (by omega);have e3:=nu p3.good e;have ed:=p3.goes.err e3;have e2':=d1.goes.err ed;have eb:=p2.goes.err e2';have e1:=b1.goes.err eb;have u1:=h _ (m.goes.toks.trans hs) m.good (by omega) e1;have u2:=h _ ((m.then b).goes.toks.trans hs) b.good (by omega) e2';have u3:=h _ (((m.then b).then d).goes.toks.trans hs) d.good (by omega) e3;refine(((((lE (k:=12) (nm:=[]) (ns:=[]) (vs:=[]) hp).addP u1).addP u2).addP u3).addS (jB e)).fit ?_;rw[dP rfl];simp[aM,b4,bJ]
  refine cX (fun c e=>?_) (fun _=>?_)
  ·have m:=aC hi c;have r:=aG hi c;have p1:=hR.moves m.good (by omega);have b1:=ae (t:=[111,102]) p1.good;have b:=p1.then b1;have d1:=ae (t:=[123]) b.good;have d:=b.then d1;have ld:=d.goes.le;have g:=aI (eI hR) [124] [125] (ax (a7 n) ⟨13,[],[],0,[],[],[],[],(ai s).pos⟩ (au s)).1 d.good (by omega);have eg:=nu g.good e;have ed:=g.err eg;have e1:=b1.goes.err (d1.goes.err ed);have u1:=h _ (m.goes.toks.trans hs) m.good (by omega) e1
   exact Ci (iG (eI hR) (Ch hl hR h) [124] [125] ((m.then d).goes.toks.trans hs) d.good (by omega) eg (x:=(ax (a7 n) ⟨13,[],[],0,[],[],[],[],(ai s).pos⟩ (au s)).1)
    ⟨(lE hp).addP u1,by rfl,by rfl,rfl,rfl,rfl⟩) (jB e)
  refine cX (fun c e=>?_) (fun _=>?_)
  ·have m:=aC hi c;have r:=aG hi c;have hq:=bA (ct c).2;obtain⟨j,rfl⟩:∃j,n=j+1:=⟨n-1,by omega⟩;have g:=aI (bC hR) [44] [93] (⟨11,[],[],0,[],[],[],[],(ai s).pos⟩:Trm) m.good (by omega);have eg:=nu g.good e;obtain⟨f1,f2,f3,f4,f5⟩:=iG (bC hR) (rn h 11) [44] [93] (m.goes.toks.trans hs) m.good (by omega) eg (x:=(⟨11,[],[],0,[],[],[],[],(ai s).pos⟩:Trm)) ⟨lE hp,rfl,rfl,rfl,fun e=>absurd e (by decide)⟩;refine(f1.addS (jB e)).fit ?_;generalize (ab [44] [93] (ax (a7 (j+1))) (⟨11,[],[],0,[],[],[],[],(ai s).pos⟩:Trm) (au s)).1=T at f1 f2 f3 f4 f5⊢;rw[dP (t:=b4 T _) (show(b4 T _).kind=11 from f1.kind)];have hr:∀u,bJ (b4 T u) 0 0 1 T.parts.length=true:=fun u=>nv (by show T.names.length=0;rw[f2];rfl) (by show T.vars.length=0;rw[f3];rfl) (by show(T.shapes++[u]).length=_;rw[f4];rfl) rfl;show(decide (T.name=[])&&bJ (b4 T _) 0 0 1 T.parts.length)=true;rw[hr,Xd f1.name];rfl
  intro e;have m:=fa hR hi hn;have gp:=dt hR (ai s).pos (s.toks.length+2) (cr (a7 n) s).1 _ m.good (by have:=m.goes.le;omega);exact rq hl hR h hp _ _ _ (m.goes.toks.trans hs) m.good (by have:=m.goes.le;omega) (Et hl hR h hs hi hn (gp.err e)) e
end
end Go.Pd
end
section
namespace Go.Pd
open Go.AL
theorem wY{y:Str}(h:dU y≠0)(z:Str):dU (y++z)=dU y:=by
 cases y with
 |nil=>exact absurd rfl h
 |cons b r=>
  rcases r with _|⟨x,_|⟨y,_|⟨w,t⟩⟩⟩
  ·have h1:b.toNat<128:=by refine Classical.byContradiction fun c=>h ?_;simp[dU,fJ,c]
   simp[dU,h1]
  ·by_cases h1:b.toNat<128
   ·simp[dU,h1]
   by_cases h2:b.toNat/32=6/\x.toNat/64=2
   ·simp[dU,h1,h2,fJ,lH]
   ·exact absurd (by
     rw[dU,Hh h1,Hh (by simpa[fJ]using h2)];simp[fJ]) h
  ·by_cases h1:b.toNat<128
   ·simp[dU,h1]
   by_cases h2:b.toNat/32=6/\x.toNat/64=2
   ·simp[dU,h1,h2,fJ,lH]
   by_cases h3:b.toNat/16=14/\x.toNat/64=2/\y.toNat/64=2
   ·have h4:¬b.toNat/32=6:=fun e=>h2 ⟨e,h3.2.1⟩;simp[dU,h1,h3,h4,fJ,lH]
   ·exact absurd (by
     rw[dU,Hh h1,Hh (by simpa[fJ]using h2),Hh (by simpa[fJ]using h3)];simp[fJ]) h
  ·simp[dU,fJ,lH]
theorem wZ{x:Str}(hx:x≠[]):bS x=none↔dU x≠0/\bS (x.drop (dU x))=none:=by
 have hl:=Ip.2 hx;unfold bS;obtain⟨n,hn⟩:∃n,x.length=n+1:=⟨x.length-1,by omega⟩;rw[hn,fD,Hh hx];by_cases c:dU x=0
 ·rw[Hj c];simp[c]
 rw[Hh c,show 0+dU x=0+dU x from rfl,ox,mu n (x.drop (dU x)).length _ 0 (by rw[Ih];omega) (Hu _)];simp[c]
theorem Ak:∀(n:Nat)(x y:Str),x.length<=n->bS x=none->bS y=none->bS (x++y)=none
 |0,x,y,hn,_,hy=>by rw[Hv (by omega:x.length=0)];exact hy
 |n+1,x,y,hn,hx,hy=>by
  by_cases c:x=[]
  ·rw[c];exact hy
  obtain⟨h1,h2⟩:=(wZ c).1 hx;have hl:=FK x;refine(wZ (by simp[c])).2 ⟨by rw[wY h1];exact h1,?_⟩;rw[wY h1,List.drop_append_of_le_length hl];exact Ak n _ _ (by rw[Ih];omega) h2 hy
theorem x9{a b:Str}(h1:eB a=true)(h2:eB b=true):eB (a++b)=true:=by unfold eB at h1 h2⊢;simp only[Hk,Option.isNone_iff_eq_none]at h1 h2⊢;exact⟨by rw[J2,h1.1,h2.1];rfl,Ak _ _ _ (Hu _) h1.2 h2.2⟩
theorem Eu{b x:Int}(h:iS b=some x):eB [UInt8.ofNat x.toNat]=true:=by
 unfold iS at h
 repeat' split at h
 all_goals first|(cases h;decide)|cases h
theorem zt{t:Str}(h1:t.all (fun c=>aZ (bI c))=true)(h2:bS t=none):eB t=true:=by unfold eB;rw[h2];simp only[Option.isNone_none,IP];rw[HE]at h1⊢;intro c hc;have:=h1 c hc;unfold aZ at this;simp only[Hk,Hq]at this;unfold gH;rw[Xf (show ¬bI c<32 by omega)];rfl
theorem k7(s:Str)(fr:Int):∀(n:Nat)(acc:Str)(c:SC),0<=c.pos->eB acc=true->(bZ s fr n acc c).2.1=true->eB (bZ s fr n acc c).1=true
 |0,acc,c,_,_,h=>by cases h
 |n+1,acc,c,h0,ha,h=>by
  rw[bZ]at h⊢;by_cases h1:bAt s c.pos<32
  ·rw[Hj h1]at h;cases h
  rw[Hh h1]at h⊢;by_cases h2:bAt s c.pos=34
  ·rw[Hj h2];exact ha
  rw[Hh h2]at h⊢;by_cases h3:bAt s c.pos=92
  ·rw[Hj h3]at h⊢
   cases he:iS (bAt s (c.pos+1))with
   |none=>rw[he]at h;cases h
   |some x=>rw[he]at h;exact k7 s fr n _ _ (by show 0<=c.pos+2;omega) (x9 ha (Eu he)) h
  rw[Hh h3]at h⊢
  cases hb:bS (cut s c.pos (c.pos+(ao aZ s c.pos:Int)))with
  |some k=>rw[hb]at h;cases h
  |none=>rw[hb]at h;refine k7 s fr n _ _ (by show 0<=c.pos+(ao aZ s c.pos:Int);omega) (x9 ha (zt ?_ hb)) h;rw[HE];intro y hy;obtain⟨a,ha⟩:∃a:Nat,c.pos=(a:Int):=⟨c.pos.toNat,by omega⟩;rw[ha,Ca]at hy;exact En (p:=fun b=>aZ (bI b)) hy
theorem xa{s:Str}{c:SC}(h0:0<=c.pos)(h1:c.pos<(s.length:Int))(h:(aK s c).1=true):∃t,(aK s c).2.out=c.out++[t]/\(t.kind=4->eB t.text=true):=by
 have no:∀k:Int,¬k=4->∀(t:Str)(e:Int),∃t',(ez k t c.pos (bH c e)).2.out=c.out++[t']/\(t'.kind=4->eB t'.text=true):=fun k hk t e=>⟨⟨k,t,c.pos⟩,rfl,fun q=>absurd q hk⟩;unfold aK at h⊢;split at h
 ·rename_i a;rw[Hj a];unfold rL at h⊢;split at h
  ·rename_i x;rw[Hj x];exact no 5 (by decide) _ _
  rename_i x;rw[Hh x];split at h
  ·rename_i y;rw[Hj y];exact no 1 (by decide) _ _
  rename_i y;rw[Hh y];split at h
  ·rename_i z;rw[Hj z];exact no 2 (by decide) _ _
  ·cases h
 rename_i a;rw[Hh a];split at h
 ·rename_i b;rw[Hj b];unfold vG at h⊢;split at h
  ·rename_i x;rw[Hj x];exact no 3 (by decide) _ _
  rename_i x;rw[Hh x];split at h
  ·rename_i y;rw[Hj y];exact no 7 (by decide) _ _
  ·cases h
 rename_i b;rw[Hh b];split at h
 ·rename_i d;rw[Hj d];unfold vH at h⊢;split at h
  ·rename_i x;rw[Hj x];have ho:(bL s c).2.2.out=c.out:=(dX s c.pos (s.length+2) [] (bH c (c.pos+1)) (by show 0<=c.pos+1;omega) (by show c.pos+1<=_;omega)).1;refine⟨⟨4,(bL s c).1,c.pos⟩,by show(bL s c).2.2.out++_=_;rw[ho],fun _=>k7 s c.pos (s.length+2) [] (bH c (c.pos+1)) (by show 0<=c.pos+1;omega) (by decide) x⟩
  ·cases h
 rename_i d;rw[Hh d];unfold oK at h⊢;split at h
 ·rename_i x;rw[Hj x];exact no 6 (by decide) _ _
 rename_i x;rw[Hh x];split at h
 ·rename_i y;rw[Hj y];exact no 6 (by decide) _ _
 ·cases h
theorem k8(s:Str):∀(n:Nat)(c:SC),0<=c.pos->c.pos<=(s.length:Int)->(s.length:Int)<c.pos+(n:Int)->(∀t∈c.out,t.kind=4->eB t.text=true)->(cM s n c).2.err=0->
  ∀t∈(cM s n c).1,t.kind=4->eB t.text=true
 |0,c,h0,h1,h2,_,_=>by omega
 |n+1,c,h0,h1,h2,ho,h=>by
  rw[cM]at h⊢;by_cases a:c.pos=(s.length:Int)
  ·rw[Hj a];intro t ht hk;rcases HX.1 ht with k|k
   ·exact ho t k hk
   ·rw[HM.1 k]at hk;exact absurd (show(0:Int)=4 from hk) (by decide)
  rw[Hh a]at h⊢;have hlt:c.pos<(s.length:Int):=by omega
  by_cases b:iB (bAt s c.pos)=true
  ·rw[Hj b]at h⊢;exact k8 s n _ (by show 0<=c.pos+1;omega) (by show c.pos+1<=_;omega) (by show _<c.pos+1+(n:Int);omega) ho h
  rw[Hh b]at h⊢;by_cases d:bAt s c.pos=45/\bAt s (c.pos+1)=45
  ·rw[Hj d]at h⊢;have hw:=cG (pr:=ca) h0 h1;have hh:=cE (pr:=ca) h0 hlt (by rw[<-eA hlt,d.1];rfl)
   cases hb:bS (cut s c.pos (c.pos+(ao ca s c.pos:Int)))with|some k=>rw[hb]at h;exact absurd (show(30:Int)=0 from h) (by decide)|none=>rw[hb]at h;exact k8 s n _ (by show 0<=c.pos+_;omega) hw (by show _<c.pos+_+(n:Int);omega) ho h
  rw[Hh d]at h⊢;by_cases e:(aK s c).1=true
  ·rw[Hj e]at h⊢;obtain⟨t1,t2,t3⟩:=eJ h0 hlt e;obtain⟨t,g1,g2⟩:=xa h0 hlt e;refine k8 s n _ (by omega) t2 (by omega) ?_ h;rw[g1];intro x hx;rcases HX.1 hx with k|k
   ·exact ho x k
   ·rw[HM.1 k];exact g2
  ·rw[Hh e]at h
   exact absurd h (by
    have:(aK s c).1=false:=by simpa using e
    exact jY h0 hlt this)
theorem zu{s:Str}(h:(aU s).2.err=0):nr (aU s).1:=by
 have hq:∀t∈(aU s).1,t.kind=4->eB t.text=true:=by
  unfold aU at h⊢;split at h
  ·exact absurd h (by decide)
  ·rename_i x;rw[Hh x];exact k8 s (s.length+2) ⟨0,[],0,0⟩ (by show(0:Int)<=0;omega) (by show(0:Int)<=_;omega) (by show _<(0:Int)+((s.length+2:Nat):Int);omega) (fun t ht=>by cases ht) h
 obtain⟨_,out,e,g⟩:=k0 h;rw[e]at hq⊢;intro t ht;rcases HX.1 ht with k|k
 ·exact⟨(g t k).name,(g t k).upper,(g t k).num,hq t ht,(g t k).pos⟩
 ·rw[HM.1 k];exact⟨fun e=>absurd e (by show ¬(0:Int)=1;decide),fun e=>absurd e (by show ¬(0:Int)=2;decide),fun e=>absurd e (by show ¬(0:Int)=3;decide),fun e=>absurd e (by show ¬(0:Int)=4;decide),by show(0:Int)<=(s.length:Int);omega⟩
theorem uD{l:List Tokn}(hN:ml l)(hl:nr l)(h:(b5 l 0).2.2.err=0):bz (b5 l 0).1=0:=by
 unfold b5 at h⊢;by_cases b:aQ (b9 l 0)=true
 ·rw[Hj b]at h;exact absurd h (b7.1 b)
 rw[Hh b]at h⊢;have b':aQ (b9 l 0)=false:=by simpa using b
 have g:=fU hN b';obtain⟨e1,e2⟩:=lB b';have hf:=wX hl 5000 _ e1 g (by have:=j8 g;omega);unfold sD at h⊢;generalize a7 5000 (b9 l 0)=q at h hf⊢;by_cases c:aQ q.2=true
 ·rw[Hj c]at h;unfold iJ at h;rw[Hj c]at h;exact absurd h (b7.1 c)
 rw[Hh c]at h⊢;have fit:=hf (iY c);by_cases d:bz q.1=3∨bz q.1=91
 ·rw[Hj d]at h;have hne:¬bz q.1=0:=by rcases d with d|d<;>rw[d]<;>decide
  have hb:aQ (cC (bz q.1) (ai (b9 l 0)).pos q.2)=true:=b7.2 (dV hne);unfold iJ at h;rw[Hj hb]at h;exact absurd h (b7.1 hb)
 rw[Hh d];unfold iJ;rw[Hh c];show bz q.1=0;unfold bz at d⊢;split at d
 ·exact absurd (.inl rfl) d
 rename_i x;rw[Hh x];split at d
 ·exact absurd (.inr rfl) d
 rename_i y;rw[Hh y,Hj fit]
theorem ka{s:Str}(h:(dp s).2.err=0):bz (dp s).1=0:=by
 unfold dp nh at h⊢;by_cases a:(aU s).2.err=0
 ·rw[Hj a]at h⊢;by_cases b:(b5 (aU s).1 0).2.2.err=0
  ·rw[Hj b]at h⊢;by_cases c:(cR (aU s).1 (b5 (aU s).1 0).2.1).err=0
   ·rw[Hj c];exact uD (iE a) (zu a) b
   ·rw[Hh c]at h;exact absurd h c
  ·rw[Hh b]at h;exact absurd h b
 ·rw[Hh a]at h;exact absurd h a
end Go.Pd
end
section
namespace Go.Pd
open Go.AL
def shK(t:Tokn):Tokn:=⟨t.kind,t.text,t.pos+2⟩
mutual
def shT:Trm->Trm
 |⟨k,g,n,z,ns,vs,ss,ps,pp⟩=>⟨k,g,n,z,ns,vs,ss,shTL ps,pp+2⟩
def shTL:List Trm->List Trm
 |[]=>[]
 |p::r=>shT p::shTL r
end
theorem xb:∀l:List Trm,shTL l=l.map shT
 |[]=>rfl
 |p::r=>by rw[HN,<-xb r];rw[shTL]
theorem uE(k z p:Int)(g n:Str)(ns vs:List Str)(ss:List Shape)(ps:List Trm):shT ⟨k,g,n,z,ns,vs,ss,ps,p⟩=⟨k,g,n,z,ns,vs,ss,ps.map shT,p+2⟩:=by rw[shT,xb]
theorem nw(t:Trm):shT t=⟨t.kind,t.pkg,t.name,t.n,t.names,t.vars,t.shapes,t.parts.map shT,t.pos+2⟩:=by cases t;exact uE ..
theorem gd(t u:Trm):shT (aM t u)=aM (shT t) (shT u):=by simp[nw,aM]
theorem FN(t:Trm)(u:Shape):shT (b4 t u)=b4 (shT t) u:=by simp[nw,b4]
theorem uF(t:Trm)(u:Str):shT (aY t u)=aY (shT t) u:=by simp[nw,aY]
theorem FO(t:Trm)(u:Str):shT (bY t u)=bY (shT t) u:=by simp[nw,bY]
theorem rr(t:Trm):(shT t).names=t.names:=by rw[nw]
section
variable {A:List Tokn} {e q:Int}
def TL0(A:List Tokn)(e:Int):List Tokn:=A++[⟨0,[],e⟩]
def TL1(A:List Tokn)(q:Int):List Tokn:=⟨6,[40],0⟩::(A.map shK++[⟨6,[41],q⟩,⟨0,[],q+1⟩])
theorem kb:(TL0 A e).length=A.length+1:=by simp[TL0]
theorem kc:(TL1 A q).length=A.length+3:=by simp[TL1]
theorem Ev{a:Nat}(h:a<A.length):cK (TL0 A e) (a:Int)=A.getD a (dfl (.st .token)):=by unfold cK;rw[kb,Hj (by omega),HC];unfold TL0;rw[Hl,Hr h,<-Hl]
theorem sP:cK (TL0 A e) (A.length:Int)=⟨0,[],e⟩:=by unfold cK;rw[kb,Hj (by omega),HC];unfold TL0;rw[Hl,Ht (Hu _)];simp
theorem Ew{a:Nat}(h:a<A.length):cK (TL1 A q) ((a:Int)+1)=shK (A.getD a (dfl (.st .token))):=by unfold cK;rw[kc,Hj (by omega),show((a:Int)+1).toNat=a+1 by omega];unfold TL1;rw[Ji,Hl,Hr (by simpa using h),HU,Hl,Hi h];rfl
theorem sQ:cK (TL1 A q) ((A.length:Int)+1)=⟨6,[41],q⟩:=by unfold cK;rw[kc,Hj (by omega),show((A.length:Int)+1).toNat=A.length+1 by omega];unfold TL1;rw[Ji,Hl,Ht (by simp)];simp
structure Rlt(A:List Tokn)(e q:Int)(s s':Par):Prop where
 l0:s.toks=TL0 A e
 l1:s'.toks=TL1 A q
 pos:s'.pos=s.pos+1
 lo:0<=s.pos
 hi:s.pos<=(A.length:Int)
 e0:s.err=0
 e1:s'.err=0
theorem Rlt.cases{s s':Par}(h:Rlt A e q s s'):(s.pos<(A.length:Int)/\ai s'=shK (ai s))∨(s.pos=(A.length:Int)/\ai s=⟨0,[],e⟩/\ai s'=⟨6,[41],q⟩):=by
 obtain⟨a,ha⟩:∃a:Nat,s.pos=(a:Int):=⟨s.pos.toNat,by have:=h.lo;omega⟩;have hh:=h.hi;unfold ai;rw[h.l0,h.l1,h.pos,ha];by_cases c:a<A.length
 ·exact .inl ⟨by omega,by rw[Ev c,Ew c]⟩
 ·have ea:a=A.length:=by omega
  subst ea;exact .inr ⟨rfl,sP,sQ⟩
theorem Rlt.peek{s s':Par}(h:Rlt A e q s s')(c:s.pos<(A.length:Int)):ai s'=shK (ai s):=by
 rcases h.cases with k|k
 ·exact k.2
 ·omega
theorem Rlt.in'{s s':Par}(h:Rlt A e q s s')(c:¬(ai s).kind=0):s.pos<(A.length:Int):=by
 rcases h.cases with k|k
 ·exact k.1
 ·rw[k.2.1]at c;exact absurd rfl c
theorem ru(t:Str)(s:Par):isF t s=((decide ((ai s).kind=6)||decide ((ai s).kind=5))&&decide ((ai s).text=t)&&!aQ s):=rfl
theorem Rlt.isIn{s s':Par}(h:Rlt A e q s s')(c:s.pos<(A.length:Int))(t:Str):isF t s'=isF t s:=by rw[ru,ru,h.peek c,bf.2 h.e0,bf.2 h.e1];rfl
theorem Rlt.isAny{s s':Par}(h:Rlt A e q s s'){t:Str}(ht:t≠[41]):isF t s'=isF t s:=by
 rcases h.cases with k|k
 ·exact h.isIn k.1 t
 ·rw[ru,ru,k.2.1,k.2.2,Xf (show ¬([41]:Str)=t from fun e=>ht e.symm),Iq,HP];rfl
theorem Rlt.isIt{s s':Par}(h:Rlt A e q s s'){t:Str}(c:isF t s=true):isF t s'=true/\s.pos<(A.length:Int):=by have k:=h.in' (qj c);exact⟨by rw[h.isIn k];exact c,k⟩
theorem Rlt.adv{s s':Par}(h:Rlt A e q s s')(c:s.pos<(A.length:Int)):Rlt A e q (au s) (au s'):=
 ⟨h.l0,h.l1,by show s'.pos+1=s.pos+1+1;rw[h.pos],by have:=h.lo;show 0<=s.pos+1;omega,by show s.pos+1<=_;omega,h.e0,h.e1⟩
theorem Rlt.not_end{s s' r:Par}(h:Rlt A e q s s')(g:Goes s r)(k:j7 s r)(e0:r.err=0):s.pos<(A.length:Int):=by
 have hc:=g.cap (A.length:Int) (by rw[h.l0,sP]) h.hi;have hg:=g.good;have ht:=g.toks;obtain⟨g0,g1,_⟩:=hg;have hlo:=h.lo;have hl:s.toks.length=A.length+1:=by rw[h.l0,kb]
 rcases k with k|k
 ·simp only[rem,e0,h.e0,Ia,ht,hl]at k;omega
 ·have:=bA e0;omega
theorem cb{s s':Par}{t:Str}(h:Rlt A e q s s')(he:(ak t s).err=0):Rlt A e q (ak t s) (ak t s'):=by
 unfold ak at he⊢;by_cases c:isF t s=true
 ·obtain⟨c1,c2⟩:=h.isIt c;rw[Hj c,Hj c1];exact h.adv c2
 ·rw[Hh c]at he;exact absurd he (dV (by decide))
theorem iH{s s':Par}{k:Int}(hk:¬k=0)(h:Rlt A e q s s')(he:(aE k s).2.err=0):Rlt A e q (aE k s).2 (aE k s').2/\(aE k s').1.text=(aE k s).1.text:=by
 unfold aE at he⊢;by_cases c:(ai s).kind=k/\aQ s=false
 ·have hi:=h.in' (by rw[c.1];exact hk);have hp:=h.peek hi;have c':(ai s').kind=k/\aQ s'=false:=⟨by rw[hp];exact c.1,bf.2 h.e1⟩;rw[Hj c,Hj c',hp];exact⟨h.adv hi,rfl⟩
 ·rw[Hh c]at he;exact absurd he (dV (by decide))
theorem lF{s s':Par}{ns:List Str}(h:Rlt A e q s s')(he:(aJ ns s).2.err=0):Rlt A e q (aJ ns s).2 (aJ ns s').2/\(aJ ns s').1=(aJ ns s).1:=by
 obtain⟨f1,f2⟩:=mz he;obtain⟨r1,r2⟩:=iH (by decide) h f1;have g1:(aJ ns s).2=(aE 1 s).2:=by unfold aJ;simp only;rw[Hh (fun c=>f2 c.2)]
 have g2:(aJ ns s').2=(aE 1 s').2:=by unfold aJ;simp only;rw[Hh (fun c=>f2 (r2 ▸ c.2))]
 rw[g1,g2];exact⟨r1,r2⟩
variable {σ:Type} {C:σ->σ->Prop}
def xc(A:List Tokn)(e q:Int)(n:Nat)(C:σ->σ->Prop)(one one':σ->Par->σ×Par):Prop:=
 ∀x x' s s',Rlt A e q s s'->a8 s->rem s<=n->C x x'->(one x s).2.err=0->Rlt A e q (one x s).2 (one' x' s').2/\C (one x s).1 (one' x' s').1
def SimR{α:Type}(A:List Tokn)(e q:Int)(n:Nat)(D:α->α->Prop)(R R':Par->α×Par):Prop:=
 ∀s s',Rlt A e q s s'->a8 s->rem s<n->(R s).2.err=0->Rlt A e q (R s).2 (R' s').2/\D (R s).1 (R' s').1
theorem xe{n:Nat}{one one':σ->Par->σ×Par}(hr:dn one n)(h:xc A e q n C one one')(btw en:Str):∀(k k':Nat)(x x':σ)(s s':Par),k<=k'->Rlt A e q s s'->a8 s->rem s<=n->rem s<k+1->C x x'->
  (aX btw en one k x s).2.err=0->Rlt A e q (aX btw en one k x s).2 (aX btw en one' k' x' s').2/\C (aX btw en one k x s).1 (aX btw en one' k' x' s').1
 |0,k',x,x',s,s',_,hs,hi,hn,hk,_,_=>by have:=bA hs.e0;omega
 |k+1,0,x,x',s,s',hkk,_,_,_,_,_,_=>by omega
 |k+1,k'+1,x,x',s,s',hkk,hs,hi,hn,hk,hx,he=>by
  simp only[aX]at he⊢;have b:¬aQ s=true:=by rw[bf.2 hs.e0];decide
  have b':¬aQ s'=true:=by rw[bf.2 hs.e1];decide
  rw[Hh b]at he⊢;rw[Hh b'];obtain⟨g,ee⟩:=hr x s hi hs.e0 hn;have hp:=bA hs.e0;by_cases c:isF en (one x s).2=true
  ·rw[Hj c]at he⊢;obtain⟨r1,r2⟩:=h x x' s s' hs hi hn hx he;obtain⟨c1,c2⟩:=r1.isIt c;rw[Hj c1];exact⟨r1.adv c2,r2⟩
  rw[Hh c]at he⊢;have gb:=ba (t:=btw) g.good;have gm:=g.trans gb;have gl:=ib hr btw en k (one x s).1 (ak btw (one x s).2) gm.good (I2 gm.le hn);have em:=gl.err he;have eo:=gb.err em;obtain⟨r1,r2⟩:=h x x' s s' hs hi hn hx eo;have rb:=cb r1 em;have ci:(one x s).2.pos<(A.length:Int):=r1.not_end gb (sl g.good) em;have c':¬isF en (one' x' s').2=true:=by rw[r1.isIn ci];exact c
  rw[Hh c'];have hp2:=bA em;exact xe hr h btw en k k' _ _ _ _ (by omega) rb gm.good (I2 gm.le hn) (by rcases ee.then gb with q|q<;>omega) r2 he
theorem Ex{n:Nat}{one:σ->Par->σ×Par}(hr:dn one n){btw en:Str}{k:Nat}{x:σ}{s:Par}(hi:a8 s)(h0:s.err=0)(hn:rem s<=n)(he:(aX btw en one (k+1) x s).2.err=0):(one x s).2.err=0:=by
 simp only[aX]at he;rw[Hh (by rw[bf.2 h0];decide)]at he;obtain⟨g,ee⟩:=hr x s hi h0 hn;by_cases c:isF en (one x s).2=true
 ·rw[Hj c]at he;exact he
 rw[Hh c]at he;have gb:=ba (t:=btw) g.good;exact gb.err ((ib hr btw en k _ _ gb.good (I2 (g.trans gb).le hn)).err he)
theorem iI{n:Nat}{one one':σ->Par->σ×Par}(hr:dn one n)(h:xc A e q n C one one')(btw en:Str){x x':σ}{s s':Par}(hs:Rlt A e q s s')(hi:a8 s)(hn:rem s<=n)(hx:C x x')
 (he:(ab btw en one x s).2.err=0):Rlt A e q (ab btw en one x s).2 (ab btw en one' x' s').2/\C (ab btw en one x s).1 (ab btw en one' x' s').1:=by
 unfold ab at he⊢;by_cases c:isF en s=true
 ·obtain⟨c1,c2⟩:=hs.isIt c;rw[Hj c,Hj c1];exact⟨hs.adv c2,hx⟩
 rw[Hh c]at he⊢;have eo:=Ex hr hi hs.e0 hn he;obtain⟨g,ee⟩:=hr x s hi hs.e0 hn;have ci:=hs.not_end g ee eo;rw[Hh (show ¬isF en s'=true by rw[hs.isIn ci];exact c)];refine xe hr h btw en _ _ x x' s s' (by rw[hs.l0,hs.l1,kb,kc];omega) hs hi hn ?_ hx he;obtain⟨i0,i1,_⟩:=hi;unfold rem;split<;>omega
end
end Go.Pd
end
section
namespace Go.Pd
open Go.AL
section
variable {A:List Tokn} {e q:Int}
abbrev GJ(A:List Tokn)(e q:Int)(n:Nat)(R R':Par->Shape×Par):Prop:=SimR A e q n Eq R R'
theorem Cj{n:Nat}{R R':Par->Shape×Par}(hR:cP R n)(h:GJ A e q n R R'):xc A e q n Eq (aw R) (aw R'):=fun x x' s s' hs hi hn hx he=>by subst hx;have m1:=bN (ns:=x.names) hi;have m2:=m1.then (ae (t:=[58]) m1.good);have hn2:rem (ak [58] (aJ x.names s).2)<n:=m2.lt hn hs.e0;have g3:=(hR _ m2.good hn2).1;have e2:(ak [58] (aJ x.names s).2).err=0:=g3.err he;have e1:=(ae (t:=[58]) m1.good).goes.err e2;obtain⟨r1,q1⟩:=lF hs e1;have r2:=cb r1 e2;obtain⟨r3,q3⟩:=h _ _ r2 m2.good hn2 he;refine⟨r3,?_⟩;show(⟨x.kind,x.pkg,x.name,x.names++[(aJ x.names s).1],x.parts++[(R (ak [58] (aJ x.names s).2)).1]⟩:Shape)=⟨x.kind,x.pkg,x.name,x.names++[(aJ x.names s').1],x.parts++[(R' (ak [58] (aJ x.names s').2)).1]⟩;rw[q1,q3]
theorem xf{n m:Nat}{R R':Par->Shape×Par}(hnm:n<m)(h:GJ A e q m R R'):xc A e q n Eq (aA R) (aA R'):=fun x x' s s' hs hi hn hx he=>by subst hx;obtain⟨r1,q1⟩:=h s s' hs hi (by omega) he;refine⟨r1,?_⟩;show(⟨x.kind,x.pkg,x.name,x.names,x.parts++[(R s).1]⟩:Shape)=⟨x.kind,x.pkg,x.name,x.names,x.parts++[(R' s').1]⟩;rw[q1]
def rX{α:Type}(A:List Tokn)(e q:Int)(D:α->α->Prop)(p p':α×Par):Prop:=p.2.err=0->Rlt A e q p.2 p'.2/\D p.1 p'.1
theorem cg{α:Type}{D:α->α->Prop}{c c':Prop}[Decidable c][Decidable c']{p p' r r':α×Par}(hc:c'↔c)(h1:c->rX A e q D p p')(h2:¬c->rX A e q D r r'):rX A e q D (if c then p else r) (if c' then p' else r'):=by
 by_cases k:c
 ·rw[Hj k,Hj (hc.2 k)];exact h1 k
 ·rw[Hh k,Hh (fun x=>k (hc.1 x))];exact h2 k
theorem sR:∀n m,n<=m->GJ A e q n (ag n) (ag m)
 |0,_,_=>fun s s' _ _ h=>absurd h (It _)
 |n+1,0,h=>by omega
 |n+1,m+1,hnm=>fun s s' hs hi hn he=>by
  have ih:=sR n m (by omega);have hR:=b8 n;have mv:=(b8 (n+1)) s hi hn;have ci:=hs.not_end mv.1 mv.2 he;have hp:=hs.peek ci;have ha:=hs.adv ci;have is:∀t:Str,isF t s'=isF t s:=fun t=>hs.isIn ci t;have isi:∀t:Str,isF t s'=true↔isF t s=true:=fun t=>by rw[is]
  have b:aQ s=false:=bf.2 hs.e0;have b':aQ s'=false:=bf.2 hs.e1;have kk:∀k:Int,((ai s').kind=k/\aQ s'=false)↔((ai s).kind=k/\aQ s=false):=fun k=>by rw[hp,b,b'];rfl
  have tx:(ai s').text=(ai s).text:=by rw[hp];rfl
  have lst:∀(t:Str)(k:Int)(btw en:Str),isF t s=true->rX A e q Eq (ab btw en (aw (ag n)) (⟨k,[],[],[],[]⟩:Shape) (au s)) (ab btw en (aw (ag m)) ⟨k,[],[],[],[]⟩ (au s')):=fun t k btw en c e'=>by have r:=aG hi c;exact iI (cH hR) (Cj hR ih) btw en ha (lj hi c) (by omega) rfl e'
  suffices rX A e q Eq (gA (ag n) s) (gA (ag m) s')from this he
  unfold gA;simp only;refine cg (kk 2) (fun c e'=>⟨ha,by rw[tx]⟩) (fun _=>?_);refine cg (kk 1) (fun c e'=>?_) (fun _=>?_)
  ·have e1:(ak [47] (au s)).err=0:=by have m:=(ae (t:=[47]) (eZ hi (by decide) c.1 c.2).1.good);exact(aO (k:=2) m.good (by decide)).goes.err e'
   have r1:=cb ha e1;obtain⟨r2,q2⟩:=iH (by decide) r1 e';exact⟨r2,by rw[tx,q2]⟩
  refine cg (isi _) (fun c e'=>?_) (fun _=>?_)
  ·have r:=aG hi c;have g:=lj hi c;have gR:=(hR _ g (by omega)).1;have e1:=(ba (t:=[93]) gR.good).err e';obtain⟨r1,q1⟩:=ih _ _ ha g (by omega) e1;exact⟨cb r1 e',by rw[q1]⟩
  refine cg (isi _) (fun c=>lst _ 6 _ _ c) (fun _=>?_);refine cg (isi _) (fun c=>lst _ 7 _ _ c) (fun _=>?_);refine cg (isi _) (fun c e'=>?_) (fun _ e'=>absurd e' (dV (by decide)));have r:=aG hi c;have g:=lj hi c;have hq:=bA (ct c).2;obtain⟨j,rfl⟩:∃j,n=j+1:=⟨n-1,by have:=bA (s:=au s) (ct c).2;omega⟩;have gl:=aI (ew hR) [44] [41] (⟨8,[],[],[],[]⟩:Shape) g (by omega);have gm:=ba (t:=[45,62]) gl.good;have l1:=gl.le;have l2:=gm.le;have gR:=(hR _ gm.good (by omega)).1;have e2:=gR.err e';have e1:=gm.err e2;obtain⟨r1,q1⟩:=iI (ew hR) (xf (by omega) ih) [44] [41] ha g (by omega) rfl e1;have r2:=cb r1 e2;have:=(xf (n:=j) (by omega) ih) _ _ _ _ r2 gm.good (by omega) q1 e';exact this
theorem sS{s s':Par}(hs:Rlt A e q s s')(hi:a8 s)(he:(bg s).2.err=0):Rlt A e q (bg s).2 (bg s').2/\(bg s').1=(bg s).1:=by
 unfold bg at he⊢;simp only at he⊢;by_cases b:aQ (ag big s).2=true
 ·rw[Hj b]at he;exact absurd he (b7.1 b)
 rw[Hh b]at he⊢;obtain⟨r1,q1⟩:=sR big big (Hu _) s s' hs hi (by have:=j8 hi;show rem s<5000;omega) (iY b);have b':¬aQ (ag big s').2=true:=by rw[bf.2 r1.e1];decide
 rw[Hh b',<-q1];by_cases c:di (ag big s).1=0
 ·rw[Hj c,Hj c];exact⟨r1,rfl⟩
 ·rw[Hh c]at he;exact absurd he (dV c)
def ShC(x y:Trm):Prop:=y=shT x
abbrev xg(A:List Tokn)(e q:Int)(n:Nat)(R R':Par->Trm×Par):Prop:=SimR A e q n ShC R R'
theorem sT{n m:Nat}{R R':Par->Trm×Par}(hnm:n<m)(h:xg A e q m R R'):xc A e q n ShC (ax R) (ax R'):=fun x x' s s' hs hi hn hx he=>by obtain⟨r1,q1⟩:=h s s' hs hi (by omega) he;exact⟨r1,by show aM x' (R' s').1=shT (aM x (R s).1);rw[gd,hx,q1]⟩
theorem ny{a:Str}{x x':Trm}{s s':Par}(hs:Rlt A e q s s')(hi:a8 s)(hx:x'=shT x)(he:(dF a x s).2.err=0):Rlt A e q (dF a x s).2 (dF a x' s').2/\(dF a x' s').1=shT (dF a x s).1:=by have m:=ae (t:=a) hi;have e1:(ak a s).err=0:=(dK m.good).goes.err he;obtain⟨r2,q2⟩:=sS (cb hs e1) m.good he;exact⟨r2,by show b4 x' (bg (ak a s')).1=shT (b4 x (bg (ak a s)).1);rw[FN,hx,q2]⟩
theorem FQ(n:Nat):xc A e q n ShC aB aB:=fun x x' s s' hs hi hn hx he=>by
 have m1:=bN (ns:=x.names) hi;have e1:=(cO m1.good).goes.err he;obtain⟨r1,q1⟩:=lF (ns:=x.names) hs e1;have hnm:x'.names=x.names:=by rw[hx,rr]
 obtain⟨r2,q2⟩:=ny (a:=[58]) (x:=aY x (aJ x.names s).1) (x':=aY x' (aJ x.names s').1) r1 m1.good (by rw[uF,hx,q1]) he;unfold aB at he⊢;rw[hnm];exact⟨r2,q2⟩
theorem FR{n:Nat}{R R':Par->Trm×Par}(hR:cP R n)(h:xg A e q n R R'):xc A e q n ShC (an R) (an R'):=fun x x' s s' hs hi hn hx he=>by
 have m1:=bN (ns:=x.names) hi;have m2:=m1.then (ae (t:=[40]) m1.good);have m3:=m2.then (aO (k:=1) m2.good (by decide));have m4:=m3.then (cO (a:=[58]) (t:=bY (aY x (aJ x.names s).1) (aE 1 (ak [40] (aJ x.names s).2)).1.text) m3.good);have m5:=m4.then (ae (t:=[41]) m4.good);have m6:=m5.then (ae (t:=[45,62]) m5.good);have m7:=hR.moves m6.good (m6.lt hn hs.e0);have e6:=m7.goes.err he;have e5:=(ae (t:=[45,62]) m5.good).goes.err e6;have e4:=(ae (t:=[41]) m4.good).goes.err e5;have e3:=(cO m3.good).goes.err e4;have e2:=(aO (k:=1) m2.good (by decide)).goes.err e3;have e1:=(ae (t:=[40]) m1.good).goes.err e2;have hnm:x'.names=x.names:=by rw[hx,rr]
 obtain⟨r1,q1⟩:=lF (ns:=x.names) hs e1;have r2:=cb (t:=[40]) r1 e2;obtain⟨r3,q3⟩:=iH (by decide) r2 e3;obtain⟨r4,q4⟩:=ny (a:=[58]) (x:=bY (aY x (aJ x.names s).1) (aE 1 (ak [40] (aJ x.names s).2)).1.text) (x':=bY (aY x' (aJ x.names s').1) (aE 1 (ak [40] (aJ x.names s').2)).1.text) r3 m3.good (by rw[FO,uF,hx,q1,q3]) e4;have r5:=cb (t:=[41]) r4 e5;have r6:=cb (t:=[45,62]) r5 e6;obtain⟨r7,q7⟩:=h _ _ r6 m6.good (m6.lt hn hs.e0) he;unfold an;simp only;rw[hnm];refine⟨r7,?_⟩;show aM _ _=shT (aM _ _);rw[gd,q4,q7]
theorem Ck{n:Nat}{R R':Par->Trm×Par}(hR:cP R n)(h:xg A e q n R R'):xc A e q n ShC (aj R) (aj R'):=fun x x' s s' hs hi hn hx he=>by
 have m1:=bN (ns:=x.names) hi;have m2:=m1.then (ae (t:=[61]) m1.good);have m3:=hR.moves m2.good (m2.lt hn hs.e0);have e2:=m3.goes.err he;have e1:=(ae (t:=[61]) m1.good).goes.err e2;have hnm:x'.names=x.names:=by rw[hx,rr]
 obtain⟨r1,q1⟩:=lF (ns:=x.names) hs e1;have r2:=cb (t:=[61]) r1 e2;obtain⟨r3,q3⟩:=h _ _ r2 m2.good (m2.lt hn hs.e0) he;unfold aj;simp only;rw[hnm];refine⟨r3,?_⟩;show aM _ _=shT (aM _ _);rw[gd,uF,hx,q1,q3]
theorem Cm{n:Nat}{R R':Par->Trm×Par}(hR:cP R n)(h:xg A e q n R R'){s s':Par}(hs:Rlt A e q s s')(hi:a8 s)(hn:rem (ak [40] s)<n)(he:(bP R s).2.err=0) :
  Rlt A e q (bP R s).2 (bP R' s').2/\(bP R' s').1=(bP R s).1.map shT:=by
 have m1:=ae (t:=[40]) hi;have m2:=hR.moves m1.good hn;have e2:=(ae (t:=[41]) m2.good).goes.err he;have e1:=m2.goes.err e2;have r1:=cb (t:=[40]) hs e1;obtain⟨r2,q2⟩:=h _ _ r1 m1.good hn e2;refine⟨cb (t:=[41]) r2 he,?_⟩;show[(R' (ak [40] s')).1]=[shT (R (ak [40] s)).1];rw[q2]
theorem eV{k z p p':Int}{g b:Str}{ns vs:List Str}{ss:List Shape}(hp:p'=p+2):(⟨k,g,b,z,ns,vs,ss,[],p'⟩:Trm)=shT ⟨k,g,b,z,ns,vs,ss,[],p⟩:=by rw[uE,hp];rfl
theorem uG{k z p p':Int}{g b:Str}{ns vs:List Str}{ss:List Shape}{u u':Trm}(hp:p'=p+2)(hu:u'=shT u):(⟨k,g,b,z,ns,vs,ss,[u'],p'⟩:Trm)=shT ⟨k,g,b,z,ns,vs,ss,[u],p⟩:=by rw[uE,hp,hu];rfl
theorem Ey{n:Nat}{R R':Par->Trm×Par}(hR:cP R n)(h:xg A e q n R R'){s s':Par}(hs:Rlt A e q s s')(hi:a8 s)(hn:rem s<n+1)(he:(cr R s).2.err=0) :
  Rlt A e q (cr R s).2 (cr R' s').2/\(cr R' s').1=shT (cr R s).1:=by
 have mv:=fa hR hi hn;have ci:=hs.not_end mv.goes mv.eats he;have hp:=hs.peek ci;have ha:=hs.adv ci;have isi:∀t:Str,isF t s'=true↔isF t s=true:=fun t=>by rw[hs.isIn ci t]
 have kk:∀k:Int,(ai s').kind=k↔(ai s).kind=k:=fun k=>by rw[hp];exact Iff.rfl
 have tx:(ai s').text=(ai s).text:=by rw[hp];rfl
 have pp:(ai s').pos=(ai s).pos+2:=by rw[hp];rfl
 suffices rX A e q ShC (cr R s) (cr R' s')from this he
 unfold cr;refine cg (by rw[bf.2 hs.e0,bf.2 hs.e1]) (fun c e'=>absurd e' (b7.1 c)) (fun _=>?_);refine cg (kk 3) (fun c e'=>⟨ha,by rw[tx];exact eV pp⟩) (fun _=>?_);refine cg (kk 4) (fun c e'=>⟨ha,by rw[tx];exact eV pp⟩) (fun _=>?_);refine cg (kk 1) (fun c=>?_) (fun _=>?_)
 ·have g:=(eZ hi (by decide) c (bf.2 hs.e0)).1.good;refine cg (by rw[ha.isAny (by decide)]) (fun d e'=>?_) (fun d e'=>⟨ha,by rw[tx];exact eV pp⟩);obtain⟨_,c2⟩:=ha.isIt d;obtain⟨r2,q2⟩:=iH (by decide) (ha.adv c2) e';refine⟨r2,?_⟩;show(⟨5,(ai s').text,(aE 1 (au (au s'))).1.text,0,[],[],[],[],(ai s').pos⟩:Trm)=shT ⟨5,(ai s).text,(aE 1 (au (au s))).1.text,0,[],[],[],[],(ai s).pos⟩;rw[tx,q2];exact eV pp
 refine cg (isi _) (fun c e'=>⟨ha,eV pp⟩) (fun _=>?_);refine cg (isi _) (fun c e'=>⟨ha,eV pp⟩) (fun _=>?_);refine cg (isi _) (fun c=>?_) (fun _=>?_)
 ·have r:=aG hi c;have g:=lj hi c;have m2:=hR.moves g (by omega);have key:(R (au s)).2.err=0->Rlt A e q (R (au s)).2 (R' (au s')).2/\(R' (au s')).1=shT (R (au s)).1:=fun e1=>h _ _ ha g (by omega) e1;show rX A e q ShC (if isF [97,115] (R (au s)).2=true then _ else _) (if isF [97,115] (R' (au s')).2=true then _ else _);by_cases e1:(R (au s)).2.err=0
  ·obtain⟨r1,q1⟩:=key e1;refine cg (by rw[r1.isAny (by decide)]) (fun d e'=>?_) (fun d e'=>?_)
   ·have m3:=aC m2.good d;have m4:=dK m3.good;have e4:=(ae (t:=[41]) m4.good).goes.err e';obtain⟨_,c2⟩:=r1.isIt d;obtain⟨r4,q4⟩:=sS (r1.adv c2) m3.good e4;refine⟨cb r4 e',?_⟩;show(⟨15,[],[],0,[],[],[(bg (au (R' (au s')).2)).1],[(R' (au s')).1],(ai s').pos⟩:Trm)=shT ⟨15,[],[],0,[],[],[(bg (au (R (au s)).2)).1],[(R (au s)).1],(ai s).pos⟩;rw[q4];exact uG pp q1
   ·exact⟨cb r1 e',q1⟩
  ·have nb:¬isF [97,115] (R (au s)).2=true:=fun d=>e1 (ct d).2;rw[Hh nb];intro e';exact absurd ((ae (t:=[41]) m2.good).goes.err e') e1
 refine cg (isi _) (fun c e'=>?_) (fun _=>?_)
 ·have r:=aG hi c;exact iI (fm hR) (Ck hR h) [44] [125] ha (lj hi c) (by omega) (eV pp) e'
 have inn:∀(k:Int)(hk:¬k=0)(z:Int)(t:Str),isF t s=true->rX A e q ShC ((⟨z,[],(aE k (au s)).1.text,0,[],[],[],(bP R (aE k (au s)).2).1,(ai s).pos⟩:Trm),(bP R (aE k (au s)).2).2)
   ((⟨z,[],(aE k (au s')).1.text,0,[],[],[],(bP R' (aE k (au s')).2).1,(ai s').pos⟩:Trm),(bP R' (aE k (au s')).2).2):=fun k hk z t c e'=>by
  have r:=aG hi c;have g:=lj hi c;have m1:=aO (k:=k) g hk;have m3:=ae (t:=[40]) m1.good;have hle:=m1.goes.le;have hle3:=m3.goes.le;have m4:=hR.moves m3.good (by omega);have e4:=(ae (t:=[41]) m4.good).goes.err e';have e3:=m4.goes.err e4;have e2:=m3.goes.err e3;obtain⟨r1,q1⟩:=iH hk ha e2;obtain⟨r2,q2⟩:=Cm hR h r1 m1.good (by omega) e';refine⟨r2,?_⟩;show(⟨z,[],(aE k (au s')).1.text,0,[],[],[],(bP R' (aE k (au s')).2).1,(ai s').pos⟩:Trm)=shT _;rw[uE,q1,q2,pp]
 refine cg (isi _) (fun c=>inn 1 (by decide) 10 _ c) (fun _=>?_);refine cg (isi _) (fun c=>inn 2 (by decide) 16 _ c) (fun _=>?_);refine cg (isi _) (fun c=>inn 2 (by decide) 17 _ c) (fun _=>?_);exact fun e'=>absurd e' (dV (by decide))
theorem rv{n:Nat}{R R':Par->Trm×Par}(hR:cP R n)(h:xg A e q n R R'){p p':Int}(hp:p'=p+2):∀(k k':Nat)(t t':Trm)(s s':Par),k<=k'->Rlt A e q s s'->a8 s->rem s<n+1->rem s<k+1->t'=shT t->
  rX A e q ShC (dJ R p k t s) (dJ R' p' k' t' s')
 |0,k',t,t',s,s',_,hs,hi,hn,hk,ht=>by have:=bA hs.e0;omega
 |k+1,0,t,t',s,s',hkk,_,_,_,_,_=>by omega
 |k+1,k'+1,t,t',s,s',hkk,hs,hi,hn,hk,ht=>by
  rw[dJ,dJ];have b:¬aQ s=true:=by rw[bf.2 hs.e0];decide
  have b':¬aQ s'=true:=by rw[bf.2 hs.e1];decide
  rw[Hh b,Hh b'];refine cg (by rw[hs.isAny (by decide)]) (fun c e'=>?_) (fun _=>?_)
  ·have m:=aC hi c;have r:=aG hi c;have hq:=bA (ct c).2;obtain⟨_,c2⟩:=hs.isIt c;obtain⟨j,rfl⟩:∃j,n=j+1:=⟨n-1,by omega⟩;have g:=aI (bC hR) [44] [41] (⟨7,[],[],0,[],[],[],[t],p⟩:Trm) m.good (by omega);have gp:=dt hR p k (ab [44] [41] (ax R) (⟨7,[],[],0,[],[],[],[t],p⟩:Trm) (au s)).1 _ g.good (by have:=g.le;omega);have eg:=gp.err e';obtain⟨r1,q1⟩:=iI (x':=(⟨7,[],[],0,[],[],[],[t'],p'⟩:Trm)) (bC hR) (sT (by omega) h) [44] [41] (hs.adv c2) m.good (by omega) (uG hp ht) eg;exact rv hR h hp k k' _ _ _ _ (by omega) r1 g.good (by have:=g.le;omega) (by have:=g.le;omega) q1 e'
  refine cg (by rw[hs.isAny (by decide)]) (fun c e'=>?_) (fun _ e'=>⟨hs,ht⟩);have m:=aC hi c;have r:=aG hi c;obtain⟨_,c2⟩:=hs.isIt c;have m1:=aO (k:=1) m.good (by decide);have m2:=m.then m1;have hle:=m1.goes.le;have gp:=dt hR p k (⟨9,[],(aE 1 (au s)).1.text,0,[],[],[],[t],p⟩:Trm) _ m2.good (by have:=m2.goes.le;omega);have eg:=gp.err e';obtain⟨r1,q1⟩:=iH (by decide) (hs.adv c2) eg;exact rv hR h hp k k' _ _ _ _ (by omega) r1 m2.good (by have:=m2.goes.le;omega) (by omega) (by rw[q1];exact uG hp ht) e'
theorem Cn{n:Nat}{R R':Par->Trm×Par}(hR:cP R n)(h:xg A e q n R R'){s s':Par}(hs:Rlt A e q s s')(hi:a8 s)(hn:rem s<n+1)(he:(dT R s).2.err=0) :
  Rlt A e q (dT R s).2 (dT R' s').2/\(dT R' s').1=shT (dT R s).1:=by
 have m:=fa hR hi hn;have hle:=m.goes.le;have gp:=dt hR (ai s).pos (s.toks.length+2) (cr R s).1 _ m.good (by omega);have ea:=gp.err he;have ci:=hs.not_end m.goes m.eats ea;obtain⟨r1,q1⟩:=Ey hR h hs hi hn ea;have pp:(ai s').pos=(ai s).pos+2:=by rw[hs.peek ci];rfl
 refine rv hR h pp _ _ _ _ _ _ (by rw[hs.l0,hs.l1,kb,kc];omega) r1 m.good (by omega) ?_ q1 he;obtain⟨i0,i1,_⟩:=m.good;rw[m.goes.toks]at i1;unfold rem;rw[m.goes.toks];split<;>omega
theorem xh:∀b n m,b<=n->b<=m->xg A e q b (a7 n) (a7 m)
 |0,_,_,_,_=>fun s s' _ _ h=>absurd h (It _)
 |b+1,0,_,h,_=>by omega
 |b+1,n+1,0,_,h=>by omega
 |b+1,n+1,m+1,hbn,hbm=>fun s s' hs hi hn he=>by
  have h:=xh b n m (by omega) (by omega);have hR:cP (a7 n) b:=fun s i k=>cD n s i (by omega);have mv:=(cD (n+1)) s hi (by omega);have ci:=hs.not_end mv.1 mv.2 he;have ha:=hs.adv ci;have isi:∀t:Str,isF t s'=true↔isF t s=true:=fun t=>by rw[hs.isIn ci t]
  have pp:(ai s').pos=(ai s).pos+2:=by rw[hs.peek ci];rfl
  suffices rX A e q ShC (gw (a7 n) s) (gw (a7 m) s')from this he
  unfold gw;refine cg (isi _) (fun c e'=>?_) (fun _=>?_)
  ·have mo:=aC hi c;have r:=aG hi c;have mm:=ae (t:=[40]) mo.good;have l1:=mm.goes.le;have g:=aI (dW b) [44] [41] (⟨6,[],[],0,[],[],[],[],(ai s).pos⟩:Trm) mm.good (by omega);have l2:=g.le;have m3:=ae (t:=[45,62]) g.good;have l3:=m3.goes.le;have m4:=hR.moves m3.good (by omega);have e3:=m4.goes.err e';have e4:=m3.goes.err e3;have e5:=g.err e4;have r1:=cb ha e5;obtain⟨r2,q2⟩:=iI (x':=(⟨6,[],[],0,[],[],[],[],(ai s').pos⟩:Trm)) (dW b) (FQ b) [44] [41] r1 mm.good (by omega) (eV pp) e4;have r3:=cb (t:=[45,62]) r2 e3;obtain⟨r4,q4⟩:=h _ _ r3 m3.good (by omega) e';refine⟨r4,?_⟩;show aM _ _=shT (aM _ _);rw[gd,q2,q4]
  refine cg (isi _) (fun c e'=>?_) (fun _=>?_)
  ·have mo:=aC hi c;have r:=aG hi c;have a1:=aO (k:=1) mo.good (by decide);have b1:=ae (t:=[61]) a1.good;have lb:=(a1.then b1).goes.le;have p1:=hR.moves b1.good (by omega);have q1:=ae (t:=[105,110]) p1.good;have lq:=(p1.then q1).goes.le;have p2:=hR.moves q1.good (by omega);have eq:=p2.goes.err e';have e1:=q1.goes.err eq;have eb:=p1.goes.err e1;have ea:=b1.goes.err eb;obtain⟨s1,t1⟩:=iH (by decide) ha ea;have s2:=cb (t:=[61]) s1 eb;obtain⟨s3,t3⟩:=h _ _ s2 b1.good (by omega) e1;have s4:=cb (t:=[105,110]) s3 eq;obtain⟨s5,t5⟩:=h _ _ s4 q1.good (by omega) e';refine⟨s5,?_⟩;show aM (aM (⟨14,[],(aE 1 (au s')).1.text,0,[],[],[],[],(ai s').pos⟩:Trm) (a7 m (ak [61] (aE 1 (au s')).2)).1) (a7 m (ak [105,110] (a7 m (ak [61] (aE 1 (au s')).2)).2)).1=shT (aM (aM (⟨14,[],(aE 1 (au s)).1.text,0,[],[],[],[],(ai s).pos⟩:Trm) (a7 n (ak [61] (aE 1 (au s)).2)).1) (a7 n (ak [105,110] (a7 n (ak [61] (aE 1 (au s)).2)).2)).1);rw[gd,gd,t1,t3,t5,<-eV pp]
  refine cg (isi _) (fun c e'=>?_) (fun _=>?_)
  ·have mo:=aC hi c;have r:=aG hi c;have p1:=hR.moves mo.good (by omega);have b1:=ae (t:=[116,104,101,110]) p1.good;have lb:=(p1.then b1).goes.le;have p2:=hR.moves b1.good (by omega);have d1:=ae (t:=[101,108,115,101]) p2.good;have ld:=(p2.then d1).goes.le;have p3:=hR.moves d1.good (by omega);have e3:=(cO p3.good).goes.err e';have ed:=p3.goes.err e3;have e2:=d1.goes.err ed;have eb:=p2.goes.err e2;have e1:=b1.goes.err eb;obtain⟨s1,t1⟩:=h _ _ ha mo.good (by omega) e1;have s2:=cb (t:=[116,104,101,110]) s1 eb;obtain⟨s3,t3⟩:=h _ _ s2 b1.good (by omega) e2;have s4:=cb (t:=[101,108,115,101]) s3 ed;obtain⟨s5,t5⟩:=h _ _ s4 d1.good (by omega) e3;have hT:aM (aM (aM (⟨12,[],[],0,[],[],[],[],(ai s').pos⟩:Trm) (a7 m (au s')).1) (a7 m (ak [116,104,101,110] (a7 m (au s')).2)).1) (a7 m (ak [101,108,115,101] (a7 m (ak [116,104,101,110] (a7 m (au s')).2)).2)).1=shT (aM (aM (aM (⟨12,[],[],0,[],[],[],[],(ai s).pos⟩:Trm) (a7 n (au s)).1) (a7 n (ak [116,104,101,110] (a7 n (au s)).2)).1) (a7 n (ak [101,108,115,101] (a7 n (ak [116,104,101,110] (a7 n (au s)).2)).2)).1):=by rw[gd,gd,gd,t1,t3,t5,<-eV pp]
   exact ny s5 p3.good hT e'
  refine cg (isi _) (fun c e'=>?_) (fun _=>?_)
  ·have mo:=aC hi c;have r:=aG hi c;have p1:=hR.moves mo.good (by omega);have b1:=ae (t:=[111,102]) p1.good;have d1:=ae (t:=[123]) b1.good;have ld:=((p1.then b1).then d1).goes.le;have g:=aI (eI hR) [124] [125] (ax (a7 n) ⟨13,[],[],0,[],[],[],[],(ai s).pos⟩ (au s)).1 d1.good (by omega);have eg:=(cO g.good).goes.err e';have ed:=g.err eg;have eb:=d1.goes.err ed;have e1:=b1.goes.err eb;obtain⟨s1,t1⟩:=h _ _ ha mo.good (by omega) e1;have s2:=cb (t:=[111,102]) s1 eb;have s3:=cb (t:=[123]) s2 ed;obtain⟨s4,t4⟩:=iI (x:=aM (⟨13,[],[],0,[],[],[],[],(ai s).pos⟩:Trm) (a7 n (au s)).1) (x':=aM (⟨13,[],[],0,[],[],[],[],(ai s').pos⟩:Trm) (a7 m (au s')).1) (eI hR) (FR hR h) [124] [125] s3 d1.good (by omega) (by show _=_;rw[gd,t1,<-eV pp]) eg;exact ny s4 g.good t4 e'
  refine cg (isi _) (fun c e'=>?_) (fun _ e'=>Cn hR h hs hi hn e');have mo:=aC hi c;have r:=aG hi c;have hq:=bA (ct c).2;obtain⟨j,rfl⟩:∃j,b=j+1:=⟨b-1,by omega⟩;have g:=aI (bC hR) [44] [93] (⟨11,[],[],0,[],[],[],[],(ai s).pos⟩:Trm) mo.good (by omega);have eg:=(cO g.good).goes.err e';obtain⟨s4,t4⟩:=iI (x':=(⟨11,[],[],0,[],[],[],[],(ai s').pos⟩:Trm)) (bC hR) (sT (by omega) h) [44] [93] ha mo.good (by omega) (eV pp) eg;exact ny s4 g.good t4 e'
end
end Go.Pd
end
section
namespace Go.Pd
open Go.AL
section
variable {A:List Tokn} {e q:Int}
theorem oH(hl:A.length+3<=4097):b9 (TL1 A q) 0=⟨TL1 A q,0,0,0⟩:=by unfold b9;rw[Hh (by rw[kc];omega),Hh (by rw[kc];omega)]
theorem FT:cK (TL1 A q) 0=⟨6,[40],0⟩:=by unfold cK;rw[kc,Hj (by omega)];rfl
theorem FU:cK (TL1 A q) ((A.length:Int)+2)=⟨0,[],q+1⟩:=by unfold cK;rw[kc,Hj (by omega),show((A.length:Int)+2).toNat=A.length+1+1 by omega];unfold TL1;rw[Ji,Hl,Ht (by simp)];simp
theorem zw{t:Str}{p:Int}{k:Tokn}{s:Par}(hs:s.err=0)(hk:ai s=k):isF t s=((decide (k.kind=6)||decide (k.kind=5))&&decide (k.text=t)):=by rw[ru,hk,bf.2 hs];simp
theorem xi{n:Nat}(hl:A.length+3<=4097)(u:Trm×Par)(hu:a7 n ⟨TL1 A q,1,0,0⟩=u)(h1:u.2.toks=TL1 A q)(h2:u.2.pos=(A.length:Int)+1)(h3:u.2.err=0) :
  a7 (n+1) ⟨TL1 A q,0,0,0⟩=(u.1,au u.2):=by
 have pk:ai ⟨TL1 A q,0,0,0⟩=⟨6,[40],0⟩:=FT;have i0:∀t:Str,isF t ⟨TL1 A q,0,0,0⟩=decide (([40]:Str)=t):=fun t=>by rw[zw (p:=0) rfl pk];simp
 have pu:ai u.2=⟨6,[41],q⟩:=by unfold ai;rw[h1,h2];exact sQ
 have iu:∀t:Str,isF t u.2=decide (([41]:Str)=t):=fun t=>by rw[zw (p:=0) h3 pu];simp
 have pv:ai (au u.2)=⟨0,[],q+1⟩:=by unfold ai;show cK u.2.toks (u.2.pos+1)=_;rw[h1,h2,show(A.length:Int)+1+1=(A.length:Int)+2 by omega];exact FU
 have iv:∀t:Str,isF t (au u.2)=false:=fun t=>by rw[zw (p:=0) (show(au u.2).err=0 from h3) pv];simp
 have ha:cr (a7 n) ⟨TL1 A q,0,0,0⟩=(u.1,au u.2):=by
  unfold cr;simp only[i0,pk];have hm:ak [41] u.2=au u.2:=by unfold ak;rw[iu];rfl
  have h0:a7 n (au ⟨TL1 A q,0,0,0⟩)=u:=hu;rw[Hh (show ¬aQ ⟨TL1 A q,0,0,0⟩=true from fun h=>b7.1 h rfl),Hh (by decide),Hh (by decide),Hh (by decide),Hh (by decide),Hh (by decide),Hj (by decide),h0,iu,Hh (by decide),hm]
 show gw (a7 n) _=_;unfold gw;simp only[i0];rw[Hh (by decide),Hh (by decide),Hh (by decide),Hh (by decide),Hh (by decide)];unfold dT;rw[ha];show dJ (a7 n) _ ((TL1 A q).length+1+1) u.1 (au u.2)=_;rw[dJ,Hh (by rw[bf.2 (show(au u.2).err=0 from h3)];decide),iv,iv];rfl
end
mutual
theorem countT_sh:∀(t:Trm)(m:Int),countT (shT t) m=countT t m
 |⟨_,_,_,_,_,_,_,ps,_⟩,m=>by rw[shT,countT,countT,countL_sh ps]
theorem countL_sh:∀(l:List Trm)(m n d:Int),countL (shTL l) m n d=countL l m n d
 |[],_,_,_=>by rw[shTL]
 |p::r,m,n,d=>by rw[shTL,countL,countL,countT_sh p,countL_sh r]
end
mutual
def bareT:Trm->Trm
 |⟨k,g,n,z,ns,vs,ss,ps,_⟩=>⟨k,g,n,z,ns,vs,ss,bareTL ps,0⟩
def bareTL:List Trm->List Trm
 |[]=>[]
 |p::r=>bareT p::bareTL r
end
mutual
theorem bare_sh:∀t:Trm,bareT (shT t)=bareT t
 |⟨_,_,_,_,_,_,_,ps,_⟩=>by rw[shT,bareT,bareT,bareL_sh ps]
theorem bareL_sh:∀l:List Trm,bareTL (shTL l)=bareTL l
 |[]=>by rw[shTL]
 |p::r=>by rw[shTL,bareTL,bareTL,bare_sh p,bareL_sh r]
end
theorem Ez{t:Trm}(h:¬(bz t=3∨bz t=91)):¬(bz (shT t)=3∨bz (shT t)=91):=by
 unfold bz at h⊢;rw[countT_sh];split at h
 ·exact absurd (.inl rfl) h
 rename_i x;rw[Hh x];split at h
 ·exact absurd (.inr rfl) h
 rename_i y;rw[Hh y];split<;>decide
section
variable {A:List Tokn} {e q:Int}
theorem rY(hN:ml (TL0 A e))(hl:A.length+3<=4097)(h:(b5 (TL0 A e) 0).2.2.err=0)(hb:(b5 (TL0 A e) 0).2.1=(A.length:Int)) :
  b5 (TL1 A q) 0=(shT (b5 (TL0 A e) 0).1,(A.length:Int)+2,⟨0,0⟩):=by
 have h0:b9 (TL0 A e) 0=⟨TL0 A e,0,0,0⟩:=by unfold b9;rw[Hh (by rw[kb];omega),Hh (by rw[kb];omega)]
 have nb:∀l:List Tokn,¬aQ ⟨l,0,0,0⟩=true:=fun l x=>b7.1 x rfl;unfold b5 at h hb⊢;rw[h0]at h hb⊢;rw[oH hl];rw[Hh (nb _)]at h hb⊢;rw[Hh (nb _)];have hi:a8 ⟨TL0 A e,0,0,0⟩:=⟨Iv _,by show(0:Int)<=_;omega,by show(TL0 A e).length<=4097;rw[kb];omega,hN⟩;have hs:Rlt A e q ⟨TL0 A e,0,0,0⟩ ⟨TL1 A q,1,0,0⟩:=⟨rfl,rfl,rfl,Iv _,by show(0:Int)<=_;omega,rfl,rfl⟩;have sim:=xh (A:=A) (e:=e) (q:=q) 4999 5000 4999 (by omega) (by omega) _ _ hs hi (by have:=j8 hi;omega);unfold sD at h hb⊢;rw[h0]at h hb⊢;rw[oH hl];generalize hp:a7 5000 ⟨TL0 A e,0,0,0⟩=p at h hb sim⊢;by_cases c:aQ p.2=true
 ·rw[Hj c]at h;unfold iJ at h;rw[Hj c]at h;exact absurd h (b7.1 c)
 rw[Hh c]at h hb⊢;by_cases d:bz p.1=3∨bz p.1=91
 ·rw[Hj d]at h;have hne:¬bz p.1=0:=by rcases d with d|d<;>rw[d]<;>decide
  have hbd:aQ (cC (bz p.1) (ai ⟨TL0 A e,0,0,0⟩).pos p.2)=true:=b7.2 (dV hne);unfold iJ at h;rw[Hj hbd]at h;exact absurd h (b7.1 hbd)
 rw[Hh d]at h hb⊢;obtain⟨r1,q1⟩:=sim (iY c);have ep:(iJ lR p)=(p.1,p.2.pos,⟨0,0⟩):=by unfold iJ;rw[Hh c]
 rw[ep]at hb⊢;have hpos:p.2.pos=(A.length:Int):=hb;have ar:=xi (n:=4999) hl _ rfl r1.l1 (by rw[r1.pos,hpos]) r1.e1;rw[ar];have c1:¬aQ (au (a7 4999 ⟨TL1 A q,1,0,0⟩).2)=true:=fun x=>b7.1 x r1.e1;rw[Hh c1];have q1':(a7 4999 ⟨TL1 A q,1,0,0⟩).1=shT p.1:=q1;rw[Hh (by show ¬(bz (a7 4999 ⟨TL1 A q,1,0,0⟩).1=3∨bz (a7 4999 ⟨TL1 A q,1,0,0⟩).1=91);rw[q1'];exact Ez d)];unfold iJ;rw[Hh c1];show((a7 4999 ⟨TL1 A q,1,0,0⟩).1,(a7 4999 ⟨TL1 A q,1,0,0⟩).2.pos+1,(⟨0,0⟩:Flt))=_;rw[q1',r1.pos,hpos];show(_,(A.length:Int)+1+1,_)=(_,(A.length:Int)+2,_);rw[show(A.length:Int)+1+1=(A.length:Int)+2 by omega]
theorem rZ{s s':Str}(hN:ml (TL0 A e))(hl:A.length+3<=4097)(h1:(aU s).1=TL0 A e)(h2:(aU s').1=TL1 A q)(h3:(aU s').2.err=0)(h:(dp s).2.err=0) :
  (dp s').2.err=0/\(dp s').1=shT (dp s).1:=by
 unfold dp nh at h⊢;rw[Hj h3,h2];by_cases a:(aU s).2.err=0
 ·rw[Hj a,h1]at h⊢;by_cases b:(b5 (TL0 A e) 0).2.2.err=0
  ·rw[Hj b]at h⊢;by_cases c:(cR (TL0 A e) (b5 (TL0 A e) 0).2.1).err=0
   ·rw[Hj c]
    have hp:(b5 (TL0 A e) 0).2.1=(A.length:Int):=by
     unfold cR at c;split at c
     ·rename_i k;rw[k,kb];omega
     ·exact absurd c (by show ¬(90:Int)=0;decide)
    have T:=rY (q:=q) hN hl b hp;have hb:cR (TL1 A q) ((A.length:Int)+2)=⟨0,0⟩:=by unfold cR;rw[Hj (by rw[kc];omega)]
    simp only[T,hb];exact⟨rfl,rfl⟩
   ·rw[Hh c]at h;exact absurd h c
  ·rw[Hh b]at h;exact absurd h b
 ·rw[Hh a]at h;exact absurd h a
end
end Go.Pd
end
section
namespace Go.Pd
open Go.AL
def arS(s:Str):Str:=40::32::(s++[10,41])
theorem fH(s:Str):(arS s).length=s.length+4:=by simp[arS]
section
variable {s:Str}
theorem jD{a:Nat}(h:a<=s.length):(arS s).drop (a+2)=s.drop a++[10,41]:=by unfold arS;rw[Jf,Jf,List.drop_append_of_le_length h]
theorem xj{p:Int}(h:0<=p):∃a:Nat,p=(a:Int):=⟨p.toNat,by omega⟩
theorem bW{p:Int}(h0:0<=p)(h:p<(s.length:Int)):bAt (arS s) (p+2)=bAt s p:=by obtain⟨a,rfl⟩:=xj h0;rw[eA h,eA (by rw[fH];omega),show((a:Int)+2).toNat=a+2 by omega,HC,<-mr,jD (by omega),aT s a 0 (by omega)];rfl
theorem EA:bAt (arS s) ((s.length:Int)+2)=10:=by rw[eA (by rw[fH];omega),show((s.length:Int)+2).toNat=s.length+2 by omega,<-mr,jD (Hu _),HG];rfl
theorem xk:(arS s).drop (s.length+3)=[41]:=by
 have:(arS s).drop (s.length+3)=((arS s).drop (s.length+2)).drop 1:=by rw[JI]
 rw[this,jD (Hu _),HG];rfl
theorem uH:bAt (arS s) ((s.length:Int)+3)=41:=by rw[eA (by rw[fH];omega),show((s.length:Int)+3).toNat=s.length+3 by omega,<-mr,xk];rfl
theorem cW{a b:Int}(h0:0<=a)(h1:a<=b)(h2:b<=(s.length:Int)):cut (arS s) (a+2) (b+2)=cut s a b:=by
 obtain⟨x,rfl⟩:=xj h0;obtain⟨w,hw⟩:=xj (show 0<=b-(x:Int) by omega);have hb:b=(x:Int)+(w:Int):=by omega
 subst hb;rw[nk,show(x:Int)+2=((x+2:Nat):Int) by omega,show(x:Int)+(w:Int)+2=((x+2:Nat):Int)+(w:Int) by omega,nk,jD (by omega),IB (by rw[Ih];omega)]
theorem wW{pr:Int->Bool}(hp:pr 10=false){a:Int}(h0:0<=a)(h1:a<=(s.length:Int)):ao pr (arS s) (a+2)=ao pr s a:=by
 obtain⟨x,rfl⟩:=xj h0;rw[mw,show(x:Int)+2=((x+2:Nat):Int) by omega,mw,jD (by omega),List.takeWhile_append];split
 ·rename_i h;rw[ID,show pr (bI 10)=false from hp];simp[h]
 ·rfl
structure Cl(P:Tokn)(c c':SC):Prop where
 pos:c'.pos=c.pos+2
 out:c'.out=P::c.out.map shK
variable {P:Tokn}
theorem kd{c c':SC}(h:Cl P c c')(a:Int):Cl P (bH c a) (bH c' (a+2)):=⟨rfl,h.out⟩
theorem EB{c c':SC}{k p p':Int}{t:Str}(h:Cl P c c')(hp:p'=p+2):(ez k t p' c').1=true/\Cl P (ez k t p c).2 (ez k t p' c').2:=
 ⟨rfl,h.pos,by show c'.out++[_]=P::(c.out++[_]).map shK;rw[h.out,hp];simp[shK]⟩
theorem o5:∀(n n':Nat)(acc:Str)(c c':SC)(fr fr':Int),n<=n'->Cl P c c'->0<=c.pos->c.pos<=(s.length:Int)->(bZ s fr n acc c).2.1=true->
  (bZ (arS s) fr' n' acc c').2.1=true/\(bZ (arS s) fr' n' acc c').1=(bZ s fr n acc c).1/\Cl P (bZ s fr n acc c).2.2 (bZ (arS s) fr' n' acc c').2.2
 |0,_,acc,c,c',fr,fr',_,_,_,_,h=>by cases h
 |n+1,0,_,_,_,_,_,hn,_,_,_,_=>by omega
 |n+1,n'+1,acc,c,c',fr,fr',hn,hc,h0,h1,h=>by
  rw[bZ]at h⊢;rw[bZ,hc.pos];by_cases a:bAt s c.pos<32
  ·rw[Hj a]at h;cases h
  have hlt:c.pos<(s.length:Int):=by
   rcases JG c.pos s.length with k|k
   ·exact k
   ·rw[lx k]at a;exact absurd (by decide) a
  rw[bW h0 hlt];rw[Hh a]at h⊢;rw[Hh a];by_cases b:bAt s c.pos=34
  ·rw[Hj b]at h⊢;rw[Hj b];refine⟨rfl,rfl,?_⟩;show Cl P (bH c (c.pos+1)) (bH c' (c.pos+2+1));rw[show c.pos+2+1=c.pos+1+2 by omega];exact kd hc _
  rw[Hh b]at h⊢;rw[Hh b];by_cases d:bAt s c.pos=92
  ·rw[Hj d]at h⊢;rw[Hj d]
   cases he:iS (bAt s (c.pos+1))with
   |none=>rw[he]at h;cases h
   |some x=>
    have hx:=ly he;rw[he]at h;have he':iS (bAt (arS s) (c.pos+2+1))=some x:=by rw[show c.pos+2+1=c.pos+1+2 by omega,bW (by omega) hx,he]
    rw[he'];have:=o5 n n' (acc++[UInt8.ofNat x.toNat]) (bH c (c.pos+2)) (bH c' (c.pos+2+2)) fr fr' (by omega) (kd hc _) (by show 0<=c.pos+2;omega) (by show c.pos+2<=_;omega) h;exact this
  rw[Hh d]at h⊢;rw[Hh d];have hw:=cG (pr:=aZ) h0 h1;rw[wW (pr:=aZ) (by decide) h0 h1,show c.pos+2+(ao aZ s c.pos:Int)=c.pos+(ao aZ s c.pos:Int)+2 by omega,cW h0 (by omega) hw]
  cases hb:bS (cut s c.pos (c.pos+(ao aZ s c.pos:Int)))with
  |some k=>rw[hb]at h;cases h
  |none=>rw[hb]at h;exact o5 n n' _ _ _ fr fr' (by omega) (kd hc _) (by show 0<=c.pos+(ao aZ s c.pos:Int);omega) hw h
theorem EC{x:UInt8}:kO [x,10]=false:=by unfold kO;simp
theorem ED{c c':SC}(hc:Cl P c c')(h0:0<=c.pos)(h1:c.pos<(s.length:Int))(h:(aK s c).1=true):(aK (arS s) c').1=true/\Cl P (aK s c).2 (aK (arS s) c').2:=by
 have mv:∀(k:Int)(t:Str)(e:Int),(ez k t c'.pos (bH c' (e+2))).1=true/\Cl P (ez k t c.pos (bH c e)).2 (ez k t c'.pos (bH c' (e+2))).2:=fun k t e=>EB (kd hc e) hc.pos;have hle:c.pos<=(s.length:Int):=by omega
 unfold aK at h⊢;rw[hc.pos,bW h0 h1];split at h
 ·rename_i a;rw[Hj a,Hj a];have hw:=cG (pr:=bK) h0 hle;rw[wW (pr:=bK) (by decide) h0 hle,show c.pos+2+(ao bK s c.pos:Int)=c.pos+(ao bK s c.pos:Int)+2 by omega,cW h0 (by omega) hw];unfold rL at h⊢;split at h
  ·rename_i x;rw[Hj x,Hj x];exact mv 5 _ _
  rename_i x;rw[Hh x,Hh x];split at h
  ·rename_i y;rw[Hj y,Hj y];exact mv 1 _ _
  rename_i y;rw[Hh y,Hh y];split at h
  ·rename_i z;rw[Hj z,Hj z];exact mv 2 _ _
  ·cases h
 rename_i a;rw[Hh a,Hh a];split at h
 ·rename_i b;rw[Hj b,Hj b];have hw:=cG (pr:=bO) h0 hle;rw[wW (pr:=bO) (by decide) h0 hle,show c.pos+2+(ao bO s c.pos:Int)=c.pos+(ao bO s c.pos:Int)+2 by omega,cW h0 (by omega) hw];unfold vG at h⊢;split at h
  ·rename_i x;rw[Hj x,Hj x];exact mv 3 _ _
  rename_i x;rw[Hh x,Hh x];split at h
  ·rename_i y;rw[Hj y,Hj y];exact mv 7 _ _
  ·cases h
 rename_i b;rw[Hh b,Hh b];split at h
 ·rename_i d;rw[Hj d,Hj d];unfold vH at h⊢;split at h
  ·rename_i x;rw[Hj x];have qq:=o5 (P:=P) (s.length+2) ((arS s).length+2) [] (bH c (c.pos+1)) (bH c' (c'.pos+1)) c.pos c'.pos (by rw[fH];omega) (by rw[hc.pos,show c.pos+2+1=c.pos+1+2 by omega];exact kd hc _) (by show 0<=c.pos+1;omega) (by show c.pos+1<=_;omega) x;obtain⟨q1,q2,q3⟩:=qq;have q1':(bL (arS s) c').2.1=true:=q1;rw[Hj q1'];have q2':(bL (arS s) c').1=(bL s c).1:=q2;rw[q2'];exact EB q3 rfl
  ·cases h
 rename_i d;rw[Hh d,Hh d];unfold oK at h⊢;rw[hc.pos];have one:cut (arS s) (c.pos+2) (c.pos+2+1)=cut s c.pos (c.pos+1):=by rw[show c.pos+2+1=c.pos+1+2 by omega];exact cW h0 (by omega) (by omega)
 have s1:cv (arS s) (c.pos+2) 1=cv s c.pos 1:=by unfold cv;rw[one,fH,Xd (show c.pos+2+1<=((s.length+4:Nat):Int) by omega),Xd (show c.pos+1<=(s.length:Int) by omega)]
 have s2:cv (arS s) (c.pos+2) 2=cv s c.pos 2:=by
  unfold cv;rw[fH,Xd (show c.pos+2+2<=((s.length+4:Nat):Int) by omega),HR];by_cases k:c.pos+2<=(s.length:Int)
  ·rw[cW h0 (by omega) k,Xd k,HR]
  ·rw[Xf k,HP];obtain⟨a,ha⟩:=xj h0;have hl:s.length=a+1:=by omega
   rw[ha,show(a:Int)+2=((a+2:Nat):Int) by omega,show(((a+2:Nat):Int)+2)=((a+2:Nat):Int)+((2:Nat):Int) by omega,nk,jD (by omega),aT s a 0 (by omega),IE (by omega)];exact EC
 rw[s1,s2];split at h
 ·rename_i x;rw[Hj x,Hj x];have hk:c.pos+2<=(s.length:Int):=by unfold cv at x;rw[Hk,Hq]at x;exact x.1
  rw[cW h0 (by omega) hk];have:=mv 6 (cut s c.pos (c.pos+2)) (c.pos+2);rw[hc.pos]at this;exact this
 rename_i x;rw[Hh x,Hh x];split at h
 ·rename_i y;rw[Hj y,Hj y,one];have:=mv 6 (cut s c.pos (c.pos+1)) (c.pos+1);rw[show c.pos+1+2=c.pos+2+1 by omega,hc.pos]at this;exact this
 ·cases h
theorem EE{n:Nat}{c':SC}(hn:3<=n)(h:c'.pos=(s.length:Int)+2):cM (arS s) n c'=(c'.out++[⟨6,[41],(s.length:Int)+3⟩,⟨0,[],(s.length:Int)+3+1⟩],⟨0,0⟩):=by
 obtain⟨k,rfl⟩:∃k,n=k+1+1+1:=⟨n-3,by omega⟩;have hl:((arS s).length:Int)=(s.length:Int)+4:=by rw[fH];omega
 rw[cM,hl,h,Hh (by omega),EA,Hj (by decide)];have e3:(s.length:Int)+2+1=(s.length:Int)+3:=by omega
 rw[e3,cM,hl];show(if(s.length:Int)+3=(s.length:Int)+4 then _ else if iB (bAt (arS s) ((s.length:Int)+3))=true then _ else _)=_;rw[Hh (by omega),uH,Hh (by decide)];rw[Hh (fun x=>absurd (show bAt (arS s) ((s.length:Int)+3)=45 from x.1) (by rw[uH];decide))]
 have ht:aK (arS s) (bH c' ((s.length:Int)+3))=ez 6 [41] ((s.length:Int)+3) (bH c' ((s.length:Int)+4)):=by
  unfold aK;show(if cq (bAt (arS s) ((s.length:Int)+3))=true∨cy (bAt (arS s) ((s.length:Int)+3))=true then _ else if de (bAt (arS s) ((s.length:Int)+3))=true then _ else if bAt (arS s) ((s.length:Int)+3)=34 then _ else _)=_;rw[uH,Hh (by decide),Hh (by decide),Hh (by decide)];unfold oK;show(if cv (arS s) ((s.length:Int)+3) 2=true then _ else if cv (arS s) ((s.length:Int)+3) 1=true then ez 6 (cut (arS s) ((s.length:Int)+3) ((s.length:Int)+3+1)) ((s.length:Int)+3) _ else _)=_;have e2:cv (arS s) ((s.length:Int)+3) 2=false:=by unfold cv;rw[hl,Xf (by omega)];rfl
  have e1:cut (arS s) ((s.length:Int)+3) ((s.length:Int)+3+1)=[41]:=by rw[show(s.length:Int)+3=((s.length+3:Nat):Int) by omega,show(((s.length+3:Nat):Int)+1)=((s.length+3:Nat):Int)+((1:Nat):Int) by omega,nk,xk];rfl
  have e0:cv (arS s) ((s.length:Int)+3) 1=true:=by unfold cv;rw[hl,e1,Xd (by omega)];decide
  rw[e2,Hh (by decide),Hj e0,e1];show(true,(⟨(s.length:Int)+3+1,_,_,_⟩:SC))=(true,⟨(s.length:Int)+4,_,_,_⟩);rw[show(s.length:Int)+3+1=(s.length:Int)+4 by omega];rfl
 rw[ht];show(if true=true then cM (arS s) (k+1) (ez 6 [41] ((s.length:Int)+3) (bH c' ((s.length:Int)+4))).2 else _)=_;rw[Hj rfl,cM,hl];show(if(s.length:Int)+4=(s.length:Int)+4 then((c'.out++[⟨6,[41],(s.length:Int)+3⟩])++[⟨0,[],(s.length:Int)+4⟩],(⟨0,0⟩:Flt))else _)=_;rw[Hj rfl,I0,show(s.length:Int)+4=(s.length:Int)+3+1 by omega];rfl
theorem pe:∀(n n':Nat)(c c':SC),n+2<=n'->Cl P c c'->0<=c.pos->c.pos<=(s.length:Int)->(s.length:Int)<c.pos+(n:Int)->(c.out.length:Int)<=c.pos->(cM s n c).2.err=0->
  ∃A:List Tokn,A.length<=s.length/\(cM s n c).1=A++[⟨0,[],(s.length:Int)⟩]/\cM (arS s) n' c'=(P::(A.map shK++[⟨6,[41],(s.length:Int)+3⟩,⟨0,[],(s.length:Int)+3+1⟩]),⟨0,0⟩)
 |0,_,c,_,_,_,h0,h1,h2,_,_=>by omega
 |n+1,0,_,_,hn,_,_,_,_,_,_=>by omega
 |n+1,n'+1,c,c',hn,hc,h0,h1,h2,hl,h=>by
  by_cases a:c.pos=(s.length:Int)
  ·rw[cM,Hj a];refine⟨c.out,by omega,rfl,?_⟩;rw[EE (by omega) (by rw[hc.pos,a]),hc.out];rfl
  rw[cM,Hh a]at h⊢;have hlt:c.pos<(s.length:Int):=by omega
  rw[cM,fH,hc.pos,Hh (show ¬(c.pos+2=((s.length+4:Nat):Int)) by omega),bW h0 hlt];by_cases b:iB (bAt s c.pos)=true
  ·rw[Hj b]at h⊢;rw[Hj b,show c.pos+2+1=c.pos+1+2 by omega];exact pe n n' _ _ (by omega) (kd hc _) (by show 0<=c.pos+1;omega) (by show c.pos+1<=_;omega) (by show _<c.pos+1+(n:Int);omega) (by show(c.out.length:Int)<=c.pos+1;omega) h
  rw[Hh b]at h⊢;rw[Hh b]
  have nx:(bAt s c.pos=45/\bAt (arS s) (c.pos+2+1)=45)↔(bAt s c.pos=45/\bAt s (c.pos+1)=45):=by
   rw[show c.pos+2+1=c.pos+1+2 by omega];rcases JG (c.pos+1) s.length with k|k
   ·rw[bW (by omega) k]
   ·have ek:c.pos+1=(s.length:Int):=by omega
    rw[ek,EA,lx (Iv _)];exact⟨fun x=>absurd x.2 (by decide),fun x=>absurd x.2 (by decide)⟩
  by_cases d:bAt s c.pos=45/\bAt s (c.pos+1)=45
  ·rw[Hj d]at h⊢;rw[Hj (nx.2 d)];have hw:=cG (pr:=ca) h0 h1;have hh:=cE (pr:=ca) h0 hlt (by rw[<-eA hlt,d.1];rfl);rw[wW (pr:=ca) (by decide) h0 h1,show c.pos+2+(ao ca s c.pos:Int)=c.pos+(ao ca s c.pos:Int)+2 by omega,cW h0 (by omega) hw]
   cases hb:bS (cut s c.pos (c.pos+(ao ca s c.pos:Int)))with|some k=>rw[hb]at h;exact absurd (show(30:Int)=0 from h) (by decide)|none=>rw[hb]at h;exact pe n n' _ _ (by omega) (kd hc _) (by show 0<=c.pos+_;omega) hw (by show _<c.pos+_+(n:Int);omega) (by show(c.out.length:Int)<=c.pos+(ao ca s c.pos:Int);omega) h
  rw[Hh d]at h⊢;rw[Hh (fun x=>d (nx.1 x))];by_cases f:(aK s c).1=true
  ·rw[Hj f]at h⊢;obtain⟨t1,t2,t3⟩:=eJ h0 hlt f;obtain⟨k1,k2⟩:=ED hc h0 hlt f;rw[Hj k1];exact pe n n' _ _ (by omega) k2 (by omega) t2 (by omega) (by omega) h
  ·rw[Hh f]at h
   exact absurd h (by
    have:(aK s c).1=false:=by simpa using f
    exact jY h0 hlt this)
theorem xl(hs:s.length+4<=4096)(h:(aU s).2.err=0):∃A:List Tokn,A.length+3<=4097/\(aU s).1=TL0 A (s.length:Int)/\(aU (arS s)).1=TL1 A ((s.length:Int)+3)/\(aU (arS s)).2.err=0:=by
 have e0:aU s=cM s (s.length+2) ⟨0,[],0,0⟩:=by unfold aU;rw[Hh (by omega)]
 rw[e0]at h⊢;obtain⟨A,a1,a2,a3⟩:=pe (s:=s) (P:=⟨6,[40],0⟩) (s.length+2) (s.length+4) ⟨0,[],0,0⟩ ⟨2,[⟨6,[40],0⟩],0,0⟩ (by omega) ⟨rfl,rfl⟩ (Iv _) (by show(0:Int)<=_;omega) (by show _<(0:Int)+((s.length+2:Nat):Int);omega) (by show(0:Int)<=0;omega) h
 have e1:aU (arS s)=cM (arS s) (s.length+4) ⟨2,[⟨6,[40],0⟩],0,0⟩:=by
  unfold aU;rw[Hh (by rw[fH];omega),fH];have hl:((arS s).length:Int)=(s.length:Int)+4:=by rw[fH];omega
  have b0:bAt (arS s) 0=40:=by rw[eA (by omega)];rfl
  have b1:bAt (arS s) 1=32:=by rw[eA (by omega)];rfl
  have ht:aK (arS s) ⟨0,[],0,0⟩=(true,⟨1,[⟨6,[40],0⟩],0,0⟩):=by
   unfold aK;show(if cq (bAt (arS s) 0)=true∨cy (bAt (arS s) 0)=true then _ else if de (bAt (arS s) 0)=true then _ else if bAt (arS s) 0=34 then _ else oK (arS s) ⟨0,[],0,0⟩)=_;rw[b0,Hh (by decide),Hh (by decide),Hh (by decide)];unfold oK;have c2:cv (arS s) 0 2=false:=by unfold cv;rw[show cut (arS s) 0 (0+2)=[40,32] by rfl];rw[show kO [40,32]=false by decide,Iq]
   have c1:cv (arS s) 0 1=true:=by
    unfold cv;rw[show cut (arS s) 0 (0+1)=[40] by rfl,Xd (by omega)]
    decide
   show(if cv (arS s) 0 2=true then _ else if cv (arS s) 0 1=true then _ else _)=_;rw[c2,Hh (by decide),Hj c1];rfl
  rw[show s.length+4+2=(s.length+4)+1+1 by omega,cM,hl];show(if(0:Int)=(s.length:Int)+4 then _ else _)=_;rw[Hh (by omega),Hh (show ¬iB (bAt (arS s) 0)=true by rw[b0];decide),Hh (fun x=>absurd (show bAt (arS s) 0=45 from x.1) (by rw[b0];decide)),ht];show(if true=true then cM (arS s) (s.length+4+1) ⟨1,[⟨6,[40],0⟩],0,0⟩else _)=_;rw[Hj rfl,cM,hl];show(if(1:Int)=(s.length:Int)+4 then _ else if iB (bAt (arS s) 1)=true then _ else _)=_;rw[Hh (by omega),b1,Hj (by decide)];rfl
 rw[e1,a3];exact⟨A,by omega,a2,rfl,rfl⟩
theorem zx(hs:s.length+4<=4096)(h:(dp s).2.err=0):(dp (arS s)).2.err=0/\bareT (dp (arS s)).1=bareT (dp s).1:=by have hf:=(lW h).1;obtain⟨A,a1,a2,a3,a4⟩:=xl hs hf;have hN:=iE hf;rw[a2]at hN;obtain⟨k1,k2⟩:=rZ hN a1 a2 a3 a4 h;exact⟨k1,by rw[k2,bare_sh]⟩
end
end Go.Pd
end
section
namespace Go.Pd
open Go.AL
def oP(s:Shape):Bool:=decide (s.names.length<=1000000)
def uI(t:Trm):Bool:=decide (t.names.length<=1000000)&&decide (t.vars.length<=1000000)&&decide (t.parts.length<=1000000)&&decide (szL t.shapes<=1000000000)&&allL oP t.shapes
theorem mB{t:Trm}:uI t=true↔t.names.length<=1000000/\t.vars.length<=1000000/\t.parts.length<=1000000/\szL t.shapes<=1000000000/\allL oP t.shapes=true:=by unfold uI;simp only[Hk,Hq,and_assoc]
def eP(t:Trm):Bool:=allT uI t
theorem FV(t:Trm):bareT t=⟨t.kind,t.pkg,t.name,t.n,t.names,t.vars,t.shapes,bareTL t.parts,0⟩:=by cases t;rw[bareT]
theorem ry:∀l:List Trm,bareTL l=l.map bareT
 |[]=>rfl
 |p::r=>by rw[HN,<-ry r];rw[bareTL]
theorem rz{f g:Trm->Bool}:∀(n:Nat)(t:Trm),szT t<=n->(∀x,szT x<=n->f x=true->g x=true)->allT f t=true->allT g t=true
 |0,t,h,_,_=>by have:=jU t;omega
 |n+1,t,h,k,ha=>by rw[iV,Hk,fV,HE]at ha⊢;refine⟨k t h ha.1,fun x hx=>?_⟩;have h1:=jV hx;have h2:=mq t;exact rz n x (by omega) (fun y hy=>k y (by omega)) (ha.2 x hx)
theorem xm{f g:Shape->Bool}:∀(n:Nat)(t:Shape),sz t<=n->(∀x,sz x<=n->f x=true->g x=true)->allS f t=true->allS g t=true
 |0,t,h,_,_=>by have:=mj t;omega
 |n+1,t,h,k,ha=>by rw[lh,Hk,jt,HE]at ha⊢;refine⟨k t h ha.1,fun x hx=>?_⟩;have h1:=jR hx;have h2:=ou t;exact xm n x (by omega) (fun y hy=>k y (by omega)) (ha.2 x hx)
theorem xn{s:Shape}(h:dm s=true):s.names.length<=s.parts.length:=by
 unfold dm at h;simp only at h
 repeat' split at h
 all_goals simp[eH]at h
 all_goals simp_all
theorem xo{s:Shape}(h:bQ s=true):allS oP s=true:=by
 unfold bQ at h;rw[Hk,Hq]at h;have hc:=h.1;unfold di at hc;split at hc
 ·exact absurd hc (by decide)
 rename_i h1;split at hc
 ·exact absurd hc (by decide)
 split at hc
 ·rename_i h3;refine xm 400 s (by omega) (fun x hx hf=>?_) h3;have:=xn hf;have:=p9 x.parts;have:=ou x;unfold oP;rw[Xd (by omega)]
 ·exact absurd hc (by decide)
theorem zy{s:Shape}(h:bQ s=true):sz s<=400:=by
 unfold bQ at h;rw[Hk,Hq]at h;have hc:=h.1;unfold di at hc;split at hc
 ·exact absurd hc (by decide)
 ·omega
theorem zA{t:Trm}(hn:szT t<=4096)(h:aV t=true):uI t=true:=by
 have hl:t.parts.length<=4096:=by
  have h1:∀l:List Trm,l.length<=szTL l:=by
   intro l
   induction l with
   |nil=>exact Hz _
   |cons a r ih=>rw[szTL];have:=jU a;simp;omega
  have:=h1 t.parts;have:=mq t;omega
 unfold aV at h;rw[Hk]at h;obtain⟨h1,h2⟩:=h;have hs:allL oP t.shapes=true:=by unfold jw at h1;rw[Hk,HE]at h1;rw[jt,HE];exact fun x hx=>xo (h1.2 x hx)
 have hb:t.names.length<=4096/\t.vars.length<=4096/\t.shapes.length<=4097:=by
  have rm:∀{n v s p:Nat},bJ t n v s p=true->t.names.length=n/\t.vars.length=v/\t.shapes.length=s/\t.parts.length=p:=fun h=>by unfold bJ at h;simp only[Hk,Hq]at h;exact⟨h.1.1.1,h.1.1.2,h.1.2,h.2⟩
  have sp:∀{c:Prop} [Decidable c] {a b:Bool} {X:Prop},(if c then a else b)=true->(a=true->X)->(b=true->X)->X:=fun{c} _ {a b X} h h1 h2=>by
   by_cases k:c
   ·rw[Hj k]at h;exact h1 h
   ·rw[Hh k]at h;exact h2 h
  unfold qE at h2;have fin:∀{b:Bool} {n v s p:Nat},(n<=4096/\v<=4096/\s<=4097)->(b&&bJ t n v s p)=true->t.names.length<=4096/\t.vars.length<=4096/\t.shapes.length<=4097:=fun k h=>by rw[Hk]at h;have:=rm h.2;omega
  have z0:(0:Nat)<=4096/\0<=4096/\0<=4097:=by decide
  have z1:(0:Nat)<=4096/\0<=4096/\1<=4097:=by decide
  refine sp h2 (fin z0) (fun h2=>sp h2 (fin z0) (fun h2=>sp h2 (fin z0) (fun h2=>sp h2 (fin z0) (fun h2=>sp h2 (fun h=>?_) (fun h2=>sp h2 (fin z0) (fun h2=>sp h2 (fun h=>?_) (fun h2=>sp h2 (fin z0) (fun h2=>sp h2 (fin z1) (fun h2=>sp h2 (fin z1) (fun h2=>sp h2 (fun h=>?_) (fun h2=>sp h2 (fin z0) (fun h2=>sp h2 (fin z1) (fun h2=>sp h2 (fin z0) (fun h=>by cases h))))))))))))))
  ·have h':=h;simp only[Hk,Hq]at h';exact fin (by omega) h
  ·have r:=rm (by rw[Hk]at h;exact h.2);omega
  ·have r:=rm (by rw[Hk]at h;exact h.2);omega
 have hz:szL t.shapes<=t.shapes.length *400:=by
  unfold jw at h1;rw[Hk,HE]at h1;have h1:=h1.2;generalize t.shapes=l at h1
  induction l with
  |nil=>exact Hz _
  |cons a r ih=>have:=ih fun x hx=>h1 x (HH _ hx);have ha:=zy (h1 a IA);rw[szL,HJ];omega
 exact mB.2 ⟨by omega,by omega,by omega,by omega,hs⟩
theorem oI{t:Trm}(h:bz t=0):eP t=true/\cx t=true:=by
 unfold bz at h;split at h
 ·exact absurd h (by decide)
 rename_i h1;split at h
 ·exact absurd h (by decide)
 split at h
 ·rename_i h3;have hz:szT t<=4096:=by rw[countT_size t 4096 (by omega)]at h1;omega
  have sm:eP t=true:=rz 4096 t hz (fun x hx hf=>zA hx hf) h3;refine⟨sm,rz 4096 t hz (fun x hx hf=>?_) sm⟩;exact Xd (mB.1 hf).1
 ·exact absurd h (by decide)
end Go.Pd
end
section
namespace Go.AL
open Go.Shelf Go.Proofs Go.RowKit
variable [Tabs] {P:Program} {ρ:Ren}
theorem After.newRow{w w':World}{pub:Nat->Nat->Prop}{e:Nat->Option CObj}(hp:kz w pub)(hd:∀id,e id=none)(hb:Below w.heap.size w w'){g:Nat}(hg:w.heap.size<=g){p:Nat->Prop}(hc:∀o,p o->∃v,w'.cell? ⟨g,o,none⟩=some v) :
  After w pub e (aD (putB [] [])) w' (fun b o=>pub b o∨(b=g/\p o)) e where
 os:=hb.os
 tape:=hb.tape
 output:=hb.output
 size:=hb.size
 block b h _:=hb.block b h
 cell b o h _:=aF (hb.block b h) o
 kind b h _:=⟨bU (hb.block b h),fun o=>bF (hb.block b h) o⟩
 ext:=⟨fun _ c h=>⟨c,h,CLe.refl c⟩,fun _ _ h=>.inl h,fun b o h=>by obtain⟨v,hv⟩:=hp b o h;exact aF (hb.block b (bD hv)) o⟩
 fresh b o h:=by
  rcases h with h|⟨rfl,_⟩
  ·exact .inl h
  ·exact .inr (.inl hg)
 ok b o h:=by
  rcases h with h|⟨rfl,h⟩
  ·obtain⟨v,hv⟩:=hp b o h;exact⟨v,(aF (hb.block b (bD hv)) o).trans hv⟩
  ·exact hc o h
 slots id o h:=by simp[putB,aD]at h
 dom id _:=hd id
 inj i j c d b o h:=by rw[hd i]at h;cases h
theorem xp(L:Lays2.n16 P ρ)(l:List Str)(hb:l.length *16<=140737488355328){ob:Option Prop}:ay P (ρ.f 16) [.lst .str l none] [] ⟨ob,none,.lst .str l none,[]⟩:=by
 intro w pub e vs hp ht hv hs hd hi;have he:e=fun _=>none:=funext fun id=>hd id rfl;subst he;obtain⟨v,rfl,hV⟩:=hv.one_inv
 cases hV with
 |lstNil _ _ tok=>refine(Any.slices_Clone_string_nil L 0 0 w).mono ?_;rintro en w' ⟨rfl,rfl⟩;exact⟨pub,_,fun b pv u h=>(by cases h),.lstNil _ _ tok,After.below hp (fun _=>rfl) (Below.refl _ _)⟩
 |lstVoid _ a=>
  refine(Any.slices_Clone_string_zero L a 0 w).mono ?_;rintro en w' ⟨v',rfl,⟨hl,hrow⟩,hn,hbw⟩;refine⟨pub,_,fun b pv u h=>(by cases h),?_,After.below hp (fun _=>rfl) hbw⟩;rcases hrow with⟨rfl,hz⟩|⟨g,cap,cur,rfl,hbase,hg,h1,h2,h3,h4⟩
  ·exact absurd rfl hn
  ·exact .lst .str [] none g 0 cap (fun _ _=>.bool false) (Hz _) (by unfold maxLen at h2;unfold cn;omega) (fun id h=>by cases h) (fun i x hx=>by cases hx) (fun i x hx=>by cases hx)
 |lst _ _ _ b off cap vals h1 h2 tok hcell hval=>
  have at_:∀i (hi:i<l.length),w.cell? ⟨b,off+i,none⟩=some (.string ⟨l[i].toArray⟩)/\l[i].length<=cn:=fun i hi=>by have hx:l[i]?=some l[i]:=Hi hi;obtain⟨_,c1⟩:=hcell i l[i] hx 0 (.str l[i]) rfl;have c2:=hval i l[i] hx 0 (.str l[i]) rfl;obtain⟨c3,c4⟩:=c2.str_inv;rw[c3,show off+(i *ad .str+0)=off+i by rw[show ad .str=1 from rfl];omega]at c1;exact⟨c1,c4⟩
  refine(Any.slices_Clone_string L b off l.length cap (l.map fun s=>(⟨s.toArray⟩:ByteArray)) w (by simp) hb (fun j hj=>?_)).mono ?_
  ·have hj':j<l.length:=by simpa using hj
   rw[(at_ j hj').1,Hl,HU,Hi hj'];rfl
  rintro en w' ⟨v',rfl,⟨hl,hrow⟩,hn,hbw⟩;rcases hrow with⟨rfl,hz⟩|⟨g,cap',cur,rfl,hbase,hg,k1,k2,k3,k4⟩
  ·exact absurd rfl hn
  have hcur:∀i (hi:i<l.length),cur[i]?=some (.string ⟨l[i].toArray⟩):=fun i hi=>by
   have:(cur.toList.take (l.length *1))[i]?=some (.string ⟨l[i].toArray⟩):=by rw[k4,HU,HL];simp[hi]
   rw[HL]at this;split at this
   ·simpa using this
   ·cases this
  refine⟨fun b o=>pub b o∨(b=g/\o<l.length),_,fun b pv u h=>(by cases h),?_,After.newRow hp (fun _=>rfl) hbw hbase (p:=fun o=>o<l.length) (fun o ho=>⟨_,by rw[aN hg];exact hcur o ho⟩)⟩;refine .lst .str l none g 0 cap' (fun i _=>.string ⟨(l.getD i []).toArray⟩) k1 (by unfold maxLen at k2;unfold cn;omega) (fun id h=>by cases h) (fun i x hx j c hc=>?_) (fun i x hx j c hc=>?_)
  ·obtain⟨hi,rfl⟩:=Je.1 hx
   have hj:j=0:=by
    cases j with|zero=>rfl|succ j=>simp[cells]at hc
   subst hj;rw[show 0+(i *ad .str+0)=i by rw[show ad .str=1 from rfl];omega];refine⟨.inr ⟨rfl,hi⟩,?_⟩;show w'.cell? ⟨g,i,none⟩=_;rw[aN hg,hcur i hi,Hl,Hi hi];rfl
  ·obtain⟨hi,rfl⟩:=Je.1 hx
   have hj:j=0:=by
    cases j with|zero=>rfl|succ j=>simp[cells]at hc
   subst hj;have e1:c=.str l[i]:=by simpa[cells]using hc.symm
   subst e1;rw[Hl,Hi hi];exact .str _ (at_ i hi).2
def xq:Pat:=p1 (.lst .str) fun l=>⟨some (l.length *16<=140737488355328),none,.lst .str l none,[]⟩
theorem xr{f:Nat}(L:Lays2.n16 P ρ)(hf:ρ.f 16=f)(he:az P f):ah P f xq:=by subst hf;exact cd he fun l _ ho=>xp L l (ho _ rfl)
end Go.AL
end
section
namespace Go.Proofs
open Go.Shelf
def Tryz.lays2_16_ren:Go.Shelf.Ren:=⟨fun|16=>88|n=>n,fun|24=>25|9=>9|4=>4|n=>n,fun|n=>n⟩
theorem Tryz.lays2_16:Go.Proofs.Lays2.n16 Tryz.prog Tryz.lays2_16_ren:={
 mixed:=by kernel_rfl
 f16:=Xt Tryz.func88
 t4:=Tryz.underlying4
 a4:=Tryz.isAgg4
 z4:=Tryz.sizeOf4
 v4:=Tryz.zeroValue4
 t9:=Tryz.underlying9
 a9:=Tryz.isAgg9
 z9:=Tryz.sizeOf9
 v9:=Tryz.zeroValue9
 t24:=Tryz.underlying25
 a24:=Tryz.isAgg25
 z24:=Tryz.sizeOf25
 v24:=Tryz.zeroValue25
 i9:=by kernel_rfl}
end Go.Proofs
end
section
namespace Go.AL.Seat
open Go Go.AL Go.Proofs Go.Shelf Go.Pd
variable [Tabs]
theorem sU:ah Tryz.prog 88 xq:=xr Tryz.lays2_16 rfl (az.mk' Tryz.func88 (by kernel_rfl))
end Go.AL.Seat
end
section
open Go Go.AL Go.Pd
namespace Go.AL.Seat
theorem Co(n:Nat)(l:List Shape)(hl:Wf (.lst (.st .shape)) l)(ho:szL l<n+1/\szL l<=1000000000/\allL oP l=true) :
  let A:=(↑(List.length l):Int);let B:=dfl (Ty.st SN.shape);let C:=(140737488355328:Nat);(∃(x:Nat),x<=List.length l/\List.take x l=[]/\(0:Int)=(↑x:Int)/\l=l/\l=l/\A=A/\List.length (List.take x l)=(0:Nat)/\True)/\∀(x:Nat),let D:=(↑x:Int);let E:=List.getD l (Int.toNat D) B;let F:=List.take x l;let G:=[AL.Shape.mk (E.kind) (E.pkg) (E.name) (E.names) (E.parts)];x<=List.length l->if decide (D<A)=true then((0:Int)<=D/\D<A)/\List.length E.names*(16:Nat)<=C/\(szL E.parts<n/\szL E.parts<=(1000000000:Nat)/\allL oP E.parts=true)/\(List.length F=List.length F/\(List.length F+List.length G)*(88:Nat)<=C)/\inR IntKind.i64 (D+(1:Int))/\∃(y:Nat),y<=List.length l/\List.length l-y<List.length l-x/\List.take x l++G=List.take y l/\D+(1:Int)=(↑y:Int)/\l=l/\l=l/\A=A/\List.length (List.take x l++G)=List.length (List.take y l)/\True else True/\List.take x l=l/\True:=by
 conv=>zeta
 have ln:=hl.len;obtain⟨o1,o2,o3⟩:=ho;have et:∀s:Shape,AL.Shape.mk s.kind s.pkg s.name s.names s.parts=s:=fun s=>by cases s;rfl
 simp only[HC,Jx,Ii,Ij,et];refine⟨⟨0,Hz _,rfl,rfl,rfl⟩,?_⟩;intro k h1;apply a6<;>intro h
 ·replace h:=Xo h;have hk:k<l.length:=by omega
  have hm:=cY l k (dfl (.st .shape)) hk;have hz:=jR hm;have he:=ou (l.getD k (dfl (.st .shape)));have hll:=p9 l;rw[jt,HE]at o3;have hs:=o3 _ hm;rw[lh,Hk]at hs;have hn:(l.getD k (dfl (.st .shape))).names.length<=1000000:=Xo hs.1;have ht:=lg l k (dfl (.st .shape)) hk;refine⟨by omega,by omega,⟨by omega,by omega,hs.2⟩,?_,cA hk ln,k+1,by omega,by omega,ht.symm,by omega,by rw[ht]⟩;rw[J8,Hm];omega
 ·have e:k=l.length:=by have:¬((k:Int)<(l.length:Int)):=fun e=>h (Xd e);omega
  rw[e,Ja]
theorem FW(n:Nat)(t:Trm)(ht:Wf (.st .term) t)(ho:szT t<=n+1/\eP t=true) :
  let A:=(140737488355328:Nat);let B:=(0:Int);let C:=t.parts=t.parts;let D:=(↑(List.length t.parts):Int);let E:=mX UInt8=mX UInt8;let F:=t.kind=t.kind/\t.pkg=t.pkg/\t.name=t.name/\t.n=t.n/\t.names=t.names/\t.vars=t.vars/\t.shapes=t.shapes/\C/\B=B/\B=B/\E/\E/\B=B/\B=B/\True;let G:=dfl (Ty.st SN.term);let H:=bareT t;List.length t.names*(16:Nat)<=A/\List.length t.vars*(16:Nat)<=A/\(szL t.shapes<szL t.shapes+(1:Nat)/\szL t.shapes<=(1000000000:Nat)/\allL oP t.shapes=true)/\(∃(x:Nat),let I:=List.take x t.parts;x<=List.length t.parts/\List.map bareT I=[]/\B=(↑x:Int)/\t=t/\C/\D=D/\List.length (List.map bareT I)=(0:Nat)/\F)/\∀(x:Nat),let I:=(↑x:Int);let J:=List.getD t.parts (Int.toNat I) G;let K:=List.take x t.parts;let L:=List.map bareT K;let M:=[bareT J];x<=List.length t.parts->if decide (I<D)=true then(B<=I/\I<D)/\(szT J<=n/\eP J=true)/\(List.length L=List.length L/\(List.length L+List.length M)*(152:Nat)<=A)/\inR IntKind.i64 (I+(1:Int))/\∃(y:Nat),let N:=List.take y t.parts;y<=List.length t.parts/\List.length t.parts-y<List.length t.parts-x/\List.map bareT K++M=List.map bareT N/\I+(1:Int)=(↑y:Int)/\t=t/\C/\D=D/\List.length (List.map bareT K++M)=List.length (List.map bareT N)/\F else True/\t.kind=H.kind/\t.pkg=H.pkg/\t.name=H.name/\t.n=H.n/\t.names=H.names/\t.vars=H.vars/\t.shapes=H.shapes/\List.map bareT K=H.parts/\B=H.pos/\True:=by
 conv=>zeta
 have ln:=ht.term_parts.len;obtain⟨o1,o2⟩:=ho;have hz:=mq t;have hsm:=o2;unfold eP at hsm;rw[iV,Hk,fV,HE]at hsm;obtain⟨s1,s2,s3,s4,s5⟩:=mB.1 hsm.1;simp only[HC,Jx,Ii,Ij];refine⟨by omega,by omega,⟨by omega,s4,s5⟩,⟨0,Hz _,rfl,rfl,rfl⟩,?_⟩;intro k h1;apply a6<;>intro h
 ·replace h:=Xo h;have hk:k<t.parts.length:=by omega
  have hmm:=cY t.parts k (dfl (.st .term)) hk;have hm:=jV hmm;have htk:=lg t.parts k (dfl (.st .term)) hk;have hx:(t.parts.take k).map bareT++[bareT (t.parts.getD k (dfl (.st .term)))]=(t.parts.take (k+1)).map bareT:=by rw[htk,List.map_append];rfl
  refine⟨by omega,⟨by omega,hsm.2 _ hmm⟩,?_,cA hk ln,k+1,by omega,by omega,hx,by omega,by rw[hx]⟩;rw[Is,J8,Hm];omega
 ·have e:k=t.parts.length:=by have:¬((k:Int)<(t.parts.length:Int)):=fun e=>h (Xd e);omega
  rw[e,Ja,FV,ry]
  repeat' (first|exact trivial|rfl|apply And.intro)
theorem FX(t:Trm)(ht:Wf (.st .term) t)(ho:bz t=0/\eP t=true/\cx t=true) :
  cx t=true/\if(!decide (bz t=(0:Int)))=true then True/\t=bareT t/\True else(szT t<=szT t/\eP t=true)/\True/\bareT t=bareT t/\True:=by
 obtain⟨o1,o2,o3⟩:=ho;refine⟨o3,?_⟩;rw[o1];refine a6 (fun k=>absurd k (by decide)) (fun _=>⟨⟨Hu _,o2⟩,trivial,rfl,trivial⟩)
theorem oQ(G:Str->Trm×Flt)(s:Str)(hs:Wf .str s)(hlen:(G s).2.err=0->s.length<=4096)(hc:∀s,(G s).2.err=0->bz (G s).1=0/\eP (G s).1=true/\cx (G s).1=true)(ha:s.length+4<=4096->(G s).2.err=0->(G (arS s)).2.err=0/\bareT (G (arS s)).1=bareT (G s).1) :
  let A:=G s;let B:=(0:Int);let C:=True/\true=true/\True;let D:=(↑(List.length s):Int);let E:=([40,32]:Str);let F:=(9223372036854775807:Nat);let H:=([10,41]:Str);let I:=G (E++s++H);let J:=bareT A.1;let K:=True/\false=true/\True;if(!decide (A.2.err=B))=true then C else inR IntKind.i64 (D+(4:Int))/\if decide ((4096:Int)<D+(4:Int))=true then C else List.length E+List.length s<=F/\List.length (E++s)+List.length H<=F/\if decide (I.2.err=B)=true then(bz A.1=B/\eP A.1=true/\cx A.1=true)/\(bz I.1=B/\eP I.1=true/\cx I.1=true)/\szT J<=szT J/\if eqT J (bareT I.1) true=true then C else K else K:=by
 conv=>zeta
 refine a6 (fun _=>Xr) (fun h=>?_);have h:(G s).2.err=0:=by simpa using h
 have hl:=hlen h;refine⟨aP (by omega) (by omega),a6 (fun _=>Xr) (fun k=>?_)⟩;have k:s.length+4<=4096:=by have:¬(4096:Int)<(s.length:Int)+4:=fun e=>k (Xd e);omega
 obtain⟨a1,a2⟩:=ha k h;have e1:eqT (bareT (G s).1) (bareT (G (arS s)).1) true=true:=by rw[a2,eqT_self]
 refine⟨by simp;omega,by simp;omega,a6 (fun _=>⟨hc s h,hc (arS s) a1,Hu _,?_⟩) (fun q=>absurd (Xd a1) q)⟩;exact a6 (fun _=>Xr) (fun q=>absurd e1 q)
end Go.AL.Seat
end
section
open Go Go.AL Go.Proofs Go.Shelf Go.Pd
namespace Go.AL.Seat
open Go.Proofs.Tryz
variable [Tabs]
variable [SeatLaid]
theorem sV:az prog 89:=ee func89
theorem uJ(n:Nat)(l:List AL.Shape)(hl:Wf (.lst (.st .shape)) l)(ho:szL l<n+1/\szL l<=1000000000/\allL oP l=true)(hA:ah prog 89 (p1 (.lst (.st .shape)) fun l=>⟨some (szL l<n/\szL l<=1000000000/\allL oP l=true),none,.lst (.st .shape) l none,[]⟩)):ay prog 89 [.lst (.st .shape) l none] [] (⟨some (szL l<n+1/\szL l<=1000000000/\allL oP l=true),none,.lst (.st .shape) l none,[]⟩):=
 g0 (sc (sU) (sc (hA) sn)) ⟨[(3,fun S0=>⟨Nat,fun k=>k<=l.length,fun k=>[(3,.lst (.st .shape) (l.take k) (some 701)),(8,.int .i64 k)],fun k=>[(701,.tail (.st .shape) (l.take k).length)],fun k=>l.length-k⟩)],[],[]⟩ func89 (Co n l hl ho)
theorem rA:∀n:Nat,ah prog 89 (p1 (.lst (.st .shape)) fun l=>⟨some (szL l<n/\szL l<=1000000000/\allL oP l=true),none,.lst (.st .shape) l none,[]⟩)
 |0=>cd sV fun l _ ho=>absurd (ho _ rfl).1 (It _)
 |n+1=>cd sV fun l hl ho=>uJ n l hl (ho _ rfl) (rA n)
theorem Al:az prog 45:=ee func45
theorem zB(n:Nat)(t:Trm)(ht:Wf (.st .term) t)(ho:szT t<=n+1/\eP t=true)(hA:ah prog 45 (p1 (.st .term) fun t=>⟨some (szT t<=n/\eP t=true),none,.st .term (bareT t),[]⟩)):ay prog 45 [.st .term t] [] (⟨some (szT t<=n+1/\eP t=true),none,.st .term (bareT t),[]⟩):=
 g0 (sc (sU) (sc (rA (szL t.shapes+1)) (sc (hA) sn))) ⟨[(5,fun S0=>⟨Nat,fun k=>k<=t.parts.length,fun k=>[(3,.lst (.st .term) ((t.parts.take k).map bareT) (some 701)),(22,.int .i64 k)],fun k=>[(701,.tail (.st .term) ((t.parts.take k).map bareT).length)],fun k=>t.parts.length-k⟩)],[],[]⟩ func45 (FW n t ht ho)
theorem xt:∀n:Nat,ah prog 45 (p1 (.st .term) fun t=>⟨some (szT t<=n/\eP t=true),none,.st .term (bareT t),[]⟩)
 |0=>cd Al fun t _ ho=>absurd (ho _ rfl).1 (by have:=jU t;omega)
 |n+1=>cd Al fun t ht ho=>zB n t ht (ho _ rfl) (xt n)
theorem EF:ah prog 24 (p1 (.st .term) fun t=>⟨some (bz t=0/\eP t=true/\cx t=true),none,.st .term (bareT t),[]⟩):=
 cd (ee func24) fun t ht ho=>g0 (sc qW (sc (xt (szT t)) sn)) a0 func24 (FX t ht (ho _ rfl))
theorem mC(G:Str->Trm×Flt)(s:Str)(hs:Wf .str s)(hlen:(G s).2.err=0->s.length<=4096)(hc:∀s,(G s).2.err=0->bz (G s).1=0/\eP (G s).1=true/\cx (G s).1=true)(ha:s.length+4<=4096->(G s).2.err=0->(G (arS s)).2.err=0/\bareT (G (arS s)).1=bareT (G s).1)(hG:ah prog 20 (Hg G)):ay prog 7 [.str s] [] (.ret (.bool true)):=
 g0 (sc (hG) (sc (zl) (sc EF (sc (zj (szT (bareT (G s).1))) sn)))) a0 func7 (oQ G s hs hlen hc ha)
end Go.AL.Seat
end
