/- The layer: Go code as conditions, and that they are sound. No condition. -/
import Derived.Test.YtlhofbjllomgiaaGreatDoorT02
import Derived.Deep.LoopGhost
import Derived.Maps.RangeRun
set_option linter.all false
set_option maxRecDepth 100000
noncomputable section
namespace Go.AL
variable [Tabs]
theorem zy:∀(L:List dO)(i j k:Nat)(r:Option (Nat×Nat)),idx L i j=some (k,r)->j<=k/\nth L (k-j)=some (i,r)
 |[],i,j,k,r,h=>by simp[idx]at h
 |(m,q)::l,i,j,k,r,h=>by
  simp only[idx]at h;by_cases hm:m=i
  ·subst hm;simp at h;obtain⟨rfl,rfl⟩:=h;simp[nth]
  ·simp only[Pa,hm,OL]at h;obtain⟨h1,h2⟩:=zy l i (j+1) k r h;refine⟨by omega,?_⟩;rw[show k-j=(k-(j+1))+1 by omega];exact h2
theorem xN{α:Type}:∀(l:List α)(k:Nat)(x:α),nth l k=some x->x∈l
 |[],k,x,h=>by simp[nth]at h
 |a::l,0,x,h=>by simp[nth]at h;simp[h]
 |a::l,k+1,x,h=>Og _ (xN l k x h)
theorem my:∀(L:List dO)(i j k:Nat)(r:Option (Nat×Nat)),bp (L.map (·.1))=true->nth L k=some (i,r)->idx L i j=some (j+k,r)
 |[],i,j,k,r,_,h=>by simp[nth]at h
 |(m,q)::l,i,j,0,r,_,h=>by simp[nth]at h;obtain⟨rfl,rfl⟩:=h;simp[idx]
 |(m,q)::l,i,j,k+1,r,hd,h=>by
  simp only[OJ,bp,NZ,Oa]at hd;have hm:(i,r)∈l:=xN l k _ h;have hne:¬m=i:=by intro e;subst e;have:m∈l.map (·.1):=OC.2 ⟨(m,r),hm,rfl⟩;have h1:=hd.1;rw[OZ]at h1;simp only[OF]at h1;exact h1 this
  simp only[idx,Pa,hne,OL];rw[my l i (j+1) k r hd.2 h];congr 2;omega
theorem fQ{L:List dO}{k:Nat}{x:dO}(h:bw L k=some x):900<=k/\nth L (k-900)=some x:=by
 unfold bw at h;split at h
 ·rename_i hk;exact⟨by simpa using hk,h⟩
 ·cases h
theorem cW{L:List dO}{i k:Nat}{r:Option (Nat×Nat)}(h:idx L i 900=some (k,r)):bw L k=some (i,r):=by
 obtain⟨h1,h2⟩:=zy L i 900 k r h;unfold bw;split
 ·exact h2
 ·rename_i hk;simp at hk;omega
theorem dG{L:List dO}(hd:bp (L.map (·.1))=true){i k:Nat}{r:Option (Nat×Nat)}(h:bw L k=some (i,r)):idx L i 900=some (k,r):=by
 obtain⟨h1,h2⟩:=fQ h;have:=my L i 900 _ r hd h2
 rwa [show 900+(k-900)=k by omega]at this
def dh(L:List dO)(e:Nat->Option CObj)(k:Nat):Option CObj:=
 match bw L k with
 |some (i,none)=>e i
 |some (i,some (off,len))=>(match e i with|some (.box b o _)=>some (.box b (o+off) len)|_=>none)
 |none=>none
theorem lC(L:List dO)(e:Nat->Option CObj):Names (toP L) (toI L) (toI L) e (dh L e):=by
 have hi:∀i i',toI L i=some i'->∀c,e i=some c->dh L e i'=some c:=by
  intro i i' h c hc;unfold toI at h;split at h
  ·rename_i k hk;simp at h;subst h;simp only[dh,cW hk,hc]
  ·cases h
 refine⟨fun i o i' o' h b p l he=>?_,hi,hi⟩;unfold toP at h;split at h
 ·rename_i k hk;simp at h;obtain⟨rfl,rfl⟩:=h;exact⟨p,l,by simp only[dh,cW hk,he],rfl⟩
 ·rename_i k off len hk;split at h
  ·rename_i hb;simp at h hb;obtain⟨rfl,rfl⟩:=h;exact⟨p+off,len,by simp only[dh,cW hk,he],by omega⟩
  ·cases h
 ·cases h
theorem iX{look:Nat->Option SObj}{L:List dO}:∀(l:List dO)(j:Nat)(S:List (Nat×SObj)),oq look L l j=some S->
  (∀id o',aj S id=some o'->∃q i r o,id=j+q/\nth l q=some (i,r)/\look i=some o/\fv L r o=some o')/\
  (∀q i r,nth l q=some (i,r)->∃o o',look i=some o/\fv L r o=some o'/\aj S (j+q)=some o')/\(∀x∈S,j<=x.1/\x.1<j+l.length)
 |[],j,S,h=>by simp[oq]at h;subst h;exact⟨fun id o' h=>by simp[b5,aH]at h,fun q i r h=>by simp[nth]at h,fun x hx=>by simp at hx⟩
 |(i,r)::l,j,S,h=>by
  simp only[oq]at h;split at h
  ·rename_i o ho;split at h
   ·rename_i o' S' h1 h2;simp at h;subst h;obtain⟨k1,k2,k3⟩:=iX l (j+1) S' h2;refine⟨fun id o2 hb=>?_,fun q i2 r2 hq=>?_,fun x hx=>?_⟩
    ·simp only[b5,aH]at hb;by_cases hj:j=id
     ·subst hj;simp at hb;subst hb;exact⟨0,i,r,o,rfl,rfl,ho,h1⟩
     ·simp only[Pa,hj,OL]at hb;obtain⟨q,i2,r2,o3,e1,e2,e3,e4⟩:=k1 id o2 hb;exact⟨q+1,i2,r2,o3,by omega,e2,e3,e4⟩
    ·cases q with
     |zero=>simp[nth]at hq;obtain⟨rfl,rfl⟩:=hq;exact⟨o,o',ho,h1,by simp[b5,aH]⟩
     |succ q=>
      obtain⟨o3,o4,e1,e2,e3⟩:=k2 q i2 r2 hq;refine⟨o3,o4,e1,e2,?_⟩;have:¬j=j+(q+1):=by omega
      simp only[b5,aH,Pa,this,OL];rw[show j+(q+1)=j+1+q by omega];exact e3
    ·simp at hx;rcases hx with rfl|hx
     ·simp
     ·have:=k3 x hx;simp;omega
   ·cases h
  ·cases h
theorem sM{c c1:AV}{r:Option (Nat×Nat)}(h:Fx c r=some c1):match r with|none=>c1=c|some (off,len)=>sub (ae c) off len=some (ae c1):=by
 have fr:∀{c c1:AV} {off len:Nat},I4 c off len=some c1->sub (ae c) off len=some (ae c1):=by
  intro c c1 off len h;unfold I4 at h;split at h
  ·rename_i cs hcs;simp at h;subst h;exact hcs
  ·cases h
 cases r with
 |none=>simp[Fx]at h;exact h.symm
 |some x=>
  obtain⟨off,len⟩:=x
  cases c with
  |st n x=>
   simp only[Fx]at h;split at h
   ·rename_i m y hs;split at h
    ·rename_i hw;simp at h;subst h;have:=lr hs;rw[hw]at this;exact this
    ·exact fr h
   ·exact fr h
  |_=>exact fr (by simpa only[Fx]using h)
theorem bn.own_of{Ω:Om}{own own':Nat->Nat->Prop}{id:Nat}{o:SObj}(h:bn Ω own id o)(hc:∀c b o,Ω.e id=some c->occ c b o->own' b o):bn Ω own' id o:=by
 cases o with
 |box c=>
  obtain⟨b,off,e1,e2⟩:=h;refine⟨b,off,e1,fun j c' hj=>?_⟩;obtain⟨_,k⟩:=e2 j c' hj
  have hl:j<(ae c).length:=by
   rcases O5 j (ae c).length with k|k
   ·exact k
   ·rw[O2 k]at hj;cases hj
  exact⟨hc _ _ _ e1 ⟨rfl,by omega,by omega⟩,k⟩
 |tail τ n=>obtain⟨base,cap,e1,e2,e3,e4,e5⟩:=h;exact⟨base,cap,e1,e2,e3,e4,fun b hb=>⟨fun o=>hc _ _ _ e1 hb,(e5 b hb).2⟩⟩
 |map κ τ m=>obtain⟨r,e1,_,e3⟩:=h;exact⟨r,e1,fun o=>hc _ _ _ e1 rfl,e3⟩
 |bld t u l=>obtain⟨b,g,e1,e2,e3⟩:=h;exact⟨b,g,e1,fun b' hb o=>⟨hc _ _ _ e1 hb,(e2 b' hb o).2⟩,e3⟩
 |tailp τ n x=>obtain⟨b,cap,e1,e2,e3,e4,e5⟩:=h;exact⟨b,cap,e1,e2,e3,fun o=>hc _ _ _ e1 rfl,e5⟩
 |grow τ n xs=>obtain⟨base,cap,e1,e2,e3,e4,e5⟩:=h;exact⟨base,cap,e1,e2,e3,e4,fun b hb=>⟨fun o=>hc _ _ _ e1 hb,(e5 b hb).2⟩⟩
theorem bn.owns{Ω:Om}{own:Nat->Nat->Prop}{id:Nat}{ob:SObj}(h:bn Ω own id ob){c:CObj}(hc:Ω.e id=some c){b o:Nat}(ho:occ c b o):own b o:=by
 cases ob with
 |box x=>
  obtain⟨b',off,e1,e2⟩:=h;rw[hc]at e1;simp at e1;subst e1;obtain⟨rfl,h1,h2⟩:=ho;have hj:o-off<(ae x).length:=by omega
  have:=(e2 (o-off) _ (NY hj)).1
  rwa [show off+(o-off)=o by omega]at this
 |tail τ n=>obtain⟨base,cap,e1,e2,e3,e4,e5⟩:=h;rw[hc]at e1;simp at e1;subst e1;exact(e5 b ho).1 o
 |map κ τ m=>obtain⟨r,e1,e2,_⟩:=h;rw[hc]at e1;simp at e1;subst e1;have:b=r:=ho;subst this;exact e2 o
 |bld t u l=>obtain⟨b',g,e1,e2,_⟩:=h;rw[hc]at e1;simp at e1;subst e1;exact(e2 b ho o).1
 |tailp τ n x=>
  obtain⟨b',cap,e1,e2,e3,e4,e5⟩:=h;rw[hc]at e1;simp at e1;subst e1;have:b'=b:=by simpa[occ]using ho
  subst this;exact e4 o
 |grow τ n xs=>obtain⟨base,cap,e1,e2,e3,e4,e5⟩:=h;rw[hc]at e1;simp at e1;subst e1;exact(e5 b ho).1 o
theorem Holds.tabs{F:Fr}{s:AS}{a:Act}{Ω:Om}(h:Holds F s a Ω):ec Ω.w Ω.pub Ω.e:=by
 refine⟨fun b o v ht=>⟨h.frame.old _ _ (F.tab0.1 b o v ht).1,(h.frame.pcell _ _ (F.tab0.1 b o v ht).1).trans (F.tab0.1 b o v ht).2⟩,fun b x hx=>?_⟩;obtain⟨k1,k2⟩:=F.tab0.2 b x hx;have hlt:b<F.w0.heap.size:=(OB.1 k1).1;refine⟨(h.frame.block b hlt k2).trans k1,fun o ⟨id,c,hc,ho⟩=>?_⟩
 cases hb:s.B id with
 |none=>have:=h.dom id hb;rw[this]at hc;cases hc
 |some ob=>
  rcases(h.slots id ob hb).owns hc ho with q|q
  ·omega
  ·exact k2 o q
theorem Holds.owns{F:Fr}{s:AS}{a:Act}{Ω:Om}(h:Holds F s a Ω){id:Nat}{c:CObj}(hc:Ω.e id=some c){b o:Nat}(ho:occ c b o):F.own b o:=by
 cases hB:s.B id with
 |none=>rw[h.dom id hB]at hc;cases hc
 |some ob=>exact(h.slots id ob hB).owns hc ho
theorem zA{Ω:Om}{own:Nat->Nat->Prop}{L:List dO}{k i:Nat}{r:Option (Nat×Nat)}{o o':SObj}(hk:bw L k=some (i,r))(hs:bn Ω own i o)(hc:fv L r o=some o') :
  bn ⟨dh L Ω.e,Ω.w,Ω.pub⟩ (fun _ _=>True) k o':=by
 cases o with
 |box c=>
  simp only[fv]at hc;split at hc
  ·rename_i c1 h1;split at hc
   ·rename_i c2 h2;simp at hc;subst hc;obtain⟨b,off,e1,e2⟩:=hs;obtain⟨m1,m2⟩:=j8 h2;have hp:=sM h1
    cases r with
    |none=>
     simp only at hp;subst hp;refine⟨b,off,by simp only[dh,hk,e1,m1],fun j c' hj=>?_⟩
     have hl:j<(ae c1).length:=by
      rw[m1];rcases O5 j (ae c2).length with k|k
      ·exact k
      ·rw[O2 k]at hj;cases hj
     obtain⟨k1,k2,k3,v,k4,k5⟩:=e2 j _ (NY hl);exact⟨trivial,k2,k3,v,k4,k5.mapV (lC L Ω.e) (m2 j _ c' (NY hl) hj)⟩
    |some x=>
     obtain⟨o2,len⟩:=x;simp only at hp;obtain⟨s1,s2⟩:=iV hp;have hlen:(ae c1).length=len:=by rw[s2];simp;omega
     refine⟨b,off+o2,by simp only[dh,hk,e1];rw[<-m1,hlen],fun j c' hj=>?_⟩
     have hl:j<(ae c1).length:=by
      rw[m1];rcases O5 j (ae c2).length with k|k
      ·exact k
      ·rw[O2 k]at hj;cases hj
     obtain⟨x,hx⟩:∃x,(ae c1)[j]?=some x:=⟨_,NY hl⟩
     have hcj:(ae c)[o2+j]?=some x:=by
      have:=hx;rw[s2,Oy]at this;split at this
      ·rw[P9]at this;exact this
      ·cases this
     obtain⟨k1,k2,k3,v,k4,k5⟩:=e2 _ _ hcj;rw[PO];exact⟨trivial,k2,k3,v,k4,k5.mapV (lC L Ω.e) (m2 j _ c' hx hj)⟩
   ·cases hc
  ·cases hc
 |tail τ n=>
  cases r with
  |some _=>simp[fv]at hc
  |none=>simp[fv]at hc;subst hc;obtain⟨base,cap,e1,e2,e3,e4,e5⟩:=hs;exact⟨base,cap,by simp only[dh,hk,e1],e2,e3,e4,fun b hb=>⟨fun _=>trivial,(e5 b hb).2⟩⟩
 |map κ τ m=>
  cases r with
  |some _=>simp[fv]at hc
  |none=>simp[fv]at hc;subst hc;obtain⟨r,e1,e2,es,clock,e3,e4⟩:=hs;exact⟨r,by simp only[dh,hk,e1],fun _=>trivial,es,clock,e3,e4.data⟩
 |bld t u l=>
  cases r with
  |some _=>simp[fv]at hc
  |none=>simp[fv]at hc;subst hc;obtain⟨b,g,e1,e2,e3⟩:=hs;exact⟨b,g,by simp only[dh,hk,e1],fun b' hb o=>⟨trivial,(e2 b' hb o).2⟩,e3⟩
 |tailp _ _ _=>simp[fv]at hc
 |grow τ n xs=>
  cases r with
  |some _=>simp[fv]at hc
  |none=>simp[fv]at hc;subst hc;obtain⟨base,cap,e1,e2,e3,e4,e5⟩:=hs;refine⟨base,cap,by simp only[dh,hk,e1],e2,e3,e4,fun b hb=>?_⟩;obtain⟨q1,q2,q3,q4⟩:=e5 b hb;refine⟨fun _=>trivial,q2,q3,fun j c hj=>?_⟩;obtain⟨v,v1,v2⟩:=q4 j c hj;exact⟨v,v1,v2.flat hj⟩
theorem jW{L:List dO}{Ω:Om}{own:Nat->Nat->Prop}{B:Nat->Option SObj}(hs:∀id o,B id=some o->bn Ω own id o)(hL:∀q i r,nth L q=some (i,r)->∃o o',B i=some o/\fv L r o=some o')
 {k:Nat}{c:CObj}(h:dh L Ω.e k=some c):∃i r c0,bw L k=some (i,r)/\Ω.e i=some c0/\∀b o,occ c b o->occ c0 b o:=by
 unfold dh at h;split at h
 ·rename_i i hk;exact⟨i,none,c,hk,h,fun _ _ ho=>ho⟩
 ·rename_i i off len hk;split at h
  ·rename_i b p l he;simp at h;subst h;refine⟨i,_,_,hk,he,fun b' o ho=>?_⟩;obtain⟨h1,h2,h3⟩:=ho;subst h1;obtain⟨_,hn⟩:=fQ hk;obtain⟨ob,ob',hB,hc⟩:=hL _ _ _ hn
   cases ob with
   |box x=>
    simp only[fv]at hc;split at hc
    ·rename_i c1 h1;have hp:=sM h1;simp only at hp;obtain⟨s1,_⟩:=iV hp;obtain⟨b2,off2,e1,_⟩:=hs i _ hB;rw[he]at e1;simp at e1;obtain⟨rfl,rfl,rfl⟩:=e1;exact⟨rfl,by omega,by omega⟩
    ·cases hc
   |tail _ _=>simp[fv]at hc
   |map _ _ _=>simp[fv]at hc
   |bld _ _ _=>simp[fv]at hc
   |tailp _ _ _=>simp[fv]at hc
   |grow _ _ _=>simp[fv]at hc
  ·cases h
 ·cases h
theorem Holds.tabsC{F:Fr}{s:AS}{a:Act}{Ω:Om}{L:List dO}(h:Holds F s a Ω)(hL:∀q i r,nth L q=some (i,r)->∃o o',s.B i=some o/\fv L r o=some o'):ec Ω.w Ω.pub (dh L Ω.e):=
 ⟨h.tabs.1,fun b x hx=>⟨(h.tabs.2 b x hx).1,fun o ⟨k,c,hc,ho⟩=>
  let ⟨i,_,c0,_,q2,q3⟩:=jW h.slots hL hc
  (h.tabs.2 b x hx).2 o ⟨i,c0,q2,q3 b o ho⟩⟩⟩
end Go.AL
end
noncomputable section
namespace Go.AL
variable [Tabs]
theorem zB{n:SN}{off:Nat}{x:SD n}{a d:AV}(h:I2 n off x a=some d):splice (cells (.st n) x) off (ae a)=some (ae d):=by
 unfold I2 at h;split at h
 all_goals first
  |(simp only[Xs]at h;subst h;rfl)
  |cases h
theorem CH{b c d:AV}{off len:Nat}(h:KQ b (some (off,len)) c=some d):(ae c).length=len/\splice (ae b) off (ae c)=some (ae d):=by
 have fr:∀{b d:AV},KP b off c=some d->splice (ae b) off (ae c)=some (ae d):=by
  intro b d h;unfold KP at h;split at h
  ·rename_i cs hcs;simp at h;subst h;exact hcs
  ·cases h
 simp only[KQ]at h;split at h
 ·rename_i hl;refine⟨bX _ _ hl,?_⟩;split at h
  ·split at h
   ·rename_i n x a hs;simp at h;subst h;exact zB hs
   ·exact fr h
  ·exact fr h
 ·cases h
def zC(d i:Nat):Option Nat:=if 1000<=i/\i%1000=d then some (i/1000-1)else none
theorem FT{d k:Nat}(hd:d<1000):zC d (nid d k)=some k:=by unfold zC nid;rw[O3 ⟨by omega,by omega⟩];congr 1;omega
theorem pC{d i k:Nat}(h:zC d i=some k):i=nid d k:=by
 unfold zC at h;split at h
 ·simp at h;unfold nid;omega
 ·cases h
def lD(L:List dO)(d:Nat)(e e':Nat->Option CObj)(i:Nat):Option CObj:=
 match idx L i 900 with
 |some (k,none)=>e' k
 |some (_,some _)=>e i
 |none=>
  match zC d i with
  |some k=>(match bw L k with|some _=>e i|none=>(match e' k with|some c=>some c|none=>e i))
  |none=>e i
theorem sO:∀(u:List (Nat×SObj))(B:Nat->Option SObj)(id:Nat)(o:SObj),bB B u id=some o->(id,o)∈u∨(B id=some o/\id∉u.map (·.1))
 |[],B,id,o,h=>Or.inr ⟨h,by simp⟩
 |(j,x)::u,B,id,o,h=>by
  simp only[bB]at h;rcases sO u _ id o h with k|⟨k1,k2⟩
  ·exact Or.inl (Og _ k)
  ·by_cases hj:j=id
   ·subst hj;simp at k1;subst k1;exact Or.inl (Ox ..)
   ·simp only[O0 hj]at k1;refine Or.inr ⟨k1,?_⟩;simp only[OJ,O7,Ry];exact⟨fun e=>hj e.symm,k2⟩
theorem w8:∀(u:List (Nat×SObj))(B:Nat->Option SObj)(id:Nat),bB B u id=none->B id=none/\id∉u.map (·.1)
 |[],B,id,h=>⟨h,by simp⟩
 |(j,x)::u,B,id,h=>by
  simp only[bB]at h;obtain⟨k1,k2⟩:=w8 u _ id h;by_cases hj:j=id
  ·subst hj;simp at k1
  ·simp only[O0 hj]at k1;refine⟨k1,?_⟩;simp only[OJ,O7,Ry];exact⟨fun e=>hj e.symm,k2⟩
theorem pD{look:Nat->Option SObj}{L:List dO}{d:Nat}:∀(u u':List (Nat×SObj)),kZ look L d u=some u'->
  (∀id o',(id,o')∈u'->∃k o,(k,o)∈u/\((∃r old,bw L k=some (id,r)/\look id=some old/\iq L d r (some old) o=some o')∨
   (bw L k=none/\id=nid d k/\look id=none/\iq L d none none o=some o')))/\
  (∀k o,(k,o)∈u->(∃i r,bw L k=some (i,r)/\i∈u'.map (·.1))∨(bw L k=none/\look (nid d k)=none/\nid d k∈u'.map (·.1)))
 |[],u',h=>by simp[kZ]at h;subst h;exact⟨fun id o h=>by simp at h,fun k o h=>by simp at h⟩
 |(k,o)::u,u',h=>by
  simp only[kZ]at h;split at h
  ·rename_i i r hk;split at h
   ·rename_i old hold;split at h
    ·rename_i o1 u1 h1 h2;simp at h;subst h;obtain⟨q1,q2⟩:=pD u u1 h2;refine⟨fun id o' hm=>?_,fun k2 o2 hm=>?_⟩
     ·simp at hm;rcases hm with⟨rfl,rfl⟩|hm
      ·exact⟨k,o,by simp,Or.inl ⟨r,old,hk,hold,h1⟩⟩
      ·obtain⟨k2,o2,m1,m2⟩:=q1 id o' hm;exact⟨k2,o2,Og _ m1,m2⟩
     ·simp at hm;rcases hm with⟨rfl,rfl⟩|hm
      ·exact Or.inl ⟨i,r,hk,by simp⟩
      ·rcases q2 k2 o2 hm with⟨i2,r2,m1,m2⟩|⟨m1,m2,m3⟩
       ·exact Or.inl ⟨i2,r2,m1,by simp only[OJ];exact Og _ m2⟩
       ·exact Or.inr ⟨m1,m2,by simp only[OJ];exact Og _ m3⟩
    ·cases h
   ·cases h
  ·rename_i hk;split at h
   ·rename_i hn;split at h
    ·rename_i o1 u1 h1 h2;simp at h;subst h;obtain⟨q1,q2⟩:=pD u u1 h2;refine⟨fun id o' hm=>?_,fun k2 o2 hm=>?_⟩
     ·simp at hm;rcases hm with⟨rfl,rfl⟩|hm
      ·exact⟨k,o,by simp,Or.inr ⟨hk,rfl,hn,h1⟩⟩
      ·obtain⟨k2,o2,m1,m2⟩:=q1 id o' hm;exact⟨k2,o2,Og _ m1,m2⟩
     ·simp at hm;rcases hm with⟨rfl,rfl⟩|hm
      ·exact Or.inr ⟨hk,hn,by simp⟩
      ·rcases q2 k2 o2 hm with⟨i2,r2,m1,m2⟩|⟨m1,m2,m3⟩
       ·exact Or.inl ⟨i2,r2,m1,by simp only[OJ];exact Og _ m2⟩
       ·exact Or.inr ⟨m1,m2,by simp only[OJ];exact Og _ m3⟩
    ·cases h
   ·cases h
theorem zD(l:List (Nat×SObj))(i:Nat)(v:SObj)(j:Nat):aj (r8 l i v) j=if i=j then some v else aj l j:=by
 induction l with
 |nil=>simp[og,mj,b5,aH]
 |cons x r ih=>
  obtain⟨k,u⟩:=x;simp only[og,mj];by_cases hk:k=i
  ·subst hk;simp only[QN,P1,b5,aH,Pa];by_cases h:k=j<;>simp[h]
  ·simp only[Pa,hk,OL,b5,aH,ih];by_cases h:k=j
   ·subst h;have:¬i=k:=fun e=>hk e.symm;simp[this]
   ·simp[h]
theorem oG:∀(u B:List (Nat×SObj))(k:Nat),k∉u.map (·.1)->aj (cr B u) k=aj B k
 |[],B,k,_=>rfl
 |(j,x)::u,B,k,h=>by simp only[OJ,O7,Ry]at h;simp only[cr];rw[oG u _ k h.2,zD,O0 (fun e=>h.1 e.symm)]
theorem ER:∀(u B:List (Nat×SObj))(k:Nat)(o:SObj),bp (u.map (·.1))=true->(k,o)∈u->aj (cr B u) k=some o
 |[],B,k,o,_,h=>by simp at h
 |(j,x)::u,B,k,o,hd,h=>by
  simp only[OJ,bp,NZ,Oa,OZ,OF]at hd;simp only[cr];simp at h;rcases h with⟨rfl,rfl⟩|h
  ·rw[oG u _ k hd.1,zD,O3 rfl]
  ·exact ER u _ k o hd.2 h
theorem w9:∀(l:List (Nat×SObj))(i:Nat)(o:SObj),aj l i=some o->(i,o)∈l
 |[],i,o,h=>by simp[b5,aH]at h
 |(j,v)::r,i,o,h=>by
  simp only[b5,aH]at h;by_cases hj:j=i
  ·subst hj;simp at h;simp[h]
  ·simp only[Pa,hj,OL]at h;exact Og _ (w9 r i o h)
theorem FU{S u:List (Nat×SObj)}(hd:bp (u.map (·.1))=true)(hS:∀x∈S,aj S x.1=some x.2){k:Nat}{o:SObj}(h:(k,o)∈iN S u):aj (cr S u) k=some o:=by
 simp only[iN,Ow,OO,Oa,OZ,OF]at h;rcases h with h|⟨h1,h2⟩
 ·exact ER u S k o hd h
 ·rw[oG u S k h2];exact hS _ h1
end Go.AL
end
noncomputable section
namespace Go.AL
variable [Tabs]
theorem sP{look:Nat->Option SObj}{L:List dO}:∀(l:List dO)(j:Nat)(S:List (Nat×SObj)),oq look L l j=some S->∀x∈S,aj S x.1=some x.2
 |[],j,S,h,x,hx=>by simp[oq]at h;subst h;simp at hx
 |(i,r)::l,j,S,h,x,hx=>by
  simp only[oq]at h;split at h
  ·split at h
   ·rename_i o' S' h1 h2;simp at h;subst h;simp at hx;rcases hx with rfl|hx
    ·simp[b5,aH]
    ·have:=sP l (j+1) S' h2 x hx;have hk:=(iX l (j+1) S' h2).2.2 x hx;have hne:¬j=x.1:=by omega
     simp only[b5,aH,Pa,hne,OL];exact this
   ·cases h
  ·cases h
theorem wa{w':World}{pub' own own':Nat->Nat->Prop}{e' eN:Nat->Option CObj}{L:List dO}{d k id:Nat}{old:Option SObj}{o o':SObj}
 (hn:Names (qj L d) (iM L d) (iM L d) e' eN)(hs:bn ⟨e',w',pub'⟩ own' k o)(hb:iq L d none old o=some o')(he:eN id=e' k)(hown:∀b o,own' b o->own b o) :
  bn ⟨eN,w',pub'⟩ own id o':=by
 cases o with
 |box c=>
  simp only[iq]at hb;split at hb
  ·rename_i c1 h1
   have ho':o'=.box c1:=by
    split at hb
    ·rename_i b;split at hb
     ·rename_i c2 h2;simp[KQ]at h2;subst h2;simp at hb;exact hb.symm
     ·cases hb
    ·simp at hb;exact hb.symm
    ·cases hb
   subst ho';obtain⟨b,off,e1,e2⟩:=hs;obtain⟨m1,m2⟩:=j8 h1;refine⟨b,off,by simp only;rw[he];simp only at e1;rw[e1,m1],fun j c' hj=>?_⟩
   have hl:j<(ae c).length:=by
    rw[m1];rcases O5 j (ae c1).length with k|k
    ·exact k
    ·rw[O2 k]at hj;cases hj
   obtain⟨k1,k2,k3,v,k4,k5⟩:=e2 j _ (NY hl);exact⟨hown _ _ k1,k2,k3,v,k4,V.mapV (Ω:=⟨e',w',pub'⟩) hn k5 (m2 j _ c' (NY hl) hj)⟩
  ·cases hb
 |tail τ n=>simp[iq]at hb;subst hb;obtain⟨base,cap,e1,e2,e3,e4,e5⟩:=hs;exact⟨base,cap,by simp only;rw[he];exact e1,e2,e3,e4,fun b hb=>⟨fun o=>hown _ _ ((e5 b hb).1 o),(e5 b hb).2⟩⟩
 |map κ τ m=>simp[iq]at hb;subst hb;obtain⟨r,e1,e2,es,clock,e3,e4⟩:=hs;exact⟨r,by simp only;rw[he];exact e1,fun o=>hown _ _ (e2 o),es,clock,e3,e4.data⟩
 |bld t u l=>simp[iq]at hb;subst hb;obtain⟨b,g,e1,e2,e3⟩:=hs;exact⟨b,g,by simp only;rw[he];exact e1,fun b' hb o=>⟨hown _ _ (e2 b' hb o).1,(e2 b' hb o).2⟩,e3⟩
 |tailp _ _ _=>simp[iq]at hb
 |grow τ n xs=>simp[iq]at hb;subst hb;obtain⟨base,cap,e1,e2,e3,e4,e5⟩:=hs;refine⟨base,cap,by simp only;rw[he];exact e1,e2,e3,e4,fun b hb=>?_⟩;obtain⟨q1,q2,q3,q4⟩:=e5 b hb;refine⟨fun o=>hown _ _ (q1 o),q2,q3,fun j c hj=>?_⟩;obtain⟨v,v1,v2⟩:=q4 j c hj;exact⟨v,v1,V.flat (Ω:=⟨e',w',pub'⟩) hj v2⟩
theorem pE{F:Fr}{s:AS}{a:Act}{Ω:Om}(h:Holds F s a Ω){L:List dO}{d:Nat}(hd:d<1000)(hdist:bp (L.map (·.1))=true)
 {S u u':List (Nat×SObj)}(hS:oq s.B L L 900=some S)(hu:bp (u.map (·.1))=true)(hb:kZ s.B L d (iN S u)=some u'){val val':AV}
 (hval:mapV (qj L d) (iM L d) (iM L d) val=some val'){w':World}{pub':Nat->Nat->Prop}{e':Nat->Option CObj}{v:Value}(hv:V ⟨e',w',pub'⟩ val v)
 (A:After Ω.w Ω.pub (dh L Ω.e) (aj (cr S u)) w' pub' e') :
  ∃Ω',Ω'.w=w'/\V Ω' val' v/\Holds F ⟨s.T,bB s.B u'⟩ a Ω':=by
 obtain⟨k1,k2,k3⟩:=iX L 900 S hS;have hSm:=sP L 900 S hS;have lentL:∀k i r,bw L k=some (i,r)->∃o o',s.B i=some o/\fv L r o=some o'/\aj S k=some o':=by intro k i r hk;obtain⟨h1,h2⟩:=fQ hk;obtain⟨o,o',q1,q2,q3⟩:=k2 _ i r h2;rw[show 900+(k-900)=k by omega]at q3;exact⟨o,o',q1,q2,q3⟩
 have hLs:∀q i r,nth L q=some (i,r)->∃o o',s.B i=some o/\fv L r o=some o':=fun q i r hq=>let ⟨o,o',q1,q2,_⟩:=k2 q i r hq;⟨o,o',q1,q2⟩
 obtain⟨b1,b2⟩:=pD _ _ hb
 have newk:∀k c,bw L k=none->e' k=some c->s.B (nid d k)=none/\nid d k∈u'.map (·.1):=by
  intro k c hk hc
  cases hg:aj (cr S u) k with
  |none=>rw[A.dom k hg]at hc;cases hc
  |some o=>
   have hku:k∈u.map (·.1):=by
    rcases Q2 (k∈u.map (·.1))with q|q
    ·exact q
    ·rw[oG u S k q]at hg;obtain⟨q0,i,r,o2,e1,e2,_⟩:=k1 k o hg;have:bw L k=some (i,r):=by subst e1;exact cW (my L i 900 q0 r hdist e2)
     rw[hk]at this;cases this
   obtain⟨x,hx1,hx2⟩:=OC.1 hku;have hmem:(k,x.2)∈iN S u:=by simp only[iN,Ow];left;rw[<-hx2];exact hx1
   rcases b2 k x.2 hmem with⟨i,r,m1,_⟩|⟨_,m2,m3⟩
   ·rw[hk]at m1;cases m1
   ·exact⟨m2,m3⟩
 have inL:∀i k r,idx L i 900=some (k,r)->∃o,s.B i=some o:=by intro i k r hi;obtain⟨o,_,q,_⟩:=lentL k i r (cW hi);exact⟨o,q⟩
 have eW:∀k i,bw L k=some (i,none)->lD L d Ω.e e' i=e' k:=by intro k i hk;simp only[lD,dG hdist hk]
 have eS:∀k i x,bw L k=some (i,some x)->lD L d Ω.e e' i=Ω.e i:=by intro k i x hk;simp only[lD,dG hdist hk]
 have eN:∀k c,bw L k=none->e' k=some c->lD L d Ω.e e' (nid d k)=some c:=by
  intro k c hk hc;obtain⟨n1,_⟩:=newk k c hk hc
  have hi:idx L (nid d k) 900=none:=by
   cases hi:idx L (nid d k) 900 with
   |none=>rfl
   |some x=>obtain⟨o,ho⟩:=inL _ x.1 x.2 hi;rw[n1]at ho;cases ho
  simp only[lD,hi,FT hd,hk,hc]
 have eO:∀i c,lD L d Ω.e e' i=some c->(Ω.e i=some c/\(∀k,bw L k≠some (i,none)))∨(∃k,e' k=some c/\(bw L k=some (i,none)∨(bw L k=none/\i=nid d k))):=by
  intro i c hc;unfold lD at hc;split at hc
  ·rename_i k hk;exact Or.inr ⟨k,hc,Or.inl (cW hk)⟩
  ·rename_i k x hk;exact Or.inl ⟨hc,fun k' hk'=>by rw[dG hdist hk']at hk;simp at hk⟩
  ·rename_i hk;have hno:∀k,bw L k≠some (i,none):=fun k' hk'=>by rw[dG hdist hk']at hk;cases hk
   split at hc
   ·rename_i k hn;split at hc
    ·exact Or.inl ⟨hc,hno⟩
    ·rename_i hl;split at hc
     ·rename_i c' hc';simp at hc;subst hc;exact Or.inr ⟨k,hc',Or.inr ⟨hl,pC hn⟩⟩
     ·exact Or.inl ⟨hc,hno⟩
   ·exact Or.inl ⟨hc,hno⟩
 have lentOwn:∀b o,gM (dh L Ω.e) b o->∃k i r c0,bw L k=some (i,r)/\Ω.e i=some c0/\occ c0 b o/\∃c,dh L Ω.e k=some c/\occ c b o:=by rintro b o ⟨k,c,hc,ho⟩;obtain⟨i,r,c0,q1,q2,q3⟩:=jW h.slots hLs hc;exact⟨k,i,r,c0,q1,q2,q3 b o ho,c,hc,ho⟩
 have own:∀b o,(Ω.w.heap.size<=b∨gM (dh L Ω.e) b o)->F.own b o:=by
  rintro b o (q|q)
  ·exact Or.inl (OT h.frame.size q)
  ·obtain⟨k,i,r,c0,_,q2,q3,_⟩:=lentOwn b o q;exact h.owns q2 q3
 have hnames:Names (qj L d) (iM L d) (iM L d) e' (lD L d Ω.e e'):=by
  have hi:∀i i',iM L d i=some i'->∀c,e' i=some c->lD L d Ω.e e' i'=some c:=by
   intro k i' hk c hc;unfold iM at hk;split at hk
   ·rename_i i hi;simp at hk;subst hk;rw[eW k i hi,hc]
   ·cases hk
   ·rename_i hi;simp at hk;subst hk;exact eN k c hi hc
  refine⟨fun k o i' o' hk b p l hc=>?_,hi,hi⟩;unfold qj at hk;split at hk
  ·rename_i i hi;simp at hk;obtain⟨rfl,rfl⟩:=hk;exact⟨p,l,by rw[eW k i hi,hc],rfl⟩
  ·rename_i i off len hi;simp at hk;obtain⟨rfl,rfl⟩:=hk;obtain⟨ob,ob',q1,q2,_⟩:=lentL k i _ hi
   cases ob with
   |box x=>
    obtain⟨b2,off2,e1,_⟩:=h.slots i _ q1;have hcan:dh L Ω.e k=some (.box b2 (off2+off) len):=by simp only[dh,hi,e1]
    obtain⟨c',hc',hl⟩:=A.ext.e k _ hcan;rw[hl.box]at hc';simp only at hc';rw[hc]at hc';simp at hc';obtain⟨rfl,rfl,rfl⟩:=hc';exact⟨off2,_,by rw[eS k i _ hi,e1],by omega⟩
   |tail _ _=>simp[fv]at q2
   |map _ _ _=>simp[fv]at q2
   |bld _ _ _=>simp[fv]at q2
   |tailp _ _ _=>simp[fv]at q2
   |grow _ _ _=>simp[fv]at q2
  ·rename_i hi;simp at hk;obtain⟨rfl,rfl⟩:=hk;exact⟨p,l,eN k _ hi hc,rfl⟩
 have hext:Ext Ω ⟨lD L d Ω.e e',w',pub'⟩:=by
  refine⟨fun i c hc=>?_,A.ext.pub,A.ext.cell⟩;simp only
  cases hi:idx L i 900 with
  |some x=>
   obtain⟨k,r⟩:=x
   cases r with
   |none=>
    have hk:=cW hi;have hcan:dh L Ω.e k=some c:=by simp only[dh,hk,hc]
    obtain⟨c',hc',hl⟩:=A.ext.e k _ hcan;exact⟨c',by rw[eW k i hk];exact hc',hl⟩
   |some x=>exact⟨c,by rw[eS k i x (cW hi),hc],CLe.refl c⟩
  |none=>
   refine⟨c,?_,CLe.refl c⟩;simp only[lD,hi];split
   ·rename_i k hn;split
    ·exact hc
    ·rename_i hl;split
     ·rename_i c' hc';obtain⟨n1,_⟩:=newk k c' hl hc';rw[<-pC hn]at n1;rw[h.dom i n1]at hc;cases hc
     ·exact hc
   ·exact hc
 have stay:∀i c,Ω.e i=some c->(∀k r,bw L k≠some (i,r))->∀b o,occ c b o->¬gM (dh L Ω.e) b o:=by intro i c hc hno b o ho hl;obtain⟨k,i2,r,c0,q1,q2,q3,_⟩:=lentOwn b o hl;have:=h.inj i i2 c c0 b o hc q2 ho q3;subst this;exact hno k r q1
 have inj':Inj (lD L d Ω.e e'):=by
  have hself:∀k k' i j,(bw L k=some (i,none)∨(bw L k=none/\i=nid d k))->(bw L k'=some (j,none)∨(bw L k'=none/\j=nid d k'))->k=k'->i=j:=by
   intro k k' i j hi hj e;subst e;rcases hi with hi|⟨hi,rfl⟩<;>rcases hj with hj|⟨hj,rfl⟩
   ·rw[hi]at hj;simp at hj;exact hj
   ·rw[hi]at hj;cases hj
   ·rw[hi]at hj;cases hj
   ·rfl
  have hmix:∀i c j k c' b o,Ω.e i=some c->(∀k,bw L k≠some (i,none))->e' k=some c'->(bw L k=some (j,none)∨(bw L k=none/\j=nid d k))->occ c b o->occ c' b o->False:=by
   intro i c j k c' b o hc hno hk hj ho ho';have hblt:=h.blk hc ho
   have hkB:∃ob,aj (cr S u) k=some ob:=by
    cases hg:aj (cr S u) k with
    |none=>rw[A.dom k hg]at hk;cases hk
    |some ob=>exact⟨ob,rfl⟩
   obtain⟨ob,hob⟩:=hkB;rcases(A.slots k ob hob).owns hk ho' with q|q
   ·omega
   ·obtain⟨k2,i2,r,c0,q1,q2,q3,c2,q4,q5⟩:=lentOwn b o q;have:=h.inj i i2 c c0 b o hc q2 ho q3;subst this
    cases r with
    |none=>exact hno k2 q1
    |some x=>
     obtain⟨c3,q6,q7⟩:=A.ext.e k2 c2 q4
     obtain⟨bb,oo,ll,hbx⟩:∃bb oo ll,c2=.box bb oo ll:=by
      have:=q4;simp only[dh,q1]at this;split at this
      ·simp at this;exact⟨_,_,_,this.symm⟩
      ·cases this
     subst hbx;rw[q7.box]at q6;have:=A.inj k2 k _ _ b o q6 hk q5 ho';subst this;rcases hj with hj|⟨hj,_⟩
     ·rw[q1]at hj;simp at hj
     ·rw[q1]at hj;cases hj
  intro i j c c' b o hc hc' ho ho';rcases eO i c hc with⟨h1,h2⟩|⟨k,h1,h2⟩
  ·rcases eO j c' hc' with⟨g1,g2⟩|⟨k',g1,g2⟩
   ·exact h.inj i j c c' b o h1 g1 ho ho'
   ·exact(hmix i c j k' c' b o h1 h2 g1 g2 ho ho').elim
  ·rcases eO j c' hc' with⟨g1,g2⟩|⟨k',g1,g2⟩
   ·exact(hmix j c' i k c b o g1 g2 h1 h2 ho' ho).elim
   ·exact hself k k' i j h2 g2 (A.inj k k' c c' b o h1 g1 ho ho')
 refine⟨⟨lD L d Ω.e e',w',pub'⟩,rfl,V.mapV (Ω:=⟨e',w',pub'⟩) hnames hv hval,⟨fun i=>(h.tmps i).ext hext,h.size,h.defers,fun id o ho=>?_,fun id hid=>?_,inj',A.ok,fun id c hc=>?_,?_⟩⟩
 ·
  rcases sO u' s.B id o ho with hm|⟨hB,hm⟩
  ·obtain⟨k,ob,m1,m2⟩:=b1 id o hm;have hg:=FU hu hSm m1;have hso:=A.slots k ob hg;rcases m2 with⟨r,old,l1,l2,l3⟩|⟨l1,rfl,l2,l3⟩
   ·cases r with
    |none=>exact wa hnames hso l3 (eW k id l1) own
    |some x=>
     obtain⟨off,len⟩:=x
     cases ob with
     |tail _ _=>simp[iq]at l3
     |map _ _ _=>simp[iq]at l3
     |bld _ _ _=>simp[iq]at l3
     |tailp _ _ _=>simp[iq]at l3
     |grow _ _ _=>simp[iq]at l3
     |box c=>
      simp only[iq]at l3;split at l3
      ·rename_i c1 h1;split at l3
       ·rename_i cold hold;simp at hold;subst hold;split at l3
        ·rename_i c2 h2;simp at l3;subst l3;obtain⟨p1,p2⟩:=CH h2;obtain⟨b,p0,e1,e2⟩:=h.slots id _ l2;obtain⟨s1,s2⟩:=fj _ _ _ _ p2;have hlen:(ae c2).length=(ae cold).length:=by rw[s2];simp;omega
         have hcan:dh L Ω.e k=some (.box b (p0+off) len):=by simp only[dh,l1,e1]
         obtain⟨c',hc',hl⟩:=A.ext.e k _ hcan;rw[hl.box]at hc';simp only at hc';obtain⟨b',p',f1,f2⟩:=hso;simp only at f1;rw[hc']at f1;simp at f1;obtain⟨rfl,rfl,f1⟩:=f1;obtain⟨m1',m2'⟩:=j8 h1;refine⟨b,p0,by simp only;rw[eS k id _ l1,e1,hlen],fun j c' hj=>?_⟩
         have hjl:j<(ae c2).length:=by
          rcases O5 j (ae c2).length with q|q
          ·exact q
          ·rw[O2 q]at hj;cases hj
         rw[s2]at hj;by_cases hin:off<=j/\j<off+len
         ·
          have hjc:j-off<(ae c1).length:=by omega
          have hj1:(ae c1)[j-off]?=some c':=by
           rw[OE,Oe (by simp;omega)]at hj;have e:(List.take off (ae cold)).length=off:=by simp;omega
           rw[e,Ob hjc]at hj;exact hj
          have hjo:j-off<(ae c).length:=by omega
          obtain⟨g1,g2,g3,v,g4,g5⟩:=f2 (j-off) _ (NY hjo);rw[show p0+off+(j-off)=p0+j by omega]at g1 g2 g3 g4;exact⟨own _ _ g1,g2,g3,v,g4,V.mapV (Ω:=⟨e',w',pub'⟩) hnames g5 (m2' _ _ _ (NY hjo) hj1)⟩
         ·
          have hj2:(ae cold)[j]?=some c':=by
           by_cases hlo:j<off
           ·rw[OE,Ob (by simp;omega),Oy,O3 hlo]at hj;exact hj
           ·have e:(List.take off (ae cold)++ae c1).length=off+len:=by simp;omega
            rw[Oe (by omega),e,P9,show off+(ae c1).length+(j-(off+len))=j by omega]at hj;exact hj
          obtain⟨g1,g2,g3,v,g4,g5⟩:=e2 j c' hj2
          have hnl:¬gM (dh L Ω.e) b (p0+j):=by
           intro hl;obtain⟨k2,i2,r2,c0,q1,q2,q3,c3,q4,q5⟩:=lentOwn _ _ hl;have hcold:j<(ae cold).length:=by omega
           have:=h.inj id i2 _ c0 b (p0+j) e1 q2 ⟨rfl,by omega,by omega⟩ q3;subst this;have hkk:k2=k:=by have a1:=dG hdist q1;have a2:=dG hdist l1;rw[a1]at a2;simp at a2;exact a2.1
           subst hkk;rw[hcan]at q4;simp at q4;subst q4;obtain⟨_,z1,z2⟩:=q5;exact hin ⟨by omega,by omega⟩
          have hblt:=aC g4;refine⟨g1,fun hp=>?_,?_,v,?_,g5.ext hext⟩
          ·rcases A.fresh _ _ hp with q|q|q
           ·exact g2 q
           ·omega
           ·exact hnl q
          ·exact((A.kind b hblt (fun hall=>hnl (hall _))).2 _).trans g3
          ·exact(A.cell b _ hblt hnl).trans g4
        ·cases l3
       ·rename_i hq;cases hq
       ·cases l3
      ·cases l3
   ·have hk:∃c,e' k=some c:=by
     cases ob with
     |box x=>obtain⟨_,_,e1,_⟩:=hso;exact⟨_,e1⟩
     |tail _ _=>obtain⟨_,_,e1,_⟩:=hso;exact⟨_,e1⟩
     |map _ _ _=>obtain⟨_,e1,_⟩:=hso;exact⟨_,e1⟩
     |bld _ _ _=>obtain⟨_,_,e1,_⟩:=hso;exact⟨_,e1⟩
     |tailp _ _ _=>obtain⟨_,_,e1,_⟩:=hso;exact⟨_,e1⟩
     |grow _ _ _=>obtain⟨_,_,e1,_⟩:=hso;exact⟨_,e1⟩
    obtain⟨c,hc⟩:=hk;exact wa hnames hso l3 (by rw[eN k c l1 hc,hc]) own
  ·
   have hB:s.B id=some o:=hB
   have hnl:∀k r,bw L k≠some (id,r):=by
    intro k r hk;obtain⟨o1,o2,q1,q2,q3⟩:=lentL k id r hk
    have hmem:∃o3,(k,o3)∈iN S u:=by
     rcases Q2 (k∈u.map (·.1))with q|q
     ·obtain⟨x,hx1,hx2⟩:=OC.1 q;refine⟨x.2,?_⟩;simp only[iN,Ow];left;rw[<-hx2];exact hx1
     ·refine⟨o2,?_⟩;simp only[iN,Ow,OO,Oa,OZ,OF];exact Or.inr ⟨w9 S k o2 q3,q⟩
    obtain⟨o3,ho3⟩:=hmem;rcases b2 k o3 ho3 with⟨i2,r2,m1,m2⟩|⟨m1,_,_⟩
    ·rw[hk]at m1;simp at m1;obtain⟨rfl,_⟩:=m1;exact hm m2
    ·rw[hk]at m1;cases m1
   have hid:idx L id 900=none:=by
    cases hi:idx L id 900 with|none=>rfl|some x=>exact absurd (cW hi) (hnl x.1 x.2)
   have heq:lD L d Ω.e e' id=Ω.e id:=by
    simp only[lD,hid];split
    ·rename_i k hn;split
     ·rfl
     ·rename_i hl;split
      ·rename_i c' hc';obtain⟨n1,_⟩:=newk k c' hl hc';rw[<-pC hn,hB]at n1;cases n1
      ·rfl
    ·rfl
   refine(h.slots id o hB).keep hext heq (fun c hc=>?_);have hst:=stay id c hc hnl;have hbl:∀b oo,occ c b oo->b<Ω.w.heap.size:=fun b oo ho=>h.blk hc ho
   cases c with
   |box b off len=>
    intro oo h1 h2;have ho:occ (.box b off len) b oo:=⟨rfl,h1,h2⟩;have hblt:=hbl _ _ ho;refine⟨A.cell b oo hblt (hst _ _ ho),(A.kind b hblt (fun hall=>hst _ _ ho (hall oo))).2 oo,fun hp=>?_⟩;rcases A.fresh _ _ hp with q|q|q
    ·exact q
    ·omega
    ·exact absurd q (hst _ _ ho)
   |tail n base cap=>
    intro b hb';have ho:∀oo,occ (.tail n base cap) b oo:=fun _=>hb';have hblt:=hbl _ 0 (ho 0);refine⟨A.block b hblt (fun oo=>hst _ _ (ho oo)),fun oo hp=>?_⟩;rcases A.fresh _ _ hp with q|q|q
    ·exact q
    ·omega
    ·exact absurd q (hst _ _ (ho oo))
   |obj r=>have ho:∀oo,occ (.obj r) r oo:=fun _=>rfl;exact A.block r (hbl _ 0 (ho 0)) (fun oo=>hst _ _ (ho oo))
   |bld b g=>
    intro b' hb';have ho:∀oo,occ (.bld b g) b' oo:=fun _=>hb';refine⟨A.block b' (hbl _ 0 (ho 0)) (fun oo=>hst _ _ (ho oo)),fun oo hp=>?_⟩;rcases A.fresh _ _ hp with q|q|q
    ·exact q
    ·have:=hbl _ 0 (ho 0);omega
    ·exact absurd q (hst _ _ (ho oo))
 ·
  obtain⟨hB,hm⟩:=w8 u' s.B id hid;have hnone:=h.dom id hB
  cases hc:lD L d Ω.e e' id with
  |none=>exact hc
  |some c=>
   rcases eO id c hc with⟨h1,_⟩|⟨k,h1,h2⟩
   ·rw[hnone]at h1;cases h1
   ·rcases h2 with h2|⟨h2,rfl⟩
    ·obtain⟨o1,_,q1,_⟩:=lentL k id _ h2;rw[hB]at q1;cases q1
    ·exact absurd (newk k c h2 h1).2 hm
 ·obtain⟨c1,h1,l1⟩:=h.keep id c hc;obtain⟨c2,h2,l2⟩:=hext.e id c1 h1;exact⟨c2,h2,l1.trans l2⟩
 ·have notOwn:∀b o,b<F.w0.heap.size->¬F.br b o->¬gM (dh L Ω.e) b o:=by
   intro b o hb hn hl;rcases own b o (Or.inr hl)with q|q
   ·omega
   ·exact hn q
  have hsz:=h.frame.size;refine⟨A.os.trans h.frame.os,A.tape.trans h.frame.tape,A.output.trans h.frame.output,OT h.frame.size A.size,fun b hb hn=>?_,fun b o hb hn=>?_,fun b hb hn=>?_,fun b o hp=>?_,fun b o hp=>A.ext.pub b o (h.frame.old b o hp),fun b o hp=>(hext.cell b o (h.frame.old b o hp)).trans (h.frame.pcell b o hp)⟩
  ·exact(A.block b (by omega) (fun o=>notOwn b o hb (hn o))).trans (h.frame.block b hb hn)
  ·exact(A.cell b o (by omega) (notOwn b o hb hn)).trans (h.frame.cell b o hb hn)
  ·have hnall:¬∀o,gM (dh L Ω.e) b o:=by
    intro hall;refine hn (fun o=>?_);rcases own b o (Or.inr (hall o))with q|q
    ·omega
    ·exact q
   obtain⟨q1,q2⟩:=A.kind b (by omega) hnall;obtain⟨q3,q4⟩:=h.frame.kind b hb hn;exact⟨q1.trans q3,fun o=>(q2 o).trans (q4 o)⟩
  ·rcases A.fresh b o hp with q|q|q
   ·exact h.frame.pub b o q
   ·exact Or.inr (own b o (Or.inl q))
   ·exact Or.inr (own b o (Or.inr q))
end Go.AL
end
noncomputable section
namespace Go.AL
variable [Tabs]
theorem CI{a:Act}{l:List Operand}{args:Array Operand}(h:args.toList=l):(args.map a.eval)=(l.map a.eval).toArray:=by subst h;apply Pj;simp
def ES(P:Program)(C:Cfg)(o:Oper):Prop:=
 ∀(F:Fr)(s:AS)(a:Act)(Ω:Om)(eff:Eff)(next:Act->World->Prop)(Q:Exit->Act->World->Prop),
  Holds F s a Ω->(∀d,o.dst=some d->d<F.n)->au C o s.T s.B=some eff->eff.asks->
  (match cn C o s.T s.B with
   |none=>∀a' Ω',Holds F (s.put o.dst eff) a' Ω'->next a' Ω'.w
   |some (b,pv,u)=>(b=false->∀a' Ω',Holds F (s.put o.dst eff) a' Ω'->next a' Ω'.w)/\
     (b=true->∀Ω' v,Holds F ⟨s.T,bB s.B u⟩ a Ω'->V Ω' pv v->Q (.panic [{v,recovered:=false}]) a Ω'.w))->o.wp P a Ω.w next Q
theorem cv.p{P:Program}{C:Cfg}{o:Oper}(h:cv P C o)(hp:∀T B,cn C o T B=none):ES P C o:=by
 intro F s a Ω eff next Q hh hd he ho hn
 rw[hp]at hn;exact h F s a Ω eff next Q hh hd he ho hn
theorem IA(e:Nat->Option CObj):Names (fun i o=>some (i,o)) some (fun _=>none) e e:=by
 refine⟨fun i o i' o' h b p l he=>?_,fun i i' h c hc=>?_,fun i i' h=>by simp at h⟩
 ·simp at h;obtain⟨rfl,rfl⟩:=h;exact⟨p,l,he,rfl⟩
 ·simp at h;subst h;exact hc
theorem L3{Ω:Om}{k:Bool}{cs ds:List AV}{vs:List Value}(h:VL Ω cs vs)(hs:kn k cs=some ds):VL Ω ds vs:=by
 cases k with|true=>simp[kn]at hs;subst hs;exact h|false=>exact h.mapVs (IA Ω.e) hs
section
variable {P:Program} {C:Cfg} {o:Oper}
theorem call_ok(hS:bJ P C.spec){F:Fr}{s:AS}{a:Act}{Ω:Om}(h:Holds F s a Ω){d f:Nat}{args:List AV}{vs:List Value}(hv:VL Ω args vs){r:CallR}
 (hr:s8 C d f args s.B=some r)(ho:r.eff.asks)(hdn:d<F.n){next:Act->World->Prop}{Q:Exit->Act->World->Prop}
 (hn:(match r.pan with
   |none=>∀a' Ω',Holds F (s.put (some d) r.eff) a' Ω'->next a' Ω'.w
   |some (b,pv,u)=>(b=false->∀a' Ω',Holds F (s.put (some d) r.eff) a' Ω'->next a' Ω'.w)/\
     (b=true->∀Ω' v,Holds F ⟨s.T,bB s.B u⟩ a Ω'->V Ω' pv v->Q (.panic [{v,recovered:=false}]) a Ω'.w))) :
  Enters P f/\Calls P f vs.toArray Ω.w fun
   |.returned v,w''=>next (a.put (some d) v) w''
   |.panicked chain,w''=>Q (.panic chain) a w''
   |.outgrown,_=>LetsOut Q:=by
 unfold s8 at hr;split at hr
 ·cases hr
 ·rename_i args' hst;have hv':=L3 hv hst;generalize hL:gJ C f args' s.B=L at hr;unfold I5 at hr;split at hr
  ·rename_i hck;simp only[NZ,Qv,Ru]at hck;obtain⟨⟨hdist,hd⟩,hlen⟩:=hck;split at hr
   ·rename_i as S has hS';split at hr
    ·rename_i A hA;obtain⟨k1,k2,k3⟩:=iX L 900 S hS'
     have hob:(∀q,A.ob=some q->q):=by
      intro q hq
      have:r.eff.ob=A.ob.map EB:=by
       unfold EE at hr;split at hr
       ·split at hr
        ·simp at hr;subst hr;rfl
        ·split at hr
         ·simp at hr;subst hr;rfl
         ·cases hr
       ·cases hr
      unfold Eff.asks at ho;rw[this,hq]at ho;exact ho
     have hkeys:(aM S).all bd=true:=by simp only[aM,O9,OC];rintro k ⟨x,hx,rfl⟩;have:=k3 x hx;simp only[bd,NZ,Ru,Qv];omega
     obtain⟨hent,hmeets⟩:=hS f as S A hA hob hkeys;have hlent:∀k i r,bw L k=some (i,r)->∃o o',s.B i=some o/\fv L r o=some o'/\aj S k=some o':=by intro k i r hk;obtain⟨h1,h2⟩:=fQ hk;obtain⟨o,o',q1,q2,q3⟩:=k2 _ i r h2;rw[show 900+(k-900)=k by omega]at q3;exact⟨o,o',q1,q2,q3⟩
     have hLs:∀q i r,nth L q=some (i,r)->∃o o',s.B i=some o/\fv L r o=some o':=fun q i r hq=>let ⟨o,o',q1,q2,_⟩:=k2 q i r hq;⟨o,o',q1,q2⟩
     have hc:=hmeets Ω.w Ω.pub (dh L Ω.e) vs h.pubok (h.tabsC hLs) (hv'.mapVs (lC L Ω.e) has)
      (fun id o' ho'=>by
       obtain⟨q,i,r,o2,e1,e2,e3,e4⟩:=k1 id o' ho';subst e1;exact zA (cW (my L i 900 q r hdist e2)) (h.slots i o2 e3) e4)
      (fun id hid=>by
       unfold dh
       cases hl:bw L id with
       |none=>rfl
       |some x=>
        obtain⟨o1,o2,_,_,q3⟩:=hlent id x.1 x.2 hl;rw[hid]at q3;cases q3)
      (fun i j c c' b oo hi hj ho1 ho2=>by
       obtain⟨i1,r1,c1,p1,p2,p3⟩:=jW h.slots hLs hi;obtain⟨i2,r2,c2,p4,p5,p6⟩:=jW h.slots hLs hj;have:=h.inj i1 i2 c1 c2 b oo p2 p5 (p3 b oo ho1) (p6 b oo ho2);subst this;have a1:=dG hdist p1;have a2:=dG hdist p4;rw[a1]at a2;simp at a2;exact a2.1)
     refine⟨hent,Calls.mono hc (fun en w' hq=>?_)⟩;obtain⟨pub',e',hq⟩:=hq;unfold EE at hr;split at hr
     ·rename_i v1 u1 b1 b2 b3
      cases en with
      |outgrown=>exact hq.elim
      |returned v=>
       obtain⟨q1,q2,q3⟩:=hq;obtain⟨Ω',w1,w2,w3⟩:=pE h hd hdist hS' b3 b2 b1 q2 q3;subst w1;have fin:Holds F (s.put (some d) ⟨A.ob.map EB,v1,u1⟩) (a.put (some d) v) Ω':=by have:=w3.pure (dst:=some d) w2 (fun d' hd'=>by simp at hd';subst hd';exact hdn);exact this
       split at hr
       ·rename_i hp;simp at hr;subst hr;exact hn _ _ fin
       ·rename_i b pv pu hp;split at hr
        ·simp at hr;subst hr;exact hn.1 (q1 b pv pu hp) _ _ fin
        ·cases hr
      |panicked ch=>
       obtain⟨pv,u,v,q0,rfl,q2,q3⟩:=hq;split at hr
       ·rename_i hp;rw[q0]at hp;cases hp
       ·rename_i b pv' pu' hp;rw[q0]at hp;simp at hp;obtain⟨rfl,rfl,rfl⟩:=hp;split at hr
        ·rename_i pv1 pu1 c1 c2 c3;simp at hr;subst hr;obtain⟨Ω',w1,w2,w3⟩:=pE h hd hdist hS' c3 c2 c1 q2 q3;subst w1;exact hn.2 rfl Ω' v w3 w2
        ·cases hr
     ·cases hr
    ·cases hr
   ·cases hr
  ·cases hr
theorem pF{B:Nat->Option SObj}:∀(u:List (Nat×SObj))(B':Nat->Option SObj),(∀i o,B i=some o->B' i=some o)->gX B u->bB B' (yX B u)=bB B' u
 |[],_,_,_=>rfl
 |(i,o)::r,B',hB,h=>by
  simp only[gX,yX]at h⊢
  cases hl:B i with
  |some o'=>
   rw[hl]at h;obtain⟨rfl,h⟩:=h;simp only[bB]
   have e:(fun j=>if i=j then some o' else B' j)=B':=by
    funext j;by_cases hj:i=j
    ·subst hj;rw[O3 rfl,hB i o' hl]
    ·rw[O0 hj]
   rw[e];exact pF r B' hB h
  |none=>
   rw[hl]at h;simp only[bB];refine pF r _ (fun j o2 hj=>?_) h;have:i≠j:=fun e=>by subst e;rw[hl]at hj;cases hj
   rw[O0 this];exact hB j o2 hj
theorem vd{b:Bool}{s:AS}{e:Eff}(d:Option Nat)(h:(gf b s.B e).asks):e.asks/\s.put d (gf b s.B e)=s.put d e:=by
 cases b with
 |false=>exact⟨h,rfl⟩
 |true=>obtain⟨h1,h2⟩:=h;refine⟨h1,?_⟩;simp only[AS.put,gf];rw[pF e.upd s.B (fun _ _ k=>k) h2]
theorem ET(hS:bJ P C.spec){c:Call}(hop:o.op=.call c)(hc:∀b,c.callee≠.builtin b):ES P C o:=by
 intro F s a Ω eff next Q h hd he ho hn
 have hef:∃r,gK C o s.T s.B=some r/\gf (lh C o) s.B r.eff=eff:=by
  obtain⟨callee,args,ts⟩:=c
  cases callee with
  |builtin b=>exact absurd rfl (hc b)
  |value f=>
   simp only[au,hop]at he;split at he
   ·rename_i r hr;simp at he;exact⟨r,hr,he⟩
   ·cases he
  |invoke r m=>
   simp only[au,hop]at he;split at he
   ·rename_i r hr;simp at he;exact⟨r,hr,he⟩
   ·cases he
 obtain⟨r,hr,rfl⟩:=hef;obtain⟨ho',hput⟩:=vd o.dst ho;rw[hput]at hn;clear ho;have ho:=ho';have hpan:cn C o s.T s.B=r.pan:=by simp only[cn,hop,hr]
 rw[hpan]at hn;unfold gK at hr;split at hr
 ·rename_i c' d hop' hdst;rw[hop]at hop';simp at hop';subst hop';rw[hdst]at hn;have hdn:=hd d hdst;split at hr
  ·rename_i f args hcal
   have hargs:∃vs:List Value,VL Ω args vs/\∀fn,P.funcs[f]?=some fn->fn.body.isNone=false->(fn.name == "runtime.NumGoroutine")=false->
     (execOp a.eval o).run P Ω.w=.ok (.enter f vs.toArray) Ω.w:=by
    have hvl:VL Ω (c.args.toList.map (opd s.T)) (c.args.toList.map a.eval):=by refine⟨by simp,fun j x v hx hv=>?_⟩;simp only[OD,Ov]at hx hv;obtain⟨y,hy,rfl⟩:=hx;obtain⟨y',hy',rfl⟩:=hv;rw[hy]at hy';simp at hy';subst hy';exact b9 h y
    obtain⟨callee,cargs,ts⟩:=c;unfold dA at hcal;split at hcal
    ·rename_i f' hf';simp at hcal hf';obtain⟨rfl,rfl⟩:=hcal;subst hf';refine⟨_,hvl,fun fn h1 h2 h3=>?_⟩;simp only[execOp,hop,resolve,Act.eval,Deferred.ofValue,Ou,OR,O6,invoke,callFunc,run_program,h1];simp[h2,h3];exact CI rfl
    ·rename_i t hf';simp at hf';subst hf';split at hcal
     ·rename_i f' caps hT;simp at hcal;obtain⟨rfl,rfl⟩:=hcal;have ht:=h.tmps t;rw[hT]at ht;generalize hxv:a.tmps.getD t undef=xv at ht
      cases ht with
      |fn _ _ us h1 h2=>
       refine⟨_,hvl.append ⟨h1,h2⟩,fun fn e1 e2 e3=>?_⟩;have hxv':a.tmps[t]?.getD undef=Value.func (Fn.func f') #[] us.toArray:=by rw[<-hxv];simp[Oo]
       simp only[execOp,hop,resolve,Act.eval,hxv,Deferred.ofValue,Ou,OR,O6,invoke,callFunc,run_program,e1];simp[e2,e3]
     ·cases hcal
    ·cases hcal
   obtain⟨vs,hv,hrun⟩:=hargs;obtain⟨⟨fn,e1,e2,e3⟩,hcalls⟩:=call_ok hS h hv hr ho hdn hn;unfold Oper.wp;rw[hrun fn e1 e2 e3,Oper.upon_enter,hdst];exact hcalls
  ·cases hr
 ·cases hr
theorem IB{x:Operand}(hop:o.op=.panic x):ES P C o:=by
 intro F s a Ω eff next Q h hd he ho hn
 simp only[au,hop]at he;simp only[cn,hop]at hn;have hx:=b9 h x;split at he
 ·rename_i t y hxe;rw[hxe]at hx hn;generalize hxv:a.eval x=xv at hx;have hx':=hx
  cases hx with
  |iface _ _ v hv=>
   have hrun:(execOp a.eval o).run P Ω.w=.halt (.panic (.iface t v)) Ω.w:=by simp[execOp,hop,hxv,Instr.panic,goPanic,Sem.run,Result.andThen]
   unfold Oper.wp;rw[hrun,Oper.upon_panic];exact hn.2 trivial Ω _ h hx'
 ·cases he
theorem IC(hT:aR P C.tbl)(hS:bJ P C.spec)(o:Oper):ES P C o:=by
 have np:∀{op:Op},o.op=op->(∀x,op≠.panic x)->(∀c,op≠.call c)->∀T B,cn C o T B=none:=by
  intro op hop h1 h2 T B;unfold cn;split
  ·rename_i x hx;exact absurd (hop.symm.trans hx) (h1 x)
  ·rename_i c hx;exact absurd (hop.symm.trans hx) (h2 c)
  ·rfl
 have nb:∀{b:Builtin} {args:Array Operand} {ts:Array Nat},o.op=.call {callee:=.builtin b,args:=args,argTypes:=ts}->∀T B,cn C o T B=none:=by intro b args ts hop T B;simp only[cn,hop,gK];cases o.dst<;>simp[dA]
 cases hop:o.op with
 |move x=>exact(KX hop).p (np hop (by simp) (by simp))
 |assign x=>exact(FF hop).p (np hop (by simp) (by simp))
 |pick c x y=>exact(KY hop).p (np hop (by simp) (by simp))
 |alloc e=>exact(Iu hT hop).p (np hop (by simp) (by simp))
 |box e x=>exact(MD hop).p (np hop (by simp) (by simp))
 |build t ps=>exact(Iv hT hop).p (np hop (by simp) (by simp))
 |buildSlice t n ps=>exact(uX hT hop).p (np hop (by simp) (by simp))
 |load t x=>exact(KZ hT hop).p (np hop (by simp) (by simp))
 |store t x y=>exact(Iw hT hop).p (np hop (by simp) (by simp))
 |nilCheck x=>exact(zc hop).p (np hop (by simp) (by simp))
 |binOp op t x y t'=>exact(Ip hT hop).p (np hop (by simp) (by simp))
 |unOp op t x=>exact(L2 hop).p (np hop (by simp) (by simp))
 |convert t t' x=>exact(CG hT hop).p (np hop (by simp) (by simp))
 |fieldAddr t x f=>exact(xy hT hop).p (np hop (by simp) (by simp))
 |field t x f=>exact(Ir hT hop).p (np hop (by simp) (by simp))
 |indexAddr t x y=>exact(xz hT hop).p (np hop (by simp) (by simp))
 |index t x y=>exact(Is hT hop).p (np hop (by simp) (by simp))
 |slice t x lo hi mx=>
  cases mx with
  |none=>exact(It hT hop).p (np hop (by simp) (by simp))
  |some _=>intro F s a Ω eff next Q h hd he ho hn;simp[au,hop]at he
 |extract x i=>exact(Ct hop).p (np hop (by simp) (by simp))
 |lookup t x k ok=>exact(FQ hT hop).p (np hop (by simp) (by simp))
 |mapUpdate t x k v=>exact(vY hT (Or.inl hop)).p (np hop (by simp) (by simp))
 |insert t x k v=>exact(vY hT (Or.inr hop)).p (np hop (by simp) (by simp))
 |mapEntry t x k=>exact(zx hT hop).p (np hop (by simp) (by simp))
 |entryStore t x s v=>exact(vc hop).p (np hop (by simp) (by simp))
 |makeMap t r=>exact(CF hT hop).p (np hop (by simp) (by simp))
 |makeSlice t x y=>exact(xM hT hop).p (np hop (by simp) (by simp))
 |makeFunc f x y=>exact(zr hop).p (np hop (by simp) (by simp))
 |makeInterface t x=>exact(pB hT hop).p (np hop (by simp) (by simp))
 |typeAssert x t t' b=>exact(vb hT hop).p (np hop (by simp) (by simp))
 |panic x=>exact IB hop
 |call c=>
  obtain⟨callee,args,ts⟩:=c
  cases callee with
  |builtin b=>
   cases b with
   |len=>exact(MC hT hop).p (nb hop)
   |append=>exact(FN hT hop).p (nb hop)
   |max=>exact(ME hop).p (nb hop)
   |min=>exact(MF hop).p (nb hop)
   |clear=>exact(Iz hT hop).p (nb hop)
   |_=>intro F s a Ω eff next Q h hd he ho hn;simp[au,hop]at he
  |value f=>exact ET hS hop (by simp)
  |invoke r m=>exact ET hS hop (by simp)
 |_=>intro F s a Ω eff next Q h hd he ho hn;simp[au,hop]at he
end
end Go.AL
end
noncomputable section
namespace Go.AL
variable [Tabs]
theorem fk:∀(l:List (Nat×AV))(i:Nat)(v:AV)(j:Nat),aZ (gI l i v) j=if i=j then v else aZ l j
 |[],i,v,j=>by simp[yV,vM,eo,dc]
 |(k,u)::r,i,v,j=>by
  simp only[yV,vM];by_cases hk:k=i
  ·subst hk;simp only[QN,P1,eo,dc,Pa];by_cases h:k=j<;>simp[h]
  ·simp only[Pa,hk,OL,eo,dc,fk r i v j];by_cases h:k=j
   ·subst h;have:¬i=k:=fun e=>hk e.symm;simp[this]
   ·simp[h]
theorem iY:∀(l:List (Nat×SObj))(i:Nat)(v:SObj)(j:Nat),aj (r8 l i v) j=if i=j then some v else aj l j
 |[],i,v,j=>by simp[og,mj,b5,aH]
 |(k,u)::r,i,v,j=>by
  simp only[og,mj];by_cases hk:k=i
  ·subst hk;simp only[QN,P1,b5,aH,Pa];by_cases h:k=j<;>simp[h]
  ·simp only[Pa,hk,OL,b5,aH,iY r i v j];by_cases h:k=j
   ·subst h;have:¬i=k:=fun e=>hk e.symm;simp[this]
   ·simp[h]
theorem sQ(t:List (Nat×AV))(d:Option Nat)(v:AV):aZ (sd t d v)=bz (aZ t) d v:=by
 funext j
 cases d with|none=>rfl|some d=>simp[sd,bz,fk]
theorem j9:∀(u:List (Nat×SObj))(b:List (Nat×SObj)),aj (cr b u)=bB (aj b) u
 |[],b=>rfl
 |(i,o)::r,b=>by simp only[cr,bB];rw[j9 r];congr 1;funext j;exact iY b i o j
theorem oH(s:St)(d:Option Nat)(e:Eff):(s.put d e).abs=s.abs.put d e:=by simp only[St.put,St.abs,AS.put,sQ,j9]
def gC(ops:List Oper)(o:Oper)(T:Nat->AV):Option Bool:=
 match o.guard with
 |none=>some true
 |some (j,want)=>
  match(nth ops j).bind (·.dst)with
  |none=>none
  |some d=>(match T d with|.bool b=>some (b ==want)|.tup []=>some false|_=>none)
def Calm(p:Option (Bool×AV×List (Nat×SObj))):Prop:=∀b pv u,p=some (b,pv,u)->b=false
def pG(C:Cfg)(ops:List Oper)(o:Oper)(s s':AS)(f:bN):Prop:=
 (gC ops o s.T=some true/\∃e,au C o s.T s.B=some e/\e.asks/\Calm (cn C o s.T s.B)/\s'=s.put o.dst e/\f=(aF C o s.T s.B,e.upd.map (·.1)))∨
 (gC ops o s.T=some false/\s'=⟨bz s.T o.dst (.tup []),s.B⟩/\f=([],[]))
def nz(C:Cfg)(ops:List Oper):List Oper->AS->List bN->AS->Prop
 |[],s,fs,s'=>s=s'/\fs=[]
 |o::r,s,fs,s'=>∃s1 f fs',pG C ops o s s1 f/\nz C ops r s1 fs' s'/\fs=f::fs'
theorem EU{e:Eff}{q:Prop}(h:sf e.ob q):e.asks/\q:=by
 unfold sf at h;unfold Eff.asks
 cases hob:e.ob with|none=>rw[hob]at h;exact⟨trivial,h⟩|some p=>rw[hob]at h;exact h
theorem qp{C:Cfg}{ops:List Oper}{draw:Bool}{kp:AV->St->Prop}{o:Oper}{r:List Oper}{i:Nat}{s:St}{fs:List bN}{k:St->List bN->Prop}
 (h:bR C ops draw kp (o::r) i s fs k) :
  (gC ops o s.abs.T=some true/\∃e,au C o s.abs.T s.abs.B=some e/\e.asks/\
   (match cn C o s.abs.T s.abs.B with
    |none=>bR C ops draw kp r (i+1) (s.put o.dst e) ((aF C o s.abs.T s.abs.B,e.upd.map (·.1))::fs) k
    |some (b,pv,u)=>(b=true->xp C ops draw kp r i s fs (aF C o s.abs.T s.abs.B,e.upd.map (·.1)) pv u)/\(b=false->bR C ops draw kp r (i+1) (s.put o.dst e) ((aF C o s.abs.T s.abs.B,e.upd.map (·.1))::fs) k)))∨
  (gC ops o s.abs.T=some false/\bR C ops draw kp r (i+1) ⟨sd s.t o.dst (.tup []),s.b⟩ (([],[])::fs) k):=by
 have on:gC ops o s.abs.T=some true->
   (match au C o (aZ s.t) (aj s.b)with
    |none=>False
    |some e=>sf e.ob
     (match cn C o (aZ s.t) (aj s.b)with
     |none=>
      (match gh ops i,e.val with
      |true,.bool b=>
       sp b (bR C ops draw kp r (i+1) (s.put o.dst {e with val:=.bool true}) ((aF C o (aZ s.t) (aj s.b),e.upd.map (·.1))::fs) k)
        (bR C ops draw kp r (i+1) (s.put o.dst {e with val:=.bool false}) ((aF C o (aZ s.t) (aj s.b),e.upd.map (·.1))::fs) k)
      |true,_=>False
      |false,_=>bR C ops draw kp r (i+1) (s.put o.dst e) ((aF C o (aZ s.t) (aj s.b),e.upd.map (·.1))::fs) k)
     |some (b,pv,u)=>
      (match gh ops i with
      |true=>False
      |false=>sp b (xp C ops draw kp r i s fs (aF C o (aZ s.t) (aj s.b),e.upd.map (·.1)) pv u) (bR C ops draw kp r (i+1) (s.put o.dst e) ((aF C o (aZ s.t) (aj s.b),e.upd.map (·.1))::fs) k))))->
   (gC ops o s.abs.T=some true/\∃e,au C o s.abs.T s.abs.B=some e/\e.asks/\
    (match cn C o s.abs.T s.abs.B with
     |none=>bR C ops draw kp r (i+1) (s.put o.dst e) ((aF C o s.abs.T s.abs.B,e.upd.map (·.1))::fs) k
     |some (b,pv,u)=>(b=true->xp C ops draw kp r i s fs (aF C o s.abs.T s.abs.B,e.upd.map (·.1)) pv u)/\(b=false->bR C ops draw kp r (i+1) (s.put o.dst e) ((aF C o s.abs.T s.abs.B,e.upd.map (·.1))::fs) k))):=by
  intro hg hq;split at hq
  ·exact hq.elim
  ·rename_i e he;obtain⟨hask,h2⟩:=EU hq;refine⟨hg,e,he,hask,?_⟩
   show(match cn C o (aZ s.t) (aj s.b)with
     |none=>bR C ops draw kp r (i+1) (s.put o.dst e) ((aF C o (aZ s.t) (aj s.b),e.upd.map (·.1))::fs) k
     |some (b,pv,u)=>(b=true->xp C ops draw kp r i s fs (aF C o s.abs.T s.abs.B,e.upd.map (·.1)) pv u)/\(b=false->bR C ops draw kp r (i+1) (s.put o.dst e) ((aF C o (aZ s.t) (aj s.b),e.upd.map (·.1))::fs) k))
   cases hp:cn C o (aZ s.t) (aj s.b)with
   |none=>
    rw[hp]at h2;simp only at h2⊢;split at h2
    ·rename_i b _ hb;unfold sp at h2;split at h2
     ·rename_i hbt;subst hbt;have:({e with val:=.bool true}:Eff)=e:=by rw[<-hb]
      rw[this]at h2;exact h2
     ·rename_i hbt;have hbf:b=false:=by simpa using hbt
      subst hbf;have:({e with val:=.bool false}:Eff)=e:=by rw[<-hb]
      rw[this]at h2;exact h2
    ·exact h2.elim
    ·exact h2
   |some x=>
    obtain⟨b,pv,u⟩:=x;rw[hp]at h2;simp only at h2⊢;split at h2
    ·exact h2.elim
    ·unfold sp at h2;refine⟨fun hb=>?_,fun hb=>?_⟩
     ·rw[O3 hb]at h2;exact h2
     ·subst hb;simpa using h2
 simp only[bR]at h;split at h
 ·rename_i hgd;exact Or.inl (on (by simp[gC,hgd]) h)
 ·rename_i j want hgd;split at h
  ·exact h.elim
  ·rename_i d hd;split at h
   ·rename_i hb;cases want
    ·exact Or.inr ⟨by simp[gC,hgd,hd,St.abs,hb],h⟩
    ·exact Or.inl (on (by simp[gC,hgd,hd,St.abs,hb]) h)
   ·rename_i hb;cases want
    ·exact Or.inl (on (by simp[gC,hgd,hd,St.abs,hb]) h)
    ·exact Or.inr ⟨by simp[gC,hgd,hd,St.abs,hb],h⟩
   ·rename_i hb;exact Or.inr ⟨by simp[gC,hgd,hd,St.abs,hb],h⟩
   ·exact h.elim
theorem sR(C:Cfg)(ops:List Oper)(kp:AV->St->Prop)(k:St->List bN->Prop):∀(l:List Oper)(i:Nat)(s:St)(fs:List bN),bR C ops true kp l i s fs k->
  (∃s' fs',nz C ops l s.abs fs' s'.abs/\k s' (fs.reverse++fs'))∨
  ∃l1 o l2 s1 fs1 e pv u,l=l1++o::l2/\nz C ops l1 s.abs fs1 s1.abs/\gC ops o s1.abs.T=some true/\au C o s1.abs.T s1.abs.B=some e/\e.asks/\
   cn C o s1.abs.T s1.abs.B=some (true,pv,u)/\xp C ops true kp l2 (i+l1.length) s1 (fs1.reverse++fs) (aF C o s1.abs.T s1.abs.B,e.upd.map (·.1)) pv u
 |[],i,s,fs,h=>.inl ⟨s,[],⟨rfl,rfl⟩,by simpa[bR]using h⟩
 |o::r,i,s,fs,h=>by
  have more:∀(s1:St)(f:bN),pG C ops o s.abs s1.abs f->bR C ops true kp r (i+1) s1 (f::fs) k->
    (∃s' fs',nz C ops (o::r) s.abs fs' s'.abs/\k s' (fs.reverse++fs'))∨
    ∃l1 o' l2 s1 fs1 e pv u,o::r=l1++o'::l2/\nz C ops l1 s.abs fs1 s1.abs/\gC ops o' s1.abs.T=some true/\au C o' s1.abs.T s1.abs.B=some e/\e.asks/\
     cn C o' s1.abs.T s1.abs.B=some (true,pv,u)/\xp C ops true kp l2 (i+l1.length) s1 (fs1.reverse++fs) (aF C o' s1.abs.T s1.abs.B,e.upd.map (·.1)) pv u:=by
   intro s1 f hs hq;rcases sR C ops kp k r (i+1) _ _ hq with⟨s',fs',h1,h2⟩|⟨l1,o',l2,s2,fs1,e,pv,u,hl,h1,h2,h3,h4,h5,h6⟩
   ·exact .inl ⟨s',f::fs',⟨_,_,fs',hs,h1,rfl⟩,by simpa using h2⟩
   ·refine .inr ⟨o::l1,o',l2,s2,f::fs1,e,pv,u,by rw[hl];rfl,⟨_,_,fs1,hs,h1,rfl⟩,h2,h3,h4,h5,?_⟩;have e1:i+(o::l1).length=i+1+l1.length:=by simp;omega
    have e2:(f::fs1).reverse++fs=fs1.reverse++f::fs:=by simp
    rw[e1,e2];exact h6
  rcases qp h with⟨hg,e,he,hask,hq⟩|⟨hg,hq⟩
  ·cases hp:cn C o s.abs.T s.abs.B with
   |none=>rw[hp]at hq;refine more _ _ (Or.inl ⟨hg,e,he,hask,(fun b pv u q=>by rw[hp]at q;cases q),oH _ _ _,rfl⟩) hq
   |some x=>
    obtain⟨b,pv,u⟩:=x;rw[hp]at hq
    cases b with|false=>exact more _ _ (Or.inl ⟨hg,e,he,hask,(fun b pv u q=>by rw[hp]at q;cases q;rfl),oH _ _ _,rfl⟩) (hq.2 rfl)|true=>exact .inr ⟨[],o,r,s,[],e,pv,u,rfl,⟨rfl,rfl⟩,hg,he,hask,hp,hq.1 rfl⟩
  ·refine more _ _ (Or.inr ⟨hg,?_,rfl⟩) hq;simp only[St.abs,sQ]
section
variable {P:Program} {C:Cfg} {ops:Array Oper} {Q:Exit->Act->World->Prop} {F:Fr}
theorem V.skip{Ω:Om}:V Ω (.tup []) Go.undef:=.tup [] [] rfl (fun j c v h=>by simp at h)
theorem V.tup0_inv{Ω:Om}{v:Value}(h:V Ω (.tup []) v):v=.tuple #[]:=by
 cases h with|tup _ vs h1 _=>have:vs=[]:=Oc h1.symm;subst this;rfl
theorem lE{o:Oper}{s:AS}{a:Act}{Ω:Om}(h:Holds F s a Ω):∀b,gC ops.toList o s.T=some b->Region.wanted o (yielded ops a.tmps)=b:=by
 intro b hb;unfold gC at hb;unfold Region.wanted;split at hb
 ·rename_i hg;simp only[hg];simpa using hb
 ·rename_i j want hg;simp only[hg];split at hb
  ·simp at hb
  ·rename_i d hd';split at hb
   ·rename_i c hc;simp at hb;have hv:=h.tmps d;rw[hc]at hv;have hv:=hv.bool_inv
    have hsome:a.tmps[d]?=some (.bool c):=by
     rw[Oo]at hv
     cases ht:a.tmps[d]? with|none=>rw[ht]at hv;simp[undef]at hv|some v=>rw[ht]at hv;simp at hv;rw[hv]
    have hdst:(ops[j]?).bind (·.dst)=some d:=by rw[jI,Oh]at hd';exact hd'
    simp only[yielded,hdst,Option.bind_some,hsome];rw[<-hb];cases c<;>cases want<;>rfl
   ·rename_i hc;simp at hb;subst hb;have hv:=h.tmps d;rw[hc]at hv;have hdst:(ops[j]?).bind (·.dst)=some d:=by rw[jI,Oh]at hd';exact hd'
    have hsome:a.tmps[d]?=none∨a.tmps[d]?=some (.tuple #[]):=by
     rw[Oo]at hv
     cases ht:a.tmps[d]? with|none=>exact .inl rfl|some v=>rw[ht]at hv;simp only[OX]at hv;exact .inr (by rw[hv.tup0_inv])
    rcases hsome with e|e<;>simp only[yielded,hdst,Option.bind_some,e]<;>cases want<;>rfl
   ·simp at hb
theorem sS(hT:aR P C.tbl)(hS:bJ P C.spec){o:Oper}{i:Nat}(hi:ops[i]?=some o)(hd:∀d,o.dst=some d->d<F.n)
 {s s':AS}{f:bN}{a:Act}{Ω:Om}(h:Holds F s a Ω)(hs:pG C ops.toList o s s' f){K:Act->World->Prop}
 (hK:∀a' Ω',Holds F s' a' Ω'->K a' Ω'.w):wpOp P ops Q i K a Ω.w:=by
 have hgate:=lE (ops:=ops) (o:=o) h;unfold wpOp;rw[hi];rcases hs with⟨hg,e,he,ho,hp,rfl,rfl⟩|⟨hg,rfl,rfl⟩
 ·simp only[hgate true hg,P1];refine Or.inl (IC hT hS o F s a Ω e K Q h hd he ho ?_)
  cases hq:cn C o s.T s.B with
  |none=>exact hK
  |some x=>obtain⟨b,pv,u⟩:=x;exact⟨fun _=>hK,fun hb=>by rw[hp b pv u hq]at hb;cases hb⟩
 ·simp only[hgate false hg,P4,OL];exact hK _ Ω (h.pure V.skip hd)
theorem mz(hT:aR P C.tbl)(hS:bJ P C.spec)(hd:∀(o:Oper),o∈ops.toList->∀d,o.dst=some d->d<F.n){kp:AV->St->Prop}{k:St->List bN->Prop}
 (hQ:∀s fs a' Ω',k s fs->Holds F s.abs a' Ω'->Q .normal a' Ω'.w)(hP:∀pv s a' Ω' v,kp pv s->Holds F s.abs a' Ω'->V Ω' pv v->Q (.panic [{v,recovered:=false}]) a' Ω'.w) :
  ∀(l:List Oper)(i:Nat)(s:St)(fs:List bN)(a:Act)(Ω:Om),ops.toList.drop i=l->bR C ops.toList false kp l i s fs k->Holds F s.abs a Ω->
   wpOps P ops Q (List.range' i l.length) a Ω.w
 |[],i,s,fs,a,Ω,_,hr,h=>hQ s _ a Ω (by simpa[bR]using hr) h
 |o::r,i,s,fs,a,Ω,hl,hr,h=>by
  have hi:ops[i]?=some o:=by
   have:(ops.toList.drop i)[0]?=some o:=by rw[hl];rfl
   rw[P9]at this;simpa using this
  have hl':ops.toList.drop (i+1)=r:=by rw[<-List.tail_drop,hl];rfl
  have hdo:=hd o (Ot (by rw[Oh];exact hi));have hgate:=lE (ops:=ops) (o:=o) h;simp only[O8,List.range'_succ];rw[wpOps_cons];unfold wpOp;rw[hi];rcases qp hr with⟨hg,e,he,hask,hq⟩|⟨hg,hq⟩
  ·simp only[hgate true hg,P1];refine Or.inl (IC hT hS o F s.abs a Ω e _ Q h hdo he hask ?_)
   cases hp:cn C o s.abs.T s.abs.B with
   |none=>rw[hp]at hq;intro a' Ω' h';rw[<-oH]at h';exact mz hT hS hd hQ hP r (i+1) _ _ a' Ω' hl' hq h'
   |some x=>
    obtain⟨b,pv,u⟩:=x;rw[hp]at hq;refine⟨fun hb a' Ω' h'=>?_,fun hb Ω' v h' hv=>?_⟩
    ·rw[<-oH]at h';exact mz hT hS hd hQ hP r (i+1) _ _ a' Ω' hl' (hq.2 hb) h'
    ·refine hP pv _ a Ω' v (hq.1 hb) ?_ hv;have e2:(⟨s.t,cr s.b u⟩:St).abs=⟨s.abs.T,bB s.abs.B u⟩:=by simp only[St.abs,j9]
     rw[e2];exact h'
  ·simp only[hgate false hg,P4,OL];have e2:(⟨sd s.t o.dst (.tup []),s.b⟩:St).abs=⟨bz s.abs.T o.dst (.tup []),s.abs.B⟩:=by simp only[St.abs,sQ]
   exact mz hT hS hd hQ hP r (i+1) _ _ _ Ω hl' hq (by rw[e2];exact h.pure V.skip hdo)
end
end Go.AL
end
noncomputable section
namespace Go.AL
variable [Tabs]
theorem pH(look:Nat->Option SObj):∀(n:Nat)(todo acc:List Nat),∀i∈acc,i∈jR look n todo acc
 |0,todo,acc,i,h=>by simpa[jR]using h
 |n+1,[],acc,i,h=>by simpa[jR]using h
 |n+1,j::r,acc,i,h=>by
  simp only[jR];split
  ·exact pH look n r acc i h
  ·exact pH look n _ _ i (by simp[h])
theorem lF{look look':Nat->Option SObj}:∀(n:Nat)(todo acc:List Nat),(∀i∈jR look n todo acc,look i=look' i)->jR look n todo acc=jR look' n todo acc
 |0,todo,acc,h=>rfl
 |n+1,[],acc,h=>rfl
 |n+1,j::r,acc,h=>by
  simp only[jR]at h⊢;split
  ·rename_i hc;rw[O3 hc]at h;exact lF n r acc h
  ·rename_i hc;rw[O0 hc]at h;have hj:=h j (pH look n _ _ j (by simp));rw[<-hj];exact lF n _ _ h
theorem oI{C:Cfg}{f:Nat}{args:List AV}{look look':Nat->Option SObj}(h:∀i∈(gJ C f args look).map (·.1),look i=look' i):gJ C f args look=gJ C f args look':=by
 have hm:(gJ C f args look).map (·.1)=jR (ou look args (C.lends f)) 64 (ids.idsL args) []:=by simp[gJ,RA]
 rw[hm]at h;have hr:=lF (look:=ou look args (C.lends f)) (look':=ou look' args (C.lends f)) 64 (ids.idsL args) [] (fun i hi=>by simp only[ou,h i hi]);unfold gJ;rw[<-hr];apply QT;intro i hi;have hb:ED look i=ED look' i:=by unfold ED;rw[h i hi]
 rw[hb]
theorem sT{look look':Nat->Option SObj}{L:List dO}:∀(l:List dO)(j:Nat),(∀i∈l.map (·.1),look i=look' i)->oq look L l j=oq look' L l j
 |[],j,_=>rfl
 |(i,r)::l,j,h=>by simp only[oq];rw[<-h i (by simp),sT l (j+1) (fun k hk=>h k (by simp only[OJ];exact Og _ hk))]
theorem iA{look look':Nat->Option SObj}{L:List dO}{d:Nat}:∀(u:List (Nat×SObj)),(∀i∈L.map (·.1),look i=look' i)->(∀i∈gd L d u,look i=look' i)->kZ look L d u=kZ look' L d u
 |[],_,_=>rfl
 |(k,o)::u,h,hn=>by
  simp only[kZ]
  cases hk:bw L k with
  |some x=>obtain⟨i,r⟩:=x;have hm:i∈L.map (·.1):=OC.2 ⟨(i,r),xN L _ _ (fQ hk).2,rfl⟩;have ih:=iA u h (fun j hj=>hn j (by simp only[gd,Ro,hk]at hj⊢;exact hj));simp only[<-h i hm,ih]
  |none=>
   have ih:=iA u h (fun j hj=>hn j (by
    simp only[gd,Ro,hk]at hj⊢;exact Og _ hj))
   have h1:=hn (nid d k) (by simp only[gd,Ro,hk];exact Ox ..);simp only[<-h1,ih]
theorem lG{L:List dO}{d:Nat}{S u:List (Nat×SObj)}(hS:∀x∈S,∃y,bw L x.1=some y):gd L d (iN S u)=gd L d u:=by
 have e:∀v w:List (Nat×SObj),gd L d (v++w)=gd L d v++gd L d w:=fun v w=>List.filterMap_append;have z:gd L d (S.filter fun x=>!(u.map (·.1)).contains x.1)=[]:=by unfold gd;rw[List.filterMap_eq_nil_iff];intro x hx;obtain⟨y,hy⟩:=hS x (OO.1 hx).1;simp[hy]
 unfold iN;rw[e,z,P2]
theorem zF{C:Cfg}{d f:Nat}{args args':List AV}{look look':Nat->Option SObj}{r:CallR}(hr:s8 C d f args look=some r)(hst:kn (C.keeps f) args=some args')
 (h1:∀i∈(gJ C f args' look).map (·.1),look i=look' i)(h2:∀i∈r.foot,look i=look' i):s8 C d f args look'=some r:=by
 unfold s8 at hr⊢;rw[hst]at hr⊢;simp only at hr⊢;rw[<-oI h1];generalize gJ C f args' look=L at hr h1⊢;unfold I5 at hr⊢;split at hr
 ·rename_i hck;have hd:bp (L.map (·.1))=true:=by simp only[NZ]at hck;exact hck.1.1
  rw[<-sT L 900 h1];split at hr
  ·rename_i as S has hS;split at hr
   ·rename_i A hA;have hSl:∀x∈S,∃y,bw L x.1=some y:=by intro x hx;obtain⟨q,i,r,o,e1,e2,_⟩:=(iX L 900 S hS).1 x.1 x.2 (sP L 900 S hS x hx);rw[e1];exact⟨(i,r),cW (my L i 900 q r hd e2)⟩
    unfold EE at hr⊢;split at hr
    ·rename_i v u c1 c2 c3;split at hr
     ·rename_i hp;simp at hr;subst hr;rw[c1,<-iA (iN S A.upd) h1 (by rw[lG hSl];exact h2),c2,c3]
     ·rename_i b pv pu hp;split at hr
      ·rename_i pv' pu' q1 q2 q3;simp at hr;subst hr;rw[c1,<-iA (iN S A.upd) h1 (by rw[lG hSl];exact fun i hi=>h2 i (by simp[hi])),c2,c3];simp only;rw[q1,<-iA (iN S pu) h1 (by rw[lG hSl];exact fun i hi=>h2 i (by simp[hi])),q2,q3]
      ·cases hr
    ·cases hr
   ·cases hr
  ·cases hr
 ·cases hr
theorem mX{B B':Nat->Option SObj}:∀(u:List (Nat×SObj)),(∀i∈u.map (·.1),B i=B' i)->gX B u=gX B' u
 |[],_=>rfl
 |(i,o)::r,h=>by simp only[gX];rw[h i (by simp),mX r (fun j hj=>h j (by simp only[OJ];exact Og _ hj))]
theorem lH{B B':Nat->Option SObj}:∀(u:List (Nat×SObj)),(∀i∈u.map (·.1),B i=B' i)->ir B u=ir B' u
 |[],_=>rfl
 |(i,o)::r,h=>by simp only[ir];rw[h i (by simp),lH r (fun j hj=>h j (by simp only[OJ];exact Og _ hj))]
theorem DP.same{d e:DP}(h1:d.p=e.p)(h2:d.b=e.b):d=e:=by cases d;cases e;cases h1;cases h2;rfl
theorem sU{B B':Nat->Option SObj}:∀(u:List (Nat×SObj)),(∀i∈u.map (·.1),B i=B' i)->yX B u=yX B' u
 |[],_=>rfl
 |(i,o)::r,h=>by simp only[yX];rw[h i (by simp),sU r (fun j hj=>h j (by simp only[OJ];exact Og _ hj))]
def ID:Op->Bool
 |.call {callee:=.value _,..}=>true
 |_=>false
theorem CJ(C:Cfg)(o:Oper)(T T':Nat->AV)(B B':Nat->Option SObj)(hnc:ID o.op=false)(h:∀x∈o.op.operands.toList,opd T x=opd T' x)
 (hb:∀id∈aF C o T B,B id=B' id):aF C o T B=aF C o T' B'/\au C o T B=au C o T' B'/\cn C o T B=cn C o T' B':=by
 suffices hs:aF C o T B=aF C o T' B'/\au C o T B=au C o T' B' by
  refine⟨hs.1,hs.2,?_⟩;unfold cn
  cases hop:o.op with
  |panic x=>simp[hop,Op.operands]at h;simp[h]
  |call c=>
   obtain⟨callee,args,ts⟩:=c
   cases callee with
   |builtin b=>simp[gK,hop,dA];cases o.dst<;>rfl
   |value f=>rw[hop]at hnc;cases hnc
   |invoke r m=>simp[gK,hop,dA];cases o.dst<;>rfl
  |_=>rfl
 have mapEq:∀ps:Array (Nat×Operand),(∀x∈(ps.toList.map (·.2)),opd T x=opd T' x)->
   (ps.toList.map fun(i,x)=>(i,opd T x))=(ps.toList.map fun(i,x)=>(i,opd T' x)):=by
  intro ps hps;apply QT;rintro⟨i,x⟩ hx;simp only[Qu,OV];exact hps x (OC.2 ⟨(i,x),hx,rfl⟩)
 have bndEq:∀x:Option Operand,(∀y∈x.toArray.toList,opd T y=opd T' y)->bnd T x=bnd T' x:=by
  intro x hx
  cases x with|none=>rfl|some y=>simp only[bnd];rw[hx y (by simp)]
 cases hop:o.op with
 |move x=>simp[hop,Op.operands]at h;simp[aF,au,hop,h]
 |assign x=>simp[hop,Op.operands]at h;simp[aF,au,hop,h]
 |pick c x y=>simp[hop,Op.operands]at h;obtain⟨h1,h2,h3⟩:=h;simp only[aF,au,hop,h1,h2,h3,and_self]
 |alloc e=>
  simp only[aF,hop]at hb;refine⟨by simp only[aF,hop],?_⟩;simp only[au,hop];split
  ·rename_i d r h1 h2;rw[hb d (by simp[h1])]
  ·rfl
 |box e x=>
  simp[hop,Op.operands]at h;simp only[aF,hop]at hb;refine⟨by simp only[aF,hop],?_⟩;simp only[au,hop];split
  ·rename_i d r h1 h2;rw[hb d (by simp[h1]),h]
  ·rfl
 |build t ps=>simp only[hop,Op.operands]at h;refine⟨by simp only[aF,hop],?_⟩;simp only[au,hop];rw[mapEq ps (by simpa using h)]
 |buildSlice t n ps=>
  simp only[hop,Op.operands]at h;simp only[aF,hop]at hb;refine⟨by simp only[aF,hop],?_⟩;simp only[au,hop];split
  ·rename_i d e sz by' z ty h1 h2
   rw[hb d (by simp[h1]),mapEq ps (by simpa using h)]
  ·rfl
 |load t x=>
  simp[hop,Op.operands]at h;simp only[aF,hop]at hb;refine⟨by simp only[aF,hop,h],?_⟩;simp only[au,hop];split
  ·rw[<-h];split
   ·rename_i id off hx;rw[hx]at hb;rw[hb id (by simp)]
   ·rfl
   ·rename_i id i w off hx;rw[hx]at hb;rw[hb id (by simp)]
   ·rename_i k s1 i w off hx;rw[hx]at hb;rw[hb k (by simp)]
   ·rfl
  ·rfl
 |store t x y=>
  simp[hop,Op.operands]at h;simp only[aF,hop]at hb;refine⟨by simp only[aF,hop,h.1],?_⟩;simp only[au,hop];split
  ·rw[<-h.1,<-h.2];split
   ·rfl
   split
   ·rename_i id off hx;rw[hx]at hb;rw[hb id (by simp)]
   ·rename_i id i w off hx;rw[hx]at hb;rw[hb id (by simp)]
   ·rename_i k s1 i w off hx;rw[hx]at hb;rw[hb k (by simp)]
   ·rename_i τ n k hx;rw[hx]at hb;rw[hb k (by simp)]
   ·rfl
  ·rfl
 |nilCheck x=>simp[hop,Op.operands]at h;exact⟨by simp only[aF,hop],by simp only[au,hop];rw[h]⟩
 |binOp op t x y t'=>simp[hop,Op.operands]at h;exact⟨by simp only[aF,hop],by simp only[au,hop];rw[h.1,h.2]⟩
 |unOp op t x=>simp[hop,Op.operands]at h;exact⟨by simp only[aF,hop],by simp only[au,hop];rw[h]⟩
 |convert t t' x=>
  simp[hop,Op.operands]at h;simp only[aF,hop]at hb;refine⟨by simp only[aF,hop,h],?_⟩;simp only[au,hop];rw[<-h];split
  ·rfl
  ·rename_i t1 n i _ _ hx;rw[hx]at hb;unfold I3;rw[hb i (by simp)]
  ·rfl
  ·rfl
 |fieldAddr t x f=>simp[hop,Op.operands]at h;exact⟨by simp only[aF,hop],by simp only[au,hop];rw[h]⟩
 |field t x f=>simp[hop,Op.operands]at h;exact⟨by simp only[aF,hop],by simp only[au,hop];rw[h]⟩
 |indexAddr t x y=>simp[hop,Op.operands]at h;exact⟨by simp only[aF,hop],by simp only[au,hop];rw[h.1,h.2]⟩
 |index t x y=>simp[hop,Op.operands]at h;exact⟨by simp only[aF,hop],by simp only[au,hop];rw[h.1,h.2]⟩
 |slice t x lo hi mx=>
  cases mx with
  |some _=>simp only[hop,Op.operands]at h;have h1:opd T x=opd T' x:=h x (by simp);exact⟨by simp only[aF,hop,h1],by simp only[au,hop]⟩
  |none=>
   simp only[hop,Op.operands]at h;have h1:opd T x=opd T' x:=h x (by simp);have h2:bnd T lo=bnd T' lo:=bndEq lo (fun y hy=>h y (by simp at hy⊢;simp[hy]));have h3:bnd T hi=bnd T' hi:=bndEq hi (fun y hy=>h y (by simp at hy⊢;simp[hy]));simp only[aF,hop]at hb;refine⟨by simp only[aF,hop,h1],?_⟩;simp only[au,hop];rw[<-h1,<-h2,<-h3];split
   ·rename_i s1 n k hx;rw[hx]at hb;unfold Ci;rw[hb k (by simp)]
   ·rfl
 |extract x i=>simp[hop,Op.operands]at h;exact⟨by simp only[aF,hop],by simp only[au,hop];rw[h]⟩
 |call c=>
  obtain⟨callee,args,ts⟩:=c
  cases callee with
  |builtin b=>
   cases b with
   |len=>
    simp only[hop,Op.operands,Call.operands]at h;simp only[aF,hop]at hb;refine⟨?_,?_⟩
    ·simp only[aF,hop];split
     ·rename_i x hx;rw[h x (by simp[hx])]
     ·rfl
    ·simp only[au,hop];split
     ·rename_i x t hx ht;rw[hx]at hb;simp only at hb;have hx':=h x (by simp[hx]);rw[<-hx'];unfold Mw;split
      ·rfl
      ·rfl
      ·rfl
      ·rfl
      ·rfl
      ·rename_i id _ hxe;rw[hxe]at hb;rw[hb id (by simp)]
      ·rfl
     ·rfl
   |append=>
    simp only[hop,Op.operands,Call.operands]at h;simp only[aF,hop]at hb;refine⟨?_,?_⟩
    ·simp only[aF,hop];split
     ·rename_i x y hx;rw[h x (by simp[hx]),h y (by simp[hx])]
     ·rfl
    ·simp only[au,hop];split
     ·rename_i x y t t' d hx ht hdst;split
      ·rw[<-h x (by simp[hx]),<-h y (by simp[hx])];rw[hx]at hb;simp only at hb;split
       ·unfold rD;split
        ·split
         ·split
          ·rename_i hxe hye;rw[hxe]at hb;simp only at hb;rw[hb _ (by simp)]
          ·rename_i hxe hye;rw[hxe]at hb;simp only at hb;rw[hb d (by simp[hdst])]
          ·rfl
         ·rfl
        ·rfl
       ·unfold rE;split
        ·split
         ·split
          ·rfl
          ·rename_i hxe hye;rw[hxe]at hb;simp only at hb;rw[hb _ (by simp)]
          ·rename_i hxe hye;rw[hxe,hye]at hb;simp only at hb;rw[hb _ (Ow.2 (.inl (OH.2 rfl))),hb _ (Ow.2 (.inr (OH.2 rfl)))]
          ·rename_i hxe hye;rw[hxe]at hb;simp only at hb;rw[hb d (by simp[hdst])]
          ·rfl
         ·rfl
        ·rfl
       unfold xm;split
       ·split
        ·split
         ·rfl
         ·rfl
         ·rename_i hxe hye;rw[hxe]at hb;simp only at hb;rw[hb _ (by simp)]
         ·rename_i hxe hye;rw[hxe]at hb;simp only at hb;rw[hb d (by simp[hdst])]
         ·rfl
        ·rfl
       ·rfl
      ·rw[<-h x (by simp[hx]),<-h y (by simp[hx])];rw[hx]at hb;simp only at hb;split
       ·unfold rF;split
        ·split
         ·split
          ·rename_i xs k hxe;rw[hxe]at hb;simp only at hb;rw[hb k (by simp)]
          ·rfl
         ·rfl
        ·rfl
       ·rfl
     ·rfl
   |max=>
    simp only[hop,Op.operands,Call.operands]at h;refine⟨by simp only[aF,hop,dA],?_⟩;simp only[au,hop];split
    ·rename_i x y hx;rw[h x (by simp[hx]),h y (by simp[hx])]
    ·rfl
   |min=>
    simp only[hop,Op.operands,Call.operands]at h;refine⟨by simp only[aF,hop,dA],?_⟩;simp only[au,hop];split
    ·rename_i x y hx;rw[h x (by simp[hx]),h y (by simp[hx])]
    ·rfl
   |clear=>
    simp only[hop,Op.operands,Call.operands]at h;simp only[aF,hop,au]at hb⊢;refine⟨?_,?_⟩
    ·split
     ·rename_i x hx;rw[h x (by simp[hx])]
     ·rfl
    ·split
     ·rename_i x t hx ht;rw[<-h x (by simp[hx])];simp only[hx]at hb;split
      ·rename_i k s i w m hxe;rw[hxe]at hb;simp only at hb;unfold Cj;rw[hb k (by simp)]
      ·rfl
     ·rfl
   |_=>simp only[aF,au,hop,dA,and_self]
  |value f=>rw[hop]at hnc;cases hnc
  |invoke r m=>simp only[aF,au,hop,gK,dA];exact⟨trivial,by cases o.dst<;>rfl⟩
 |lookup t x k ok=>
  simp[hop,Op.operands]at h;simp only[aF,hop]at hb;refine⟨by simp only[aF,hop,h.1],?_⟩;simp only[au,hop,<-h.1,<-h.2,js];split
  ·rename_i kt e sz by' z ty id hr hxe
   rw[hxe]at hb;rw[hb id (by simp)]
  ·rfl
  ·rfl
 |mapUpdate t x k v=>
  simp[hop,Op.operands]at h;simp only[aF,hop]at hb;refine⟨by simp only[aF,hop,h.1],?_⟩;simp only[au,hop,<-h.1,<-h.2.1,<-h.2.2,ko];split
  ·rename_i kt e sz by' z ty id hr hxe
   rw[hxe]at hb;rw[hb id (by simp)]
  ·rfl
 |insert t x k v=>
  simp[hop,Op.operands]at h;simp only[aF,hop]at hb;refine⟨by simp only[aF,hop,h.1],?_⟩;simp only[au,hop,<-h.1,<-h.2.1,<-h.2.2,ko];split
  ·rename_i kt e sz by' z ty id hr hxe
   rw[hxe]at hb;rw[hb id (by simp)]
  ·rfl
 |mapEntry t x k=>
  simp[hop,Op.operands]at h;simp only[aF,hop]at hb;refine⟨by simp only[aF,hop,h.1],?_⟩;simp only[au,hop,<-h.1,<-h.2,sb];split
  ·rename_i kt e sz by' z ty id hr hxe
   rw[hxe]at hb;rw[hb id (by simp)]
  ·rfl
 |entryStore t x s v=>
  simp[hop,Op.operands]at h;simp only[aF,hop]at hb;refine⟨by simp only[aF,hop,h.1],?_⟩;simp only[au,hop,<-h.1,<-h.2.1,<-h.2.2,lq];split
  ·rename_i id j n hxe hse;rw[hxe]at hb;rw[hb id (by simp)]
  ·rfl
 |makeMap t r=>
  simp only[hop,Op.operands]at h;simp only[aF,hop]at hb;refine⟨by simp only[aF,hop],?_⟩
  have hr:r.map (opd T)=r.map (opd T'):=by
   cases r with|none=>rfl|some y=>simp only[Pr];rw[h y (by simp)]
  simp only[au,hop,hr];split
  ·rename_i d k e sz by' z ty hd ht
   rw[hb d (by simp[hd])]
  ·rfl
 |makeSlice t x y=>
  simp[hop,Op.operands]at h;simp only[aF,hop]at hb;refine⟨by simp only[aF,hop],?_⟩;simp only[au,hop,h.1,h.2];split
  ·rename_i d e sz by' z ty m n hd ht hx hy
   rw[hb d (by simp[hd])]
  ·rfl
 |makeFunc f x y=>refine⟨by simp only[aF,hop],?_⟩;simp only[hop,Op.operands]at h;have hy:y.toList.map (opd T)=y.toList.map (opd T'):=QT fun z hz=>h z (by simp at hz⊢;simp[hz]);cases f<;>simp only[au,hop,hy]
 |makeInterface t x=>simp[hop,Op.operands]at h;exact⟨by simp only[aF,hop],by simp only[au,hop];rw[h]⟩
 |typeAssert x t t' b=>cases b<;>(simp[hop,Op.operands]at h;exact⟨by simp only[aF,hop],by simp only[au,hop];first|done|rw[h]⟩)
 |panic x=>simp[hop,Op.operands]at h;exact⟨by simp only[aF,hop],by simp only[au,hop];rw[h]⟩
 |_=>simp only[aF,au,hop,and_self]
theorem pI(C:Cfg)(o:Oper)(T T':Nat->AV)(B B':Nat->Option SObj){e:Eff}(h:∀x∈o.op.operands.toList,opd T x=opd T' x)
 (hb:∀id∈aF C o T B,B id=B' id)(he:au C o T B=some e):aF C o T B=aF C o T' B'/\au C o T' B'=some e/\cn C o T B=cn C o T' B':=by
 cases hc:ID o.op with
 |false=>obtain⟨h1,h2,h3⟩:=CJ C o T T' B B' hc h hb;exact⟨h1,by rw[<-h2,he],h3⟩
 |true=>
  obtain⟨f0,args0,ts,hop⟩:∃f0 args0 ts,o.op=.call {callee:=.value f0,args:=args0,argTypes:=ts}:=by
   cases hop:o.op with
   |call c=>
    obtain⟨callee,args,ts⟩:=c
    cases callee with
    |value f=>exact⟨f,args,ts,rfl⟩
    |builtin b=>rw[hop]at hc;cases hc
    |invoke r m=>rw[hop]at hc;cases hc
   |_=>rw[hop]at hc;cases hc
  have hcal:dA T {callee:=.value f0,args:=args0,argTypes:=ts}=dA T' {callee:=.value f0,args:=args0,argTypes:=ts}:=by
   simp only[hop,Op.operands,Call.operands]at h;have ha:args0.toList.map (opd T)=args0.toList.map (opd T'):=QT fun z hz=>h z (by simp at hz⊢;simp[hz])
   cases f0 with|func f=>simp only[dA,ha]|tmp t=>have ht:T t=T' t:=h (.tmp t) (by simp);simp only[dA,ha,ht]|_=>rfl
  have heff:∃r,gK C o T B=some r/\gf (lh C o) B r.eff=e:=by
   simp only[au,hop]at he;split at he
   ·rename_i r hr;simp at he;exact⟨r,hr,he⟩
   ·cases he
  obtain⟨r,hr,rfl⟩:=heff;have hr0:=hr;simp only[gK,hop]at hr;split at hr
  ·rename_i c d hc' hdst;simp at hc';subst hc';split at hr
   ·rename_i f args hca;have hca':=hca;rw[hcal]at hca'
    obtain⟨args',hst⟩:∃args',kn (C.keeps f) args=some args':=by
     cases hs:kn (C.keeps f) args with|none=>simp[s8,hs]at hr|some x=>exact⟨x,rfl⟩
    have hneed:aF C o T B=(gJ C f args' B).map (·.1)++(r.foot++I9 (lh C o) r.eff.upd):=by simp only[aF,hop,hca,hst];simp only[hr0]
    rw[hneed]at hb;have h1:∀i∈(gJ C f args' B).map (·.1),B i=B' i:=fun i hi=>hb i (by simp only[Ow];exact Or.inl hi);have hr1:=zF hr hst h1 (fun i hi=>hb i (by simp only[Ow];exact Or.inr (Or.inl hi)))
    have hds:gf (lh C o) B' r.eff=gf (lh C o) B r.eff:=by
     cases hsm:lh C o with
     |false=>rfl
     |true=>rw[hsm]at hb;have hb2:∀i∈r.eff.upd.map (·.1),B i=B' i:=fun i hi=>hb i (by simp only[Ow];exact Or.inr (Or.inr hi));simp only[gf];rw[sU r.eff.upd hb2];have e1:=mX r.eff.upd hb2;have e2:=lH r.eff.upd hb2;congr 2;exact DP.same (PT (r.eff.asks/\ ·) e1.symm) (PT (okO r.eff.ob&&·) e2.symm)
    have hr2:gK C o T' B'=some r:=by simp only[gK,hop,hdst,hca',hr1]
    refine⟨?_,?_,?_⟩
    ·rw[hneed];simp only[aF,hop,hca',hst,hr2];rw[oI h1]
    ·simp only[au,hop,hr2];exact PT some hds
    ·simp only[cn,hop,hr0,hr2]
   ·cases hr
  ·cases hr
theorem pJ{o:Oper}{T T':Nat->AV}(h:∀t∈sg o,T t=T' t):∀x∈o.op.operands.toList,opd T x=opd T' x:=by
 intro x hx
 cases x with|tmp t=>simp only[opd];exact h t (by simp only[sg,List.mem_filterMap];exact⟨.tmp t,hx,rfl⟩)|_=>rfl
theorem nA{ops:List Oper}{o:Oper}{T T':Nat->AV}(h:∀t∈dP ops o,T t=T' t):gC ops o T=gC ops o T':=by
 unfold gC;split
 ·rfl
 ·rename_i j want hg;split
  ·rfl
  ·rename_i d hd;rw[h d (by simp only[dP,hg,Ow];right;simp[hd])]
def sV(C:Cfg)(ops:List Oper)(o:Oper)(s:AS)(v:AV)(u:List (Nat×SObj))(f:bN):Prop:=
 (gC ops o s.T=some true/\∃e,au C o s.T s.B=some e/\e.asks/\Calm (cn C o s.T s.B)/\v=e.val/\u=e.upd/\f=(aF C o s.T s.B,e.upd.map (·.1)))∨
 (gC ops o s.T=some false/\v=.tup []/\u=[]/\f=([],[]))
theorem pG.eff{C:Cfg}{ops:List Oper}{o:Oper}{s s1:AS}{f:bN}(hs:pG C ops o s s1 f) :
  ∃v u,sV C ops o s v u f/\s1=⟨bz s.T o.dst v,bB s.B u⟩/\f.2=u.map (·.1):=by
 rcases hs with⟨h1,e,h2,h3,hp,rfl,rfl⟩|⟨h1,rfl,rfl⟩
 ·exact⟨e.val,e.upd,Or.inl ⟨h1,e,h2,h3,hp,rfl,rfl,rfl⟩,rfl,rfl⟩
 ·exact⟨.tup [],[],Or.inr ⟨h1,rfl,rfl,rfl⟩,rfl,rfl⟩
theorem sV.step{C:Cfg}{ops:List Oper}{o:Oper}{s:AS}{v:AV}{u:List (Nat×SObj)}{f:bN}(hs:sV C ops o s v u f) :
  pG C ops o s ⟨bz s.T o.dst v,bB s.B u⟩ f:=by
 rcases hs with⟨h1,e,h2,h3,hp,rfl,rfl,rfl⟩|⟨h1,rfl,rfl,rfl⟩
 ·exact Or.inl ⟨h1,e,h2,h3,hp,rfl,rfl⟩
 ·exact Or.inr ⟨h1,rfl,rfl⟩
theorem sV.other{C:Cfg}{ops:List Oper}{o:Oper}{s s':AS}{v:AV}{u:List (Nat×SObj)}{f:bN}(hs:sV C ops o s v u f)
 (hT:∀t∈dP ops o,s.T t=s'.T t)(hB:∀id∈f.1,s.B id=s'.B id):sV C ops o s' v u f:=by
 have hg:=nA hT;rcases hs with⟨h1,e,h2,h3,hp,rfl,rfl,rfl⟩|⟨h1,rfl,rfl,rfl⟩
 ·obtain⟨l1,l2,l3⟩:=pI C o s.T s'.T s.B s'.B (pJ fun t ht=>hT t (by simp[dP,ht])) hB h2;exact Or.inl ⟨by rw[<-hg,h1],e,l2,h3,by rw[<-l3];exact hp,rfl,rfl,by rw[l1]⟩
 ·exact Or.inr ⟨by rw[<-hg,h1],rfl,rfl,rfl⟩
theorem gp:∀(u:List (Nat×SObj))(B:Nat->Option SObj)(j:Nat),j∉u.map (·.1)->bB B u j=B j
 |[],B,j,_=>rfl
 |(i,o)::r,B,j,h=>by simp at h;simp only[bB];rw[gp r _ j (by simpa using h.2)];have:¬i=j:=fun e=>h.1 e.symm;simp[this]
theorem kF:∀(u:List (Nat×SObj))(B B':Nat->Option SObj)(j:Nat),B j=B' j->bB B u j=bB B' u j
 |[],B,B',j,h=>h
 |(i,o)::r,B,B',j,h=>by simp only[bB];exact kF r _ _ j (by show(if i=j then _ else _)=(if i=j then _ else _);rw[h])
theorem FV(u v:List (Nat×SObj))(B:Nat->Option SObj)(h:∀x∈u.map (·.1),x∉v.map (·.1)):bB (bB B u) v=bB (bB B v) u:=by
 funext j;by_cases hu:j∈u.map (·.1)
 ·rw[gp v _ j (h j hu)];exact kF u _ _ j (gp v B j (h j hu)).symm
 ·rw[gp u _ j hu];exact kF v _ _ j (gp u B j hu)
theorem wb{T:Nat->AV}{d d':Option Nat}{x y:AV}(h:∀i,d=some i->d'≠some i):bz (bz T d x) d' y=bz (bz T d' y) d x:=by
 cases d with
 |none=>rfl
 |some i=>
  cases d' with
  |none=>rfl
  |some j=>
   have hij:¬i=j:=fun e=>h i rfl (by rw[e]);funext k;simp only[bz];by_cases h1:i=k
   ·subst h1;have:¬j=i:=fun e=>hij e.symm;simp[this]
   ·simp[h1]
theorem mA{T:Nat->AV}{d:Option Nat}{v:AV}{t:Nat}(h:d≠some t):bz T d v t=T t:=by
 cases d with|none=>rfl|some d=>simp only[bz];rw[O0 (fun e=>h (by rw[e]))]
theorem dx{a b:List Nat}(h:sh a b=true):∀x∈a,x∉b:=by intro x hx;have:=O9.1 h x hx;simpa using this
theorem mB{K V:Type}[DecidableEq K](k:K)(v:V):∀m:List (K×V),cu (bP m k v) k=some v
 |[]=>by simp[bP,cu]
 |(a,u)::r=>by
  unfold bP;by_cases e:k=a
  ·rw[O3 e];simp[cu]
  ·rw[O0 e,cu,O0 e,mB k v r]
theorem CK{κ τ:Ty}{m m':List (den κ×den τ)}{k:AV}{v:den τ}(h:gL κ τ m k v=some m'):gg κ τ m' k=some (some v):=by
 unfold gL at h;split at h
 ·cases h;simp only[gg,mB]
 ·rename_i j k0;split at h
  ·rename_i e;cases h;simp only[gg,O3 e,mB]
  ·cases h
 ·split at h
  ·rename_i ha;cases h;simp only[gg,ha,mB]
  ·cases h
 ·cases h
theorem xO{C:Cfg}{t:Nat}{x k:AV}{B:Nat->Option SObj}{e e':Eff}(h:js C t x k false B=some e)(h':sb C t x k B=some e') :
  js C t x k false (bB B e'.upd)=some e:=by
 unfold sb at h';split at h'
 ·rename_i kt el sz by' z0 ty id hr
  split at h'
  ·rename_i rk re κ τ m hrk hre hm;split at h'
   ·rename_i z g hz hg;split at h'
    ·rename_i m' ix hm' hix;split at h'
     ·rename_i hc;cases h';simp only[js,hr,hrk,hre,hm,hz,hg,hc,P1]at h;cases h;have hb:bB B [(id,SObj.map κ τ m')] id=some (.map κ τ m'):=by simp[bB]
      simp only[js,hr,hrk,hre,hb,hz,CK hm',hc,P1,OX]
     ·cases h'
    ·cases h'
   ·cases h'
  ·cases h'
 ·cases h'
theorem CL{x y:Oper}(h:pr x y=true):∃t a b,x.op=.lookup t (.tmp a) (.tmp b) false/\y.op=.mapEntry t (.tmp a) (.tmp b):=by
 unfold pr at h;split at h
 ·rename_i e1 e2;simp only[NZ]at h;obtain⟨h1,h2,h3⟩:=h;obtain rfl:=On h1;obtain rfl:=On h2;obtain rfl:=On h3;exact⟨_,_,_,e1,e2⟩
 ·cases h
theorem pG.swap{C:Cfg}{ops:List Oper}{x y:Oper}{s s1 s2:AS}{f g:bN}(hy:pG C ops y s s1 g)(hx:pG C ops x s1 s2 f)
 (ha:gi ops y x=true)(hf:(dQ g f||pr y x)=true):∃s1',pG C ops x s s1' f/\pG C ops y s1' s2 g:=by
 simp only[gi,NZ]at ha;obtain⟨ha1,ha2⟩:=ha;have yd:∀t,y.dst=some t->t∉dP ops x/\x.dst≠some t:=by intro t ht;rw[ht]at ha1;simp at ha1;exact ha1
 have xd:∀t,x.dst=some t->t∉dP ops y:=by intro t ht;rw[ht]at ha2;simpa using ha2
 obtain⟨vy,uy,hy0,e1,ey⟩:=hy.eff;subst e1;obtain⟨vx,ux,hx0,e2,ex⟩:=hx.eff;subst e2;rw[OS]at hf;rcases hf with hf|hf
 case inr=>
  obtain⟨t,a,b,oy,ox⟩:=CL hf
  have uy0:uy=[]:=by
   rcases hy0 with⟨_,e,he,_,_,_,rfl,_⟩|⟨_,_,rfl,_⟩
   ·simp only[au,oy,js]at he;split at he
    ·split at he
     ·split at he
      ·split at he
       ·cases he;rfl
       ·cases he
      ·cases he
     ·cases he
    ·split at he
     ·split at he
      ·split at he
       ·split at he
        ·cases he;rfl
        ·cases he
       ·cases he
      ·cases he
     ·cases he
    ·cases he
   ·rfl
  subst uy0;have hx1:=hx0.other (s':=s) (fun t ht=>mA (fun e=>(yd t e).1 ht)) (fun id _=>rfl);have hTy:∀t∈dP ops y,s.T t=bz s.T x.dst vx t:=fun t ht=>(mA (fun e=>xd t e ht)).symm
  have hy1:sV C ops y ⟨bz s.T x.dst vx,bB s.B ux⟩ vy [] g:=by
   rcases hx1 with⟨_,ex',hex,_,_,_,rfl,_⟩|⟨_,_,rfl,_⟩
   ·have hya:=hy0.other (s':=⟨bz s.T x.dst vx,s.B⟩) hTy (fun _ _=>rfl);rcases hya with⟨q1,e,q2,q3,q4,q5,q6,q7⟩|⟨q1,q2,q3,q4⟩
    ·have oT:opd (bz s.T x.dst vx) (.tmp a)=opd s.T (.tmp a)/\opd (bz s.T x.dst vx) (.tmp b)=opd s.T (.tmp b):=by
      refine⟨(hTy a ?_).symm,(hTy b ?_).symm⟩
      ·simp[dP,sg,oy,Op.operands]
      ·simp[dP,sg,oy,Op.operands]
     simp only[au,ox]at hex;simp only[au,oy,oT.1,oT.2]at q2;refine .inl ⟨q1,e,?_,q3,?_,q5,q6,?_⟩
     ·simp only[au,oy,oT.1,oT.2];exact xO q2 hex
     ·intro b' pv u h;simp only[cn,oy]at h;cases h
     ·rw[q7];simp only[aF,oy]
    ·exact .inr ⟨q1,q2,q3,q4⟩
   ·exact hy0.other (s':=⟨bz s.T x.dst vx,s.B⟩) hTy (fun _ _=>rfl)
  refine⟨_,hx1.step,?_⟩;have h2:=hy1.step;have hgoal:(⟨bz (bz s.T y.dst vy) x.dst vx,bB (bB s.B []) ux⟩:AS)=⟨bz (bz s.T x.dst vx) y.dst vy,bB (bB s.B ux) []⟩:=by rw[wb (fun i hi=>(yd i hi).2)];rfl
  rw[hgoal];exact h2
 case inl=>
 simp only[dQ,NZ]at hf;have hf1:=dx hf.1;have hf2:=dx hf.2
 have hx1:=hx0.other (s':=s)
  (fun t ht=>mA (fun e=>(yd t e).1 ht))
  (fun id hid=>gp uy _ id (fun hm=>hf1 id (by rw[ey];exact hm) (by simp[hid])))
 have hy1:=hy0.other (s':=⟨bz s.T x.dst vx,bB s.B ux⟩)
  (fun t ht=>(mA (fun e=>xd t e ht)).symm)
  (fun id hid=>(gp ux _ id (fun hm=>hf2 id (by rw[ex];exact hm) hid)).symm)
 refine⟨_,hx1.step,?_⟩;have h2:=hy1.step;have hgoal:(⟨bz (bz s.T y.dst vy) x.dst vx,bB (bB s.B uy) ux⟩:AS)=⟨bz (bz s.T x.dst vx) y.dst vy,bB (bB s.B ux) uy⟩:=by rw[wb (fun i hi=>(yd i hi).2),FV uy ux _ (fun i hi hi'=>hf1 i (by rw[ey];exact hi) (by simp[ex,hi']))]
 rw[hgoal];exact h2
def kG(C:Cfg)(ops:List Oper)(fs:Nat->bN):List Nat->AS->AS->Prop
 |[],s,s'=>s=s'
 |i::r,s,s'=>∃o s1,ops[i]?=some o/\pG C ops o s s1 (fs i)/\kG C ops fs r s1 s'
def EV(ops:List Oper)(fs:Nat->bN)(j i:Nat):Prop:=
 ∀x y,ops[j]?=some x->ops[i]?=some y->gi ops x y=true/\(dQ (fs j) (fs i)||pr x y)=true
theorem kG.front{C:Cfg}{ops:List Oper}{fs:Nat->bN}:∀(r1:List Nat)(i:Nat)(r2:List Nat)(s sN:AS),
  kG C ops fs (r1++i::r2) s sN->(∀j∈r1,EV ops fs j i)->kG C ops fs (i::(r1++r2)) s sN
 |[],i,r2,s,sN,h,_=>h
 |j::r1,i,r2,s,sN,h,ha=>by obtain⟨o,s1,ho,hs,hr⟩:=h;obtain⟨o',s2,ho',hs',hr'⟩:=kG.front r1 i r2 s1 sN hr (fun j hj=>ha j (by simp[hj]));obtain⟨a1,a2⟩:=ha j (by simp) o o' ho ho';obtain⟨s1',k1,k2⟩:=hs.swap hs' a1 a2;exact⟨o',s1',ho',k1,o,s2,ho,k2,hr'⟩
theorem qq(C:Cfg)(ops:List Oper):∀(l:List Oper)(i:Nat)(s sN:AS)(fl:List bN)(fs:Nat->bN),ops.drop i=l->nz C ops l s fl sN->
  (∀k,fs (i+k)=fl.getD k ([],[]))->kG C ops fs (List.range' i l.length) s sN
 |[],i,s,sN,fl,fs,_,h,_=>h.1
 |o::r,i,s,sN,fl,fs,hl,h,hf=>by
  obtain⟨s1,f,fs',hs,hr,rfl⟩:=h
  have hi:ops[i]?=some o:=by
   have:(ops.drop i)[0]?=some o:=by rw[hl];rfl
   rw[P9]at this;simpa using this
  have hl':ops.drop (i+1)=r:=by rw[<-List.tail_drop,hl];rfl
  refine⟨o,s1,hi,?_,qq C ops r (i+1) s1 sN fs' fs hl' hr (fun k=>?_)⟩
  ·have:=hf 0;simp at this;rw[this];exact hs
  ·have:=hf (k+1);simp at this;rw[O4,<-this];congr 1;omega
end Go.AL
end
noncomputable section
namespace Go.AL
variable [Tabs]
def gZ(acc:List (List Nat))(o:Oper):List Nat:=(o.after.toList.filter (Region.binds .any)).flatMap fun e=>e.on::acc.getD e.on []
def bZ(ops:List Oper):List (List Nat):=ops.foldl (fun acc o=>acc++[gZ acc o]) []
theorem CM(ops:List Oper):bZ ops=ops.foldl (fun acc o=>acc++[gZ acc o]) []:=rfl
theorem CN{l:List Edge}{acc:List Nat}{i:Nat}:∀{m:Nat},(l.foldl (fun m e=>m ||| 2 ^ e.on ||| acc.getD e.on 0) m).testBit i=true->
  m.testBit i=true∨∃e∈l,e.on=i∨(acc.getD e.on 0).testBit i=true:=by
 induction l with
 |nil=>intro m h;exact Or.inl h
 |cons e r ih=>
  intro m h;rcases ih h with h|⟨x,hx,h⟩
  ·simp only[Nat.testBit_or,OS,Nat.testBit_two_pow,O1]at h;rcases h with(h|h)|h
   ·exact Or.inl h
   ·exact Or.inr ⟨e,by simp,Or.inl h⟩
   ·exact Or.inr ⟨e,by simp,Or.inr h⟩
  ·exact Or.inr ⟨x,Og _ hx,h⟩
theorem jy(ops:List Oper):(fw ops).length=(bZ ops).length/\∀j i,((fw ops).getD j 0).testBit i=true->i∈(bZ ops).getD j []:=by
 suffices h:∀(ops:List Oper)(a:List Nat)(b:List (List Nat)),a.length=b.length->(∀j i,(a.getD j 0).testBit i=true->i∈b.getD j [])->
   (ops.foldl (fun acc o=>acc++[sk acc o]) a).length=(ops.foldl (fun acc o=>acc++[gZ acc o]) b).length/\
   ∀j i,((ops.foldl (fun acc o=>acc++[sk acc o]) a).getD j 0).testBit i=true->i∈(ops.foldl (fun acc o=>acc++[gZ acc o]) b).getD j [] by
  exact h ops [] [] rfl (by simp)
 intro ops
 induction ops with
 |nil=>exact fun a b hl h=>⟨hl,h⟩
 |cons o r ih=>
  intro a b hl h;refine ih (a++[sk a o]) (b++[gZ b o]) (by simp[hl]) fun j i hb=>?_;rcases R1 j a.length with hj|hj|hj
  ·rw[O4,Ob hj,<-O4]at hb;rw[O4,Ob (by omega),<-O4];exact h j i hb
  ·subst hj;rw[O4,Oe (Od _),QO]at hb;rw[hl,O4,Oe (Od _),QO];simp only[Q4,OX]at hb⊢;unfold sk at hb;rcases CN hb with hz|⟨e,he,hz⟩
   ·simp at hz
   ·unfold gZ;rw[Pp];refine⟨e,he,?_⟩;rcases hz with rfl|hz
    ·simp
    ·exact Og _ (h _ _ hz)
  ·rw[O4,O2 (by simp;omega)]at hb;simp at hb
theorem kH(l:List Oper)(o:Oper):bZ (l++[o])=bZ l++[gZ (bZ l) o]:=by simp only[CM,List.foldl_append,QV,List.foldl_nil]
theorem qt:∀(r l:List Oper),∃t,bZ (l++r)=bZ l++t
 |[],l=>⟨[],by simp⟩
 |o::r,l=>by obtain⟨t,ht⟩:=qt r (l++[o]);refine⟨gZ (bZ l) o::t,?_⟩;rw[show l++o::r=(l++[o])++r from by simp,ht,kH];simp
theorem sW(l:List Oper):(bZ l).length=l.length:=by
 induction h:l.length generalizing l with
 |zero=>rw[Oc h];rfl
 |succ n ih=>
  have hne:l≠[]:=fun e=>by rw[e]at h;simp at h
  have hs:=List.dropLast_concat_getLast hne;rw[<-hs,kH];simp only[Oj,OI];rw[ih l.dropLast (by simp[h])]
theorem CO{l:List Oper}{i:Nat}{o:Oper}(h:l[i]?=some o) :
  (bZ l).getD i []=gZ (bZ (l.take i)) o/\∀m,m<i->(bZ l).getD m []=(bZ (l.take i)).getD m []:=by
 have hi:i<l.length:=by
  rcases O5 i l.length with k|k
  ·exact k
  ·rw[O2 k]at h;cases h
 have ho:l[i]=o:=by rw[NY hi]at h;simpa using h
 have e:l=(l.take i++[o])++l.drop (i+1):=by rw[<-ho,OE,List.singleton_append,<-Qm hi,Qk]
 obtain⟨t,ht⟩:=qt (l.drop (i+1)) (l.take i++[o]);rw[<-e,kH]at ht;have hl:(bZ (l.take i)).length=i:=by rw[sW];simp;omega
 refine⟨?_,fun m hm=>?_⟩
 ·rw[ht,O4,OE,Oe (by omega),hl];simp
 ·rw[ht,O4,OE,Ob (by omega),O4]
theorem kJ{l:List Oper}(he:∀(i:Nat)(o:Oper),l[i]?=some o->∀e∈o.after.toList,Region.binds .any e=true->e.on<i){L:Nat->Prop}
 (hd:∀(i:Nat)(o:Oper),l[i]?=some o->L i->∀e∈o.after.toList,Region.binds .any e=true->L e.on) :
  ∀(n i:Nat)(o:Oper),i<n->l[i]?=some o->(∀e∈o.after.toList,Region.binds .any e=true->L e.on)->∀k∈(bZ l).getD i [],L k:=by
 intro n
 induction n with
 |zero=>intro i o hi;omega
 |succ n ih=>
  intro i o hi ho hp k hk;obtain⟨h1,h2⟩:=CO ho;rw[h1]at hk;simp only[gZ,Pp,OO,O7]at hk;obtain⟨e,⟨he1,he2⟩,hk⟩:=hk;have hlt:=he i o ho e he1 he2;rcases hk with rfl|hk
  ·exact hp e he1 he2
  ·rw[<-h2 e.on hlt]at hk
   have hlen:e.on<l.length:=by
    have:i<l.length:=by
     rcases O5 i l.length with k|k
     ·exact k
     ·rw[O2 k]at ho;cases ho
    omega
   have ho':l[e.on]?=some l[e.on]:=NY hlen;exact ih e.on _ (by omega) ho' (hd e.on _ ho' (hp e he1 he2)) k hk
theorem ve{l:List Oper}{fl:List bN}(h:dB l fl=true) :
  (∀(i:Nat)(o:Oper),l[i]?=some o->∀e∈o.after.toList,Region.binds .any e=true->e.on<i)/\
  ∀j i,i<j->j<l.length->i∈(bZ l).getD j []∨EV l (fun k=>fl.getD k ([],[])) i j:=by
 simp only[dB,NZ,O9]at h;obtain⟨h1,h2⟩:=h;refine⟨fun i o ho e he hb=>?_,fun j i hij hj=>?_⟩
 ·have hm:(o,i)∈l.zipIdx:=by rw[List.mem_zipIdx_iff_getElem?];exact ho
  have:=h2 (o,i) hm;simp only[R2,OS,Oa,Qv]at this;obtain⟨k,hk,hke⟩:=Qj.1 (Qq.1 he);have:=this k hk;rw[hke]at this;rcases this with h|h
  ·rw[hb]at h;cases h
  ·exact h
 ·have:=h1 j (Py.2 hj) i (Py.2 hij);simp only[OS]at this;rcases this with h|h
  ·left;exact(jy l).2 j i h
  ·right;intro x y hx hy;simp only[jI,hx,hy]at h;split at h
   ·rename_i x' y' f g e1 e2 e3 e4;simp at e1 e2;subst e1 e2;simp only[NZ]at h;simp only[O4,e3,e4,OX];exact h
   ·simp at h
theorem sX{ops:Array Oper}{listed:Array Bool}{i:Nat}:i∈Region.ready .any ops listed↔
   i<ops.size/\listed.getD i true=false/\∃o,ops[i]?=some o/\∀e∈o.after.toList,Region.binds .any e=true->listed.getD e.on false=true:=by
 unfold Region.ready;simp only[OO,Py,NZ,Oa];constructor
 ·rintro⟨h1,h2,h3⟩;refine⟨h1,h2,?_⟩
  cases ho:ops[i]? with
  |none=>rw[ho]at h3;simp at h3
  |some o=>
   rw[ho]at h3;refine⟨o,rfl,fun e hem hb=>?_⟩;simp only[Pr,OX,R2,OS,Oa]at h3;obtain⟨k,hk,hke⟩:=Qj.1 (Qq.1 hem);have:=h3 k hk;rw[hke]at this;rcases this with h|h
   ·rw[hb]at h;cases h
   ·exact h
 ·rintro⟨h1,h2,o,ho,h3⟩;refine⟨h1,h2,?_⟩;rw[ho];simp only[Pr,OX,R2,OS,Oa];intro k hk
  cases hb:Region.binds .any o.after[k]with|false=>exact Or.inl rfl|true=>exact Or.inr (h3 _ (Qq.2 (Array.getElem_mem hk)) hb)
section
variable {P:Program} {C:Cfg} {ops:Array Oper} {Q:Exit->Act->World->Prop} {F:Fr}
theorem any_sound(hT:aR P C.tbl)(hS:bJ P C.spec)(hdst:∀(o:Oper),o∈ops.toList->∀d,o.dst=some d->d<F.n)
 {fs:Nat->bN}{sN:AS}(he:∀(i:Nat)(o:Oper),ops.toList[i]?=some o->∀e∈o.after.toList,Region.binds .any e=true->e.on<i)
 (hi:∀j i,i<j->j<ops.size->i∈(bZ ops.toList).getD j []∨EV ops.toList fs i j)
 (hQ:∀a' Ω',Holds F sN a' Ω'->Q .normal a' Ω'.w) :
  ∀(fuel:Nat)(R:List Nat)(listed:Array Bool)(s:AS)(a:Act)(Ω:Om),R.length=fuel->listed.size=ops.size->
   (∀i,i<ops.size->(listed.getD i true=false↔i∈R))->R.Pairwise (·<·)->(∀i∈R,i<ops.size)->
   (∀(i:Nat)(o:Oper),ops.toList[i]?=some o->listed.getD i true=true->∀e∈o.after.toList,Region.binds .any e=true->listed.getD e.on true=true)->
   kG C ops.toList fs R s sN->Holds F s a Ω->wpAny P .any ops Q fuel listed a Ω.w:=by
 intro fuel
 have Rt:∀{listed:Array Bool} {i:Nat},i∈Region.ready .any ops listed↔
   i<ops.size/\listed.getD i true=false/\∃o,ops[i]?=some o/\∀e∈o.after.toList,Region.binds .any e=true->listed.getD e.on false=true:=sX
 have two:∀{listed:Array Bool} {i:Nat},listed.size=ops.size->i<ops.size->listed.getD i true=listed.getD i false:=by intro listed i hs hi';simp[Oo,hs,hi']
 have least:∀(R:List Nat)(listed:Array Bool),listed.size=ops.size->(∀i,i<ops.size->(listed.getD i true=false↔i∈R))->R.Pairwise (·<·)->(∀i∈R,i<ops.size)->
   Region.ready .any ops listed=[]->R=[]:=by
  intro R listed hs hl hp hlt hr
  cases R with
  |nil=>rfl
  |cons m R=>
   have hm:=hlt m (by simp)
   have:m∈Region.ready .any ops listed:=by
    refine Rt.2 ⟨hm,(hl m hm).2 (by simp),ops[m],Oz hm,fun e hem hb0=>?_⟩;have hon:=he m ops[m] (by rw[Oh];exact Oz hm) e hem hb0;rw[<-two hs (by omega)]
    cases hb:listed.getD e.on true with
    |true=>rfl
    |false=>
     have hin:=(hl e.on (by omega)).1 hb;simp only[O7]at hin;rcases hin with hin|hin
     ·omega
     ·have:=(Pm.1 hp).1 e.on hin;omega
   rw[hr]at this;cases this
 induction fuel with
 |zero=>
  intro R listed s a Ω hlen hs hl hp hlt hdc hrun h;have hR:=Oc hlen;subst hR;have hsn:s=sN:=hrun;subst hsn;refine⟨?_,hQ a Ω h⟩
  cases hr:Region.ready .any ops listed with
  |nil=>rfl
  |cons i r=>
   have:i∈Region.ready .any ops listed:=by rw[hr];simp
   obtain⟨h1,h2,_⟩:=Rt.1 this;have:=(hl i h1).1 h2;cases this
 |succ fuel ih=>
  intro R listed s a Ω hlen hs hl hp hlt hdc hrun h;refine⟨fun hr=>?_,fun i hir=>?_⟩
  ·have hR:=least R listed hs hl hp hlt hr;subst hR;have hsn:s=sN:=hrun;subst hsn;exact hQ a Ω h
  ·obtain⟨h1,h2,o,ho,h3⟩:=Rt.1 hir;have hiR:=(hl i h1).1 h2;obtain⟨r1,r2,hR⟩:=List.append_of_mem hiR;subst hR;have hpre:∀e∈o.after.toList,Region.binds .any e=true->listed.getD e.on true=true:=by intro e hem hb;have hon:=he i o (by rw[Oh];exact ho) e hem hb;rw[two hs (by omega)];exact h3 e hem hb
   have hal:=kJ (l:=ops.toList) he (L:=fun k=>listed.getD k true=true) hdc (i+1) i o (by omega) (by rw[Oh];exact ho) hpre;have hp':=PU.1 hp
   have hfront:=kG.front r1 i r2 s sN hrun (fun j hj=>by
    have hji:j<i:=hp'.2.2 j hj i (by simp);rcases hi i j hji h1 with hk|hk
    ·have:=hal j hk;have hjf:=(hl j (by omega)).2 (by simp[hj]);rw[this]at hjf;cases hjf
    ·exact hk)
   obtain⟨o',s1,ho',hstep,hrest⟩:=hfront;have hoo:o'=o:=by rw[Oh,ho]at ho';simpa using ho'.symm
   subst hoo;refine sS hT hS ho (hdst o' (Ot ho')) h hstep (fun a' Ω' h'=>?_)
   have hnd:i∉r1/\i∉r2:=by
    refine⟨fun hm=>?_,fun hm=>?_⟩
    ·have:=hp'.2.2 i hm i (by simp);omega
    ·have:=(Pm.1 hp'.2.1).1 i hm;omega
   refine ih (r1++r2) (listed.setIfInBounds i true) s1 a' Ω' (by simp at hlen⊢;omega) (by simpa using hs) (fun k hk=>?_) ?_ (fun k hk=>hlt k (by simp at hk⊢;rcases hk with hk|hk<;>simp[hk])) (fun k ok hok hkl e hem hb=>?_) hrest h'
   ·by_cases hik:i=k
    ·subst hik;simp[Oo,hs,h1,hnd.1,hnd.2]
    ·have:(listed.setIfInBounds i true).getD k true=listed.getD k true:=by simp[Oo,hik]
     rw[this,hl k hk];simp;have:¬k=i:=fun e=>hik e.symm;simp[this]
   ·refine PU.2 ⟨hp'.1,(Pm.1 hp'.2.1).2,fun x hx y hy=>hp'.2.2 x hx y (by simp[hy])⟩
   ·have key:∀m,listed.getD m true=true->(listed.setIfInBounds i true).getD m true=true:=by
     intro m hm;by_cases him:i=m
     ·subst him;simp[Oo,hs,h1]
     ·have:(listed.setIfInBounds i true).getD m true=listed.getD m true:=by simp[Oo,him]
      rw[this,hm]
    by_cases hik:i=k
    ·subst hik;rw[Oh,ho]at hok;simp at hok;subst hok;exact key _ (hpre e hem hb)
    ·have:(listed.setIfInBounds i true).getD k true=listed.getD k true:=by simp[Oo,hik]
     rw[this]at hkl;exact key _ (hdc k ok hok hkl e hem hb)
end
end Go.AL
end
noncomputable section
namespace Go.AL
variable [Tabs]
theorem eA:∀{cs:List AV} {j:Nat} {c:AV},cs[j]?=some c->∀i∈ids c,i∈ids.idsL cs
 |[],j,c,h,_,_=>by simp at h
 |a::r,0,c,h,i,hi=>by simp at h;subst h;simp[ids.idsL,hi]
 |a::r,j+1,c,h,i,hi=>by simp only[ids.idsL,Ow];exact Or.inr (eA (by simpa using h) i hi)
theorem fR(τ:Ty)(x:den τ):ids.idsL (cells τ x)=[]:=by
 cases τ with
 |st n=>cases n<;>rfl
 |_=>rfl
theorem IE(τ:Ty)(xs:List (den τ)):∀c∈flat τ xs,ids c=[]:=by
 intro c hc;simp only[flat,Pp]at hc;obtain⟨x,_,hx⟩:=hc;obtain⟨j,hj⟩:=PV hx
 cases hi:ids c with
 |nil=>rfl
 |cons a r=>have:=eA hj a (by rw[hi];simp);rw[fR]at this;cases this
theorem mC{c:AV}{j:Nat}{c':AV}(hc:(ae c)[j]?=some c')(k:Nat)(hk:k∈ids c'):k∈ids c:=by
 cases c with
 |agg cs=>exact eA (cs:=cs) hc k hk
 |st n x=>have:=eA (cs:=cells (.st n) x) hc k hk;rw[fR]at this;cases this
 |row τ xs=>rw[IE τ xs c' (Ot hc)]at hk;cases hk
 |_=>
  cases j with|zero=>simp[ae]at hc;subst hc;exact hk|succ j=>simp[ae]at hc
theorem V.agree{Ω:Om}{e':Nat->Option CObj}{a:AV}{v:Value}(h:V Ω a v):(∀i∈ids a,e' i=Ω.e i)->V ⟨e',Ω.w,Ω.pub⟩ a v:=by
 have tok:∀{o:Option Nat} {n:Nat} {v:Value},(∀i,o=some i->e' i=Ω.e i)->iu Ω o n v->iu ⟨e',Ω.w,Ω.pub⟩ o n v:=by intro o n v hi ht id hid;obtain⟨m,base,cap,h1,h2,h3⟩:=ht id hid;exact⟨m,base,cap,by simp only;rw[hi id hid,h1],h2,h3⟩
 induction h with
 |undef v=>exact fun _=>.undef v
 |int k n h1 h2=>exact fun _=>.int k n h1 h2
 |bool b=>exact fun _=>.bool b
 |str s h=>exact fun _=>.str s h
 |lstNil τ o ht=>exact fun hi=>.lstNil τ o (tok (fun i e=>hi i (by subst e;simp[ids])) ht)
 |lstVoid τ a=>exact fun _=>.lstVoid τ a
 |lst τ xs o b off cap vals h1 h2 h3 h4 h5 ih=>intro hi;refine .lst τ xs o b off cap vals h1 h2 (tok (fun i e=>hi i (by subst e;simp[ids])) h3) h4 (fun i x hx j c hc=>ih i x hx j c hc (fun k hk=>?_));have:=eA hc k hk;rw[fR]at this;cases this
 |nils=>exact fun _=>.nils
 |ptr id off b o len hb=>exact fun hi=>.ptr id off b o len (by simp only;rw[hi id (by simp[ids]),hb])
 |ptNone n=>exact fun _=>.ptNone n
 |ptSome n x v _ ih=>exact fun _=>.ptSome n x v (ih (fun k hk=>by simp[ids]at hk))
 |arr id n w b len cap a he h1 h2 h3 h4=>exact fun hi=>.arr id n w b len cap a (by simp only;rw[hi id (by simp[ids]),he]) h1 h2 h3 h4
 |aptr id i w off b o len he=>exact fun hi=>.aptr id i w off b o len (by simp only;rw[hi id (by simp[ids]),he])
 |map id r he=>exact fun hi=>.map id r (by simp only;rw[hi id (by simp[ids]),he])
 |bptr id b g he=>exact fun hi=>.bptr id b g (by simp only;rw[hi id (by simp[ids]),he])
 |iface t a v _ ih=>exact fun hi=>.iface t a v (ih (fun k hk=>hi k (by simp only[ids];exact hk)))
 |nilif=>exact fun _=>.nilif
 |nilm=>exact fun _=>.nilm
 |lstp τ xs k b off cap vals h1 h2 h3 h4 h5 ih=>intro hi;refine .lstp τ xs k b off cap vals h1 h2 (tok (fun i e=>hi i (by cases e;simp[ids])) h3) h4 (fun i x hx j c hc=>ih i x hx j c hc (fun k hk=>?_));have:=eA hc k hk;rw[fR]at this;cases this
 |tptr τ n k p hp=>intro hi;obtain⟨m,base,cap,h1,h2⟩:=hp;exact .tptr τ n k p ⟨m,base,cap,by simp only;rw[hi k (by simp[ids]),h1],h2⟩
 |glst s n k cap a h1 h2 h3 h4=>intro hi;obtain⟨m,base,c,g1,g2⟩:=h4;exact .glst s n k cap a h1 h2 h3 ⟨m,base,c,by simp only;rw[hi k (by simp[ids]),g1],g2⟩
 |gsuf k s i w m' b c' h1=>intro hi;obtain⟨m,base,c,g1,g2⟩:=h1;exact .gsuf k s i w m' b c' ⟨m,base,c,by simp only;rw[hi k (by simp[ids]),g1],g2⟩
 |gptr k s i w off b h1=>intro hi;obtain⟨m,base,c,g1,g2⟩:=h1;exact .gptr k s i w off b ⟨m,base,c,by simp only;rw[hi k (by simp[ids]),g1],g2⟩
 |st n x v _ ih=>exact fun hi=>.st n x v (ih (fun k hk=>by
   have e:ids (.agg (cells (.st n) x))=[]:=fR (.st n) x;rw[e]at hk;cases hk))
 |cptr c b off vals h1 h2 ih=>exact fun hi=>.cptr c b off vals h1 (fun j c' hc=>ih j c' hc (fun k hk=>hi k (mC hc k hk)))
 |nilp=>exact fun _=>.nilp
 |agg cs vs hl _ ih=>exact fun hi=>.agg cs vs hl (fun j c v hc hv=>ih j c v hc hv (fun k hk=>hi k (by simp only[ids];exact eA hc k hk)))
 |tup cs vs hl _ ih=>exact fun hi=>.tup cs vs hl (fun j c v hc hv=>ih j c v hc hv (fun k hk=>hi k (by simp only[ids];exact eA hc k hk)))
 |fn f cs vs hl _ ih=>exact fun hi=>.fn f cs vs hl (fun j c v hc hv=>ih j c v hc hv (fun k hk=>hi k (by simp only[ids];exact eA hc k hk)))
theorem jX:∀(l:List (Nat×AV))(i:Nat),aZ l i=.undef∨(i,aZ l i)∈l
 |[],i=>Or.inl rfl
 |(j,v)::r,i=>by
  simp only[eo,dc];by_cases h:j=i
  ·subst h;simp
  ·simp only[Pa,h,OL];rcases jX r i with k|k
   ·exact Or.inl k
   ·exact Or.inr (Og _ k)
theorem bY:∀(l:List (Nat×SObj))(i:Nat)(o:SObj),aj l i=some o->(i,o)∈l
 |[],i,o,h=>by simp[b5,aH]at h
 |(j,v)::r,i,o,h=>by
  simp only[b5,aH]at h;by_cases hj:j=i
  ·subst hj;simp at h;simp[h]
  ·simp only[Pa,hj,OL]at h;exact Og _ (bY r i o h)
theorem jY:∀(l:List (Nat×SObj))(i:Nat),aj l i=none->i∉l.map (·.1)
 |[],i,_=>by simp
 |(j,v)::r,i,h=>by
  simp only[b5,aH]at h;by_cases hj:j=i
  ·subst hj;simp at h
  ·simp only[Pa,hj,OL]at h;have:=jY r i h;simp only[OJ,O7,Ry];exact⟨fun e=>hj e.symm,this⟩
theorem jz(l:List (Nat×AV))(p:Nat->Bool)(i:Nat):aZ (l.filter fun x=>p x.1) i=if p i then aZ l i else .undef:=by
 induction l with
 |nil=>simp[eo,dc]
 |cons x r ih=>
  obtain⟨j,v⟩:=x;by_cases hp:p j=true
  ·rw[List.filter_cons_of_pos (by simpa using hp)];simp only[eo,dc,ih];by_cases hj:j=i
   ·subst hj;simp[hp]
   ·simp[hj]
  ·rw[List.filter_cons_of_neg (by simpa using hp),ih];by_cases hj:j=i
   ·subst hj;simp[hp]
   ·simp[eo,dc,hj]
theorem eY(l:List (Nat×SObj))(p:Nat->Bool)(i:Nat):aj (l.filter fun x=>p x.1) i=if p i then aj l i else none:=by
 induction l with
 |nil=>simp[b5,aH]
 |cons x r ih=>
  obtain⟨j,v⟩:=x;by_cases hp:p j=true
  ·rw[List.filter_cons_of_pos (by simpa using hp)];simp only[b5,aH,ih];by_cases hj:j=i
   ·subst hj;simp[hp]
   ·simp[hj]
  ·rw[List.filter_cons_of_neg (by simpa using hp),ih];by_cases hj:j=i
   ·subst hj;simp[hp]
   ·simp[b5,aH,hj]
theorem Holds.forget1{F:Fr}{s:AS}{s':St}{a:Act}{Ω:Om}{A:List Nat}(h:Holds F s a Ω)(hT:∀i,s'.abs.T i=.undef∨s'.abs.T i=s.T i)
 (hB:∀i,i∈A->s'.abs.B i=none)(hB':∀i,i∉A->s'.abs.B i=s.B i)(hn:bV A s'=true)(hA:∀i∈A,F.e0 i=none) :
  Holds F s'.abs a ⟨fun i=>if i∈A then none else Ω.e i,Ω.w,Ω.pub⟩:=by
 have hn':(∀x∈s'.t,∀i∈ids x.2,i∉A)/\(∀x∈s'.b,∀i∈Ck x.2,i∉A):=by simp only[bV,NZ,O9]at hn;exact⟨fun x hx=>dx (hn.1 x hx),fun x hx=>dx (hn.2 x hx)⟩
 have he:∀i,i∉A->(fun i=>if i∈A then none else Ω.e i) i=Ω.e i:=fun i hi=>by simp[hi]
 refine⟨fun i=>?_,h.size,h.defers,fun id o ho=>?_,fun id hid=>?_,fun i j ci cj b o hi hj hbi hbj=>?_,h.pubok,fun id c hc=>?_,?_⟩
 ·rcases jX s'.t i with k|k
  ·have:s'.abs.T i=.undef:=k;rw[this];exact .undef _
  ·rcases hT i with hu|hu
   ·rw[hu];exact .undef _
   ·refine V.agree (Ω:=Ω) ?_ (fun j hj=>he j (hn'.1 _ k j hj));have:=h.tmps i;rw[<-hu]at this;exact this
 ·have hid:id∉A:=fun hm=>by rw[hB id hm]at ho;cases ho
  have hs:=h.slots id o (by rw[<-hB' id hid];exact ho);have hm:=hn'.2 _ (bY _ _ _ ho)
  cases o with
  |box c=>obtain⟨b,off,h1,h2⟩:=hs;refine⟨b,off,by simp only[O0 hid,h1],fun j c' hc=>?_⟩;obtain⟨k1,k2,k3,v,k4,k5⟩:=h2 j c' hc;exact⟨k1,k2,k3,v,k4,k5.agree (fun j hj=>he j (hm j (mC hc j hj)))⟩
  |tail τ n=>obtain⟨base,cap,h1,h2⟩:=hs;exact⟨base,cap,by simp only[O0 hid,h1],h2⟩
  |map κ τ m=>obtain⟨r,h1,h2,es,clock,h3,h4⟩:=hs;exact⟨r,by simp only[O0 hid,h1],h2,es,clock,h3,h4.data⟩
  |bld t u l=>obtain⟨b,g,h1,h2,h3⟩:=hs;exact⟨b,g,by simp only[O0 hid,h1],h2,h3⟩
  |tailp τ n x=>obtain⟨b,cap,h1,h2,h3,h4,h5,h6,h7⟩:=hs;refine⟨b,cap,by simp only[O0 hid,h1],h2,h3,h4,h5,h6,fun j c hc=>?_⟩;obtain⟨v,g1,g2⟩:=h7 j c hc;refine⟨v,g1,g2.agree (fun i hi=>?_)⟩;have:=eA hc i hi;rw[fR]at this;cases this
  |grow τ n xs=>obtain⟨base,cap,h1,h2,h3,h4,h5⟩:=hs;refine⟨base,cap,by simp only[O0 hid,h1],h2,h3,h4,fun b hb=>?_⟩;obtain⟨q1,q2,q3,q4⟩:=h5 b hb;refine⟨q1,q2,q3,fun j c hj=>?_⟩;obtain⟨v,v1,v2⟩:=q4 j c hj;exact⟨v,v1,v2.flat hj⟩
 ·by_cases hA:id∈A
  ·simp[hA]
  ·simp only[O0 hA];exact h.dom id (by rw[<-hB' id hA];exact hid)
 ·by_cases hi':i∈A
  ·simp[hi']at hi
  ·by_cases hj':j∈A
   ·simp[hj']at hj
   ·simp only[O0 hi']at hi;simp only[O0 hj']at hj;exact h.inj i j ci cj b o hi hj hbi hbj
 ·have hid:id∉A:=fun hm=>by rw[hA id hm]at hc;cases hc
  obtain⟨c',h1,h2⟩:=h.keep id c hc;exact⟨c',by simp only[O0 hid];exact h1,h2⟩
 ·exact⟨h.frame.os,h.frame.tape,h.frame.output,h.frame.size,h.frame.block,h.frame.cell,h.frame.kind,h.frame.pub,h.frame.old,h.frame.pcell⟩
theorem Holds.forget0{F:Fr}{s:AS}{s':St}{a:Act}{Ω:Om}{A:List Nat}(h:Holds F s a Ω)(hT:∀i,s'.abs.T i=.undef∨s'.abs.T i=s.T i)
 (hB:∀i,i∈A->s'.abs.B i=none)(hB':∀i,i∉A->s'.abs.B i=s.B i)(hn:bV A s'=true)(hA:∀i∈A,bd i=false) :
  Holds F s'.abs a ⟨fun i=>if i∈A then none else Ω.e i,Ω.w,Ω.pub⟩:=h.forget1 hT hB hB' hn fun i hi=>by
  cases hc:F.e0 i with
  |none=>rfl
  |some c=>have:=F.dom0 i c hc;rw[hA i hi]at this;cases this
theorem Holds.forget{F:Fr}{s:AS}{s':St}{a:Act}{Ω:Om}{A:List Nat}(h:Holds F s a Ω)(hT:∀i,s'.abs.T i=.undef∨s'.abs.T i=s.T i)
 (hB:∀i,i∈A->s'.abs.B i=none)(hB':∀i,i∉A->s'.abs.B i=s.B i)(hn:bV A s'=true)(hA:∀i∈A,bd i=false) :
  ∃Ω',Ω'.w=Ω.w/\Holds F s'.abs a Ω':=⟨⟨fun i=>if i∈A then none else Ω.e i,Ω.w,Ω.pub⟩,rfl,h.forget0 hT hB hB' hn hA⟩
theorem MG{A:List Nat}{i:Nat}(h:i∈A):¬((!A.contains i)=true):=by simp[h]
theorem L4{A:List Nat}{i:Nat}(h:i∉A):(!A.contains i)=true:=by simp[h]
theorem lI{F:Fr}{ops:List Oper}{s s':St}{a:Act}{Ω:Om}(h:Holds F s.abs a Ω)(he:enter ops s=some s') :
  ∃Ω',Ω'.w=Ω.w/\Holds F s'.abs a Ω':=by
 simp only[enter]at he;generalize hA:((s.b.map (·.1)).filter fun i=>EI (sl ops) (xq ops) i&&!bd i)=A at he;have hAl:∀i∈A,bd i=false:=by intro i hi;rw[<-hA]at hi;simp only[OO,NZ,Oa]at hi;exact hi.2.2
 split at he
 ·simp at he;subst he;exact⟨Ω,rfl,h⟩
 ·split at he
  ·rename_i hn;simp only[Xs]at he;subst he;refine h.forget (A:=A) (fun i=>?_) (fun i hi=>?_) (fun i hi=>?_) hn hAl
   ·have:=jz s.t (fun i=>!A.contains i) i;simp only[St.abs];rw[this];split<;>simp
   ·have:=eY s.b (fun i=>!A.contains i) i;simp only[St.abs];rw[this,O0 (MG hi)]
   ·have:=eY s.b (fun i=>!A.contains i) i;simp only[St.abs];rw[this,O3 (L4 hi)]
  ·simp at he
theorem oJ{G:List Nat}:∀{cs ds:List AV},LeL G cs ds->cs.length=ds.length/\∀(j:Nat)(c d:AV),cs[j]?=some c->ds[j]?=some d->LeV G c d
 |[],[],_=>⟨rfl,fun j c d h=>by simp at h⟩
 |[],_::_,h=>by simp[LeL]at h
 |_::_,[],h=>by simp[LeL]at h
 |a::r,b::s,h=>by
  simp only[LeL]at h;obtain⟨h1,h2⟩:=oJ h.2;refine⟨by simp[h1],fun j c d hc hd=>?_⟩
  cases j with|zero=>simp at hc hd;subst hc hd;exact h.1|succ j=>exact h2 j c d (by simpa using hc) (by simpa using hd)
theorem lJ{G:List Nat}:∀{cs ds:List AV},yZ G cs ds->cs.length=ds.length/\∀(j:Nat)(c d:AV),cs[j]?=some c->ds[j]?=some d->LeF G c d
 |[],[],_=>⟨rfl,fun j c d h=>by simp at h⟩
 |[],_::_,h=>by simp[yZ]at h
 |_::_,[],h=>by simp[yZ]at h
 |a::r,b::s,h=>by
  simp only[yZ]at h;obtain⟨h1,h2⟩:=lJ h.2;refine⟨by simp[h1],fun j c d hc hd=>?_⟩
  cases j with|zero=>simp at hc hd;subst hc hd;exact h.1|succ j=>exact h2 j c d (by simpa using hc) (by simpa using hd)
theorem V.leF{Ω:Om}{G:List Nat}(hG:∀k∈G,Ω.e k=some (.tail 0 none 0)){a:AV}{v:Value}(h:V Ω a v){b:AV}(hb:LeF G a b):V Ω b v:=by
 cases b with
 |undef=>exact .undef v
 |int k n=>cases a<;>simp[LeF]at hb;obtain⟨rfl,rfl⟩:=hb;exact h
 |bool b=>cases a<;>simp[LeF]at hb;subst hb;exact h
 |str b=>cases a<;>simp[LeF]at hb;subst hb;exact h
 |nilp=>cases a<;>simp[LeF]at hb;exact h
 |nilif=>cases a<;>simp[LeF]at hb;exact h
 |nilm=>cases a<;>simp[LeF]at hb;exact h
 |map i=>cases a<;>simp[LeF]at hb;subst hb;exact h
 |bptr i=>cases a<;>simp[LeF]at hb;subst hb;exact h
 |arr i n w=>cases a<;>simp[LeF]at hb;obtain⟨⟨rfl,rfl⟩,rfl⟩:=hb;exact h
 |aptr i n w o=>cases a<;>simp[LeF]at hb;obtain⟨⟨rfl,rfl,rfl⟩,rfl⟩:=hb;exact h
 |row τ xs=>cases h<;>simp[LeF]at hb
 |lstp τ xs k=>cases a<;>simp[LeF]at hb
 |tptr τ n k=>cases a<;>simp[LeF]at hb
 |gsuf i t m v p=>cases a<;>simp[LeF]at hb
 |gptr i t m v p=>cases a<;>simp[LeF]at hb;obtain⟨⟨rfl,rfl,rfl⟩,rfl,rfl⟩:=hb;exact h
 |glst t m j=>
  cases a with
  |glst s n i=>simp[LeF]at hb;obtain⟨rfl,rfl,rfl⟩:=hb;exact h
  |nils=>
   simp only[LeF]at hb;obtain⟨h1,rfl,rfl⟩:=hb
   have hk:j∈G:=by
    rcases Q2 (G.contains j=true)with k|k
    ·simpa using k
    ·rw[O0 k]at h1;exact h1.elim
   cases h;exact .glst 0 0 j 0 none (Od _) (by unfold bj;omega) (.inr ⟨rfl,rfl,rfl⟩) ⟨0,none,0,hG j hk,Od _,fun _=>⟨rfl,rfl⟩⟩
  |_=>simp[LeF]at hb
 |iface t c=>cases a<;>simp[LeF]at hb
 |pt m y=>
  cases a with
  |pt n x=>
   simp only[LeF]at hb;split at hb
   ·rename_i x' hx;obtain⟨e,e2⟩:=sD hx;subst e;simp only at e2;subst e2;subst hb;exact h
   ·exact hb.elim
  |nilp=>simp[LeF]at hb;subst hb;cases h;exact .ptNone m
  |_=>simp[LeF]at hb
 |nils=>cases a<;>simp[LeF]at hb;exact h
 |ptr i o=>cases a<;>simp[LeF]at hb;obtain⟨rfl,rfl⟩:=hb;exact h
 |cptr c=>cases a<;>simp[LeF]at hb
 |agg c=>cases a<;>simp[LeF]at hb
 |tup c=>cases a<;>simp[LeF]at hb
 |fn f c=>cases a<;>simp[LeF]at hb
 |st m y=>
  cases a with
  |st n x=>
   simp only[LeF]at hb;split at hb
   ·rename_i x' hx;obtain⟨e,e2⟩:=ly hx;subst e;simp only at e2;subst e2;subst hb;exact h
   ·exact hb.elim
  |_=>simp[LeF]at hb
 |lst σ ys p=>
  cases a with
  |lst τ xs o=>
   simp only[LeF]at hb;obtain⟨k1,k2⟩:=hb
   have hp:∀id,p=some id->o=some id:=by
    intro id hid
    have:p=none∨p=o:=by
     rcases Q2 (p=none∨p=o)with k|k
     ·exact k
     ·rw[O0 k]at k2;exact k2.elim
    rcases this with k|k
    ·rw[k]at hid;cases hid
    ·rw[<-k];exact hid
   split at k1
   ·rename_i xs' hx;obtain⟨e,e2⟩:=gm hx;subst e;simp only at e2;subst e2;subst k1
    cases h with
    |lstNil _ _ ht=>exact .lstNil _ p (fun id hid=>ht id (hp id hid))
    |lstVoid _ a=>
     cases p with|none=>exact .lstVoid _ a|some k=>exact absurd (hp k rfl) (by simp)
    |lst _ _ _ b' off cap vals h1 h2 h3 h4 h5=>exact .lst _ _ p b' off cap vals h1 h2 (fun id hid=>h3 id (hp id hid)) h4 h5
   ·exact k1.elim
  |nils=>
   simp only[LeF]at hb;obtain⟨h1,h2⟩:=hb;subst h2;cases h;refine .lstNil σ p (fun id hid=>?_);subst hid;simp only at h1
   have hk:id∈G:=by
    rcases Q2 (G.contains id=true)with k|k
    ·simpa using k
    ·rw[O0 k]at h1;exact h1.elim
   exact⟨0,none,0,hG id hk,Od _,fun _=>rfl⟩
  |_=>simp[LeF]at hb
theorem bU{G:List Nat}{a b:AV}(h:LeF G a b):LeV G a b:=by
 cases a<;>cases b<;>first|exact h|exact h.elim
theorem zG{G:List Nat}{c d:AV}(h0:vP c d)(h:LeV G c d):(ae c).length=(ae d).length/\
  ∀(j:Nat)(c' d':AV),(ae c)[j]?=some c'->(ae d)[j]?=some d'->(c'=d'∨LeV G c' d'):=by
 have one:∀{c d:AV},ae c=[c]->ae d=[d]->LeV G c d->(ae c).length=(ae d).length/\
   ∀(j:Nat)(c' d':AV),(ae c)[j]?=some c'->(ae d)[j]?=some d'->(c'=d'∨LeV G c' d'):=by
  intro c d hc hd h;rw[hc,hd];refine⟨rfl,fun j c' d' h1 h2=>?_⟩
  cases j with|zero=>simp at h1 h2;subst h1 h2;exact Or.inr h|succ j=>simp at h1
 cases c with
 |agg cs=>
  cases d with
  |agg ds=>obtain⟨l1,l2⟩:=oJ (cs:=cs) (ds:=ds) h;exact⟨l1,fun j c' d' h1 h2=>Or.inr (l2 j c' d' h1 h2)⟩
  |st m y=>obtain⟨l1,l2⟩:=lJ (cs:=cs) (ds:=cells (.st m) y) h;exact⟨l1,fun j c' d' h1 h2=>Or.inr (bU (l2 j c' d' h1 h2))⟩
  |undef=>exact h0.elim
  |_=>exact h.elim
 |st n x=>
  cases d with
  |agg ds=>obtain⟨l1,l2⟩:=lJ (cs:=cells (.st n) x) (ds:=ds) h;exact⟨l1,fun j c' d' h1 h2=>Or.inr (bU (l2 j c' d' h1 h2))⟩
  |st m y=>
   have h':(match l8 n m x with|some x=>x=y|none=>False):=h;split at h'
   ·rename_i x' hx;obtain⟨e,e2⟩:=ly hx;subst e;simp only at e2;subst e2;subst h';exact⟨rfl,fun j c' d' h1 h2=>Or.inl (by rw[h1]at h2;exact OG h2)⟩
   ·exact h'.elim
  |undef=>exact h0.elim
  |_=>exact h.elim
 |row τ xs=>
  cases d with
  |row σ ys=>
   have h':(match fy τ σ xs with|some xs=>xs=ys|none=>False):=h;split at h'
   ·rename_i x' hx;obtain⟨e,e2⟩:=gm hx;subst e;simp only at e2;subst e2;subst h';exact⟨rfl,fun j c' d' h1 h2=>Or.inl (by rw[h1]at h2;exact OG h2)⟩
   ·exact h'.elim
  |undef=>exact h0.elim
  |_=>exact h.elim
 |_=>
  cases d with|agg ds=>exact h.elim|st m y=>exact h.elim|row τ xs=>exact h.elim|_=>exact one rfl rfl h
theorem V.le{Ω:Om}{G:List Nat}(hG:∀k∈G,Ω.e k=some (.tail 0 none 0)){a:AV}{v:Value}(h:V Ω a v):∀{b:AV},LeV G a b->V Ω b v:=by
 have part:∀{cs ds:List AV} {vs:List Value},cs.length=ds.length->(∀(j:Nat)(c:AV)(v:Value),cs[j]?=some c->vs[j]?=some v->∀{b:AV},LeV G c b->V Ω b v)->
   (∀(j:Nat)(c d:AV),cs[j]?=some c->ds[j]?=some d->LeV G c d)->∀(j:Nat)(d:AV)(v:Value),ds[j]?=some d->vs[j]?=some v->V Ω d v:=by
  intro cs ds vs hl ih l2 j d v hd hv
  have:j<cs.length:=by
   rw[hl];rcases O5 j ds.length with k|k
   ·exact k
   ·rw[O2 k]at hd;cases hd
  exact ih j _ v (NY this) hv (l2 j _ d (NY this) hd)
 induction h with
 |undef v=>intro b hb;exact(V.undef v).leF hG (by cases b<;>exact hb)
 |int k n h1 h2=>intro b hb;exact(V.int k n h1 h2).leF hG (by cases b<;>exact hb)
 |bool b'=>intro b hb;exact(V.bool b').leF hG (by cases b<;>exact hb)
 |str s h=>intro b hb;exact(V.str s h).leF hG (by cases b<;>exact hb)
 |lstNil τ o ht=>intro b hb;exact(V.lstNil τ o ht).leF hG (by cases b<;>exact hb)
 |lstVoid τ a=>intro b hb;exact(V.lstVoid τ a).leF hG (by cases b<;>exact hb)
 |lst τ xs o b' off cap vals h1 h2 h3 h4 h5 ih=>intro b hb;exact(V.lst τ xs o b' off cap vals h1 h2 h3 h4 h5).leF hG (by cases b<;>exact hb)
 |nils=>intro b hb;exact V.nils.leF hG (by cases b<;>exact hb)
 |ptr id off b' o len hb'=>intro b hb;exact(V.ptr id off b' o len hb').leF hG (by cases b<;>exact hb)
 |nilp=>intro b hb;exact V.nilp.leF hG (by cases b<;>exact hb)
 |ptNone n=>intro b hb;exact(V.ptNone n).leF hG (by cases b<;>exact hb)
 |ptSome n x v hv _=>intro b hb;exact(V.ptSome n x v hv).leF hG (by cases b<;>exact hb)
 |arr id n w b' len cap a he h1 h2 h3 h4=>intro b hb;exact(V.arr id n w b' len cap a he h1 h2 h3 h4).leF hG (by cases b<;>exact hb)
 |aptr id i w off b' o len he=>intro b hb;exact(V.aptr id i w off b' o len he).leF hG (by cases b<;>exact hb)
 |map id r he=>intro b hb;exact(V.map id r he).leF hG (by cases b<;>exact hb)
 |bptr id b' g he=>intro b hb;exact(V.bptr id b' g he).leF hG (by cases b<;>exact hb)
 |nilif=>intro b hb;exact V.nilif.leF hG (by cases b<;>exact hb)
 |nilm=>intro b hb;exact V.nilm.leF hG (by cases b<;>exact hb)
 |lstp τ xs k b' off cap vals h1 h2 h3 h4 h5 ih=>intro b hb;exact(V.lstp τ xs k b' off cap vals h1 h2 h3 h4 h5).leF hG (by cases b<;>exact hb)
 |tptr τ n k p hp=>intro b hb;exact(V.tptr τ n k p hp).leF hG (by cases b<;>exact hb)
 |glst s n k cap a h1 h2 h3 h4=>intro b hb;exact(V.glst s n k cap a h1 h2 h3 h4).leF hG (by cases b<;>exact hb)
 |gptr k s i w off b' h1=>intro b hb;exact(V.gptr k s i w off b' h1).leF hG (by cases b<;>exact hb)
 |gsuf k s i w m b' c h1=>intro b hb;exact(V.gsuf k s i w m b' c h1).leF hG (by cases b<;>exact hb)
 |iface t a v hv ih=>
  intro b hb
  cases b with
  |iface u d=>
   simp only[LeV]at hb;obtain⟨h0,hb⟩:=hb
   have htu:t=u:=by
    rcases Q2 (t=u)with k|k
    ·exact k
    ·rw[O0 k]at h0;exact h0.elim
   subst htu;exact .iface t d v (ih hb)
  |undef=>exact .undef _
  |_=>exact hb.elim
 |st n x v hv ih=>
  intro b hb
  cases b with
  |agg ds=>
   obtain⟨vs,rfl,hvl⟩:=hv.agg_inv;obtain⟨l1,l2⟩:=lJ (cs:=cells (.st n) x) (ds:=ds) hb;refine .agg ds vs (by rw[<-l1,hvl.1]) (fun j d u hd hu=>?_)
   have:j<(cells (.st n) x).length:=by
    rw[l1];rcases O5 j ds.length with k|k
    ·exact k
    ·rw[O2 k]at hd;cases hd
   exact(hvl.2 j _ u (NY this) hu).leF hG (l2 j _ d (NY this) hd)
  |_=>exact(V.st n x v hv).leF hG hb
 |cptr c b' off vals h1 h2 ih=>
  intro b hb
  cases b with
  |cptr d=>
   simp only[LeV]at hb;obtain⟨l1,l2⟩:=zG hb.1 hb.2
   have hc:∀(j:Nat)(d':AV),(ae d)[j]?=some d'->∃c',(ae c)[j]?=some c':=by
    intro j d' hd
    have:j<(ae c).length:=by
     rw[l1];rcases O5 j (ae d).length with k|k
     ·exact k
     ·rw[O2 k]at hd;cases hd
    exact⟨_,NY this⟩
   refine .cptr d b' off vals (fun j d' hd=>?_) (fun j d' hd=>?_)
   ·obtain⟨c',hcj⟩:=hc j d' hd;exact h1 j c' hcj
   ·obtain⟨c',hcj⟩:=hc j d' hd;rcases l2 j c' d' hcj hd with rfl|k
    ·exact h2 j c' hcj
    ·exact ih j c' hcj k
  |pt m y=>
   cases c with
   |st n x=>
    have hb':(match l8 n m x with|some x=>some x=y|none=>False):=hb;split at hb'
    ·rename_i x' hx;obtain⟨e,e2⟩:=ly hx;subst e;simp only at e2;subst e2;subst hb';exact .ptSome _ _ _ (.cptr _ b' off vals h1 h2)
    ·exact hb'.elim
   |_=>exact hb.elim
  |undef=>exact .undef _
  |_=>exact hb.elim
 |agg cs vs hl hv ih=>
  intro b hb
  cases b with
  |agg ds=>obtain⟨l1,l2⟩:=oJ (cs:=cs) (ds:=ds) hb;exact .agg ds vs (by rw[<-l1,hl]) (part l1 ih l2)
  |st m y=>obtain⟨l1,l2⟩:=lJ (cs:=cs) (ds:=cells (.st m) y) hb;exact .st m y _ (.agg _ vs (by rw[<-l1,hl]) (part l1 ih (fun j c d h1 h2=>bU (l2 j c d h1 h2))))
  |undef=>exact .undef _
  |_=>exact hb.elim
 |tup cs vs hl hv ih=>
  intro b hb
  cases b with
  |tup ds=>obtain⟨l1,l2⟩:=oJ (cs:=cs) (ds:=ds) hb;exact .tup ds vs (by rw[<-l1,hl]) (part l1 ih l2)
  |undef=>exact .undef _
  |_=>exact hb.elim
 |fn f cs vs hl hv ih=>
  intro b hb
  cases b with
  |fn g ds=>
   simp only[LeV]at hb;obtain⟨h0,hb⟩:=hb
   have hfg:f=g:=by
    rcases Q2 (f=g)with k|k
    ·exact k
    ·rw[O0 k]at h0;exact h0.elim
   subst hfg;obtain⟨l1,l2⟩:=oJ hb;exact .fn f ds vs (by rw[<-l1,hl]) (part l1 ih l2)
  |undef=>exact .undef _
  |_=>exact hb.elim
theorem IF{G:List Nat}{s:St}:∀{l:List (Nat×AV)},LeT G s l->∀i,aZ l i=.undef∨LeV G (aZ s.t i) (aZ l i)
 |[],_,i=>Or.inl rfl
 |(j,v)::r,h,i=>by
  simp only[LeT]at h;simp only[eo,dc];by_cases hj:j=i
  ·subst hj;simp[h.1]
  ·simp only[Pa,hj,OL];exact IF h.2 i
theorem pK{G:List Nat}{s:St}:∀{l:List (Nat×SObj)},LeB G s l->∀i o,aj l i=some o->
  (∃c d,o=.box d/\aj s.b i=some (.box c)/\vP c d/\LeV G c d)∨
  (∃τ n,o=.tail τ n/\(aj s.b i=some (.tail τ n)∨(aj s.b i=none/\n=0)))∨
  (∃κ τ m,o=.map κ τ m/\aj s.b i=some (.map κ τ m))∨
  (∃t u l,o=.bld t u l/\aj s.b i=some (.bld t u l))∨
  (∃τ n xs,o=.grow τ n xs/\(aj s.b i=some (.grow τ n xs)∨(aj s.b i=none/\n=0/\xs=[])))
 |[],_,i,o,ho=>by simp[b5,aH]at ho
 |(j,.box d)::r,h,i,o,ho=>by
  simp only[LeB]at h;simp only[b5,aH]at ho;by_cases hj:j=i
  ·subst hj;simp at ho;subst ho;have h1:=h.1;split at h1
   ·rename_i c hc;exact Or.inl ⟨c,d,rfl,hc,h1⟩
   ·exact h1.elim
  ·simp only[Pa,hj,OL]at ho;exact pK h.2 i o ho
 |(j,.bld t u l)::r,h,i,o,ho=>by
  simp only[LeB]at h;simp only[b5,aH]at ho;by_cases hj:j=i
  ·subst hj;simp at ho;subst ho;have h1:=h.1;split at h1
   ·rename_i t' u' l' hm;split at h1
    ·rename_i e;obtain⟨rfl,rfl⟩:=e;subst h1;exact Or.inr (Or.inr (Or.inr (Or.inl ⟨_,_,_,rfl,hm⟩)))
    ·exact h1.elim
   ·exact h1.elim
  ·simp only[Pa,hj,OL]at ho;exact pK h.2 i o ho
 |(j,.map κ τ m)::r,h,i,o,ho=>by
  simp only[LeB]at h;simp only[b5,aH]at ho;by_cases hj:j=i
  ·subst hj;simp at ho;subst ho;have h1:=h.1;split at h1
   ·rename_i κ' τ' m' hm;split at h1
    ·rename_i m2 hc;unfold EJ at hc;split at hc
     ·rename_i e;obtain⟨rfl,rfl⟩:=e;simp at hc;subst hc;subst h1;exact Or.inr (Or.inr (Or.inl ⟨_,_,_,rfl,hm⟩))
     ·cases hc
    ·exact h1.elim
   ·exact h1.elim
  ·simp only[Pa,hj,OL]at ho;exact pK h.2 i o ho
 |(j,.tail τ n)::r,h,i,o,ho=>by
  simp only[LeB]at h;simp only[b5,aH]at ho;by_cases hj:j=i
  ·subst hj;simp at ho;subst ho;have h1:=h.1;split at h1
   ·rename_i σ m hm;split at h1
    ·rename_i e;subst e;subst h1;exact Or.inr (Or.inl ⟨_,_,rfl,Or.inl hm⟩)
    ·exact h1.elim
   ·rename_i hm;exact Or.inr (Or.inl ⟨τ,n,rfl,Or.inr ⟨hm,h1⟩⟩)
   ·exact h1.elim
  ·simp only[Pa,hj,OL]at ho;exact pK h.2 i o ho
 |(j,.grow τ n xs)::r,h,i,o,ho=>by
  simp only[LeB]at h;simp only[b5,aH]at ho;by_cases hj:j=i
  ·subst hj;simp at ho;subst ho;have h1:=h.1;split at h1
   ·rename_i σ t ys hm;split at h1
    ·rename_i ys' hc;obtain⟨e,e2⟩:=gm hc;subst e;simp only at e2;subst e2;obtain⟨rfl,rfl⟩:=h1;exact Or.inr (Or.inr (Or.inr (Or.inr ⟨_,_,_,rfl,Or.inl hm⟩)))
    ·exact h1.elim
   ·rename_i hm;exact Or.inr (Or.inr (Or.inr (Or.inr ⟨τ,n,xs,rfl,Or.inr ⟨hm,h1⟩⟩)))
   ·exact h1.elim
  ·simp only[Pa,hj,OL]at ho;exact pK h.2 i o ho
theorem Holds.begin{F:Fr}{s:AS}{a:Act}{Ω:Om}(h:Holds F s a Ω)(G:List Nat)(hG:∀k∈G,s.B k=none)(ty:Nat->Ty) :
  ∃Ω',Ω'.w=Ω.w/\Holds F ⟨s.T,fun i=>if i∈G then some (.tail (ty i) 0)else s.B i⟩ a Ω'/\∀k∈G,Ω'.e k=some (.tail 0 none 0):=by
 have hx:Ext Ω ⟨fun i=>if i∈G then some (.tail 0 none 0)else Ω.e i,Ω.w,Ω.pub⟩:=by
  refine⟨fun id c hc=>⟨c,?_,CLe.refl c⟩,fun _ _ p=>p,fun _ _ _=>rfl⟩;have:id∉G:=fun hm=>by rw[h.dom id (hG id hm)]at hc;cases hc
  simp[this,hc]
 refine⟨⟨fun i=>if i∈G then some (.tail 0 none 0)else Ω.e i,Ω.w,Ω.pub⟩,rfl,⟨fun i=>(h.tmps i).ext hx,h.size,h.defers,fun id o ho=>?_,fun id hid=>?_,fun i j ci cj b o hi hj hbi hbj=>?_,h.pubok,fun id c hc=>let ⟨c1,h1,l1⟩:=h.keep id c hc;let ⟨c2,h2,l2⟩:=hx.e id c1 h1;⟨c2,h2,l1.trans l2⟩,?_⟩,fun k hk=>by simp[hk]⟩
 ·by_cases hm:id∈G
  ·simp only[O3 hm,Xs]at ho;subst ho;exact⟨none,0,by simp[hm],Od _,by unfold bj;omega,fun _=>rfl,fun b hb=>by simp at hb⟩
  ·simp only[O0 hm]at ho;exact(h.slots id o ho).keep hx (by simp[hm]) (fun _ _=>jV.of_blocks fun _ _ _=>⟨rfl,fun _ p=>p⟩)
 ·by_cases hm:id∈G
  ·simp[hm]at hid
  ·simp only[O0 hm]at hid⊢;exact h.dom id hid
 ·by_cases hi':i∈G
  ·simp only[O3 hi',Xs]at hi;subst hi;cases hbi
  ·by_cases hj':j∈G
   ·simp only[O3 hj',Xs]at hj;subst hj;cases hbj
   ·simp only[O0 hi']at hi;simp only[O0 hj']at hj;exact h.inj i j ci cj b o hi hj hbi hbj
 ·exact⟨h.frame.os,h.frame.tape,h.frame.output,h.frame.size,h.frame.block,h.frame.cell,h.frame.kind,h.frame.pub,h.frame.old,h.frame.pcell⟩
theorem cw{b:Bool}{k:Prop}(h:chk b k):b=true/\k:=by
 cases b with|true=>exact⟨rfl,h⟩|false=>exact h.elim
theorem EW{G:List Nat}{a b:AV}{k:Prop}(h:cF G a b k):LeF G a b/\k:=by
 unfold cF at h;split at h
 ·exact⟨by cases a<;>trivial,h⟩
 ·obtain⟨h1,h2,h3⟩:=cw h;simp only[O1]at h1;exact⟨by simp only[LeF,h1,P1];exact h2,h3⟩
 ·exact h
 ·exact h
 ·split at h
  ·rename_i hc;obtain⟨h1,h2,h3⟩:=cw h;simp only[O1]at h1;exact⟨by simp only[LeF,hc];exact⟨h2,by rw[O3 h1];trivial⟩,h3⟩
  ·exact h.elim
 ·split at h
  ·exact⟨by simp only[LeF];exact⟨trivial,h.1⟩,h.2⟩
  ·obtain⟨h1,h2,h3⟩:=cw h;exact⟨by simp only[LeF,h1,P1];exact⟨trivial,h2⟩,h3⟩
 ·exact⟨trivial,h⟩
 ·exact⟨trivial,h⟩
 ·obtain⟨h1,h2⟩:=cw h;simp only[O1]at h1;exact⟨by simp only[LeF];rw[O3 h1];trivial,h2⟩
 ·split at h
  ·rename_i hc;exact⟨by simp only[LeF,hc];exact h.1,h.2⟩
  ·exact h.elim
 ·split at h
  ·rename_i hc;exact⟨by simp only[LeF,hc];exact h.1,h.2⟩
  ·exact h.elim
 ·obtain⟨h1,h2,h3⟩:=cw h;simp only[O1]at h1;exact⟨by simp only[LeF];rw[O3 h1];exact h2,h3⟩
 ·obtain⟨h1,h2,h3⟩:=cw h;simp only[O1]at h1;exact⟨by simp only[LeF];rw[O3 h1];exact h2,h3⟩
 ·obtain⟨h1,h2,h3,h4⟩:=cw h;simp only[O1]at h1;exact⟨by simp only[LeF];rw[O3 h1];exact⟨h2,h3⟩,h4⟩
 ·obtain⟨h1,h2,h3,h4⟩:=cw h;exact⟨by simp only[LeF];rw[O3 h1];exact⟨trivial,h2,h3⟩,h4⟩
 ·obtain⟨h1,h2,h3,h4⟩:=cw h;simp only[O1]at h1;exact⟨by simp only[LeF];rw[O3 h1];exact⟨h2,h3⟩,h4⟩
 ·obtain⟨h1,h2⟩:=cw h;simp only[O1]at h1;exact⟨by simp only[LeF];rw[O3 h1];trivial,h2⟩
 ·obtain⟨h1,h2⟩:=cw h;simp only[O1]at h1;exact⟨by simp only[LeF];rw[O3 h1];trivial,h2⟩
 ·split at h
  ·rename_i hc;exact⟨by simp only[LeF,hc];exact h.1,h.2⟩
  ·exact h.elim
 ·exact⟨by simp only[LeF];exact h.1,h.2⟩
 ·exact⟨trivial,h⟩
 ·exact⟨trivial,h⟩
 ·exact h.elim
theorem sY{G:List Nat}{k:Prop}:∀{cs ds:List AV},cFs G cs ds k->yZ G cs ds/\k
 |[],[],h=>⟨trivial,h⟩
 |a::r,b::s,h=>let ⟨h1,h2⟩:=EW (k:=cFs G r s k) h;let ⟨h3,h4⟩:=sY h2;⟨⟨h1,h3⟩,h4⟩
 |[],_::_,h=>h.elim
 |_::_,[],h=>h.elim
theorem qu{c d:AV}(h:xu c d=true):vP c d:=by
 cases c<;>cases d<;>first|trivial|(simp[xu]at h)
mutual
theorem cV_spec{G:List Nat}:∀{a b:AV} {k:Prop},cV G a b k->LeV G a b/\k:=by
 intro a b k h;unfold cV at h;split at h
 ·rename_i c d;obtain⟨h1,h2⟩:=cw h;obtain⟨h3,h4⟩:=cV_spec (a:=c) (b:=d) h2;exact⟨by simp only[LeV];exact⟨qu h1,h3⟩,h4⟩
 ·split at h
  ·rename_i hc;exact⟨by simp only[LeV,hc];exact h.1,h.2⟩
  ·exact h.elim
 ·rename_i t a u b;obtain⟨h1,h2⟩:=cw h;obtain⟨h3,h4⟩:=cV_spec (a:=a) (b:=b) h2;exact⟨by simp only[LeV];exact⟨by rw[O3 (On h1)];trivial,h3⟩,h4⟩
 ·obtain⟨h1,h2⟩:=sY h;exact⟨by simp only[LeV];exact h1,h2⟩
 ·obtain⟨h1,h2⟩:=sY h;exact⟨by simp only[LeV];exact h1,h2⟩
 ·rename_i cs ds;obtain⟨h1,h2⟩:=cL_spec (cs:=cs) (ds:=ds) h;exact⟨by simp only[LeV];exact h1,h2⟩
 ·rename_i cs ds;obtain⟨h1,h2⟩:=cL_spec (cs:=cs) (ds:=ds) h;exact⟨by simp only[LeV];exact h1,h2⟩
 ·rename_i f cs g ds;obtain⟨h0,h⟩:=cw h;obtain⟨h1,h2⟩:=cL_spec (cs:=cs) (ds:=ds) h;exact⟨by simp only[LeV];exact⟨by rw[O3 (On h0)];trivial,h1⟩,h2⟩
 ·obtain⟨h1,h2⟩:=EW h;exact⟨bU h1,h2⟩
theorem cL_spec{G:List Nat}:∀{cs ds:List AV} {k:Prop},cL G cs ds k->LeL G cs ds/\k
 |[],[],k,h=>by simp only[cL]at h;exact⟨by simp only[LeL],h⟩
 |a::r,b::s,k,h=>by simp only[cL]at h;obtain⟨h1,h2⟩:=cV_spec (a:=a) (b:=b) h;obtain⟨h3,h4⟩:=cL_spec (cs:=r) (ds:=s) h2;exact⟨by simp only[LeL];exact⟨h1,h3⟩,h4⟩
 |[],_::_,k,h=>by simp only[cL]at h
 |_::_,[],k,h=>by simp only[cL]at h
end
theorem EX{G:List Nat}{s:St}:∀{l:List (Nat×AV)} {k:Prop},cT G s l k->LeT G s l/\k
 |[],k,h=>⟨trivial,h⟩
 |(i,a)::r,k,h=>let ⟨h1,h2⟩:=cV_spec (k:=cT G s r k) h;let ⟨h3,h4⟩:=EX h2;⟨⟨h1,h3⟩,h4⟩
theorem jA{G:List Nat}{s:St}:∀{l:List (Nat×SObj)},cB G s l->LeB G s l
 |[],_=>trivial
 |(i,.box d)::r,h=>by
  simp only[cB]at h;simp only[LeB];split at h
  ·rename_i c hc;obtain⟨h1,h2⟩:=cw h;obtain⟨h3,h4⟩:=cV_spec h2;exact⟨⟨qu h1,h3⟩,jA h4⟩
  ·exact h.elim
 |(i,.tail τ n)::r,h=>by
  simp only[cB]at h;simp only[LeB];split at h
  ·rename_i σ m hc;obtain⟨h1,h2,h3⟩:=cw h;simp only[O1]at h1;exact⟨by rw[O3 h1];exact h2,jA h3⟩
  ·exact⟨h.1,jA h.2⟩
  ·exact h.elim
 |(i,.bld t u l)::r,h=>by
  simp only[cB]at h;simp only[LeB];split at h
  ·rename_i t' u' l' hc;obtain⟨h1,h2,h3⟩:=cw h;simp only[O1]at h1;exact⟨by rw[O3 h1];exact h2,jA h3⟩
  ·exact h.elim
 |(i,.map κ τ m)::r,h=>by
  simp only[cB]at h;simp only[LeB];split at h
  ·rename_i κ' τ' m' hc;split at h
   ·exact⟨h.1,jA h.2⟩
   ·exact h.elim
  ·exact h.elim
 |(i,.grow τ n xs)::r,h=>by
  simp only[cB]at h;simp only[LeB];split at h
  ·split at h
   ·exact⟨⟨h.1,h.2.1⟩,jA h.2.2⟩
   ·exact h.elim
  ·exact⟨⟨h.1,h.2.1⟩,jA h.2.2⟩
  ·exact h.elim
theorem gq{s s':St}(h:cS s s'):LeS s s':=by unfold cS at h;obtain⟨h1,h2⟩:=cw h;obtain⟨h3,h4⟩:=EX h2;exact⟨by rw[O3 h1];trivial,h3,jA h4⟩
def L5:Option SObj->Ty
 |some (.tail τ _)=>τ
 |_=>.bool
theorem dy{F:Fr}{s s':St}{a:Act}{Ω:Om}(h:Holds F s.abs a Ω)(hle:LeS s s'):∃Ω',Ω'.w=Ω.w/\Holds F s'.abs a Ω':=by
 obtain⟨h0,h1,h2⟩:=hle
 have hn2:(bV ((aM s.b).filter fun i=>!(aM s'.b).contains i) s'&&((aM s.b).filter fun i=>!(aM s'.b).contains i).all (fun i=>!bd i))=true:=by
  rcases Q2 ((bV ((aM s.b).filter fun i=>!(aM s'.b).contains i) s'&&((aM s.b).filter fun i=>!(aM s'.b).contains i).all (fun i=>!bd i))=true)with k|k
  ·exact k
  ·rw[O0 k]at h0;exact h0.elim
 obtain⟨hn,hnl⟩:=Bool.and_eq_true_iff.1 hn2;have hGs:∀k,k∈eQ s s'↔(k∈aM s'.b/\aj s.b k=none):=by intro k;simp[eQ]
 obtain⟨Ω1,e1,h1',hg⟩:=h.begin (eQ s s') (fun k hk=>((hGs k).1 hk).2) (fun i=>L5 (aj s'.b i))
 have hmid:Holds F ⟨s'.abs.T,fun i=>match aj s'.b i with|some o=>some o|none=>if i∈eQ s s' then some (.tail (L5 (aj s'.b i)) 0)else s.abs.B i⟩ a Ω1:=by
  refine⟨fun i=>?_,h1'.size,h1'.defers,fun id o ho=>?_,fun id hid=>?_,h1'.inj,h1'.pubok,h1'.keep,h1'.frame⟩
  ·rcases IF h1 i with k|k
   ·have:s'.abs.T i=.undef:=k;rw[this];exact .undef _
   ·exact(h1'.tmps i).le hg k
  ·simp only at ho
   cases hb:aj s'.b id with
   |none=>rw[hb]at ho;simp only at ho;refine h1'.slots id o ?_;simp only[hb];exact ho
   |some o'=>
    rw[hb]at ho;simp at ho;subst ho;rcases pK h2 id o' hb with⟨c,d,rfl,hcs,hl0,hl⟩|⟨τ,n,rfl,hcs⟩|⟨κ,τ,m,rfl,hcs⟩|⟨t,u,l,rfl,hcs⟩|⟨τ,n,xs,rfl,hcs⟩
    ·have hng:id∉eQ s s':=fun hm=>by rw[((hGs id).1 hm).2]at hcs;cases hcs
     obtain⟨b,off,k1,k2⟩:=h1'.slots id (.box c) (by simp only[O0 hng];exact hcs);obtain⟨l1,l2⟩:=zG hl0 hl;refine⟨b,off,by rw[<-l1];exact k1,fun j d' hd=>?_⟩
     have hj:j<(ae c).length:=by
      rw[l1];rcases O5 j (ae d).length with k|k
      ·exact k
      ·rw[O2 k]at hd;cases hd
     obtain⟨m1,m2,m3,v,m4,m5⟩:=k2 j _ (NY hj);refine⟨m1,m2,m3,v,m4,?_⟩;rcases l2 j _ d' (NY hj) hd with e|k
     ·rw[<-e];exact m5
     ·exact m5.le hg k
    ·rcases hcs with hcs|⟨hcs,rfl⟩
     ·have hng:id∉eQ s s':=fun hm=>by rw[((hGs id).1 hm).2]at hcs;cases hcs
      exact h1'.slots id (.tail τ n) (by simp only[O0 hng];exact hcs)
     ·have hin:id∈eQ s s':=(hGs id).2 ⟨OC.2 ⟨(id,.tail τ 0),bY _ _ _ hb,rfl⟩,hcs⟩;have:=h1'.slots id (.tail τ 0) (by simp only[O3 hin,hb,L5]);exact this
    ·have hng:id∉eQ s s':=fun hm=>by rw[((hGs id).1 hm).2]at hcs;cases hcs
     exact h1'.slots id (.map κ τ m) (by simp only[O0 hng];exact hcs)
    ·have hng:id∉eQ s s':=fun hm=>by rw[((hGs id).1 hm).2]at hcs;cases hcs
     exact h1'.slots id (.bld t u l) (by simp only[O0 hng];exact hcs)
    ·rcases hcs with hcs|⟨hcs,rfl,rfl⟩
     ·have hng:id∉eQ s s':=fun hm=>by rw[((hGs id).1 hm).2]at hcs;cases hcs
      exact h1'.slots id (.grow τ n xs) (by simp only[O0 hng];exact hcs)
     ·have hin:id∈eQ s s':=(hGs id).2 ⟨OC.2 ⟨(id,.grow τ 0 []),bY _ _ _ hb,rfl⟩,hcs⟩;exact⟨none,0,hg id hin,Od _,by unfold bj;omega,fun _=>rfl,fun b hb=>by cases hb⟩
  ·refine h1'.dom id ?_;simp only at hid⊢
   cases hb:aj s'.b id with|none=>rw[hb]at hid;simpa[hb]using hid|some o'=>rw[hb]at hid;simp at hid
 have f1:∀i,i∈((aM s.b).filter fun i=>!(aM s'.b).contains i)->s'.abs.B i=none:=by
  intro i hi;simp at hi
  cases hb:aj s'.b i with|none=>exact hb|some o=>exact absurd (OC.2 ⟨(i,o),bY _ _ _ hb,rfl⟩) hi.2
 have f2:∀i,i∉((aM s.b).filter fun i=>!(aM s'.b).contains i)->
   s'.abs.B i=(match aj s'.b i with|some o=>some o|none=>if i∈eQ s s' then some (.tail (L5 (aj s'.b i)) 0)else s.abs.B i):=by
  intro i hi;simp only[St.abs]
  cases hb:aj s'.b i with
  |some o=>rfl
  |none=>
   have hk:i∉aM s'.b:=jY _ _ hb;have hng:i∉eQ s s':=fun hm=>hk ((hGs i).1 hm).1;simp only[O0 hng]
   cases hsb:aj s.b i with|none=>rfl|some o=>exfalso;apply hi;simp only[OO,Oa,OZ,OF];exact⟨OC.2 ⟨(i,o),bY _ _ _ hsb,rfl⟩,hk⟩
 obtain⟨Ω2,e2,h2'⟩:=hmid.forget (s':=s') (fun i=>Or.inr rfl) f1 f2 hn (fun i hi=>by
  have:=O9.1 hnl i hi;simpa using this)
 exact⟨Ω2,e2.trans e1,h2'⟩
end Go.AL
end
noncomputable section
namespace Go.AL
variable [Tabs]
section
variable {id:Nat} {c:AV}
theorem pL:∀(l:List AV)(j:Nat),(pubVs id c l)[j]?=(l[j]?).map (pubV id c)
 |[],j=>by simp[pubVs]
 |a::r,0=>by simp[pubVs]
 |a::r,j+1=>by simp only[pubVs,Qz];exact pL r j
theorem kK:∀l:List AV,(pubVs id c l).length=l.length
 |[]=>rfl
 |a::r=>by simp[pubVs,kK r]
theorem sZ(τ:Ty)(x:den τ):∀d∈cells τ x,pubV id c d=d:=by
 cases τ with
 |st n=>cases n<;>simp[cells,de,dN,dW,eI,eJ,fh,cG,eL,hZ,fJ,fK,fL,ib,ic,fY,fM,jq,eM,ie,fZ,ig,ij,fN,dF,fO,eP,ik,il,pubV]
 |_=>simp[cells,pubV]
theorem FW(τ:Ty)(xs:List (den τ)):∀d∈flat τ xs,pubV id c d=d:=by intro d hd;simp only[flat,Pp]at hd;obtain⟨x,_,hx⟩:=hd;exact sZ τ x d hx
theorem ta(d:AV):(ae (pubV id c d)).length=(ae d).length/\∀(j:Nat)(a:AV),(ae d)[j]?=some a->(ae (pubV id c d))[j]?=some (pubV id c a):=by
 have one:∀{d:AV},ae d=[d]->ae (pubV id c d)=[pubV id c d]->(ae (pubV id c d)).length=(ae d).length/\
   ∀(j:Nat)(a:AV),(ae d)[j]?=some a->(ae (pubV id c d))[j]?=some (pubV id c a):=by
  intro d h1 h2;rw[h1,h2];refine⟨rfl,fun j a ha=>?_⟩
  cases j with|zero=>simp at ha;subst ha;rfl|succ j=>simp at ha
 cases d with
 |agg cs=>exact⟨kK cs,fun j a ha=>by show(pubVs id c cs)[j]?=_;rw[pL];have:cs[j]?=some a:=ha;rw[this];rfl⟩
 |st n x=>exact⟨rfl,fun j a ha=>by show(cells (.st n) x)[j]?=_;rw[sZ (.st n) x a (Ot ha)];exact ha⟩
 |row τ xs=>exact⟨rfl,fun j a ha=>by show(flat τ xs)[j]?=_;rw[FW τ xs a (Ot ha)];exact ha⟩
 |ptr i o=>
  refine one rfl ?_
  cases o with|zero=>simp only[pubV];split<;>rfl|succ o=>rfl
 |arr i n w=>
  refine one rfl ?_;simp only[pubV];split
  ·split
   ·split<;>rfl
   ·rfl
  ·rfl
 |_=>exact one rfl rfl
structure Fast(Ω:Om)(id:Nat)(c:AV)(b off:Nat)(vals:Nat->Value):Prop where
 e:Ω.e id=some (.box b off (ae c).length)
 at_:∀(j:Nat)(c':AV),(ae c)[j]?=some c'->Ω.pub b (off+j)/\Ω.w.cell? ⟨b,off+j,none⟩=some (vals j)/\V Ω c' (vals j)
theorem V.pubV{Ω:Om}{b off:Nat}{vals:Nat->Value}(hf:Fast Ω id c b off vals){a:AV}{v:Value}(h:V Ω a v):V Ω (AL.pubV id c a) v:=by
 have many:∀{cs:List AV} {vs:List Value},cs.length=vs.length->(∀(j:Nat)(d:AV)(v:Value),cs[j]?=some d->vs[j]?=some v->V Ω (AL.pubV id c d) v)->
   (pubVs id c cs).length=vs.length/\∀(j:Nat)(d:AV)(v:Value),(pubVs id c cs)[j]?=some d->vs[j]?=some v->V Ω d v:=by
  intro cs vs hl ih;refine⟨by rw[kK,hl],fun j d v hd hv=>?_⟩;rw[pL]at hd;simp only[Ov]at hd;obtain⟨d0,hd0,rfl⟩:=hd;exact ih j d0 v hd0 hv
 induction h with
 |ptr i o b' p len he=>
  cases o with
  |succ o=>exact .ptr i (o+1) b' p len he
  |zero=>
   simp only[AL.pubV];split
   ·rename_i hi;subst hi;rw[hf.e]at he;simp at he;obtain⟨rfl,rfl,rfl⟩:=he;exact .cptr c b off vals (fun j c' hc=>⟨(hf.at_ j c' hc).1,(hf.at_ j c' hc).2.1⟩) (fun j c' hc=>(hf.at_ j c' hc).2.2)
   ·exact .ptr i 0 b' p len he
 |arr i n w b' len cap a he h1 h2 h3 h4=>
  simp only[AL.pubV];split
  ·rename_i hi;split
   ·rename_i τ xs;split
    ·rename_i hw;subst hi hw;have hfe:=hf.e;rw[hfe]at he;simp only[Xs,CObj.box.injEq]at he;obtain⟨rfl,rfl,rfl⟩:=he;have hn:n<=xs.length:=by have:(ae (.row τ xs)).length=xs.length *ab τ:=aY τ xs;rw[this]at h1;exact Nat.le_of_mul_le_mul_right h1 (jU τ)
     rcases h4 with rfl|⟨rfl,rfl,rfl⟩
     ·have hl:(xs.take n).length=n:=by simp;omega
      have hx':∀{i:Nat} {x:den τ},(xs.take n)[i]?=some x->xs[i]?=some x:=by
       intro i x hx;rw[Oy]at hx;split at hx
       ·exact hx
       ·cases hx
      have:=V.lst (Ω:=Ω) τ (xs.take n) none b 0 cap (fun i j=>vals (i *ab τ+j)) (by omega) h3 (fun id hid=>by simp at hid) (fun i x hx j c' hc=>by
       have:=hf.at_ _ c' (gl τ xs i x j c' (hx' hx) hc);exact⟨this.1,this.2.1⟩) (fun i x hx j c' hc=>(hf.at_ _ c' (gl τ xs i x j c' (hx' hx) hc)).2.2)
      rw[hl]at this;exact this
     ·simp only[PJ];exact .lstNil τ none (fun id hid=>by simp at hid)
    ·exact .arr i n w b' len cap a he h1 h2 h3 h4
   ·exact .arr i n w b' len cap a he h1 h2 h3 h4
  ·exact .arr i n w b' len cap a he h1 h2 h3 h4
 |cptr d b' o vs h1 h2 ih=>
  obtain⟨p1,p2⟩:=ta (id:=id) (c:=c) d
  have back:∀(j:Nat)(d':AV),(ae (AL.pubV id c d))[j]?=some d'->∃d0,(ae d)[j]?=some d0/\d'=AL.pubV id c d0:=by
   intro j d' hd'
   have hj:j<(ae d).length:=by
    rw[<-p1];rcases O5 j (ae (AL.pubV id c d)).length with k|k
    ·exact k
    ·rw[O2 k]at hd';cases hd'
   have:=p2 j _ (NY hj);rw[hd']at this;exact⟨_,NY hj,OG this⟩
  refine .cptr _ b' o vs (fun j d' hd'=>?_) (fun j d' hd'=>?_)
  ·obtain⟨d0,q1,_⟩:=back j d' hd';exact h1 j d0 q1
  ·obtain⟨d0,q1,rfl⟩:=back j d' hd';exact ih j d0 q1
 |agg cs vs hl _ ih=>obtain⟨q1,q2⟩:=many hl ih;exact .agg _ vs q1 q2
 |tup cs vs hl _ ih=>obtain⟨q1,q2⟩:=many hl ih;exact .tup _ vs q1 q2
 |fn f cs vs hl _ ih=>obtain⟨q1,q2⟩:=many hl ih;exact .fn f _ vs q1 q2
 |iface t a v _ ih=>exact .iface t _ v ih
 |undef v=>exact .undef v
 |int k n h1 h2=>exact .int k n h1 h2
 |bool b=>exact .bool b
 |str s h=>exact .str s h
 |lstNil τ o ht=>exact .lstNil τ o ht
 |lstVoid τ a=>exact .lstVoid τ a
 |lst τ xs o b' off' cap vals' h1 h2 h3 h4 h5 _=>exact .lst τ xs o b' off' cap vals' h1 h2 h3 h4 h5
 |nils=>exact .nils
 |nilp=>exact .nilp
 |ptNone n=>exact .ptNone n
 |ptSome n x v hv _=>exact .ptSome n x v hv
 |aptr i n w o b' p len he=>exact .aptr i n w o b' p len he
 |map i r he=>exact .map i r he
 |bptr i b g he=>exact .bptr i b g he
 |nilif=>exact .nilif
 |nilm=>exact .nilm
 |lstp τ xs k b' off' cap vals' h1 h2 h3 h4 h5 _=>exact .lstp τ xs k b' off' cap vals' h1 h2 h3 h4 h5
 |tptr τ n k p hp=>exact .tptr τ n k p hp
 |glst s n k cap a h1 h2 h3 h4=>exact .glst s n k cap a h1 h2 h3 h4
 |gptr k s i w off b h1=>exact .gptr k s i w off b h1
 |gsuf k s i w m b c h1=>exact .gsuf k s i w m b c h1
 |st n x v hv _=>exact .st n x v hv
end
theorem oL(f:AV->AV)(hf:f .undef=.undef):∀(l:List (Nat×AV))(i:Nat),aZ (l.map fun x=>(x.1,f x.2)) i=f (aZ l i)
 |[],i=>hf.symm
 |(j,v)::r,i=>by simp only[OJ,eo,dc,oL f hf r i];by_cases h:j=i<;>simp[h]
theorem ja(f:SObj->SObj):∀(l:List (Nat×SObj))(i:Nat),aj (l.map fun x=>(x.1,f x.2)) i=(aj l i).map f
 |[],i=>rfl
 |(j,v)::r,i=>by simp only[OJ,b5,aH,ja f r i];by_cases h:j=i<;>simp[h]
theorem CP{F:Fr}{s s':St}{a:Act}{Ω:Om}{id:Nat}(h:Holds F s.abs a Ω)(hp:bW id s=some s'):∃Ω',Ω'.w=Ω.w/\Holds F s'.abs a Ω':=by
 unfold bW at hp;split at hp
 ·rename_i c hb;simp only at hp;split at hp
  ·rename_i hck;simp only[NZ,Oa]at hck;obtain⟨⟨hnn,hcid⟩,hnl⟩:=hck;simp only[Xs]at hp;subst hp;simp only[bV,NZ,O9]at hnn;obtain⟨b,off,e1,e2⟩:=h.slots id _ hb
   let Ω1:Om:=⟨Ω.e,Ω.w,fun b' o=>Ω.pub b' o∨(b'=b/\off<=o/\o<off+(ae c).length)⟩
   have hx1:Ext Ω Ω1:=⟨fun i c hc=>⟨c,hc,CLe.refl c⟩,fun _ _ p=>Or.inl p,fun _ _ _=>rfl⟩
   have hfast:Fast Ω1 id c b off (fun j=>(Ω.w.cell? ⟨b,off+j,none⟩).getD undef):=by
    refine⟨e1,fun j c' hc=>?_⟩;obtain⟨k1,k2,k3,v,k4,k5⟩:=e2 j c' hc
    have hj:j<(ae c).length:=by
     rcases O5 j (ae c).length with k|k
     ·exact k
     ·rw[O2 k]at hc;cases hc
    refine⟨Or.inr ⟨rfl,by omega,by omega⟩,?_,?_⟩
    ·show Ω.w.cell? _=_;rw[k4];rfl
    ·simp only[k4,OX];exact k5.ext hx1
   have hag:∀{x:AV} {v:Value},V Ω1 x v->(∀i∈ids x,i≠id)->V ⟨fun i=>if i=id then none else Ω.e i,Ω1.w,Ω1.pub⟩ x v:=
    fun hv hi=>V.agree hv (fun i him=>by simp[hi i him,Ω1])
   have hin:∀b' o,(b'=b/\off<=o/\o<off+(ae c).length)->occ (.box b off (ae c).length) b' o:=fun b' o k=>k;refine⟨⟨fun i=>if i=id then none else Ω.e i,Ω.w,Ω1.pub⟩,rfl,⟨fun i=>?_,h.size,h.defers,fun id' o ho=>?_,fun id' hid=>?_,fun i j ci cj b' o hi hj=>?_,fun b' o hp=>?_,fun i x hx=>?_,?_⟩⟩
   ·simp only[St.abs];have e:=oL (pubV id c) rfl s.t i;rw[e];refine hag (V.pubV hfast ((h.tmps i).ext hx1)) (fun k hk=>?_);rcases jX s.t i with hu|hm
    ·rw[hu]at hk;simp[pubV,ids]at hk
    ·have:=dx (hnn.1 (i,pubV id c (aZ s.t i)) (OC.2 ⟨_,hm,rfl⟩)) k hk;simpa using this
   ·simp only[St.abs]at ho;have e:=ja (Ib id c) (s.b.filter fun x=>!(x.1 ==id)) id';rw[e]at ho;have e':=eY s.b (fun i=>!(i ==id)) id';rw[e']at ho;by_cases hid:id'=id
    ·subst hid;simp at ho
    ·simp only[Pa,hid,R3,P1,Ov]at ho;rw[O3 (by simp[hid])]at ho;obtain⟨o0,ho0,rfl⟩:=ho;have hs:=h.slots id' o0 ho0;have apart:∀c0,Ω.e id'=some c0->∀b' o,occ c0 b' o->¬(b'=b/\off<=o/\o<off+(ae c).length):=by intro c0 hc0 b' o hoc hk;exact hid (h.inj id' id c0 _ b' o hc0 e1 hoc (hin b' o hk))
     cases o0 with
     |box d=>
      obtain⟨b2,off2,g1,g2⟩:=hs;obtain⟨p1,p2⟩:=ta (id:=id) (c:=c) d;refine⟨b2,off2,by simp only[O0 hid];rw[g1,p1],fun j d' hd'=>?_⟩
      have hj:j<(ae d).length:=by
       rw[<-p1];rcases O5 j (ae (pubV id c d)).length with k|k
       ·exact k
       ·rw[O2 k]at hd';cases hd'
      have hd2:=p2 j _ (NY hj);rw[hd']at hd2;obtain⟨m1,m2,m3,v,m4,m5⟩:=g2 j _ (NY hj);refine⟨m1,fun hp=>?_,m3,v,m4,?_⟩
      ·rcases hp with hp|hp
       ·exact m2 hp
       ·exact apart _ g1 b2 (off2+j) ⟨rfl,by omega,by omega⟩ hp
      ·rw[OG hd2];refine hag (V.pubV hfast (m5.ext hx1)) (fun k hk=>?_)
       have hmem:(id',Ib id c (.box d))∈((s.b.filter fun x=>!(x.1 ==id)).map fun x=>(x.1,Ib id c x.2)):=
        OC.2 ⟨(id',.box d),OO.2 ⟨bY _ _ _ ho0,by simp[hid]⟩,rfl⟩
       have:=dx (hnn.2 _ hmem) k (mC (c:=pubV id c d) (by rw[<-OG hd2];exact hd') k hk);simpa using this
     |tail τ n=>
      obtain⟨base,cap,g1,g2,g3,g4,g5⟩:=hs;refine⟨base,cap,by simp only[O0 hid];exact g1,g2,g3,g4,fun b2 hb2=>?_⟩;obtain⟨m1,vs,ty,fz,m2,m3,m4,m5⟩:=g5 b2 hb2;refine⟨m1,vs,ty,fz,m2,m3,m4,fun o ho hp=>?_⟩;rcases hp with hp|hp
      ·exact m5 o ho hp
      ·exact apart _ g1 b2 o hb2 hp
     |map κ τ m=>obtain⟨r,g1,g2,es,clock,g3,g4⟩:=hs;exact⟨r,by simp only[O0 hid];exact g1,g2,es,clock,g3,(g4.ext hx1).data⟩
     |bld t u l=>
      obtain⟨b2,g,g1,g2,g3⟩:=hs;refine⟨b2,g,by simp only[O0 hid];exact g1,fun b3 hb3 o=>⟨(g2 b3 hb3 o).1,fun hp=>?_⟩,g3⟩;rcases hp with hp|hp
      ·exact(g2 b3 hb3 o).2 hp
      ·exact apart _ g1 b3 o hb3 hp
     |tailp τ n x=>
      obtain⟨b2,cap,g1,g2,g3,g4,g5,g6,g7⟩:=hs;refine⟨b2,cap,by simp only[O0 hid];exact g1,g2,g3,g4,g5,fun o ho hp=>?_,fun j c' hc=>?_⟩
      ·rcases hp with hp|hp
       ·exact g6 o ho hp
       ·exact apart _ g1 b2 o rfl hp
      ·obtain⟨v,k1,k2⟩:=g7 j c' hc;refine⟨v,k1,hag (k2.ext hx1) (fun i hi=>?_)⟩;have:=eA hc i hi;rw[fR]at this;cases this
     |grow τ n xs=>
      obtain⟨base,cap,g1,g2,g3,g4,g5⟩:=hs;refine⟨base,cap,by simp only[O0 hid];exact g1,g2,g3,g4,fun b2 hb2=>?_⟩;obtain⟨m1,m2,m3,m4⟩:=g5 b2 hb2;refine⟨m1,m2,fun o hp=>?_,fun j c' hc=>?_⟩
      ·rcases hp with hp|hp
       ·exact m3 o hp
       ·exact apart _ g1 b2 o hb2 hp
      ·obtain⟨v,k1,k2⟩:=m4 j c' hc;exact⟨v,k1,(k2.ext hx1).flat hc⟩
   ·simp only[St.abs]at hid;by_cases hii:id'=id
    ·simp[hii]
    ·have e:=ja (Ib id c) (s.b.filter fun x=>!(x.1 ==id)) id';rw[e]at hid;have e':=eY s.b (fun i=>!(i ==id)) id';rw[e',O3 (by simp[hii])]at hid;simp only[O0 hii];exact h.dom id' (by show aj s.b id'=none;simpa using hid)
   ·intro h1 h2;simp only at hi hj;split at hi
    ·cases hi
    ·split at hj
     ·cases hj
     ·exact h.inj i j ci cj b' o hi hj h1 h2
   ·rcases hp with hp|⟨rfl,hp1,hp2⟩
    ·exact h.pubok b' o hp
    ·have hj:o-off<(ae c).length:=by omega
     obtain⟨_,_,_,v,hv,_⟩:=e2 (o-off) _ (NY hj);exact⟨v,by rw[show off+(o-off)=o by omega]at hv;exact hv⟩
   ·have hl:=F.dom0 i x hx;have hne:i≠id:=fun e=>by subst e;rw[hnl]at hl;cases hl
    obtain⟨x',q1,q2⟩:=h.keep i x hx;exact⟨x',by simp only[O0 hne];exact q1,q2⟩
   ·refine⟨h.frame.os,h.frame.tape,h.frame.output,h.frame.size,h.frame.block,h.frame.cell,h.frame.kind,fun b' o hp=>?_,fun b' o hp=>Or.inl (h.frame.old b' o hp),h.frame.pcell⟩;rcases hp with hp|⟨rfl,hp1,hp2⟩
    ·exact h.frame.pub b' o hp
    ·have hj:o-off<(ae c).length:=by omega
     have:=(e2 (o-off) _ (NY hj)).1;rw[show off+(o-off)=o by omega]at this;exact Or.inr this
  ·cases hp
 ·cases hp
theorem kL{F:Fr}{a:Act}:∀(l:List Nat) {s s':St} {Ω:Om},Holds F s.abs a Ω->px l s=some s'->∃Ω',Ω'.w=Ω.w/\Holds F s'.abs a Ω'
 |[],s,s',Ω,h,hp=>by simp[px]at hp;subst hp;exact⟨Ω,rfl,h⟩
 |i::r,s,s',Ω,h,hp=>by
  simp only[px]at hp;split at hp
  ·rename_i s1 h1;obtain⟨Ω1,e1,k1⟩:=CP h h1;obtain⟨Ω2,e2,k2⟩:=kL r k1 hp;exact⟨Ω2,e2.trans e1,k2⟩
  ·cases hp
end Go.AL
end
noncomputable section
namespace Go.AL
theorem pM{K V:Type}[DecidableEq K]:∀(m:List (K×V))(k k':K)(v:V),cu (bP m k v) k'=if k'=k then some v else cu m k'
 |[],k,k',v=>by simp[bP,cu]
 |(a,u)::r,k,k',v=>by
  simp only[bP];by_cases h:k=a
  ·subst h;rw[O3 rfl];by_cases h':k'=k<;>simp[cu,h']
  ·rw[O0 h];simp only[cu,pM r k k' v];by_cases h1:k'=a
   ·subst h1;simp[RP h]
   ·simp[h1]
variable [Tabs]
open Go.ChangeMaps (setBlock)
theorem Holds.aside{F:Fr}{s:AS}{a:Act}{Ω:Om}(h:Holds F s a Ω){w':World}{r:Nat}(os:w'.os=Ω.w.os)(tape:w'.tape=Ω.w.tape)(output:w'.output=Ω.w.output)(size:Ω.w.heap.size<=w'.heap.size)
 (hb:∀b,b<Ω.w.heap.size->b≠r->w'.heap[b]?=Ω.w.heap[b]?)(hr:F.w0.heap.size<=r)(hnp:∀o,¬Ω.pub r o)(hno:∀id c o,Ω.e id=some c->¬occ c r o):Holds F s a ⟨Ω.e,w',Ω.pub⟩:=by
 have pne:∀b o,Ω.pub b o->b<Ω.w.heap.size/\b≠r:=fun b o hp=>⟨let ⟨_,hv⟩:=h.pubok b o hp;aC hv,fun e=>hnp o (e ▸ hp)⟩;have hx:Ext Ω ⟨Ω.e,w',Ω.pub⟩:=⟨fun _ c hc=>⟨c,hc,CLe.refl c⟩,fun _ _ p=>p,fun b o p=>ai (hb b (pne b o p).1 (pne b o p).2) o⟩;have old:∀b,b<F.w0.heap.size->w'.heap[b]?=Ω.w.heap[b]?:=fun b hlt=>hb b (Rz hlt h.frame.size) (by omega)
 refine⟨fun i=>(h.tmps i).ext hx,h.size,h.defers,fun id o ho=>(h.slots id o ho).keep hx rfl (fun c hc=>jV.of_blocks fun b o hbo=>⟨hb b (h.blk hc hbo) (fun e=>hno id c o hc (e ▸ hbo)),fun _ p=>p⟩),h.dom,h.inj,
  fun b o p=>let ⟨v,hv⟩:=h.pubok b o p;⟨v,by rw[<-hv];exact hx.cell b o p⟩,h.keep,?_⟩
 refine⟨os.trans h.frame.os,tape.trans h.frame.tape,output.trans h.frame.output,OT h.frame.size size,fun b hlt hn=>(old b hlt).trans (h.frame.block b hlt hn),fun b o hlt hn=>(ai (old b hlt) o).trans (h.frame.cell b o hlt hn),
  fun b hlt hn=>⟨(aT (old b hlt)).trans (h.frame.kind b hlt hn).1,fun o=>(aK (old b hlt) o).trans ((h.frame.kind b hlt hn).2 o)⟩,h.frame.pub,h.frame.old,fun b o p=>(hx.cell b o (h.frame.old b o p)).trans (h.frame.pcell b o p)⟩
theorem Holds.weak{F:Fr}{s s':AS}{a:Act}{Ω:Om}(h:Holds F s a Ω)(hT:∀i,s'.T i=.undef∨s'.T i=s.T i)(hB:s'.B=s.B):Holds F s' a Ω:=
 ⟨fun i=>by
  rcases hT i with e|e
  ·rw[e];exact .undef _
  ·rw[e];exact h.tmps i,h.size,h.defers,by rw[hB];exact h.slots,by rw[hB];exact h.dom,h.inj,h.pubok,h.keep,h.frame⟩
theorem qv{K V:Type}[DecidableEq K]:∀(m:List (K×V))(k:K),(cu m k).isSome=true↔∃x∈m,x.1=k
 |[],k=>by simp[cu]
 |(a,u)::r,k=>by
  simp only[cu];by_cases h:k=a
  ·subst h;simp
  ·rw[O0 h,qv r k];constructor
   ·rintro⟨x,hx,e⟩;exact⟨x,by simp[hx],e⟩
   ·rintro⟨x,hx,e⟩;rcases O7.1 hx with rfl|hx
    ·exact absurd e.symm h
    ·exact⟨x,hx,e⟩
section
variable {P:Program} {C:Cfg} {F:Fr}
theorem cz{ops:Array Oper}{Q:Exit->Act->World->Prop}{i:Nat}{rest:List Nat}{o:Oper}{a:Act}{w:World}(hi:ops[i]?=some o)(hg:o.guard=none)
 (h:o.wp P a w (wpOps P ops Q rest) Q):wpOps P ops Q (i::rest) a w:=by
 unfold wpOps;rw[hi];have:Region.wanted o (yielded ops a.tmps)=true:=by unfold Region.wanted;rw[hg]
 simp only[this,P1];exact .inl h
structure KLcode(L:KL)(a b:Code):Prop where
 code:∃i1 i2 i3 i4 x y ty1 ps1 af1 ty2 ps2 af2 ty3 ps3 af3 ty4 ps4 af4 ty5 ps5 af5 ty6 ps6 af6 ty7 ps7 af7 ty8 ps8 af8 ty9 ps9 af9 ty10 ps10 af10,
  a=.region i1 #[⟨some L.m1,.move L.src,ty1,ps1,af1,none⟩,⟨some L.it,.range L.t (.tmp L.m1),ty2,ps2,af2,none⟩] false/\
  b=.block x (.loop (.seq (.region i2 #[⟨some L.nx,.next (.tmp L.it) false,ty3,ps3,af3,none⟩,⟨some L.c,.extract (.tmp L.nx) 0,ty4,ps4,af4,none⟩] false) (.seq (.cond (.tmp L.c) .skip (.exit x)) (.block y (.seq
   (.region i3 #[⟨some L.en,.entry (.tmp L.it),ty5,ps5,af5,none⟩,⟨some L.k1,.extract (.tmp L.en) 0,ty6,ps6,af6,none⟩,⟨some L.kv,.assign (.tmp L.k1),ty7,ps7,af7,none⟩] false)
   (.region i4 #[⟨some L.d1,.move (.tmp L.dst),ty8,ps8,af8,none⟩,⟨some L.k2,.move (.tmp L.kv),ty9,ps9,af9,none⟩,⟨none,.mapUpdate L.t2 (.tmp L.d1) (.tmp L.k2) (.const (.int .i64 L.n)),ty10,ps10,af10,none⟩] false))))))
 rng:okC .i64 L.n=true
 dis:bp [L.m1,L.it,L.nx,L.c,L.en,L.k1,L.kv,L.d1,L.k2,L.dst]=true
theorem FX{a b:Code}{L:KL}(h:sq a b=some L):KLcode L a b:=by
 unfold sq at h;split at h
 ·rename_i i1 r1 x i2 r2 c x2 y i3 r3 i4 r4;split at h
  ·rename_i h1 h2 h3 h4;split at h
   ·rename_i hc;simp only[NZ,Pa]at hc;obtain⟨⟨⟨⟨⟨⟨⟨⟨⟨⟨⟨⟨rfl,rfl⟩,rfl⟩,rfl⟩,rfl⟩,rfl⟩,rfl⟩,rfl⟩,rfl⟩,rfl⟩,rfl⟩,hr⟩,hd⟩:=hc;simp only[Xs]at h;subst h;have e1:=PT List.toArray h1;have e2:=PT List.toArray h2;have e3:=PT List.toArray h3;have e4:=PT List.toArray h4;simp only[PI]at e1 e2 e3 e4;subst e1 e2 e3 e4;exact⟨⟨_,_,_,_,_,_,_,_,_,_,_,_,_,_,_,_,_,_,_,_,_,_,_,_,_,_,_,_,_,_,_,_,_,_,_,_,rfl,rfl⟩,hr,hd⟩
   ·cases h
  ·cases h
 ·cases h
theorem cH{a:Act}{n d i:Nat}{v:Value}(hs:a.tmps.size=n)(hd:d<n):(a.put (some d) v).tmps.getD i undef=if d=i then v else a.tmps.getD i undef:=by
 simp only[Act.put];by_cases h:d=i
 ·subst h;rw[O3 rfl];simp[Oo,hs,hd]
 ·rw[O0 h];simp[Oo,h]
structure KInv(F:Fr)(L:KL)(s:St)(i j bm r:Nat)(es:Array MapEntry)(clock:Nat)(md:List (Str×Int))(seen:Array Nat)(a:Act)(Ω:Om)(d:List (Str×Int)):Prop where
 hh:Holds F ⟨fun k=>if L.wr.contains k then .undef else aZ s.t k,fun k=>if j=k then some (.map .str (.int .i64) d)else aj s.b k⟩ a Ω
 it:a.tmps.getD L.it undef=.pointer (some ⟨r,0,none⟩)
 iter:∃c0,clock<=c0/\Ω.w.heap[r]?=some (.mapIter (some bm) clock seen c0)
 map:Ω.w.heap[bm]?=some (.map es clock)
 own:F.w0.heap.size<=r
 np:∀o,¬Ω.pub r o
 no:∀id c o,Ω.e id=some c->¬occ c r o
 ei:Ω.e i=some (.obj bm)
 ne:i≠j
 yes:∀k,(∃e∈es.toList,e.key=.string ⟨k.toArray⟩/\seen.contains e.born=true)->cu d k=some L.n
 not:∀k,(¬∃e∈es.toList,e.key=.string ⟨k.toArray⟩/\seen.contains e.born=true)->cu d k=cu md k
theorem wc{es:Array MapEntry}{seen:Array Nat}{e:MapEntry}(he:e∈(leftOf es seen).toList):(leftOf es (seen.push e.born)).size<(leftOf es seen).size:=by
 unfold leftOf at he⊢;have key:∀p:MapEntry->Bool,(es.filter p).size=(es.toList.filter p).length:=fun p=>PT List.length Q0;rw[key,key];simp only[Q0,OO,Oa]at he
 exact filter_lt (fun x=>!seen.contains x.born) (fun x=>!(seen.push e.born).contains x.born) (fun x hx=>by
  simp only[Oa]at hx⊢;rw[Rp,Bool.or_eq_false_iff]at hx
  first|exact hx.1|exact hx.2) e (by simpa using he.2) (by simp) es.toList he.1
theorem KInv.done{L:KL}{s:St}{i j bm r:Nat}{es:Array MapEntry}{clock:Nat}{md:List (Str×Int)}{seen:Array Nat}{a:Act}{Ω:Om}{d:List (Str×Int)}{τ:Ty}{m:List (Str×den τ)}
 (hK:KInv F L s i j bm r es clock md seen a Ω d)(hm:aj s.b i=some (.map .str τ m))(h0:(leftOf es seen).size=0)
 {a':Act}(h':Holds F ⟨fun k=>if L.wr.contains k then .undef else aZ s.t k,fun k=>if j=k then some (.map .str (.int .i64) d)else aj s.b k⟩ a' Ω) :
  Holds F (St.abs ⟨s.t.filter fun x=>!L.wr.contains x.1,r8 s.b j (.map .str (.int .i64) d)⟩) a' Ω/\(d.map (·.1)).Nodup/\(∀k,cu d k=if(cu m k).isSome=true then some L.n else cu md k):=by
 refine⟨?_,?_,fun k=>?_⟩
 ·have e1:(fun k=>if L.wr.contains k then AV.undef else aZ s.t k)=aZ (s.t.filter fun x=>!L.wr.contains x.1):=by funext k;rw[jz s.t (fun i=>!L.wr.contains i) k];cases L.wr.contains k<;>simp
  have e2:(fun k=>if j=k then some (SObj.map .str (.int .i64) d)else aj s.b k)=aj (r8 s.b j (.map .str (.int .i64) d)):=by funext k;rw[iY]
  have h2:=h';rw[e1,e2]at h2;exact h2
 ·obtain⟨_,_,_,_,_,_,hm⟩:=h'.slots j (.map .str (.int .i64) d) (by simp);exact hm.keys
 ·obtain⟨r',k1,_,es',clock',k3,k4⟩:=hK.hh.slots i (.map .str τ m) (by simp only[O0 (RP hK.ne)];exact hm);rw[hK.ei]at k1;cases k1;rw[hK.map]at k3;cases k3
  have all:∀e∈es.toList,seen.contains e.born=true:=by
   intro e he;rcases PQ (seen.contains e.born)with h|h
   ·exact h
   ·have:e∈(leftOf es seen).toList:=by unfold leftOf;simp only[Q0,OO];exact⟨he,by rw[h];rfl⟩
    rw[<-PE]at h0;rw[Ps.1 h0]at this;cases this
  have key:(cu m k).isSome=true↔∃e∈es.toList,e.key=.string ⟨k.toArray⟩/\seen.contains e.born=true:=by
   rw[qv];constructor
   ·rintro⟨x,hx,rfl⟩;obtain⟨q,hq⟩:=PV hx
    have hl:q<es.size:=by
     rw[k4.size];rcases O5 q m.length with h|h
     ·exact h
     ·rw[O2 h]at hq;cases hq
    have hv:=(k4.ent q es[q] x (Oz hl) hq).1;have hmem:es[q]∈es.toList:=by simp
    exact⟨es[q],hmem,V.str_inv hv|>.1,all _ hmem⟩
   ·rintro⟨e,he,hk,_⟩;obtain⟨q,hq⟩:=PV he;rw[Oh]at hq
    have hl:q<m.length:=by
     rw[<-k4.size];rcases O5 q es.size with h|h
     ·exact h
     ·rw[OM h]at hq;cases hq
    have hv:=(k4.ent q e m[q] hq (NY hl)).1;refine⟨m[q],QK hl,?_⟩;have:=(V.str_inv hv).1;rw[hk]at this;simp at this;exact this.symm
  by_cases h:(cu m k).isSome=true
  ·rw[O3 h];exact hK.yes k (key.1 h)
  ·rw[O0 h];exact hK.not k (fun e=>h (key.2 e))
theorem CQ(hT:aR P C.tbl){x y:Code}{L:KL}(hL:sq x y=some L){s:St}{Q:SX->St->Prop}{a:Act}{Ω:Om}(h:Ih C L s Q)(hds:bE F.n (.seq x y)=true)(hh:Holds F s.abs a Ω) :
  (Code.seq x y).wp P (fun e a' w'=>e=.normal/\∃s' Ω',Ω'.w=w'/\Holds F s'.abs a' Ω'/\Q .normal s') a Ω.w:=by
 obtain⟨⟨i1,i2,i3,i4,bx,by_,ty1,ps1,af1,ty2,ps2,af2,ty3,ps3,af3,ty4,ps4,af4,ty5,ps5,af5,ty6,ps6,af6,ty7,ps7,af7,ty8,ps8,af8,ty9,ps9,af9,ty10,ps10,af10,rfl,rfl⟩,hrng,hdis⟩:=FX hL;have hnd:¬L.wr.contains L.dst=true:=by intro hc;simp only[KL.wr,OZ,O7,Pz,Rf,O1]at hc;clear hL hh h hds;rcases hc with e|e|e|e|e|e|e|e|e<;>rw[e]at hdis<;>simp[bp]at hdis
 have hne:L.nx≠L.it/\L.c≠L.it/\L.en≠L.it/\L.k1≠L.it/\L.kv≠L.it/\L.d1≠L.it/\L.k2≠L.it/\L.d1≠L.kv/\L.d1≠L.k2:=by clear hL hh h hds;simp[bp]at hdis;refine⟨?_,?_,?_,?_,?_,?_,?_,?_,?_⟩<;>(intro e;simp_all)
 simp[bE]at hds;obtain⟨⟨d1,d2⟩,⟨d3,d4⟩,⟨d5,d6,d7⟩,d8,d9⟩:=hds;unfold Ih at h;split at h
 ·rename_i i j hsrc hdst;split at h
  ·rename_i τ m d0 kt0 e0 _ _ _ _ kt e1 _ _ _ _ hbi hbj ht1 ht2;split at h
   ·rename_i rk hrk;split at h
    ·rename_i hc;simp only[NZ,Oa,Qa,ne_eq]at hc;obtain⟨hko,hij⟩:=hc;have hv:=b9 hh L.src;rw[show opd s.abs.T L.src=.map i from hsrc]at hv;generalize hsv:a.eval L.src=sv at hv
     cases hv with
     |map _ bm hei=>
      obtain⟨r',g1,g2,es,clock,g3,g4⟩:=hh.slots i _ hbi;rw[hei]at g1;cases g1;obtain⟨dd,u1,u2⟩:=az hT ht1 rfl;cases dd<;>simp[aD]at u2;obtain⟨rfl,rfl⟩:=u2;refine RI (QY ?_);show wpOps P _ _ [0,1] a Ω.w;refine cz (o:=⟨some L.m1,.move L.src,ty1,ps1,af1,none⟩) rfl rfl (aq (v:=.map (some bm)) (w':=Ω.w) (by simp[execOp,hsv]) ?_);have hsz:=hh.size;have hm1:(a.put (some L.m1) (.map (some bm))).eval (.tmp L.m1)=.map (some bm):=by show(a.put (some L.m1) (.map (some bm))).tmps.getD L.m1 undef=_;rw[cH hsz d1,O3 rfl]
      refine cz (o:=⟨some L.it,.range L.t (.tmp L.m1),ty2,ps2,af2,none⟩) rfl rfl (aq (v:=.pointer (some ⟨Ω.w.heap.size,0,none⟩)) (w':=Ω.w.alloc (.mapIter (some bm) clock #[] clock)) (by simp[execOp,hm1,run_range_map Ω.w _ _ _ bm es clock u1 g3]) ?_);show(Code.block bx _).wp P _ _ _;refine wp_block ?_
      have hT0:∀k,(if L.wr.contains k=true then AV.undef else aZ s.t k)=.undef∨(if L.wr.contains k=true then AV.undef else aZ s.t k)=bz (bz s.abs.T (some L.m1) .undef) (some L.it) .undef k:=by
       intro k;by_cases hk:L.wr.contains k=true
       ·left;rw[O3 hk]
       ·right;simp only[KL.wr,OZ,O7,Pz,Rf,O1,Ry]at hk;rw[O0 (by simp[KL.wr];exact hk)];simp only[bz];rw[O0 (RP hk.2.1),O0 (RP hk.1)];rfl
      have hB0:(fun k=>if j=k then some (SObj.map .str (.int .i64) d0)else aj s.b k)=s.abs.B:=by
       funext k;by_cases hjk:j=k
       ·subst hjk;rw[O3 rfl];exact hbj.symm
       ·rw[O0 hjk];rfl
      have hK0:KInv F L s i j bm Ω.w.heap.size es clock d0 #[] ((a.put (some L.m1) (.map (some bm))).put (some L.it) (.pointer (some ⟨Ω.w.heap.size,0,none⟩))) ⟨Ω.e,Ω.w.alloc (.mapIter (some bm) clock #[] clock),Ω.pub⟩ d0:=by
       have hp1:=hh.pure (dst:=some L.m1) (val:=.undef) (v:=.map (some bm)) (.undef _) (fun d e=>by cases e;exact d1);have hp2:=hp1.pure (dst:=some L.it) (val:=.undef) (v:=.pointer (some ⟨Ω.w.heap.size,0,none⟩)) (.undef _) (fun d e=>by cases e;exact d2);have nopub:∀o,¬Ω.pub Ω.w.heap.size o:=fun o hp=>by obtain⟨v,hv⟩:=hh.pubok _ o hp;have:=aC hv;omega
       have noocc:∀id c o,Ω.e id=some c->¬occ c Ω.w.heap.size o:=fun id c o hc ho=>by have:=hh.blk hc ho;omega
       have hbm:=aI g3;refine⟨?_,?_,⟨clock,Od _,heap_alloc_new _ _⟩,by rw[<-g3];exact heap_alloc_old _ _ hbm,hh.frame.size,nopub,noocc,hei,hij,fun k ⟨e,_,_,he⟩=>by simp at he,fun k _=>rfl⟩
       ·rw[hB0];exact(hp2.weak (s':=⟨fun k=>if L.wr.contains k then .undef else aZ s.t k,s.abs.B⟩) hT0 rfl).aside (r:=Ω.w.heap.size) rfl rfl rfl (by show _<=(Ω.w.heap.push _).size;simp) (fun b hb _=>heap_alloc_old _ _ hb) hh.frame.size nopub noocc
       ·rw[cH (by simp[Act.put,hsz]) d2,O3 rfl]
      generalize Ω.w.heap.size=r at hK0⊢;refine wp_loop_ghost (fun n a w=>∃seen d Ω,Ω.w=w/\KInv F L s i j bm r es clock d0 seen a Ω d/\(leftOf es seen).size=n) _ ⟨_,_,_,rfl,hK0,rfl⟩ ?_;intro n a1 w1 hI;obtain⟨seen,d,Ω1,rfl,hK,rfl⟩:=hI;obtain⟨c0,hc0,hit⟩:=hK.iter;have hz1:=hK.hh.size;obtain⟨rb,k1,_,es',clock',k3,k4⟩:=hK.hh.slots i (.map .str τ m) (by simp only[O0 (RP hij)];exact hbi);rw[hK.ei]at k1;cases k1;rw[hK.map]at k3;cases k3;have hold:∀e∈es.toList,e.born<clock:=fun e he=>by obtain⟨q,hq⟩:=PV he;exact k4.born q e (by rw[<-Oh];exact hq)
      have weakT:∀{a':Act} {Ω':Om} {T:Nat->AV} {dst:Option Nat},(∀d,dst=some d->L.wr.contains d=true)->Holds F ⟨bz (fun k=>if L.wr.contains k then .undef else aZ s.t k) dst .undef,fun k=>if j=k then some (.map .str (.int .i64) d)else aj s.b k⟩ a' Ω'->
        Holds F ⟨fun k=>if L.wr.contains k then .undef else aZ s.t k,fun k=>if j=k then some (.map .str (.int .i64) d)else aj s.b k⟩ a' Ω':=by
       intro a' Ω' T dst hd hh';refine hh'.weak (fun k=>?_) rfl
       cases dst with
       |none=>exact .inr rfl
       |some d'=>
        by_cases hk:d'=k
        ·subst hk;left;show(if _ then _ else _)=_;rw[O3 (hd d' rfl)]
        ·right;simp only[bz,O0 hk]
      have w_nx:L.wr.contains L.nx=true:=by simp[KL.wr]
      have w_c:L.wr.contains L.c=true:=by simp[KL.wr]
      have w_en:L.wr.contains L.en=true:=by simp[KL.wr]
      have w_k1:L.wr.contains L.k1=true:=by simp[KL.wr]
      have w_kv:L.wr.contains L.kv=true:=by simp[KL.wr]
      have mT:∀{a':Act} {Ω':Om} {t:Nat} (v:Value),L.wr.contains t=true->t<F.n->Holds F ⟨fun k=>if L.wr.contains k then .undef else aZ s.t k,fun k=>if j=k then some (.map .str (.int .i64) d)else aj s.b k⟩ a' Ω'->
        Holds F ⟨fun k=>if L.wr.contains k then .undef else aZ s.t k,fun k=>if j=k then some (.map .str (.int .i64) d)else aj s.b k⟩ (a'.put (some t) v) Ω':=
       fun v ht hl hh'=>weakT (T:=fun _=>.undef) (fun d e=>by cases e;exact ht) (hh'.pure (dst:=some _) (val:=.undef) (v:=v) (.undef _) (fun d e=>by cases e;exact hl))
      have hit':a1.eval (.tmp L.it)=.pointer (some ⟨r,0,none⟩):=hK.it;rcases run_next_at (P:=P) Ω1.w ty3 r bm clock c0 seen es clock hit hK.map hold hc0 with⟨h0,hrun⟩|⟨e,he,w2,hw2,hrun⟩
      ·refine RI (QY ?_);show wpOps P _ _ [0,1] a1 Ω1.w;refine cz (o:=⟨some L.nx,.next (.tmp L.it) false,ty3,ps3,af3,none⟩) rfl rfl (aq (v:=.tuple #[.bool false]) (w':=Ω1.w) (by simp[execOp,hit',hrun]) ?_);have hnx:(a1.put (some L.nx) (.tuple #[.bool false])).eval (.tmp L.nx)=.tuple #[.bool false]:=by show(a1.put (some L.nx) _).tmps.getD L.nx undef=_;rw[cH hz1 d3,O3 rfl]
       refine cz (o:=⟨some L.c,.extract (.tmp L.nx) 0,ty4,ps4,af4,none⟩) rfl rfl (aq (v:=.bool false) (w':=Ω1.w) (by simp[execOp,hnx,Instr.extract]) ?_);have h1:=mT (.tuple #[.bool false]) w_nx d3 hK.hh;have h2:=mT (.bool false) w_c d4 h1;refine RI (wp_cond (t:=false) (by show(Act.put _ (some L.c) _).tmps.getD L.c undef=_;rw[cH h1.size d4,O3 rfl]) (wp_exit ?_));simp only[Exit.then,Exit.inBlock,P1];obtain⟨q1,q2,q3⟩:=hK.done hbi h0 h2;exact⟨trivial,_,Ω1,rfl,q1,h d q2 q3⟩
      ·refine RI (QY ?_);show wpOps P _ _ [0,1] a1 Ω1.w;refine cz (o:=⟨some L.nx,.next (.tmp L.it) false,ty3,ps3,af3,none⟩) rfl rfl (aq (v:=.tuple #[.bool true,e.key,e.val]) (w':=setBlock w2 r (.mapIter (some bm) clock (seen.push e.born) clock)) (by simp[execOp,hit',hrun]) ?_);have hnx:(a1.put (some L.nx) (.tuple #[.bool true,e.key,e.val])).eval (.tmp L.nx)=.tuple #[.bool true,e.key,e.val]:=by show(a1.put (some L.nx) _).tmps.getD L.nx undef=_;rw[cH hz1 d3,O3 rfl]
       refine cz (o:=⟨some L.c,.extract (.tmp L.nx) 0,ty4,ps4,af4,none⟩) rfl rfl (aq (v:=.bool true) (w':=setBlock w2 r (.mapIter (some bm) clock (seen.push e.born) clock)) (by simp[execOp,hnx,Instr.extract]) ?_);have hlt1:r<Ω1.w.heap.size:=aI hit;have hwh:w2.heap=Ω1.w.heap:=by rcases hw2 with rfl|rfl<;>rfl
       have hoth:∀b,b≠r->(setBlock w2 r (.mapIter (some bm) clock (seen.push e.born) clock)).heap[b]?=Ω1.w.heap[b]?:=by intro b hb;show(w2.heap.setIfInBounds r _)[b]?=_;rw[hwh,R7 (RP hb)]
       have hrr:(setBlock w2 r (.mapIter (some bm) clock (seen.push e.born) clock)).heap[r]?=some (.mapIter (some bm) clock (seen.push e.born) clock):=by show(w2.heap.setIfInBounds r _)[r]?=_;rw[hwh];simp[hlt1]
       have hA:=hK.hh.aside (r:=r) (w':=setBlock w2 r (.mapIter (some bm) clock (seen.push e.born) clock)) (by rcases hw2 with rfl|rfl<;>rfl) (by rcases hw2 with rfl|rfl<;>rfl) (by rcases hw2 with rfl|rfl<;>rfl)
        (by show _<=(w2.heap.setIfInBounds r _).size;rw[hwh];simp) (fun b _ hb=>hoth b hb) hK.own hK.np hK.no
       have h1:=mT (.tuple #[.bool true,e.key,e.val]) w_nx d3 hA;have h2:=mT (.bool true) w_c d4 h1;refine RI (wp_cond (t:=true) (by show(Act.put _ (some L.c) _).tmps.getD L.c undef=_;rw[cH h1.size d4,O3 rfl]) (wp_skip ?_));refine wp_block (RI (QY ?_));have hes:e∈es.toList:=by unfold leftOf at he;simp only[Q0,OO]at he;exact he.1
       obtain⟨q,hq⟩:=PV hes;rw[Oh]at hq;have hql:q<m.length:=by rw[<-k4.size];exact(OB.1 hq).1
       have hkv:V Ω1 (.str m[q].1) e.key:=(k4.ent q e m[q] hq (NY hql)).1;have hks:=(V.str_inv hkv).1;have hbn:(es.toList.map (·.born)).Nodup:=by rw[PA,Q5,Pb];intro u v hu hv huv;have:=k4.rise u v es.toList[u] es.toList[v] (by rw[<-Oh];exact NY hu) (by rw[<-Oh];exact NY hv) huv;omega
       have hbm3:=hoth bm (fun e=>by subst e;exact hK.no i _ 0 hK.ei rfl);have hen:=run_entry_at (P:=P) _ r bm clock seen es clock e hrr (hbm3.trans hK.map) hes hbn;show wpOps P _ _ [0,1,2] _ _;have hit2:((a1.put (some L.nx) (.tuple #[.bool true,e.key,e.val])).put (some L.c) (.bool true)).eval (.tmp L.it)=.pointer (some ⟨r,0,none⟩):=by show(Act.put _ (some L.c) _).tmps.getD L.it undef=_;rw[cH h1.size d4,O0 hne.2.1,cH hz1 d3,O0 hne.1];exact hK.it
       refine cz (o:=⟨some L.en,.entry (.tmp L.it),ty5,ps5,af5,none⟩) rfl rfl (aq (v:=.tuple #[e.key,e.val]) (w':=setBlock w2 r (.mapIter (some bm) clock (seen.push e.born) clock)) (by simp[execOp,hit2,hen]) ?_);have h3:=mT (.tuple #[e.key,e.val]) w_en d5 h2;refine cz (o:=⟨some L.k1,.extract (.tmp L.en) 0,ty6,ps6,af6,none⟩) rfl rfl (aq (v:=e.key) (w':=setBlock w2 r (.mapIter (some bm) clock (seen.push e.born) clock)) ?_ ?_)
       ·have:(Act.put ((a1.put (some L.nx) (.tuple #[.bool true,e.key,e.val])).put (some L.c) (.bool true)) (some L.en) (.tuple #[e.key,e.val])).eval (.tmp L.en)=.tuple #[e.key,e.val]:=by show(Act.put _ (some L.en) _).tmps.getD L.en undef=_;rw[cH h2.size d5,O3 rfl]
        simp[execOp,this,Instr.extract]
       have h4:=mT e.key w_k1 d6 h3;refine cz (o:=⟨some L.kv,.assign (.tmp L.k1),ty7,ps7,af7,none⟩) rfl rfl (aq (v:=e.key) (w':=setBlock w2 r (.mapIter (some bm) clock (seen.push e.born) clock)) ?_ ?_)
       ·have:(Act.put (Act.put ((a1.put (some L.nx) (.tuple #[.bool true,e.key,e.val])).put (some L.c) (.bool true)) (some L.en) (.tuple #[e.key,e.val])) (some L.k1) e.key).eval (.tmp L.k1)=e.key:=by show(Act.put _ (some L.k1) _).tmps.getD L.k1 undef=_;rw[cH h3.size d6,O3 rfl]
        simp[execOp,this]
       have h5:=mT e.key w_kv d7 h4;generalize ha5:Act.put (Act.put (Act.put ((a1.put (some L.nx) (.tuple #[.bool true,e.key,e.val])).put (some L.c) (.bool true)) (some L.en) (.tuple #[e.key,e.val])) (some L.k1) e.key) (some L.kv) e.key=a5 at h5;have hkv5:a5.tmps.getD L.kv undef=e.key:=by rw[<-ha5,cH h4.size d7,O3 rfl]
       have hit5:a5.tmps.getD L.it undef=.pointer (some ⟨r,0,none⟩):=by rw[<-ha5,cH h4.size d7,O0 hne.2.2.2.2.1,cH h3.size d6,O0 hne.2.2.2.1,cH h2.size d5,O0 hne.2.2.1];exact hit2
       have hdst5:=h5.tmps L.dst;simp only[O0 hnd,hdst]at hdst5;show Code.wp P (.region i4 _ false) _ a5 _;refine QY ?_;show wpOps P _ _ [0,1,2] a5 _;generalize hdv:a5.tmps.getD L.dst undef=dv at hdst5;have hdv':a5.eval (.tmp L.dst)=dv:=hdv;refine cz (o:=⟨some L.d1,.move (.tmp L.dst),ty8,ps8,af8,none⟩) rfl rfl (aq (v:=dv) (w':=setBlock w2 r (.mapIter (some bm) clock (seen.push e.born) clock)) (by simp[execOp,hdv']) ?_);have hk2:(a5.put (some L.d1) dv).eval (.tmp L.kv)=e.key:=by show(a5.put (some L.d1) dv).tmps.getD L.kv undef=_;rw[cH h5.size d8,O0 hne.2.2.2.2.2.2.2.1];exact hkv5
       refine cz (o:=⟨some L.k2,.move (.tmp L.kv),ty9,ps9,af9,none⟩) rfl rfl (aq (v:=e.key) (w':=setBlock w2 r (.mapIter (some bm) clock (seen.push e.born) clock)) (by simp[execOp,hk2]) ?_);have hkv3:V ⟨Ω1.e,setBlock w2 r (.mapIter (some bm) clock (seen.push e.born) clock),Ω1.pub⟩ (.str m[q].1) e.key:=by rw[hks];exact .str _ (V.str_inv hkv).2
       have h6a:=h5.pure (dst:=some L.d1) (val:=.map j) (v:=dv) hdst5 (fun d e=>by cases e;exact d8);have h6:=h6a.pure (dst:=some L.k2) (val:=.str m[q].1) (v:=e.key) hkv3 (fun d e=>by cases e;exact d9);have hTd1:bz (bz (fun k=>if L.wr.contains k then AV.undef else aZ s.t k) (some L.d1) (.map j)) (some L.k2) (.str m[q].1) L.d1=.map j:=by simp only[bz];rw[O0 (RP hne.2.2.2.2.2.2.2.2),O3 trivial]
       refine cz (o:=⟨none,.mapUpdate L.t2 (.tmp L.d1) (.tmp L.k2) (.const (.int .i64 L.n)),ty10,ps10,af10,none⟩) rfl rfl ?_;refine sL hT (.inl rfl) h6 (fun d e=>by cases e) (eff:=⟨none,.undef,[(j,.map .str (.int .i64) (bP d m[q].1 L.n))]⟩) ?_ (fun a' Ω' hh' ha' hheap he' hpub'=>?_)
       ·simp only[au,ko,opd,hTd1,ht2,hrk,P1];have:bz (bz (fun k=>if L.wr.contains k then AV.undef else aZ s.t k) (some L.d1) (.map j)) (some L.k2) (.str m[q].1) L.k2=.str m[q].1:=by simp only[bz,P1]
        rw[this];simp[oh,cm,hrng,arg,r6,asInt,gL,hko]
       ·cases hdst5 with
        |map _ rj hej=>
         have hej1:Ω1.e j=some (.obj rj):=hej;have hhp:=hheap j hTd1 rj hej;have hrj:r≠rj:=fun e=>hK.no j _ 0 hej1 e;have hbj':bm≠rj:=fun e=>hij (hK.hh.inj i j _ _ bm 0 hK.ei hej1 rfl e)
         refine⟨_,wc he,seen.push e.born,bP d m[q].1 L.n,Ω',rfl,⟨?_,?_,⟨clock,Od _,(hhp r hrj).trans hrr⟩,(hhp bm hbj').trans (hbm3.trans hK.map),hK.own,fun o hp=>hK.np o ((hpub' r o).1 hp),
          fun id c o hc=>hK.no id c o (by rw[<-he' id];exact hc),by rw[he' i];exact hK.ei,hij,fun k' hex=>?_,fun k' hex=>?_⟩,rfl⟩
         ·refine hh'.weak (fun k'=>?_) ?_
          ·by_cases hk:L.wr.contains k'=true
           ·left;exact O3 hk
           ·right;have n1:L.d1≠k':=fun e=>hk (by rw[<-e];simp[KL.wr]);have n2:L.k2≠k':=fun e=>hk (by rw[<-e];simp[KL.wr]);show _=bz (bz (fun k=>if L.wr.contains k then AV.undef else aZ s.t k) (some L.d1) (.map j)) (some L.k2) (.str m[q].1) k';simp only[bz,O0 n1,O0 n2]
          ·funext k';show(if j=k' then _ else _)=(if j=k' then _ else(if j=k' then _ else _));by_cases hk:j=k'
           ·rw[O3 hk,O3 hk]
           ·rw[O0 hk,O0 hk,O0 hk]
         ·rw[ha'];show(Act.put _ (some L.k2) _).tmps.getD L.it undef=_;rw[cH h6a.size d9,O0 hne.2.2.2.2.2.2.1,cH h5.size d8,O0 hne.2.2.2.2.2.1];exact hit5
         ·rw[pM];by_cases hkk:k'=m[q].1
          ·rw[O3 hkk]
          ·rw[O0 hkk];obtain⟨f,hf1,hf2,hf3⟩:=hex;rw[Rp,OS]at hf3;have nb:f.born≠e.born:=by intro hb;have q1:=find_born f es.toList hbn hf1;have q2:=find_born e es.toList hbn hes;rw[hb,q2]at q1;cases q1;rw[hks]at hf2;simp at hf2;exact hkk hf2.symm
           refine hK.yes k' ⟨f,hf1,hf2,?_⟩;rcases hf3 with h|h
           ·first|exact h|exact absurd (by simpa using h) nb
           ·first|exact h|exact absurd (by simpa using h) nb
         ·rw[pM];have hkk:k'≠m[q].1:=by intro hkk;exact hex ⟨e,hes,by rw[hkk];exact hks,by simp⟩
          rw[O0 hkk];refine hK.not k' (fun⟨f,hf1,hf2,hf3⟩=>hex ⟨f,hf1,hf2,?_⟩);rw[Rp,OS]
          first|exact .inl hf3|exact .inr hf3
    ·exact h.elim
   ·exact h.elim
  ·exact h.elim
 ·exact h.elim
end
end Go.AL
end
noncomputable section
namespace Go.AL
variable [Tabs]
section
variable {P:Program} {C:Cfg} {ops:Array Oper} {Q:Exit->Act->World->Prop} {F:Fr}
theorem IG{p:Nat->Prop}(n:Nat)(h:p n):∃m,p m/\∀k,k<m->¬p k:=by
 induction n using Nat.strongRecOn with
 |ind n ih=>
  by_cases q:∃k,k<n/\p k
  ·obtain⟨k,h1,h2⟩:=q;exact ih k h1 h2
  ·exact⟨n,h,fun k hk hp=>q ⟨k,hk,hp⟩⟩
theorem FY{Ω:Om}{F:Fr}{s:AS}{a:Act}(h:Holds F s a Ω):Holds F ⟨fun _=>.undef,s.B⟩ a Ω:=⟨fun _=>.undef _,h.size,h.defers,h.slots,h.dom,h.inj,h.pubok,h.keep,h.frame⟩
theorem kG.back{C:Cfg}{ops:List Oper}{fs:Nat->bN}{oj:Oper}{e:Eff}{pv:AV}{u:List (Nat×SObj)}{N A:List Nat}{sE:AS}(hn:aF C oj sE.T sE.B=N)
 (hg:gC ops oj sE.T=some true)(he:au C oj sE.T sE.B=some e)(hp:cn C oj sE.T sE.B=some (true,pv,u)) :
  ∀(R:List Nat)(s:AS),kG C ops fs R s sE->(∀k∈R,(∀x∈(fs k).2,x∈A/\x∉N)/\∀o,ops[k]?=some o->∀d,o.dst=some d->d∉dP ops oj)->
   (∀i,i∉A->s.B i=sE.B i)/\gC ops oj s.T=some true/\au C oj s.T s.B=some e/\cn C oj s.T s.B=some (true,pv,u)/\aF C oj s.T s.B=N
 |[],s,h,_=>by have h:s=sE:=h;subst h;exact⟨fun _ _=>rfl,hg,he,hp,hn⟩
 |k::r,s,h,ha=>by
  obtain⟨o,s1,ho,hs,hr⟩:=h;obtain⟨b1,g1,e1,p1,n1⟩:=kG.back hn hg he hp r s1 hr (fun x hx=>ha x (by simp[hx]));obtain⟨a1,a2⟩:=ha k (by simp);obtain⟨v,u',_,rfl,hu⟩:=hs.eff;rw[hu]at a1;have hT:∀t∈dP ops oj,(bz s.T o.dst v) t=s.T t:=fun t ht=>mA (fun hd=>a2 o ho t hd ht)
  obtain⟨l1,l2,l3⟩:=pI C oj (bz s.T o.dst v) s.T (bB s.B u') s.B (pJ fun t ht=>hT t (by simp[dP,ht]))
   (fun id hid=>gp u' _ id fun hm=>(a1 id hm).2 (by rw[<-n1];exact hid)) e1
  exact⟨fun i hi=>(gp u' s.B i fun hm=>hi (a1 i hm).1).symm.trans (b1 i hi),by rw[<-nA hT];exact g1,l2,by rw[<-l3];exact p1,by rw[<-l1];exact n1⟩
theorem FZ(hT:aR P C.tbl)(hS:bJ P C.spec)(hdst:∀(o:Oper),o∈ops.toList->∀d,o.dst=some d->d<F.n)
 {fs:Nat->bN}{sE:AS}{j:Nat}{oj:Oper}{e:Eff}{pv:AV}{u:List (Nat×SObj)}{D:Nat->Prop}{A:List Nat}(hj:ops.toList[j]?=some oj)
 (hg:gC ops.toList oj sE.T=some true)(heff:au C oj sE.T sE.B=some e)(hask:e.asks)(hpan:cn C oj sE.T sE.B=some (true,pv,u))
 (he:∀(i:Nat)(o:Oper),ops.toList[i]?=some o->∀e∈o.after.toList,Region.binds .any e=true->e.on<i)
 (hDj:D j)(hD:∀i,D i->i≠j->j∈(bZ ops.toList).getD i [])
 (hQ:∀a' Ω' v B,(∀i,i∉A->B i=sE.B i)->Holds F ⟨fun _=>.undef,bB B u⟩ a' Ω'->V Ω' pv v->Q (.panic [{v,recovered:=false}]) a' Ω'.w) :
  ∀(m:Nat)(R:List Nat)(fuel:Nat)(listed:Array Bool)(s:AS)(a:Act)(Ω:Om),R.length=m->m<fuel->listed.size=ops.size->
   (∀i,i<ops.size->(listed.getD i true=false↔i∈R∨D i))->R.Pairwise (·<·)->(∀i∈R,i<ops.size/\¬D i)->
   (∀i∈R,∀k∈R,i<k->i∈(bZ ops.toList).getD k []∨EV ops.toList fs i k)->
   (∀i∈R,i∈(bZ ops.toList).getD j []∨((∀x∈(fs i).2,x∈A/\x∉aF C oj sE.T sE.B)/\∀o,ops.toList[i]?=some o->∀d,o.dst=some d->d∉dP ops.toList oj))->
   (∀(i:Nat)(o:Oper),ops.toList[i]?=some o->listed.getD i true=true->∀e∈o.after.toList,Region.binds .any e=true->listed.getD e.on true=true)->
   kG C ops.toList fs R s sE->Holds F s a Ω->wpAny P .any ops Q fuel listed a Ω.w:=by
 have hjlt:j<ops.size:=by
  rw[Oh]at hj;rcases O5 j ops.size with k|k
  ·exact k
  ·rw[OM k]at hj;cases hj
 have Rt:∀{listed:Array Bool} {i:Nat},i∈Region.ready .any ops listed↔
   i<ops.size/\listed.getD i true=false/\∃o,ops[i]?=some o/\∀e∈o.after.toList,Region.binds .any e=true->listed.getD e.on false=true:=sX
 have two:∀{listed:Array Bool} {i:Nat},listed.size=ops.size->i<ops.size->listed.getD i true=listed.getD i false:=by intro listed i hs hi';simp[Oo,hs,hi']
 intro m
 induction m using Nat.strongRecOn with
 |ind m ih=>
  intro R fuel listed s a Ω hlen hfuel hs hl hp hlt hap hjr hdc hrun h;obtain⟨fuel,rfl⟩:∃f,fuel=f+1:=⟨fuel-1,by omega⟩
  have some_ready:Region.ready .any ops listed≠[]:=by
   intro hr;obtain⟨k0,this,hmin⟩:=IG (p:=fun k=>k<ops.size/\listed.getD k true=false) j ⟨hjlt,(hl j hjlt).2 (.inr hDj)⟩
   have hm:k0∈Region.ready .any ops listed:=by
    refine Rt.2 ⟨this.1,this.2,ops[k0]'this.1,Oz this.1,fun e' hem hb0=>?_⟩;have hon:=he k0 _ (by rw[Oh];exact Oz this.1) e' hem hb0;have hlt':=R4 hon this.1;rw[<-two hs hlt']
    cases hb:listed.getD e'.on true with|true=>rfl|false=>exact absurd ⟨hlt',hb⟩ (hmin _ hon)
   rw[hr]at hm;cases hm
  refine⟨fun hr=>absurd hr some_ready,fun i hir=>?_⟩;obtain⟨h1,h2,o,ho,h3⟩:=Rt.1 hir;have ho':ops.toList[i]?=some o:=by rw[Oh];exact ho
  have hpre:∀e∈o.after.toList,Region.binds .any e=true->listed.getD e.on true=true:=by intro e' hem hb;have hon:=he i o ho' e' hem hb;rw[two hs (by omega)];exact h3 e' hem hb
  have hal:=kJ (l:=ops.toList) he (L:=fun k=>listed.getD k true=true) hdc (i+1) i o (by omega) ho' hpre;rcases(hl i h1).1 h2 with hiR|hiD
  case inr=>
   by_cases hij:i=j
   ·subst hij;rw[hj]at ho';cases ho'
    obtain⟨b1,g1,e1,p1,_⟩:=kG.back rfl hg heff hpan R s hrun (fun k hk=>by
     rcases hjr k hk with q|q
     ·have:=hal k q;have:=(hl k (hlt k hk).1).2 (.inl hk);simp_all
     ·exact q)
    have hgate:=lE (ops:=ops) (o:=oj) h;unfold wpOp;rw[ho];simp only[hgate true g1,P1];refine Or.inl (IC hT hS oj F s a Ω e _ Q h (hdst oj (Ot hj)) e1 hask ?_);rw[p1];refine⟨fun hb=>(by cases hb),fun _ Ω' v h' hv=>?_⟩;exact hQ a Ω' v s.B b1 (FY h') hv
   ·have:=hal j (hD i hiD hij);have:=(hl j hjlt).2 (.inr hDj);simp_all
  obtain⟨r1,r2,hR⟩:=List.append_of_mem hiR;subst hR;have hp':=PU.1 hp
  have hfront:=kG.front r1 i r2 s sE hrun (fun k hk=>by
   have hki:k<i:=hp'.2.2 k hk i (by simp);rcases hap k (by simp[hk]) i (by simp) hki with q|q
   ·have:=hal k q;have:=(hl k (hlt k (by simp[hk])).1).2 (.inl (by simp[hk]));simp_all
   ·exact q)
  obtain⟨o',s1,ho1,hstep,hrest⟩:=hfront;have hoo:o'=o:=by rw[ho']at ho1;simpa using ho1.symm
  subst hoo;refine sS hT hS ho (hdst o' (Ot ho')) h hstep (fun a' Ω' h'=>?_)
  have hnd:i∉r1/\i∉r2:=by
   refine⟨fun hm=>?_,fun hm=>?_⟩
   ·have:=hp'.2.2 i hm i (by simp);omega
   ·have:=(Pm.1 hp'.2.1).1 i hm;omega
  have sub:∀k,k∈r1++r2->k∈r1++i::r2:=fun k hk=>by simp at hk⊢;rcases hk with hk|hk<;>simp[hk]
  refine ih (r1++r2).length (by simp at hlen⊢;omega) (r1++r2) fuel (listed.setIfInBounds i true) s1 a' Ω' rfl (by simp at hlen⊢;omega) (by simpa using hs) (fun k hk=>?_) ?_ (fun k hk=>hlt k (sub k hk))
   (fun x hx y hy=>hap x (sub x hx) y (sub y hy)) (fun k hk=>hjr k (sub k hk)) (fun k ok hok hkl e' hem hb=>?_) hrest h'
  ·by_cases hik:i=k
   ·subst hik;have hnD:=(hlt i hiR).2;simp[Oo,hs,h1,hnd.1,hnd.2,hnD]
   ·have:(listed.setIfInBounds i true).getD k true=listed.getD k true:=by simp[Oo,hik]
    rw[this,hl k hk];have:¬k=i:=fun e=>hik e.symm;simp[this]
  ·exact PU.2 ⟨hp'.1,(Pm.1 hp'.2.1).2,fun x hx y hy=>hp'.2.2 x hx y (by simp[hy])⟩
  ·have key:∀m,listed.getD m true=true->(listed.setIfInBounds i true).getD m true=true:=by
    intro m hm;by_cases him:i=m
    ·subst him;simp[Oo,hs,h1]
    ·have:(listed.setIfInBounds i true).getD m true=listed.getD m true:=by simp[Oo,him]
     rw[this,hm]
   by_cases hik:i=k
   ·subst hik;rw[ho']at hok;simp at hok;subst hok;exact key _ (hpre e' hem hb)
   ·have:(listed.setIfInBounds i true).getD k true=listed.getD k true:=by simp[Oo,hik]
    rw[this]at hkl;exact key _ (hdc k ok hok hkl e' hem hb)
theorem kG.fwd{C:Cfg}{ops:List Oper}{fs:Nat->bN}{oj:Oper}{e:Eff}{pv:AV}{u:List (Nat×SObj)}{N A:List Nat} :
  ∀(R:List Nat)(s sE:AS),kG C ops fs R s sE->aF C oj s.T s.B=N->(∀k∈R,(∀x∈(fs k).2,x∈A/\x∉N)/\∀o,ops[k]?=some o->∀d,o.dst=some d->d∉dP ops oj)->
   gC ops oj s.T=some true->au C oj s.T s.B=some e->cn C oj s.T s.B=some (true,pv,u)->
   (∀i,i∉A->sE.B i=s.B i)/\gC ops oj sE.T=some true/\au C oj sE.T sE.B=some e/\cn C oj sE.T sE.B=some (true,pv,u)/\aF C oj sE.T sE.B=N
 |[],s,sE,h,hn,_,hg,he,hp=>by have h:s=sE:=h;subst h;exact⟨fun _ _=>rfl,hg,he,hp,hn⟩
 |k::r,s,sE,h,hn,ha,hg,he,hp=>by
  obtain⟨o,s1,ho,hs,hr⟩:=h;obtain⟨a1,a2⟩:=ha k (by simp);obtain⟨v,u',_,rfl,hu⟩:=hs.eff;rw[hu]at a1;have hT:∀t∈dP ops oj,s.T t=(bz s.T o.dst v) t:=fun t ht=>(mA (fun hd=>a2 o ho t hd ht)).symm
  obtain⟨l1,l2,l3⟩:=pI C oj s.T (bz s.T o.dst v) s.B (bB s.B u') (pJ fun t ht=>hT t (by simp[dP,ht]))
   (fun id hid=>(gp u' _ id fun hm=>(a1 id hm).2 (by rw[<-hn];exact hid)).symm) he
  have g2:gC ops oj (bz s.T o.dst v)=some true:=by rw[<-nA hT];exact hg
  have p2:cn C oj (bz s.T o.dst v) (bB s.B u')=some (true,pv,u):=by rw[<-l3];exact hp
  obtain⟨b1,q⟩:=kG.fwd r ⟨bz s.T o.dst v,bB s.B u'⟩ sE hr (by rw[<-hn];exact l1.symm) (fun x hx=>ha x (by simp[hx])) g2 l2 p2;exact⟨fun i hi=>(b1 i hi).trans (gp u' s.B i fun hm=>hi (a1 i hm).1),q⟩
def jZ(C:Cfg)(ops:List Oper):List (Nat×bN)->AS->AS->Prop
 |[],s,s'=>s=s'
 |(i,f)::r,s,s'=>∃o s1,ops[i]?=some o/\pG C ops o s s1 f/\jZ C ops r s1 s'
theorem jZ.app{C:Cfg}{ops:List Oper}:∀{l m:List (Nat×bN)} {s t u:AS},jZ C ops l s t->jZ C ops m t u->jZ C ops (l++m) s u
 |[],m,s,t,u,h,k=>by have h:s=t:=h;subst h;exact k
 |(i,f)::l,m,s,t,u,⟨o,s1,h1,h2,h3⟩,k=>⟨o,s1,h1,h2,jZ.app h3 k⟩
theorem jZ.toI{C:Cfg}{ops:List Oper}{fs:Nat->bN}:∀{l:List (Nat×bN)} {s t:AS},jZ C ops l s t->(∀x∈l,fs x.1=x.2)->kG C ops fs (l.map (·.1)) s t
 |[],s,t,h,_=>h
 |(i,f)::l,s,t,⟨o,s1,h1,h2,h3⟩,k=>⟨o,s1,h1,by rw[k (i,f) (by simp)];exact h2,jZ.toI h3 fun x hx=>k x (by simp[hx])⟩
theorem zH{C:Cfg}{ops:List Oper}:∀(l:List Oper)(i:Nat)(s t:AS)(fl:List bN),(∀k o,l[k]?=some o->ops[i+k]?=some o)->nz C ops l s fl t->jZ C ops (bQ i fl) s t/\fl.length=l.length
 |[],i,s,t,fl,_,⟨h1,h2⟩=>by subst h2;exact⟨h1,rfl⟩
 |o::r,i,s,t,fl,hl,⟨s1,f,fs',h1,h2,h3⟩=>by subst h3;obtain⟨k1,k2⟩:=zH r (i+1) s1 t fs' (fun k o' hk=>by have:=hl (k+1) o' (by simpa using hk);rw[show i+1+k=i+(k+1) by omega];exact this) h2;exact⟨⟨o,s1,by have:=hl 0 o rfl;simpa using this,h1,k1⟩,by simp[k2]⟩
theorem tc:∀(i:Nat)(l m:List bN),bQ i (l++m)=bQ i l++bQ (i+l.length) m
 |i,[],m=>by simp[bQ]
 |i,f::l,m=>by simp only[OQ,bQ,tc (i+1) l m,O8];rw[show i+1+l.length=i+(l.length+1) by omega]
theorem td:∀(i:Nat)(l:List bN),(∀x∈bQ i l,i<=x.1/\x.1<i+l.length)/\(bQ i l).Pairwise (fun x y=>x.1<y.1)/\∀k,i<=k->k<i+l.length->∃f,(k,f)∈bQ i l
 |i,[]=>⟨by simp[bQ],by simp[bQ],by simp;omega⟩
 |i,f::l=>by
  obtain⟨h1,h2,h3⟩:=td (i+1) l;refine⟨fun x hx=>?_,?_,fun k hk hk'=>?_⟩
  ·simp only[bQ,O7]at hx;rcases hx with rfl|hx
   ·simp
   ·have:=h1 x hx;simp;omega
  ·exact Pm.2 ⟨fun x hx=>by have:=h1 x hx;simp;omega,h2⟩
  ·by_cases e:k=i
   ·subst e;exact⟨f,by simp[bQ]⟩
   ·obtain⟨g,hg⟩:=h3 k (by omega) (by simp at hk';omega);exact⟨g,by simp[bQ,hg]⟩
theorem nB:∀{l:List (Nat×bN)},l.Pairwise (fun x y=>x.1<y.1)->∀x∈l,jH l x.1=x.2
 |[],_,x,h=>by cases h
 |(i,f)::l,hp,x,h=>by
  obtain⟨h1,h2⟩:=Pm.1 hp;rcases O7.1 h with rfl|h
  ·simp[jH]
  ·have:=h1 x h;simp only at this;simp only[jH];rw[O0 (by simp;omega)];exact nB h2 x h
theorem lK{C:Cfg}{ops:List Oper}{j:Nat}{k:List (Nat×bN)->Prop}:∀(l:List Oper)(i:Nat)(s:St)(fl:List (Nat×bN)),(∀n o,l[n]?=some o->ops[i+n]?=some o)->ml C ops j l i s fl k->
  ∃ext s',jZ C ops ext s.abs s'/\k (fl++ext)/\(∀x∈ext,i<=x.1)/\ext.Pairwise (fun x y=>x.1<y.1)
 |[],i,s,fl,_,h=>⟨[],s.abs,rfl,by simpa[ml]using h,by simp,List.Pairwise.nil⟩
 |o::r,i,s,fl,hl,h=>by
  have hl':∀n o',r[n]?=some o'->ops[i+1+n]?=some o':=fun n o' hn=>by have:=hl (n+1) o' (by simpa using hn);rw[show i+1+n=i+(n+1) by omega];exact this
  simp only[ml]at h;split at h
  ·obtain⟨ext,s',h1,h2,h3,h4⟩:=lK r (i+1) s fl hl' h;exact⟨ext,s',h1,h2,fun x hx=>by have:=h3 x hx;omega,h4⟩
  ·rename_i hgd _;split at h
   ·rename_i e he hpn;obtain⟨hask,h⟩:=EU h;obtain⟨ext,s',h1,h2,h3,h4⟩:=lK r (i+1) _ _ hl' h;rw[oH]at h1;refine⟨(i,(aF C o s.abs.T s.abs.B,e.upd.map (·.1)))::ext,s',⟨o,_,by have:=hl 0 o rfl;simpa using this,Or.inl ⟨by simp[gC,hgd],e,he,hask,(fun b pv u q=>?_),rfl,rfl⟩,h1⟩,by simpa[St.abs]using h2,?_,?_⟩
    ·have hpn:cn C o s.abs.T s.abs.B=none:=hpn;rw[hpn]at q;cases q
    ·intro x hx;rcases O7.1 hx with rfl|hx
     ·exact Od _
     ·have:=h3 x hx;omega
    ·exact Pm.2 ⟨fun x hx=>by have:=h3 x hx;simp;omega,h4⟩
   ·exact h.elim
  ·exact h.elim
theorem CR{ops:List Oper}(he:∀(i:Nat)(o:Oper),ops[i]?=some o->∀e∈o.after.toList,Region.binds .any e=true->e.on<i){j:Nat}{oj:Oper}(hj:ops[j]?=some oj){i:Nat}(h:i∈(bZ ops).getD j []):i<j:=
 kJ he (L:=fun k=>k<j) (fun k o ho hk e hem hb=>R4 (he k o ho e hem hb) hk) (j+1) j oj (by omega) hj (fun e hem hb=>he j oj hj e hem hb) i h
theorem jZ.lt{C:Cfg}{ops:Array Oper}:∀{l:List (Nat×bN)} {s t:AS},jZ C ops.toList l s t->∀x∈l,x.1<ops.size
 |[],_,_,_,x,h=>by cases h
 |(i,f)::l,s,t,⟨o,s1,h1,_,h3⟩,x,h=>by
  rcases O7.1 h with rfl|h
  ·rw[Oh]at h1;rcases O5 i ops.size with k|k
   ·exact k
   ·rw[OM k]at h1;cases h1
  ·exact jZ.lt h3 x h
theorem te:∀(l:List Nat)(a n:Nat),l.Pairwise (·<·)->(∀i∈l,a<=i/\i<n)->l.length<=n-a
 |[],_,_,_,_=>by simp
 |i::l,a,n,hp,h=>by obtain⟨h1,h2⟩:=Pm.1 hp;have:=te l (i+1) n h2 (fun k hk=>⟨h1 k hk,(h k (by simp[hk])).2⟩);have:=h i (by simp);simp;omega
theorem jZ.at{C:Cfg}{ops:List Oper}:∀{l:List (Nat×bN)} {s t:AS},jZ C ops l s t->∀x∈l,∃o,ops[x.1]?=some o
 |[],_,_,_,x,h=>by cases h
 |(i,f)::l,s,t,⟨o,s1,h1,_,h3⟩,x,h=>by
  rcases O7.1 h with rfl|h
  ·exact⟨o,h1⟩
  ·exact jZ.at h3 x h
theorem xP{l:List Nat}{n j:Nat}(hp:l.Pairwise (·<·))(h:∀i∈l,i<n/\i≠j)(hj:j<n):l.length<n:=by
 have hp2:l.Pairwise (fun a b=>(if a<j then a else a-1)<(if b<j then b else b-1)):=hp.imp_of_mem fun{a b} ha hb hab=>by have:=(h a ha).2;have:=(h b hb).2;split<;>split<;>omega
 have:=te (l.map fun i=>if i<j then i else i-1) 0 (n-1) (Q5.2 hp2) (fun i hi=>by
  obtain⟨x,hx,rfl⟩:=OC.1 hi;have:=h x hx;split<;>omega)
 rw[P3]at this;omega
theorem G0{ops:List Oper}{j:Nat}{fl:List (Nat×bN)}(h:Mx ops j fl=true) :
  (∀a f,(a,f)∈fl->a≠j->(∀b g,(b,g)∈fl->a<b->a∈(bZ ops).getD b []∨∀x y,ops[a]?=some x->ops[b]?=some y->gi ops x y=true/\dQ f g=true)/\
   ((fw ops).getD a 0).testBit j=false)/\
  (∀b g,(b,g)∈fl->j<b->((fw ops).getD b 0).testBit j=true∨∀x y,ops[j]?=some x->ops[b]?=some y->gi ops x y=true/\dQ (jH fl j) g=true)/\
  (∀(i:Nat)(o:Oper),ops[i]?=some o->∀e∈o.after.toList,Region.binds .any e=true->e.on<i)/\
  ∀k,k<ops.length->k=j∨(∃f,(k,f)∈fl)∨((fw ops).getD k 0).testBit j=true:=by
 have two:∀{a b:Nat} {f g:bN},(match nth ops a,nth ops b with|some x,some y=>gi ops x y&&dQ f g|_,_=>false)=true->∀x y,ops[a]?=some x->ops[b]?=some y->gi ops x y=true/\dQ f g=true:=by intro a b f g h x y hx hy;simp only[jI,hx,hy,NZ]at h;exact h
 simp only[Mx,NZ]at h;obtain⟨⟨⟨h1,h2⟩,h3⟩,h4⟩:=h;rw[O9]at h1 h2 h4;refine⟨fun a f hm hne=>?_,fun b g hm hlt=>?_,fun i o ho e hem hb=>?_,fun k hk=>?_⟩
 ·have:=h1 (a,f) hm;simp only[OS,Pa,NZ,Oa]at this;rcases this with q|⟨q2,q3⟩
  ·exact absurd q hne
  ·refine⟨fun b g hb hlt=>?_,q3⟩;rw[O9]at q2;have:=q2 (b,g) hb;simp only[OS,Oa]at this;rcases this with(q|q)|q
   ·have e:Nat.blt a b=true:=by rw[Qv];exact hlt
    rw[e]at q;cases q
   ·exact .inl ((jy ops).2 _ _ q)
   ·exact .inr (two q)
 ·have:=h2 (b,g) hm;simp only[OS,Oa]at this;rcases this with(q|q)|q
  ·have e:Nat.blt j b=true:=by rw[Qv];exact hlt
   rw[e]at q;cases q
  ·exact .inl q
  ·exact .inr (two q)
 ·rw[O9]at h3;have hm:(o,i)∈ops.zipIdx:=by rw[List.mem_zipIdx_iff_getElem?];exact ho
  have:=h3 (o,i) hm;simp only[R2,OS,Oa,Qv]at this;obtain⟨k,hk,hke⟩:=Qj.1 (Qq.1 hem);have:=this k hk;rw[hke]at this;rcases this with h|h
  ·rw[hb]at h;cases h
  ·exact h
 ·have:=h4 k (Py.2 hk);simp only[OS,Pa,List.any_eq_true]at this;rcases this with(q|⟨x,q1,q2⟩)|q
  ·exact .inl q
  ·exact .inr (.inl ⟨x.2,by rw[<-q2];exact q1⟩)
  ·exact .inr (.inr q)
theorem tg(hT:aR P C.tbl)(hS:bJ P C.spec)
 (hdst:∀(o:Oper),o∈ops.toList->∀d,o.dst=some d->d<F.n){kp:AV->St->Prop}{k:St->List bN->Prop}{s:St}{a:Act}{Ω:Om}
 (hrun:bR C ops.toList true kp ops.toList 0 s [] k)(hind:∀s fs,k s fs->dB ops.toList fs=true)(h:Holds F s.abs a Ω)
 (hQ:∀s fs a' Ω',k s fs->Holds F s.abs a' Ω'->Q .normal a' Ω'.w)(hP:∀pv s a' Ω' v,kp pv s->Holds F s.abs a' Ω'->V Ω' pv v->Q (.panic [{v,recovered:=false}]) a' Ω'.w) :
  wpAny P .any ops Q ops.size (Array.replicate ops.size false) a Ω.w.drew:=by
  rcases sR C ops.toList kp k ops.toList 0 s [] hrun with⟨s',fl,hr0,hk⟩|⟨l1,oj,l2,s1,fs1,e,pv,u,hl,hr1,hg,heff,hask,hpan,hK⟩
  ·simp only[List.reverse_nil,Pn]at hk;obtain⟨h1,h2⟩:=ve (hind s' fl hk);have hr:=qq C ops.toList ops.toList 0 s.abs s'.abs fl (fun k=>fl.getD k ([],[])) rfl hr0 (fun k=>by simp)
   have:=any_sound (Q:=Q) hT hS hdst (fs:=fun k=>fl.getD k ([],[])) h1 (fun j i hij hj=>h2 j i hij (by simpa using hj)) (fun a' Ω' h'=>hQ s' fl a' Ω' hk h') ops.size (List.range' 0 ops.toList.length)
    (Array.replicate ops.size false) s.abs a ⟨Ω.e,Ω.w.drew,Ω.pub⟩ (by simp) (by simp) (fun i hi=>by simp[Oo,hi,List.mem_range'])
    (List.pairwise_lt_range') (fun i hi=>by simp[List.mem_range']at hi;omega)
    (fun i o ho hl=>by
     have hi:i<ops.size:=by
      rw[Oh]at ho;rcases O5 i ops.size with k|k
      ·exact k
      ·rw[OM k]at ho;cases ho
     simp[Oo,hi]at hl) hr h.drew
   exact this
  ·have at0:∀n o,l1[n]?=some o->ops.toList[0+n]?=some o:=fun n o hn=>by rw[hl,P0,Ob (by rcases O5 n l1.length with q|q;exact q;rw[O2 q]at hn;cases hn)];exact hn
   have hj:ops.toList[l1.length]?=some oj:=by rw[hl,Oe (Od _),QO];rfl
   obtain⟨hF1,hlen1⟩:=zH l1 0 s.abs s1.abs fs1 at0 hr1;have at2:∀n o,l2[n]?=some o->ops.toList[0+l1.length+1+n]?=some o:=fun n o hn=>by rw[hl,Oe (by omega),show 0+l1.length+1+n-l1.length=n+1 by omega];simpa using hn
   simp only[xp]at hK;obtain⟨ext,sE,hF2,hB,hx1,hx2⟩:=lK l2 _ s1 _ at2 hK;rw[P0]at hB hx1;have hrev:((aF C oj s1.abs.T s1.abs.B,e.upd.map (·.1))::(fs1.reverse++[])).reverse=fs1++[(aF C oj s1.abs.T s1.abs.B,e.upd.map (·.1))]:=by simp
   rw[hrev,tc]at hB;rw[P0,hlen1]at hB;obtain⟨f0,hf0⟩:∃f0:bN,f0=(aF C oj s1.abs.T s1.abs.B,e.upd.map (·.1)):=⟨_,rfl⟩;rw[<-hf0]at hB;have hN:f0.1=aF C oj s1.abs.T s1.abs.B:=by rw[hf0]
   simp only[bQ]at hB;split at hB
   case h_2=>exact hB.elim
   rename_i hpb;simp only[NZ]at hpb;obtain⟨⟨⟨hpb,hnn⟩,hpv⟩,hnl⟩:=hpb;obtain⟨p1,p2,p3,p4⟩:=G0 hpb;obtain⟨A,hA⟩:∃A,A=pw ops.toList l1.length (bQ 0 fs1++[(l1.length,f0)]++ext):=⟨_,rfl⟩;rw[<-hA]at hB hnn hnl hpv;have lostA:∀x∈bQ 0 fs1++[(l1.length,f0)]++ext,x.1≠l1.length->((fw ops.toList).getD l1.length 0).testBit x.1=false->∀y∈x.2.2,y∈A:=fun x hx hne hbit y hy=>by rw[hA];exact Pp.2 ⟨x,OO.2 ⟨hx,by rw[hbit];simpa using hne⟩,hy⟩
   obtain⟨m1,m2,m3⟩:=td 0 fs1;rw[P0,hlen1]at m1 m3
   have hsort:(bQ 0 fs1++ext).Pairwise (fun x y=>x.1<y.1):=
    PU.2 ⟨m2,hx2,fun x hx y hy=>by have:=(m1 x hx).2;have:=hx1 y hy;omega⟩
   have inL:∀x∈bQ 0 fs1++ext,x∈bQ 0 fs1++[(l1.length,f0)]++ext:=fun x hx=>by simp only[Ow,OH]at hx⊢;rcases hx with q|q<;>simp[q]
   have neJ:∀x∈bQ 0 fs1++ext,x.1≠l1.length:=fun x hx=>by
    rcases Ow.1 hx with q|q
    ·have:=(m1 x q).2;omega
    ·have:=hx1 x q;omega
   have hfoot:=nB hsort
   have hL:(bQ 0 fs1++[(l1.length,f0)]++ext).Pairwise (fun x y=>x.1<y.1):=by
    refine PU.2 ⟨PU.2 ⟨m2,List.pairwise_singleton ..,fun x hx y hy=>?_⟩,hx2,fun x hx y hy=>?_⟩
    ·rw[OH.1 hy];exact(m1 x hx).2
    ·have:=hx1 y hy;rcases Ow.1 hx with q|q
     ·have:=(m1 x q).2;omega
     ·rw[OH.1 q];show l1.length<y.1;omega
   have hfj:jH (bQ 0 fs1++[(l1.length,f0)]++ext) l1.length=f0:=nB hL (l1.length,f0) (by simp)
   have jr:∀x∈bQ 0 fs1++ext,x.1∈(bZ ops.toList).getD l1.length []∨((∀y∈x.2.2,y∈A/\y∉f0.1)/\∀o,ops.toList[x.1]?=some o->∀d,o.dst=some d->d∉dP ops.toList oj):=by
    intro x hx
    cases hbit:((fw ops.toList).getD l1.length 0).testBit x.1 with
    |true=>exact .inl ((jy ops.toList).2 _ _ hbit)
    |false=>
    obtain⟨q2,q3⟩:=p1 x.1 x.2 (inL x hx) (neJ x hx);have hlost:=lostA x (inL x hx) (neJ x hx) hbit;rcases Ow.1 hx with q|q
    ·rcases q2 l1.length f0 (by simp) (m1 x q).2 with q2|q2
     ·exact .inl q2
     ·obtain⟨o,ho⟩:∃o,ops.toList[x.1]?=some o:=by
       have h2:l1.length<ops.toList.length:=by rw[hl];simp
       exact⟨_,NY (R4 (m1 x q).2 h2)⟩
      have r2:=(q2 o oj ho hj).2;simp only[dQ,NZ]at r2;refine .inr ⟨fun y hy=>⟨hlost y hy,fun hm=>dx r2.1 y hy (by simp[hm])⟩,fun o ho d hd hm=>?_⟩;have:=(q2 o oj ho hj).1;simp only[gi,hd,NZ,Oa,OZ,OF]at this;exact this.1.1 hm
    ·rcases p2 x.1 x.2 (inL x hx) (by have:=hx1 x q;omega)with r|r
     ·rw[q3]at r;cases r
     ·rw[hfj]at r;obtain⟨o,ho⟩:=jZ.at hF2 x q;have r2:=(r oj o hj ho).2;simp only[dQ,NZ]at r2;refine .inr ⟨fun y hy=>⟨hlost y hy,fun hm=>dx r2.2 y hy hm⟩,fun o ho d hd hm=>?_⟩;have:=(r oj o hj ho).1;simp only[gi,hd,NZ,Oa,OZ,OF]at this;exact this.2 hm
   have hR:=(jZ.app hF1 hF2).toI (fs:=jH (bQ 0 fs1++ext)) hfoot;have hR2:=hF2.toI (fs:=jH (bQ 0 fs1++ext)) (fun x hx=>hfoot x (by simp[hx]));have ofR:∀i∈(bQ 0 fs1++ext).map (·.1),∃f,(i,f)∈bQ 0 fs1++ext/\jH (bQ 0 fs1++ext) i=f:=fun i hi=>by obtain⟨x,hx,rfl⟩:=OC.1 hi;exact⟨x.2,hx,hfoot x hx⟩
   obtain⟨eB,g1,e1,n1,k1⟩:=kG.fwd (A:=A) _ _ _ hR2 hN.symm (fun i hi=>by
    obtain⟨x,hx,rfl⟩:=OC.1 hi;rw[hfoot x (by simp[hx])];rcases jr x (by simp[hx])with q|q
    ·exact absurd q (by
      intro q;have hlt:x.1<l1.length:=CR p3 hj q;have:=hx1 x hx;omega)
    ·exact q) hg heff hpan
   have hsz:∀x∈bQ 0 fs1++ext,x.1<ops.size:=fun x hx=>by
    rcases Ow.1 hx with q|q
    ·have:=(m1 x q).2;have h2:l1.length<ops.toList.length:=by rw[hl];simp
     simpa using R4 this h2
    ·exact jZ.lt hF2 x q
   refine FZ (Q:=Q) (A:=A) hT hS hdst (D:=fun i=>i=l1.length∨((fw ops.toList).getD i 0).testBit l1.length=true) hj g1 e1 hask n1 p3 (.inl rfl)
    (fun i hi hne=>by rcases hi with q|q;exact absurd q hne;exact(jy ops.toList).2 _ _ q) (fun a' Ω' v B hBB h' hv=>?_) _ _ ops.size
    (Array.replicate ops.size false) s.abs a ⟨Ω.e,Ω.w.drew,Ω.pub⟩ rfl ?_ (by simp) (fun i hi=>?_) ?_ (fun i hi=>?_) (fun i hi k hk hlt=>?_) (fun i hi=>?_) (fun i o ho hlst=>?_) hR h.drew
   ·have kb:∀i,(yY A (cr s1.b u)).abs.B i=if i∈A then none else bB s1.abs.B u i:=fun i=>by
     have e1:(yY A (cr s1.b u)).abs.B i=aj ((cr s1.b u).filter fun x=>!A.contains x.1) i:=rfl;have e2:aj (cr s1.b u) i=bB s1.abs.B u i:=by have:=PT (fun f=>f i) (j9 u s1.b);exact this
     rw[e1,eY (cr s1.b u) (fun k=>!A.contains k) i,e2];by_cases hi:i∈A<;>simp[hi]
    have h2:=h'.forget0 (s':=yY A (cr s1.b u)) (A:=A) (fun i=>.inl rfl) (fun i hi=>by rw[kb,O3 hi])
     (fun i hi=>by rw[kb,O0 hi];exact kF u _ _ i ((hBB i hi).trans (eB i hi)).symm) hnn (fun i hi=>by have:=O9.1 hnl i hi;simpa using this)
    exact hP pv _ a' ⟨fun i=>if i∈A then none else Ω'.e i,Ω'.w,Ω'.pub⟩ v hB h2 (hv.agree fun i hi=>O0 (dx hpv i hi))
   ·
    have hnd:((bQ 0 fs1++ext).map (·.1)).Pairwise (·<·):=Q5.2 hsort
    have hjs:l1.length<ops.size:=by
     have h2:l1.length<ops.toList.length:=by rw[hl];simp
     simpa using h2
    exact xP hnd (fun i hi=>by obtain⟨x,hx,rfl⟩:=OC.1 hi;exact⟨hsz x hx,neJ x hx⟩) hjs
   ·constructor
    ·intro _;rcases p4 i (by simpa using hi)with q|⟨f,q⟩|q
     ·exact .inr (.inl q)
     ·simp only[Ow,OH,Qu]at q;rcases q with(q|⟨q,_⟩)|q
      ·exact .inl (OC.2 ⟨_,Ow.2 (.inl q),rfl⟩)
      ·exact .inr (.inl q)
      ·exact .inl (OC.2 ⟨_,Ow.2 (.inr q),rfl⟩)
     ·exact .inr (.inr q)
    ·intro _;simp[Oo,hi]
   ·exact Q5.2 hsort
   ·obtain⟨f,hf,_⟩:=ofR i hi;refine⟨hsz _ hf,fun hd=>?_⟩;rcases hd with q|q
    ·exact neJ _ hf q
    ·have:=(p1 i f (inL _ hf) (neJ _ hf)).2;rw[this]at q;cases q
   ·obtain⟨f,hf,ef⟩:=ofR i hi;obtain⟨g,hg',eg⟩:=ofR k hk;rcases(p1 i f (inL _ hf) (neJ _ hf)).1 k g (inL _ hg') hlt with q|q
    ·exact .inl q
    ·exact .inr fun x y hx hy=>by rw[ef,eg];exact(fun z=>⟨z.1,by rw[z.2];rfl⟩:gi ops.toList x y=true/\dQ f g=true->_) (q x y hx hy)
   ·obtain⟨f,hf,ef⟩:=ofR i hi;rw[ef,k1];exact jr _ hf
   ·have hi:i<ops.size:=by
     rw[Oh]at ho;rcases O5 i ops.size with k|k
     ·exact k
     ·rw[OM k]at ho;cases ho
    simp[Oo,hi]at hlst
theorem oM(hm:P.follows .mixedOrders=true)(hT:aR P C.tbl)(hS:bJ P C.spec){id:Nat}{draw:Bool}
 (hdst:∀(o:Oper),o∈ops.toList->∀d,o.dst=some d->d<F.n){kp:AV->St->Prop}{k:St->List bN->Prop}{s:St}{a:Act}{Ω:Om}
 (hrun:bR C ops.toList draw kp ops.toList 0 s [] k)(hind:draw=true->∀s fs,k s fs->dB ops.toList fs=true)(h:Holds F s.abs a Ω)
 (hQ:∀s fs a' Ω',k s fs->Holds F s.abs a' Ω'->Q .normal a' Ω'.w)(hP:∀pv s a' Ω' v,kp pv s->Holds F s.abs a' Ω'->V Ω' pv v->Q (.panic [{v,recovered:=false}]) a' Ω'.w) :
  (Code.region id ops draw).wp P Q a Ω.w:=by
 cases draw with|false=>refine QY ?_;have:=mz (Q:=Q) hT hS hdst hQ hP ops.toList 0 s [] a Ω rfl hrun h;rw[List.range_eq_range'];simpa using this|true=>exact wp_region_any hm (tg hT hS hdst hrun (hind rfl) h hQ hP)
end
end Go.AL
end
